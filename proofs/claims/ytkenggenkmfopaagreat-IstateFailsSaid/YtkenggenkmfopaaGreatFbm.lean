/- Texts of this proof, joined. -/
import Derived.Test.YtkenggenkmfopaaGreatFbl
import Derived.Test.YtkenggenkmfopaaGreatFbi
import Derived.Test.YtkenggenkmfopaaGreatFbc
import Derived.Test.YtkenggenkmfopaaGreatFbk
set_option linter.unusedVariables false
set_option linter.unusedSimpArgs false

/- matching: the program's walk -/
namespace Go.Proofs.YtkenggenkmfopaaGreat
open Go Go.RowKit Go.V

/-! patterns that are let be types -/

section
variable {L:List Ent} {Q:List Ent->VO->Prop} {s:List Pr}
theorem qxj{f:FuncId}{args:List AV}{q:List Pr×Int}(h:VCalls Tryz.prog f [] args (newQ [] q))(ha:AV.bds 0 args=true)(hq:if q.2=0 then Q (L++[subE q.1]) (.val (.tup [.ptr L.length 0,.int .i64 0])) else Q L (.val (.tup [.nilp,.int .i64 q.2]))):VApp Tryz.prog L (.fn f [] []) args Q:=by
 refine qcj ?_
 rw[List.nil_append,List.append_nil]
 refine qbs [] h (by simp) trivial ha (qp (m:=0) (fun i hi=>by omega) _ ha).symm fun H1 o ho=>?_
 rw[newQ] at ho
 split at ho
 ·rename_i he
  rw[if_pos he] at hq
  obtain⟨rfl,rfl⟩:=ho
  show Q _ (.val (.tup [.ptr (L.length+(0-0)) 0,.int .i64 0]))
  exact hq
 ·rename_i he
  rw[if_neg he] at hq
  obtain⟨rfl,rfl⟩:=ho
  have e1:qe7 L [] []=L:=by
   show L++[]=_
   rw[List.append_nil]
  rw[e1]
  exact hq
theorem qwm{f:FuncId}{args:List AV}{q:List Pr×Int}(h:VCalls Tryz.prog f [] args (newQ [] q))(ha:AV.bds 0 args=true)(he:q=(s,0))(hq:Q (L++[subE s]) (.val (.tup [.ptr L.length 0,.int .i64 0]))):VApp Tryz.prog L (.fn f [] []) args Q :=
 qxj h ha (by subst he;rw[if_pos rfl];exact hq)
theorem q7s{f:FuncId}{args:List AV}{q:List Pr×Int}{e:Int}(h:VCalls Tryz.prog f [] args (newQ [] q))(ha:AV.bds 0 args=true)(he:q=(s,e))(hne:e≠0)(hq:Q L (.val (.tup [.nilp,.int .i64 e]))):VApp Tryz.prog L (.fn f [] []) args Q :=
 qxj h ha (by subst he;rw[if_neg hne];exact hq)
end
set_option maxRecDepth 4000

mutual
theorem qna:∀t,(varY t).length≤szY t
 | .mk c v l => by
   have:=qxp l
   rw[qgq,q7j,List.length_append]
   split<;>simp<;>omega
theorem qxp:∀l,(qc5 l).length≤szYs l
 | []=>by rw[qc5,szYs];exact Nat.le_refl _
 | x :: r => by
   have:=qna x
   have:=qxp r
   rw[qc5,szYs,List.length_append];omega
end
theorem qml{a b:Ty}(ha:qi a=true)(hb:qi b=true):Inv (varY a++varY b) [] [(a,b)]:=by
 refine⟨qfi,fun p hp=>by simp at hp,fun p hp=>by simp at hp,fun p hp=>by simp at hp,fun x hx=>?_,fun x hx w hw=>?_⟩
 ·simp at hx;subst hx;exact⟨ha,hb⟩
 ·simp at hx;subst hx;simpa using hw
theorem qwv{a b:Ty}(ha:qi a=true)(hb:qi b=true):(varY a++varY b).length≤10000:=by
 have h1:=((qu _).1 ha).1
 have h2:=((qu _).1 hb).1
 have h3:=qna a
 have h4:=qna b
 rw[List.length_append];omega
def UniQ(a b:Ty)(q:List Pr×Int):Prop:=if qi a=true∧qi b=true then ∃n,slvU n [] [(a,b)]=some q else q=([],1)
theorem qcf9(a b:Ty):∃q,UniQ a b q:=by
 by_cases h:qi a=true∧qi b=true
 ·obtain⟨n,q,hq⟩:=q70 _ _ [] [(a,b)] (qml h.1 h.2) (Nat.le_refl _) (Nat.le_refl _)
  exact⟨q,by rw[UniQ,if_pos h];exact⟨n,hq⟩⟩
 ·exact⟨([],1),by rw[UniQ,if_neg h]⟩
theorem qblm{a b:Ty}{q:List Pr×Int}(h:UniQ a b q):okS q.1∧q.1.length≤10000∧(q.2≠0->q.1=[]):=by
 rw[UniQ] at h
 split at h
 ·rename_i hl
  obtain⟨n,hq⟩:=h
  by_cases he:q.2=0
  ·obtain⟨h1,_⟩:=qhj n [] _ q (qml hl.1 hl.2) hq he
   exact⟨h1.ok,Nat.le_trans h1.len (qwv hl.1 hl.2),fun h=>absurd he h⟩
  ·have h0:q.1=[]:=by
    obtain⟨m,r,_,h1,h2,_⟩:=qkm n [] [(a,b)] [] q (by simpa using hq)
    by_cases hr:r.2=0
    ·exfalso
     rename_i h3
     obtain⟨k,_,h4⟩:=h3 hr
     rw[qgh] at h4
     simp only[Option.some.injEq] at h4
     subst h4
     exact he rfl
    ·obtain⟨h3,h4⟩:=h2 hr
     rw[h3,h4]
   exact⟨by rw[h0];exact qfi,by rw[h0];simp,fun _=>h0⟩
 ·subst h
  exact⟨qfi,by simp,fun _=>rfl⟩
theorem q7h(a b:Ty):[encY a,encY b]=qf [a,b]:=by rw[qf,qf,qf]
theorem qvx{a b:Ty}(h1:szY a≤20000)(h2:dpY a≤300)(h3:szY b≤20000)(h4:dpY b≤300){q:List Pr×Int}(h:UniQ a b q):VCalls Tryz.prog 70 [] [encY a,encY b] (newQ [] q):=by
 have hL:=qwn (l:=[a,b]) (fun x hx=>by simp at hx;rcases hx with rfl | rfl<;>exact⟨by assumption,by assumption⟩)
 rw[←q7h] at hL
 by_cases hl:qi a=true∧qi b=true
 ·rw[UniQ,if_pos hl] at h
  obtain⟨n,hq⟩:=h
  rw[show [a,b].all qi=true by simp[hl]] at hL
  have hS:=qws (qwv hl.1 hl.2) (l:=[(a,b)]) (by simp) (qml hl.1 hl.2) hq
  have hS:VCalls Tryz.prog 111 [] [.sl 6 [encW (a,b)]] (newQ [] q):=hS
  have hbw:AV.bds 0 [.sl 6 [encW (a,b)]]=true:=by simp only[AV.bds,AV.bd,qhf,Bool.and_true]
  obtain⟨r,e⟩:=q
  by_cases he:e=0
  ·subst he
   refine qe c0ed 1 (by simp) (by simp) ?_
   repeat'(first|refine vs_ ?_|((first|refine vr_ ?_|refine qa hL fun _=>?_|(refine cs_ ?_ ?_<;>intro hc)|refine cj_ ?_)<;>try refine ev_ ?_)|with_reducible exact ti_)
   refine qwm hS hbw rfl ?_
   (refine ev_ ?_;(try with_reducible exact ti_))
   refine qs2 (af':=⟨[(4,.ptr 0 0),(5,.int .i64 0)],[]⟩) (H':=[subE r]) ?_ (qrx [2] rfl (by simp) ?_ ?_ ?_)
   ·repeat'(first|refine vs_ ?_|((first|refine vr_ ?_|(refine cs_ ?_ ?_<;>intro hc)|refine cj_ ?_)<;>try refine ev_ ?_)|with_reducible exact ti_)
    rw[newQ,if_pos rfl];exact⟨rfl,rfl⟩
   all_goals(try(refine ev_ ?_;(try with_reducible exact ti_)))
  ·refine qe c0ed 0 (by simp) (by simp) ?_
   repeat'(first|refine vs_ ?_|((first|refine vr_ ?_|refine qa hL fun _=>?_|refine q7s hS hbw rfl he ?_|(refine cs_ ?_ ?_<;>intro hc)|refine cj_ ?_)<;>try refine ev_ ?_)|with_reducible exact ti_)
   rw[newQ,if_neg he];exact⟨rfl,rfl⟩
 ·rw[UniQ,if_neg hl] at h
  subst h
  rw[show [a,b].all qi=false by
   cases ha:qi a<;>cases hb:qi b<;>simp_all] at hL
  refine qe c0ed 0 (by simp) (by simp) ?_
  repeat'(first|refine vs_ ?_|((first|refine vr_ ?_|refine qa hL fun _=>?_|(refine cs_ ?_ ?_<;>intro hc)|refine cj_ ?_)<;>try refine ev_ ?_)|with_reducible exact ti_)
  rw[newQ,if_neg (by decide)];exact⟨rfl,rfl⟩
end Go.Proofs.YtkenggenkmfopaaGreat

/- made one: rows, behind a substitution, qf4 -/
set_option maxRecDepth 4000
namespace Go.V
open Go Go.RowKit
end Go.V
namespace Go.Proofs.YtkenggenkmfopaaGreat
open Go Go.RowKit Go.V

/-! renamed -/
end Go.Proofs.YtkenggenkmfopaaGreat

/- the state: two types made one -/
set_option maxRecDepth 4000
namespace Go.Proofs.YtkenggenkmfopaaGreat
open Go Go.RowKit Go.V

def WitQ(s:List Pr)(a b:Ty)(q:List Pr×Int):Prop :=
 if(appR s a).2=0 then(if(appR s b).2=0 then ∃u,UniQ (appR s a).1 (appR s b).1 u∧(if u.2=0 then q=((behR s u.1).1,(behR s u.1).2) else q=([],u.2)) else q=([],(appR s b).2)) else q=([],(appR s a).2)
theorem qchj(s:List Pr)(a b:Ty):∃q,WitQ s a b q:=by
 unfold WitQ
 by_cases h1:(appR s a).2=0
 ·by_cases h2:(appR s b).2=0
  ·obtain⟨u,hu⟩:=qcf9 (appR s a).1 (appR s b).1
   by_cases h3:u.2=0
   ·exact⟨_,by rw[if_pos h1,if_pos h2];exact⟨u,hu,by rw[if_pos h3]⟩⟩
   ·exact⟨_,by rw[if_pos h1,if_pos h2];exact⟨u,hu,by rw[if_neg h3]⟩⟩
  ·exact⟨_,by rw[if_pos h1,if_neg h2]⟩
 ·exact⟨_,by rw[if_neg h1]⟩
theorem qcnk{L H':List Ent}{r:List Pr}{o:VO}(h:H'=L++[subE r]∧o=.val (.tup [.ptr L.length 0,.int .i64 0])):newQ L (r,0) H' o:=by unfold newQ;rw[if_pos rfl];exact h
theorem qxe{L H':List Ent}{r:List Pr}{e:Int}{o:VO}(he:e≠0)(h:H'=L∧o=.val (.tup [.nilp,.int .i64 e])):newQ L (r,e) H' o:=by unfold newQ;rw[if_neg he];exact h
theorem qvb{s:List Pr}{a b:Ty}{q:List Pr×Int}(hs:okS s)(hl:s.length≤40000)(a1:szY a≤20000)(a2:dpY a≤300)(b1:szY b≤20000)(b2:dpY b≤300)(hq:WitQ s a b q):
 VCalls Tryz.prog 40 [subE s] [.ptr 0 0,encY a,encY b] (newQ [subE s] q):=by
 have f1:=qj2 hs (by omega) a1 a2
 have f2:=qj2 hs (by omega) b1 b2
 unfold typA at f1 f2
 have lA:∀t:Ty,(appR s t).2=0->szY (appR s t).1≤20000∧dpY (appR s t).1≤300:=fun t ht=>by
  have:=qb0 hs (t:=t) (by rw[ht])
  have h3:(appR s t).1=putY s t:=this.2.2
  have z:=(qu _).1 this.2.1
  rw[h3]
  omega
 unfold WitQ at hq
 obtain⟨A,hA⟩:∃A,appR s a=A:=⟨_,rfl⟩
 obtain⟨B,hB⟩:∃B,appR s b=B:=⟨_,rfl⟩
 have lA1:=lA a
 have lB1:=lA b
 rw[hA] at f1 hq lA1
 rw[hB] at f2 hq lB1
 obtain⟨A,ea⟩:=A
 obtain⟨B,eb⟩:=B
 dsimp only at f1 f2 hq lA1 lB1
 by_cases h1:ea=0
 ·rw[if_pos h1] at hq
  by_cases h2:eb=0
  ·rw[if_pos h2] at hq
   subst h1 h2
   obtain⟨u,hu,hq⟩:=hq
   obtain⟨o1,o2,o3⟩:=qblm hu
   have hU:=qvx (lA1 rfl).1 (lA1 rfl).2 (lB1 rfl).1 (lB1 rfl).2 hu
   have hbU:AV.bds 0 [encY A,encY B]=true:=by simp only[AV.bds,qx,Bool.and_true]
   by_cases h3:u.2=0
   ·rw[if_pos h3] at hq
    subst hq
    obtain⟨u,ue⟩:=u
    dsimp only at h3 o1 o2
    subst h3
    obtain⟨R,hR⟩:∃R,behR s u=R:=⟨_,rfl⟩
    dsimp only
    rw[hR]
    obtain⟨r,re⟩:=R
    by_cases h4:re=0
    ·subst h4
     refine qe c0d 2 (by simp) (by simp) ?_
     repeat'(first|refine vs_ ?_|((first|refine vr_ ?_|refine qv 0 f1 (bY _) (bYi _ _) ?_|refine qv 0 f2 (bY _) (bYi _ _) ?_|refine qwm hU hbU rfl ?_|(refine cs_ ?_ ?_<;>intro hc)|refine cj_ ?_)<;>try refine ev_ ?_)|with_reducible exact ti_)
     refine q7z 0 5 hs o1 hl (by omega) (by decide) hR ?_
     (refine ev_ ?_;(try with_reducible exact ti_))
     refine qs2 (af':=⟨[(6,.ptr 1 0),(7,.int .i64 0)],[]⟩) (H':=[subE s,subE r]) ?_ (qrx [0,6] rfl (by simp) ?_ ?_ ?_)
     ·repeat'(first|refine vs_ ?_|((first|refine vr_ ?_|(refine cs_ ?_ ?_<;>intro hc)|refine cj_ ?_)<;>try refine ev_ ?_)|with_reducible exact ti_)
      exact qcnk ⟨rfl,rfl⟩
     all_goals(try(refine ev_ ?_;(try with_reducible exact ti_)))
    ·refine qe c0d 1 (by simp) (by simp) ?_
     repeat'(first|refine vs_ ?_|((first|refine vr_ ?_|refine qv 0 f1 (bY _) (bYi _ _) ?_|refine qv 0 f2 (bY _) (bYi _ _) ?_|refine qwm hU hbU rfl ?_|(refine cs_ ?_ ?_<;>intro hc)|refine cj_ ?_)<;>try refine ev_ ?_)|with_reducible exact ti_)
     refine q48 0 5 hs o1 hl (by omega) (by decide) hR h4 ?_
     (refine ev_ ?_;(try with_reducible exact ti_))
     refine qbkz ?_
     (refine ev_ ?_;(try with_reducible exact ti_))
     exact qxe h4 ⟨rfl,rfl⟩
   ·rw[if_neg h3] at hq
    subst hq
    refine qe c0d 1 (by simp) (by simp) ?_
    repeat'(first|refine vs_ ?_|(refine vr_ ?_<;>try simp only[h3,go_sem,↓reduceIte])|((first|(refine cs_ ?_ ?_<;>intro hc)|refine cj_ ?_|fail|refine qv 0 f1 (bY _) (bYi _ _) ?_|refine qv 0 f2 (bY _) (bYi _ _) ?_|refine q7s hU hbU rfl h3 ?_)<;>try refine ev_ ?_)|with_reducible exact ti_)
    all_goals exact qxe h3 ⟨rfl,rfl⟩
  ·rw[if_neg h2] at hq
   subst hq
   refine qe c0d 1 (by simp) (by simp) ?_
   repeat'(first|refine vs_ ?_|(refine vr_ ?_<;>try simp only[h1,h2,go_sem,↓reduceIte])|((first|(refine cs_ ?_ ?_<;>intro hc)|refine cj_ ?_|fail|refine qv 0 f1 (bY _) (bYi _ _) ?_|refine qv 0 f2 (bY _) (bYi _ _) ?_)<;>try refine ev_ ?_)|with_reducible exact ti_)
   all_goals exact qxe h2 ⟨rfl,rfl⟩
 ·rw[if_neg h1] at hq
  subst hq
  refine qe c0d 1 (by simp) (by simp) ?_
  repeat'(first|refine vs_ ?_|(refine vr_ ?_<;>try simp only[h1,go_sem,↓reduceIte])|((first|(refine cs_ ?_ ?_<;>intro hc)|refine cj_ ?_|fail|refine qv 0 f1 (bY _) (bYi _ _) ?_)<;>try refine ev_ ?_)|with_reducible exact ti_)
  all_goals exact qxe h1 ⟨rfl,rfl⟩
set_option maxRecDepth 4000

section
variable {H:List Ent} {raws:List AV} {K:Md->AV->List Ent->Prop} {Q:List Ent->VO->Prop} {s r:List Pr} {a b:Ty}
theorem qr3(i:Nat){q:List Pr×Int}(hW:VCalls Tryz.prog 40 [subE s] [.ptr 0 0,encY a,encY b] (newQ [subE s] q))(h0:ent H i=subE s)(hl:i<H.length)
 (hq:if q.2=0 then Q (H++[subE q.1]) (.val (.tup [.ptr H.length 0,.int .i64 0])) else Q H (.val (.tup [.nilp,.int .i64 q.2]))):VApp Tryz.prog H (.fn 40 [] []) [.ptr i 0,encY a,encY b] Q:=by
 refine qcj ?_
 rw[List.nil_append,List.append_nil]
 refine qbs [i] hW (by simp) ⟨⟨hl,rfl,by rw[h0];rfl⟩,trivial⟩ (by simp only[AV.bds,AV.bd,qx,Bool.and_true];rfl) (by simp only[AV.rens,AV.ren,qhq];rfl) fun H1 o ho=>?_
 have e0:H.set i (subE s)=H:=qcg h0 hl
 rw[newQ] at ho
 split at ho
 ·rename_i he
  rw[if_pos he] at hq
  obtain⟨rfl,rfl⟩:=ho
  have e1:qe7 H [i] ([subE s]++[subE q.1])=H++[subE q.1]:=by
   show(H.set i (subE s))++[subE q.1]=_
   rw[e0]
  rw[e1]
  show Q _ (.val (.tup [.ptr (H.length+(1-1)) 0,.int .i64 0]))
  exact hq
 ·rename_i he
  rw[if_neg he] at hq
  obtain⟨rfl,rfl⟩:=ho
  have e1:qe7 H [i] [subE s]=H:=by
   show(H.set i (subE s))++[]=_
   rw[e0,List.append_nil]
  rw[e1]
  exact hq
theorem q4c(i:Nat)(hW:VCalls Tryz.prog 40 [subE s] [.ptr 0 0,encY a,encY b] (newQ [subE s] (r,0)))(hq:K (.layR i (subE s) (subE r) (.int .i64 0)) (.tup [.ptr H.length 0,.int .i64 0]) (H++[subE r]))(h0:ent H i=subE s:=by rfl):
 DApp Tryz.prog H (.fn 40 [] []) [.ptr i 0,encY a,encY b] raws K :=
 .inr (.inr (.inr (.inr (.inr ⟨i,_,_,_,⟨h0,fun H₀ h=>qr3 i hW h (by
  rcases Nat.lt_or_ge i H₀.length with h1 | h1
  ·exact h1
  ·exact absurd (h.symm.trans (qjy h1)) (by intro h;cases h)) (by rw[if_pos rfl];exact⟨rfl,rfl⟩)⟩,hq⟩))))
theorem q65(i:Nat){e:Int}(he:e≠0)(hW:VCalls Tryz.prog 40 [subE s] [.ptr 0 0,encY a,encY b] (newQ [subE s] (r,e)))(hq:K (.meth i (subE s) (subE s)) (.tup [.nilp,.int .i64 e]) H)(h0:ent H i=subE s:=by rfl)(hl:i<H.length:=by simp):
 DApp Tryz.prog H (.fn 40 [] []) [.ptr i 0,encY a,encY b] raws K :=
 .inr (.inr (.inl ⟨_,i,subE s,subE s,⟨(by intro h;cases h),h0,fun H₀ h=>by
  have h1:i<H₀.length:=by
   rcases Nat.lt_or_ge i H₀.length with h1 | h1
   ·exact h1
   ·exact absurd (h.symm.trans (qjy h1)) (by intro h;cases h)
  exact qr3 i hW h h1 (by rw[if_neg he];exact⟨(qcg h h1).symm,rfl⟩)⟩,by rw[qcg h0 hl];exact hq⟩))
end
def uniE(e:Int):Int:=if e=1 then 2 else e
def uniS(S:SS)(q:List Pr×Int)(pos:Int):Bool×SS :=
 if S.err=0 then(if q.2=0 then(true,{ S with known:=q.1 }) else(false,qmb S (uniE q.2) pos)) else(false,S)
set_option maxHeartbeats 1000000 in
theorem qll{S:SS}{a b:Ty}{q:List Pr×Int}(pos:Int)(hs:okS S.known)(hl:S.known.length≤40000)(a1:szY a≤20000)(a2:dpY a≤300)(b1:szY b≤20000)(b2:dpY b≤300)(hq:WitQ S.known a b q):
 VM Tryz.prog 12 (stE S) (stE (uniS S q pos).2) [.ptr 0 0,encY a,encY b,.int .i64 pos] (.bool (uniS S q pos).1):=by
 have hW:=qvb hs hl a1 a2 b1 b2 hq
 obtain⟨r,e⟩:=q
 unfold uniS
 dsimp only
 by_cases h1:S.err=0
 ·rw[if_pos h1]
  by_cases h2:e=0
  ·rw[if_pos h2]
   subst h2
   refine qc4 ?_ (by simp only[AV.bds,AV.bd,qx];rfl)
   refine qe c0c 7 (by simp) (by simp) ?_
   repeat'(first|refine vs_ ?_|(refine vr_ ?_<;>try simp only[h1,Int.reduceEq,Int.reduceNe,decide_true,decide_false,Bool.false_eq_true,go_sem,↓reduceIte])|((first|(refine cs_ ?_ ?_<;>intro hc)|refine cj_ ?_|fail|refine q4c 1 hW ?_)<;>try refine ev_ ?_)|with_reducible exact ti_)
   exact qt5 (S:={ S with known:=r,err:=0 }) 6 2 3 rfl rfl rfl rfl (by simp) (by simp) (by simp) (by simp) (by simp) rfl ⟨rfl,rfl⟩
  ·rw[if_neg h2]
   have hF:=qvd S (uniE e) pos
   have hue:uniE e=if e=1 then 2 else e:=rfl
   refine qe c0c 1 (by simp) (by simp) ?_
   unfold k0c
   generalize hz:IC.seq (IC.seq qblo _) _=z1
   repeat'(first|refine vs_ ?_|((first|refine vr_ ?_|(refine cs_ ?_ ?_<;>intro hc)|refine cj_ ?_)<;>try refine ev_ ?_)|with_reducible exact ti_)
   subst hz
   refine qn4 S rfl (by simp) ?_
   simp only[List.length_cons,List.length_nil,List.set_cons_zero,List.cons_append,List.nil_append,Nat.zero_add,Nat.reduceAdd]
   generalize hz:IC.seq (IC.seq qbkv _) _=z1
   repeat'(first|refine vs_ ?_|(refine vr_ ?_<;>try simp only[h1,go_sem,↓reduceIte])|((first|(refine cs_ ?_ ?_<;>intro hc)|refine cj_ ?_|fail|refine q65 3 h2 hW ?_)<;>try refine ev_ ?_)|with_reducible exact ti_)
   refine qni S 3 4 5 ?_ rfl rfl rfl rfl (by simp) (by simp) (by simp) (by simp) (by simp)
   subst hz
   by_cases h3:e=1
   ·have hu:uniE e=2:=by rw[hue,if_pos h3]
    rw[hu] at hF ⊢
    subst h3
    repeat'(first|refine vs_ ?_|(refine vr_ ?_<;>try simp only[Int.reduceEq,Int.reduceNe,decide_true,decide_false,Bool.false_eq_true,go_sem,↓reduceIte])|((first|(refine cs_ ?_ ?_<;>intro hc)|refine cj_ ?_|fail|refine qca 0 hF ?_)<;>try refine ev_ ?_)|with_reducible exact ti_)
   ·have hu:uniE e=e:=by rw[hue,if_neg h3]
    rw[hu] at hF ⊢
    repeat'(first|refine vs_ ?_|(refine vr_ ?_<;>try simp only[h3,h2,go_sem,↓reduceIte])|((first|(refine cs_ ?_ ?_<;>intro hc)|refine cj_ ?_|fail|refine qca 0 hF ?_)<;>try refine ev_ ?_)|with_reducible exact ti_)
 ·rw[if_neg h1]
  refine qc4 ?_ (by simp only[AV.bds,AV.bd,qx];rfl)
  refine qe c0c 4 (by simp) (by simp) ?_
  repeat'(first|refine vs_ ?_|(refine vr_ ?_<;>try simp only[h1,go_sem,↓reduceIte])|((first|(refine cs_ ?_ ?_<;>intro hc)|refine cj_ ?_)<;>try refine ev_ ?_)|with_reducible exact ti_)
  exact qbf (S:=S) (L:=[]) rfl rfl ⟨rfl,rfl⟩
set_option maxRecDepth 4000

abbrev filE(S:SS)(vs:List Int)(ts:List Ty)(lf:Int):List Ent:=[.blk [.ptr 1 0,.sl 1 (ints vs),.sl 3 (qf ts),.int .i64 lf],.blk (stcK S 2 3 4),subE S.known,mapE (qgm S.fills),mapE (qf2 S.free)]
abbrev filF:FuncId:=57
def qih(S:SS)(vs:List Int)(ts:List Ty)(lf:Int)(t:Tm)(lf':Int)(t':Tm):Prop :=
 VCalls Tryz.prog filF (filE S vs ts lf) [.ptr 0 0,encT t] fun H' o=>H'=filE S vs ts lf'∧o=.val (encT t')
theorem q8b(S:SS)(vs:List Int)(ts:List Ty)(lf:Int):(filE S vs ts lf).all (Ent.bd 5)=true:=by
 simp only[filE,List.all_cons,List.all_nil,Ent.bd,AV.bds,AV.bd,qdz,qbm,qcv];rfl
section
variable {H L:List Ent} {Q:List Ent->VO->Prop} {S:SS} {vs:List Int} {ts:List Ty} {lf lf':Int} {t t':Tm}
theorem q8i(L:List Ent)(h:qih S vs ts lf t lf' t')(hq:Q (filE S vs ts lf'++L) (.val (encT t')))(hH:H=filE S vs ts lf++L:=by rfl):VApp Tryz.prog H (.fn filF [] []) [.ptr 0 0,encT t] Q:=by
 subst hH
 refine qcj (first:=[]) (caps:=[]) ?_
 simp only[List.nil_append,List.append_nil]
 refine qpm h (q8b S vs ts lf) (by simp only[AV.bds,AV.bd,qb4,Bool.and_true];rfl) ?_
 rintro H1 o ⟨rfl,rfl⟩
 exact⟨rfl,q8b S vs ts lf',qb4 _ _,hq⟩
def qqq(l:List (Int×Tm))(k:Int):AV:=match qfq l k with
 | some p=>.tup [encT p.2,.bool true]
 | none=>.tup [.agg [.int .i64 0,.int .i64 0,.str [],.nils,.nils,.nils],.bool false]
theorem qv6(i:Nat){l:List (Int×Tm)}{k:Int}{raws:List AV}{K:Md->AV->List Ent->Prop}(hq:K (.meth i (mapE (qgm l)) (mapE (qgm l))) (qqq l k) H)(he:ent H i=mapE (qgm l):=by rfl)(hl:i<H.length:=by simp):DApp Tryz.prog H (mkV (.look 94 true)) [.opq i,.int .i64 k] raws K:=by
 refine .inr (.inr (.inl ⟨qqq l k,i,mapE (qgm l),mapE (qgm l),⟨(by intro h;cases h),he,fun H₀ h=>?_⟩,by rw[qcg he hl];exact hq⟩))
 have h1:i<H₀.length:=by
  rcases Nat.lt_or_ge i H₀.length with h1 | h1
  ·exact h1
  ·exact absurd (h.symm.trans (qjy h1)) (by intro h;cases h)
 refine q8u rfl rfl (z:=.agg [.int .i64 0,.int .i64 0,.str [],.nils,.nils,.nils]) rfl true h ⟨(qcg h h1).symm,?_⟩
 have hv:qgb (qgm l) k=(qfq l k).map fun p=>(p.1,encT p.2):=qgz encT l k
 rw[hv,qqq]
 cases qfq l k<;>rfl
end
abbrev filL(t u:Tm):List Ent:=[.blk (tmc t),.blk [.int .i64 0,.int .i64 0,.str [],.nils,.nils,.nils],.blk (tmc u)]
theorem qq7{S:SS}{vs:List Int}{ts:List Ty}{lf lf':Int}{t t' u:Tm}{j:Nat}(hk:t.kind=14)(hu:qfq S.fills t.num=some (j,u))(h:qih S vs ts lf u lf' t'):qih S vs ts lf t lf' t':=by
 unfold qih
 refine qe c0a 5 (by simp) (by simp) ?_
 have hkd:decide (t.kind=14)=true:=decide_eq_true hk
 have hlk:qqq S.fills t.num=.tup [encT u,.bool true]:=by unfold qqq;rw[hu]
 repeat'(first|refine vs_ ?_|(refine vr_ ?_<;>try simp only[hkd,hlk,go_sem,↓reduceIte])|((first|simp (disch:=omega) only[hlk]|(refine cs_ ?_ ?_<;>intro hc)|refine cj_ ?_|refine qv6 3 ?_|refine q8i (filL t u) h ?_)<;>try refine ev_ ?_)|with_reducible exact ti_)
theorem qbip{S:SS}{vs:List Int}{ts:List Ty}{lf:Int}{t:Tm}(hk:t.kind≠14)(ht:t.types=[])(hks:t.kids=[])(h1:1≤lf)(h2:lf≤4096):qih S vs ts lf t (lf-1) t:=by
 unfold qih
 refine qe c0a 5 (by simp) (by simp) ?_
 have hkd:decide (t.kind=14)=false:=decide_eq_false hk
 have hl1:t.types.length=0:=by rw[ht];rfl
 have hl2:t.kids.length=0:=by rw[hks];rfl
 have hwr:IntKind.i64.wrap (lf-1)=lf-1:=qo (by omega) (by omega)
 have hn:¬lf-1<0:=by omega
 repeat'(first|refine vs_ ?_|(refine vr_ ?_<;>try simp only[hkd,hwr,hn,go_sem,↓reduceIte])|((first|(refine cs_ ?_ ?_<;>intro hc)|refine cj_ ?_)<;>try refine ev_ ?_)|with_reducible exact ti_)
 refine qk (S:=Unit) (fun _=>True) (fun _=>(⟨[(0,.ptr 0 0),(3,.ptr 5 0),(4,.ptr 6 0),(7,.row 7 0),(53,.sl 3 (qf t.types)),(54,.int .i64 t.types.length),(55,.int .i64 0)],[]⟩,filE S vs ts (lf-1)++[.blk (tmc t),.blk [.int .i64 0,.int .i64 0,.str [],.nils,.nils,.nils],.mrow 3 []])) (fun _=>0) ?_ fun _ _=>?_
 ·refine qg () [0,1,2,3,4,5,6,7] trivial rfl (by simp) ?_ ?_ ?_<;>simp only[hl1,List.replicate_zero]<;>(try refine ev_ ?_)<;>(try with_reducible exact ti_)<;>(try simp (disch:=omega) only[qb,and_true,true_and])
 ·refine qb6 7 rfl (fun v hv=>by simp at hv) ?_
  have hl1i:¬(0:Int)<(t.types.length:Int):=by omega
  repeat'(first|refine vs_ ?_|(refine vr_ ?_<;>try simp only[hl1i,go_sem,↓reduceIte])|((first|(refine cs_ ?_ ?_<;>intro hc)|refine cj_ ?_)<;>try refine ev_ ?_)|with_reducible exact ti_)
  refine qk (S:=Unit) (fun _=>True) (fun _=>(⟨[(0,.ptr 0 0),(3,.ptr 5 0),(4,.ptr 6 0),(7,.row 7 0),(12,.row 8 0),(86,.sl 6 (qbl t.kids)),(87,.int .i64 t.kids.length),(88,.int .i64 0)],[]⟩,filE S vs ts (lf-1)++[.blk (tmc t),.blk [.int .i64 0,.int .i64 0,.str [],.nils,.nils,.nils],.app 3 [],.mrow 6 []])) (fun _=>0) ?_ fun _ _=>?_
  ·refine qg () [0,1,2,3,4,5,6,7,8] trivial rfl (by simp) ?_ ?_ ?_<;>simp only[hl2,List.replicate_zero]<;>(try refine ev_ ?_)<;>(try with_reducible exact ti_)<;>(try simp (disch:=omega) only[qb,and_true,true_and])
  ·refine qb6 8 rfl (fun v hv=>by simp at hv) ?_
   have hl2i:¬(0:Int)<(t.kids.length:Int):=by omega
   repeat'(first|refine vs_ ?_|(refine vr_ ?_<;>try simp only[hl2i,go_sem,↓reduceIte])|((first|(refine cs_ ?_ ?_<;>intro hc)|refine cj_ ?_)<;>try refine ev_ ?_)|with_reducible exact ti_)
   all_goals rw[←qcf t,ht,hks];rfl
abbrev tstE(S:SS)(X Y:Ent)(vs:List Int)(ts:List Ty)(lf:Int):List Ent:=[.blk (stcK S 4 5 6),X,Y,.blk [.ptr 0 0,.sl 1 (ints vs),.sl 3 (qf ts),.int .i64 lf],subE S.known,mapE (qgm S.fills),mapE (qf2 S.free)]
theorem qb69{X Y:Ent}{Q:List Ent->VO->Prop}{S:SS}{vs:List Int}{ts:List Ty}{lf lf':Int}{t t':Tm}(h:qih S vs ts lf t lf' t')(hq:Q (tstE S X Y vs ts lf') (.val (encT t'))):VApp Tryz.prog (tstE S X Y vs ts lf) (.fn filF [] []) [.ptr 3 0,encT t] Q:=by
 refine qcj ?_
 rw[List.nil_append,List.append_nil]
 refine qbs [3,0,4,5,6] h (by simp) ⟨⟨by simp,by simp only[Ent.bd,AV.bds,AV.bd,qdz,qbm];rfl,by simp only[Ent.ren,AV.rens,AV.ren,qhs,qc6];rfl⟩,⟨by simp,by simp only[Ent.bd,AV.bds,AV.bd,qcv];rfl,by simp only[Ent.ren,AV.rens,AV.ren,qda];rfl⟩,⟨by simp,by rfl,by rfl⟩,⟨by simp,by rfl,by rfl⟩,⟨by simp,by rfl,by rfl⟩,trivial⟩ (by simp only[AV.bds,AV.bd,qb4,Bool.and_true];rfl) (by simp only[AV.rens,AV.ren,qjj];rfl) fun H1 o ho=>?_
 obtain⟨rfl,rfl⟩:=ho
 have e1:qe7 (tstE S X Y vs ts lf) [3,0,4,5,6] (filE S vs ts lf')=tstE S X Y vs ts lf':=by
  show(((((tstE S X Y vs ts lf).set 3 _).set 0 _).set 4 _).set 5 _).set 6 _++[]=_
  simp only[List.append_nil,List.set_cons_succ,List.set_cons_zero,Ent.ren,AV.rens,AV.ren,qhs,qc6,qda]
  rfl
 rw[e1]
 simp only[VO.ren,qjj]
 exact hq
def terS(S:SS)(t:Tm)(p:Int×Tm):Tm:=if lglT t=true then(if p.1<0 then T0 else if lglT p.2=true then p.2 else T0) else T0
set_option maxHeartbeats 1000000 in
theorem q4d{S:SS}{t t':Tm}{lf':Int}(hl:S.known.length≤100000)(ho:smlR S.known)(hF:qih S (lsV S.known) (lsT S.known) 4096 t lf' t'):VM Tryz.prog 30 (stE S) (stE S) [.ptr 0 0,encT t] (encT (terS S t (lf',t'))):=by
 have h1:=qyh hl ho
 have hL:=qfc t
 have hL2:=qfc t'
 have hz:AV.agg [.int .i64 0,.int .i64 0,.str [],.sl 1 [],.sl 3 [],.sl 6 []]=encT T0:=qjb
 unfold terS
 dsimp only
 refine qe c0b 1 (by simp) (by simp) ?_
 cases hlg:lglT t with
 | false =>
   rw[hlg] at hL
   repeat'(first|refine vs_ ?_|(refine vr_ ?_<;>try simp only[hz,go_sem,↓reduceIte])|((first|(refine cs_ ?_ ?_<;>intro hc)|refine cj_ ?_|fail|refine qa hL fun _=>?_)<;>try refine ev_ ?_)|with_reducible exact ti_)
 | true =>
   rw[hlg] at hL
   unfold k0b
   generalize hz1:IC.seq qbk9 _=z1
   repeat'(first|refine vs_ ?_|(refine vr_ ?_<;>try simp only[hz,go_sem,↓reduceIte])|((first|(refine cs_ ?_ ?_<;>intro hc)|refine cj_ ?_|fail|refine qa hL fun _=>?_|refine qca 0 h1 ?_)<;>try refine ev_ ?_)|with_reducible exact ti_)
   subst hz1
   refine qn4 S rfl (by simp) ?_
   simp only[List.length_cons,List.length_nil,List.set_cons_zero,List.cons_append,List.nil_append,Nat.zero_add,Nat.reduceAdd]
   generalize hz2:IC.seq (IC.seq qblk _) _=z2
   repeat'(first|refine vs_ ?_|((first|refine vr_ ?_|refine qb69 hF ?_|(refine cs_ ?_ ?_<;>intro hc)|refine cj_ ?_)<;>try refine ev_ ?_)|with_reducible exact ti_)
   subst hz2
   refine qni S 4 5 6 ?_ rfl rfl rfl rfl (by simp) (by simp) (by simp) (by simp) (by simp)
   generalize lglT t'=b at *
   repeat'(first|refine vs_ ?_|(refine vr_ ?_<;>try simp only[hz,go_sem,↓reduceIte])|((first|(refine cs_ ?_ ?_<;>intro hc)|refine cj_ ?_|fail|refine qa hL2 fun _=>?_)<;>try refine ev_ ?_)|with_reducible exact ti_)
   all_goals simp[*]
set_option maxRecDepth 4000

set_option maxRecDepth 4000

structure Dd where
 kind:Int
 n:Int
 pos:Int
 cls:List UInt8
 a:Ty
 b:Ty
 t:Tm
abbrev ddc(d:Dd):List AV:=[.int .i64 d.kind,.int .i64 d.n,.int .i64 d.pos,.str d.cls,.str d.a.con,.int .i64 d.a.var,.sl 3 (qf d.a.args),.str d.b.con,.int .i64 d.b.var,.sl 3 (qf d.b.args),.int .i64 d.t.kind,.int .i64 d.t.num,.str d.t.name,.sl 1 (ints d.t.vars),.sl 3 (qf d.t.types),.sl 6 (qbl d.t.kids)]
def encD(d:Dd):AV:=.agg (ddc d)
theorem qp4(k:Nat)(d:Dd):(encD d).bd k=true:=by simp only[encD,AV.bd,AV.bds,qdz,qbm,qhn,Bool.and_true]
theorem qbhw(σ:Nat->Nat)(d:Dd):(encD d).ren σ=encD d:=ren_same (m:=0) (fun i hi=>by omega) _ (qp4 0 d)
end Go.Proofs.YtkenggenkmfopaaGreat
