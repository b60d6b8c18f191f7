/- Texts of this proof, joined. -/
import Derived.Test.YtkenggenkmfopaaGreatIbx
import Derived.Test.YtkenggenkmfopaaGreatIbd
import Derived.Test.YtkenggenkmfopaaGreatIbj
import Derived.Test.YtkenggenkmfopaaGreatIbw
import Derived.Test.YtkenggenkmfopaaGreatIbu
set_option linter.unusedVariables false
set_option linter.unusedSimpArgs false

/- matching: the program's walk -/
namespace Go.Proofs.YtkenggenkmfopaaGreat
open Go Go.RowKit Go.V

/-! patterns that are let be types -/

section
variable {L:List Ent} {Q:List Ent->VO->Prop} {s:List Pr}
theorem q0s{f:FuncId}{args:List AV}{q:List Pr×Int}(h:VCalls Tryz.prog f [] args (newQ [] q))(ha:AV.bds 0 args=true)(hq:if q.2=0 then Q (L++[subE q.1]) (.val (.tup [.ptr L.length 0,.int .i64 0])) else Q L (.val (.tup [.nilp,.int .i64 q.2]))):VApp Tryz.prog L (.fn f [] []) args Q:=by
 refine qb1 ?_
 rw[List.nil_append,List.append_nil]
 refine qbr [] h (by simp) trivial ha (qs (m:=0) (fun i hi=>by omega) _ ha).symm fun H1 o ho=>?_
 rw[newQ] at ho
 split at ho
 ·rename_i he
  rw[if_pos he] at hq
  obtain⟨rfl,rfl⟩:=ho
  show Q _ (.val (.tup [.ptr (L.length+(0-0)) 0,.int .i64 0]))
  exact hq
 ·rename_i he
  rw[if_neg he] at hq
  obtain⟨rfl,rfl⟩:=ho
  have e1:qds L [] []=L:=by
   show L++[]=_
   rw[List.append_nil]
  rw[e1]
  exact hq
theorem qw0{f:FuncId}{args:List AV}{q:List Pr×Int}(h:VCalls Tryz.prog f [] args (newQ [] q))(ha:AV.bds 0 args=true)(he:q=(s,0))(hq:Q (L++[subE s]) (.val (.tup [.ptr L.length 0,.int .i64 0]))):VApp Tryz.prog L (.fn f [] []) args Q :=
 q0s h ha (by subst he;rw[if_pos rfl];exact hq)
theorem q9i{f:FuncId}{args:List AV}{q:List Pr×Int}{e:Int}(h:VCalls Tryz.prog f [] args (newQ [] q))(ha:AV.bds 0 args=true)(he:q=(s,e))(hne:e≠0)(hq:Q L (.val (.tup [.nilp,.int .i64 e]))):VApp Tryz.prog L (.fn f [] []) args Q :=
 q0s h ha (by subst he;rw[if_neg hne];exact hq)
end
set_option maxRecDepth 4000

mutual
theorem qxy:∀t,(varY t).length≤szY t
 | .mk c v l => by
   have:=qz0 l
   rw[qhn,q68,List.length_append]
   split<;>simp<;>omega
theorem qz0:∀l,(qdt l).length≤szYs l
 | []=>by rw[qdt,szYs];exact Nat.le_refl _
 | x :: r => by
   have:=qxy x
   have:=qz0 r
   rw[qdt,szYs,List.length_append];omega
end
theorem qbce{a b:Ty}(ha:qq a=true)(hb:qq b=true):Inv (varY a++varY b) [] [(a,b)]:=by
 refine⟨qfm,fun p hp=>by simp at hp,fun p hp=>by simp at hp,fun p hp=>by simp at hp,fun x hx=>?_,fun x hx w hw=>?_⟩
 ·simp at hx;subst hx;exact⟨ha,hb⟩
 ·simp at hx;subst hx;simpa using hw
theorem qbbf{a b:Ty}(ha:qq a=true)(hb:qq b=true):(varY a++varY b).length≤10000:=by
 have h1:=((qbc _).1 ha).1
 have h2:=((qbc _).1 hb).1
 have h3:=qxy a
 have h4:=qxy b
 rw[List.length_append];omega
def UniQ(a b:Ty)(q:List Pr×Int):Prop:=if qq a=true∧qq b=true then ∃n,slvU n [] [(a,b)]=some q else q=([],1)
theorem qcdl{a b:Ty}{q:List Pr×Int}(h:UniQ a b q):okS q.1∧q.1.length≤10000∧(q.2≠0->q.1=[]):=by
 rw[UniQ] at h
 split at h
 ·rename_i hl
  obtain⟨n,hq⟩:=h
  by_cases he:q.2=0
  ·obtain⟨h1,_⟩:=qqh n [] _ q (qbce hl.1 hl.2) hq he
   exact⟨h1.ok,Nat.le_trans h1.len (qbbf hl.1 hl.2),fun h=>absurd he h⟩
  ·have h0:q.1=[]:=by
    obtain⟨m,r,_,h1,h2,_⟩:=qps n [] [(a,b)] [] q (by simpa using hq)
    by_cases hr:r.2=0
    ·exfalso
     rename_i h3
     obtain⟨k,_,h4⟩:=h3 hr
     rw[qmf] at h4
     simp only[Option.some.injEq] at h4
     subst h4
     exact he rfl
    ·obtain⟨h3,h4⟩:=h2 hr
     rw[h3,h4]
   exact⟨by rw[h0];exact qfm,by rw[h0];simp,fun _=>h0⟩
 ·subst h
  exact⟨qfm,by simp,fun _=>rfl⟩
theorem qbbd(a b:Ty):[encY a,encY b]=qh [a,b]:=by rw[qh,qh,qh]
theorem qx6{a b:Ty}(h1:szY a≤20000)(h2:dpY a≤300)(h3:szY b≤20000)(h4:dpY b≤300){q:List Pr×Int}(h:UniQ a b q):VCalls Tryz.prog 70 [] [encY a,encY b] (newQ [] q):=by
 have hL:=qwm (l:=[a,b]) (fun x hx=>by simp at hx;rcases hx with rfl | rfl<;>exact⟨by assumption,by assumption⟩)
 rw[←qbbd] at hL
 by_cases hl:qq a=true∧qq b=true
 ·rw[UniQ,if_pos hl] at h
  obtain⟨n,hq⟩:=h
  rw[show [a,b].all qq=true by simp[hl]] at hL
  have hS:=qyq (qbbf hl.1 hl.2) (l:=[(a,b)]) (by simp) (qbce hl.1 hl.2) hq
  have hS:VCalls Tryz.prog 111 [] [.sl 6 [encW (a,b)]] (newQ [] q):=hS
  have hbw:AV.bds 0 [.sl 6 [encW (a,b)]]=true:=by simp only[AV.bds,AV.bd,qg6,Bool.and_true]
  obtain⟨r,e⟩:=q
  by_cases he:e=0
  ·subst he
   refine qd c0fd 1 (by simp) (by simp) ?_
   repeat'(first|refine vs_ ?_|((first|refine vr_ ?_|refine qb hL fun _=>?_|(refine cs_ ?_ ?_<;>intro hc)|refine cj_ ?_)<;>try refine ev_ ?_)|with_reducible exact ti_)
   refine qw0 hS hbw rfl ?_
   (refine ev_ ?_;(try with_reducible exact ti_))
   refine qrk (af':=⟨[(4,.ptr 0 0),(5,.int .i64 0)],[]⟩) (H':=[subE r]) ?_ (qsu [2] rfl (by simp) ?_ ?_ ?_)
   ·repeat'(first|refine vs_ ?_|((first|refine vr_ ?_|(refine cs_ ?_ ?_<;>intro hc)|refine cj_ ?_)<;>try refine ev_ ?_)|with_reducible exact ti_)
    rw[newQ,if_pos rfl];exact⟨rfl,rfl⟩
   all_goals(try(refine ev_ ?_;(try with_reducible exact ti_)))
  ·refine qd c0fd 0 (by simp) (by simp) ?_
   repeat'(first|refine vs_ ?_|((first|refine vr_ ?_|refine qb hL fun _=>?_|refine q9i hS hbw rfl he ?_|(refine cs_ ?_ ?_<;>intro hc)|refine cj_ ?_)<;>try refine ev_ ?_)|with_reducible exact ti_)
   rw[newQ,if_neg he];exact⟨rfl,rfl⟩
 ·rw[UniQ,if_neg hl] at h
  subst h
  rw[show [a,b].all qq=false by
   cases ha:qq a<;>cases hb:qq b<;>simp_all] at hL
  refine qd c0fd 0 (by simp) (by simp) ?_
  repeat'(first|refine vs_ ?_|((first|refine vr_ ?_|refine qb hL fun _=>?_|(refine cs_ ?_ ?_<;>intro hc)|refine cj_ ?_)<;>try refine ev_ ?_)|with_reducible exact ti_)
  rw[newQ,if_neg (by decide)];exact⟨rfl,rfl⟩
end Go.Proofs.YtkenggenkmfopaaGreat

/- made one: rows, behind a substitution, qgu -/
set_option maxRecDepth 4000
namespace Go.V
open Go Go.RowKit
end Go.V
namespace Go.Proofs.YtkenggenkmfopaaGreat
open Go Go.RowKit Go.V

/-! renamed -/
end Go.Proofs.YtkenggenkmfopaaGreat

/- the state: two types made one -/
set_option maxRecDepth 4000
namespace Go.Proofs.YtkenggenkmfopaaGreat
open Go Go.RowKit Go.V

def WitQ(s:List Pr)(a b:Ty)(q:List Pr×Int):Prop :=
 if(appR s a).2=0 then(if(appR s b).2=0 then ∃u,UniQ (appR s a).1 (appR s b).1 u∧(if u.2=0 then q=((behR s u.1).1,(behR s u.1).2) else q=([],u.2)) else q=([],(appR s b).2)) else q=([],(appR s a).2)
theorem qcdj{L H':List Ent}{r:List Pr}{o:VO}(h:H'=L++[subE r]∧o=.val (.tup [.ptr L.length 0,.int .i64 0])):newQ L (r,0) H' o:=by unfold newQ;rw[if_pos rfl];exact h
theorem qzn{L H':List Ent}{r:List Pr}{e:Int}{o:VO}(he:e≠0)(h:H'=L∧o=.val (.tup [.nilp,.int .i64 e])):newQ L (r,e) H' o:=by unfold newQ;rw[if_neg he];exact h
theorem qyn{s:List Pr}{a b:Ty}{q:List Pr×Int}(hs:okS s)(hl:s.length≤40000)(a1:szY a≤20000)(a2:dpY a≤300)(b1:szY b≤20000)(b2:dpY b≤300)(hq:WitQ s a b q):
 VCalls Tryz.prog 40 [subE s] [.ptr 0 0,encY a,encY b] (newQ [subE s] q):=by
 have f1:=qs0 hs (by omega) a1 a2
 have f2:=qs0 hs (by omega) b1 b2
 unfold typA at f1 f2
 have lA:∀t:Ty,(appR s t).2=0->szY (appR s t).1≤20000∧dpY (appR s t).1≤300:=fun t ht=>by
  have:=qdl hs (t:=t) (by rw[ht])
  have h3:(appR s t).1=putY s t:=this.2.2
  have z:=(qbc _).1 this.2.1
  rw[h3]
  omega
 unfold WitQ at hq
 obtain⟨A,hA⟩:∃A,appR s a=A:=⟨_,rfl⟩
 obtain⟨B,hB⟩:∃B,appR s b=B:=⟨_,rfl⟩
 have lA1:=lA a
 have lB1:=lA b
 rw[hA] at f1 hq lA1
 rw[hB] at f2 hq lB1
 obtain⟨A,ea⟩:=A
 obtain⟨B,eb⟩:=B
 dsimp only at f1 f2 hq lA1 lB1
 by_cases h1:ea=0
 ·rw[if_pos h1] at hq
  by_cases h2:eb=0
  ·rw[if_pos h2] at hq
   subst h1 h2
   obtain⟨u,hu,hq⟩:=hq
   obtain⟨o1,o2,o3⟩:=qcdl hu
   have hU:=qx6 (lA1 rfl).1 (lA1 rfl).2 (lB1 rfl).1 (lB1 rfl).2 hu
   have hbU:AV.bds 0 [encY A,encY B]=true:=by simp only[AV.bds,q8,Bool.and_true]
   by_cases h3:u.2=0
   ·rw[if_pos h3] at hq
    subst hq
    obtain⟨u,ue⟩:=u
    dsimp only at h3 o1 o2
    subst h3
    obtain⟨R,hR⟩:∃R,behR s u=R:=⟨_,rfl⟩
    dsimp only
    rw[hR]
    obtain⟨r,re⟩:=R
    by_cases h4:re=0
    ·subst h4
     refine qd c0ex 2 (by simp) (by simp) ?_
     repeat'(first|refine vs_ ?_|((first|refine vr_ ?_|refine qx 0 f1 (bY _) (bYi _ _) ?_|refine qx 0 f2 (bY _) (bYi _ _) ?_|refine qw0 hU hbU rfl ?_|(refine cs_ ?_ ?_<;>intro hc)|refine cj_ ?_)<;>try refine ev_ ?_)|with_reducible exact ti_)
     refine qba9 0 5 hs o1 hl (by omega) (by decide) hR ?_
     (refine ev_ ?_;(try with_reducible exact ti_))
     refine qrk (af':=⟨[(6,.ptr 1 0),(7,.int .i64 0)],[]⟩) (H':=[subE s,subE r]) ?_ (qsu [0,6] rfl (by simp) ?_ ?_ ?_)
     ·repeat'(first|refine vs_ ?_|((first|refine vr_ ?_|(refine cs_ ?_ ?_<;>intro hc)|refine cj_ ?_)<;>try refine ev_ ?_)|with_reducible exact ti_)
      exact qcdj ⟨rfl,rfl⟩
     all_goals(try(refine ev_ ?_;(try with_reducible exact ti_)))
    ·refine qd c0ex 1 (by simp) (by simp) ?_
     repeat'(first|refine vs_ ?_|((first|refine vr_ ?_|refine qx 0 f1 (bY _) (bYi _ _) ?_|refine qx 0 f2 (bY _) (bYi _ _) ?_|refine qw0 hU hbU rfl ?_|(refine cs_ ?_ ?_<;>intro hc)|refine cj_ ?_)<;>try refine ev_ ?_)|with_reducible exact ti_)
     refine q4l 0 5 hs o1 hl (by omega) (by decide) hR h4 ?_
     (refine ev_ ?_;(try with_reducible exact ti_))
     refine qbbp ?_
     (refine ev_ ?_;(try with_reducible exact ti_))
     exact qzn h4 ⟨rfl,rfl⟩
   ·rw[if_neg h3] at hq
    subst hq
    refine qd c0ex 1 (by simp) (by simp) ?_
    repeat'(first|refine vs_ ?_|(refine vr_ ?_<;>try simp only[h3,go_sem,↓reduceIte])|((first|(refine cs_ ?_ ?_<;>intro hc)|refine cj_ ?_|fail|refine qx 0 f1 (bY _) (bYi _ _) ?_|refine qx 0 f2 (bY _) (bYi _ _) ?_|refine q9i hU hbU rfl h3 ?_)<;>try refine ev_ ?_)|with_reducible exact ti_)
    all_goals exact qzn h3 ⟨rfl,rfl⟩
  ·rw[if_neg h2] at hq
   subst hq
   refine qd c0ex 1 (by simp) (by simp) ?_
   repeat'(first|refine vs_ ?_|(refine vr_ ?_<;>try simp only[h1,h2,go_sem,↓reduceIte])|((first|(refine cs_ ?_ ?_<;>intro hc)|refine cj_ ?_|fail|refine qx 0 f1 (bY _) (bYi _ _) ?_|refine qx 0 f2 (bY _) (bYi _ _) ?_)<;>try refine ev_ ?_)|with_reducible exact ti_)
   all_goals exact qzn h2 ⟨rfl,rfl⟩
 ·rw[if_neg h1] at hq
  subst hq
  refine qd c0ex 1 (by simp) (by simp) ?_
  repeat'(first|refine vs_ ?_|(refine vr_ ?_<;>try simp only[h1,go_sem,↓reduceIte])|((first|(refine cs_ ?_ ?_<;>intro hc)|refine cj_ ?_|fail|refine qx 0 f1 (bY _) (bYi _ _) ?_)<;>try refine ev_ ?_)|with_reducible exact ti_)
  all_goals exact qzn h1 ⟨rfl,rfl⟩
set_option maxRecDepth 4000

section
variable {H:List Ent} {raws:List AV} {K:Md->AV->List Ent->Prop} {Q:List Ent->VO->Prop} {s r:List Pr} {a b:Ty}
theorem quw(i:Nat){q:List Pr×Int}(hW:VCalls Tryz.prog 40 [subE s] [.ptr 0 0,encY a,encY b] (newQ [subE s] q))(h0:ent H i=subE s)(hl:i<H.length)
 (hq:if q.2=0 then Q (H++[subE q.1]) (.val (.tup [.ptr H.length 0,.int .i64 0])) else Q H (.val (.tup [.nilp,.int .i64 q.2]))):VApp Tryz.prog H (.fn 40 [] []) [.ptr i 0,encY a,encY b] Q:=by
 refine qb1 ?_
 rw[List.nil_append,List.append_nil]
 refine qbr [i] hW (by simp) ⟨⟨hl,rfl,by rw[h0];rfl⟩,trivial⟩ (by simp only[AV.bds,AV.bd,q8,Bool.and_true];rfl) (by simp only[AV.rens,AV.ren,qgk];rfl) fun H1 o ho=>?_
 have e0:H.set i (subE s)=H:=qcs h0 hl
 rw[newQ] at ho
 split at ho
 ·rename_i he
  rw[if_pos he] at hq
  obtain⟨rfl,rfl⟩:=ho
  have e1:qds H [i] ([subE s]++[subE q.1])=H++[subE q.1]:=by
   show(H.set i (subE s))++[subE q.1]=_
   rw[e0]
  rw[e1]
  show Q _ (.val (.tup [.ptr (H.length+(1-1)) 0,.int .i64 0]))
  exact hq
 ·rename_i he
  rw[if_neg he] at hq
  obtain⟨rfl,rfl⟩:=ho
  have e1:qds H [i] [subE s]=H:=by
   show(H.set i (subE s))++[]=_
   rw[e0,List.append_nil]
  rw[e1]
  exact hq
theorem q53(i:Nat)(hW:VCalls Tryz.prog 40 [subE s] [.ptr 0 0,encY a,encY b] (newQ [subE s] (r,0)))(hq:K (.layR i (subE s) (subE r) (.int .i64 0)) (.tup [.ptr H.length 0,.int .i64 0]) (H++[subE r]))(h0:ent H i=subE s:=by rfl):
 DApp Tryz.prog H (.fn 40 [] []) [.ptr i 0,encY a,encY b] raws K :=
 .inr (.inr (.inr (.inr (.inr ⟨i,_,_,_,⟨h0,fun H₀ h=>quw i hW h (by
  rcases Nat.lt_or_ge i H₀.length with h1 | h1
  ·exact h1
  ·exact absurd (h.symm.trans (qmm h1)) (by intro h;cases h)) (by rw[if_pos rfl];exact⟨rfl,rfl⟩)⟩,hq⟩))))
theorem q90(i:Nat){e:Int}(he:e≠0)(hW:VCalls Tryz.prog 40 [subE s] [.ptr 0 0,encY a,encY b] (newQ [subE s] (r,e)))(hq:K (.meth i (subE s) (subE s)) (.tup [.nilp,.int .i64 e]) H)(h0:ent H i=subE s:=by rfl)(hl:i<H.length:=by simp):
 DApp Tryz.prog H (.fn 40 [] []) [.ptr i 0,encY a,encY b] raws K :=
 .inr (.inr (.inl ⟨_,i,subE s,subE s,⟨(by intro h;cases h),h0,fun H₀ h=>by
  have h1:i<H₀.length:=by
   rcases Nat.lt_or_ge i H₀.length with h1 | h1
   ·exact h1
   ·exact absurd (h.symm.trans (qmm h1)) (by intro h;cases h)
  exact quw i hW h h1 (by rw[if_neg he];exact⟨(qcs h h1).symm,rfl⟩)⟩,by rw[qcs h0 hl];exact hq⟩))
end
def uniE(e:Int):Int:=if e=1 then 2 else e
def uniS(S:SS)(q:List Pr×Int)(pos:Int):Bool×SS :=
 if S.err=0 then(if q.2=0 then(true,{ S with known:=q.1 }) else(false,qbk0 S (uniE q.2) pos)) else(false,S)
set_option maxHeartbeats 1000000 in
theorem qq3{S:SS}{a b:Ty}{q:List Pr×Int}(pos:Int)(hs:okS S.known)(hl:S.known.length≤40000)(a1:szY a≤20000)(a2:dpY a≤300)(b1:szY b≤20000)(b2:dpY b≤300)(hq:WitQ S.known a b q):
 VM Tryz.prog 12 (stE S) (stE (uniS S q pos).2) [.ptr 0 0,encY a,encY b,.int .i64 pos] (.bool (uniS S q pos).1):=by
 have hW:=qyn hs hl a1 a2 b1 b2 hq
 obtain⟨r,e⟩:=q
 unfold uniS
 dsimp only
 by_cases h1:S.err=0
 ·rw[if_pos h1]
  by_cases h2:e=0
  ·rw[if_pos h2]
   subst h2
   refine qek ?_ (by simp only[AV.bds,AV.bd,q8];rfl)
   refine qd c0ew 7 (by simp) (by simp) ?_
   repeat'(first|refine vs_ ?_|(refine vr_ ?_<;>try simp only[h1,Int.reduceEq,Int.reduceNe,decide_true,decide_false,Bool.false_eq_true,go_sem,↓reduceIte])|((first|(refine cs_ ?_ ?_<;>intro hc)|refine cj_ ?_|fail|refine q53 1 hW ?_)<;>try refine ev_ ?_)|with_reducible exact ti_)
   exact qvc (S:={ S with known:=r,err:=0 }) 6 2 3 rfl rfl rfl rfl (by simp) (by simp) (by simp) (by simp) (by simp) rfl ⟨rfl,rfl⟩
  ·rw[if_neg h2]
   have hF:=q56 S (uniE e) pos
   have hue:uniE e=if e=1 then 2 else e:=rfl
   refine qd c0ew 1 (by simp) (by simp) ?_
   unfold k0ew
   generalize hz:IC.seq (IC.seq qbbe _) _=z1
   repeat'(first|refine vs_ ?_|((first|refine vr_ ?_|(refine cs_ ?_ ?_<;>intro hc)|refine cj_ ?_)<;>try refine ev_ ?_)|with_reducible exact ti_)
   subst hz
   refine q6k S rfl (by simp) ?_
   simp only[List.length_cons,List.length_nil,List.set_cons_zero,List.cons_append,List.nil_append,Nat.zero_add,Nat.reduceAdd]
   generalize hz:IC.seq (IC.seq q5z _) _=z1
   repeat'(first|refine vs_ ?_|(refine vr_ ?_<;>try simp only[h1,go_sem,↓reduceIte])|((first|(refine cs_ ?_ ?_<;>intro hc)|refine cj_ ?_|fail|refine q90 3 h2 hW ?_)<;>try refine ev_ ?_)|with_reducible exact ti_)
   refine q7u S 3 4 5 ?_ rfl rfl rfl rfl (by simp) (by simp) (by simp) (by simp) (by simp)
   subst hz
   by_cases h3:e=1
   ·have hu:uniE e=2:=by rw[hue,if_pos h3]
    rw[hu] at hF ⊢
    subst h3
    repeat'(first|refine vs_ ?_|(refine vr_ ?_<;>try simp only[Int.reduceEq,Int.reduceNe,decide_true,decide_false,Bool.false_eq_true,go_sem,↓reduceIte])|((first|(refine cs_ ?_ ?_<;>intro hc)|refine cj_ ?_|fail|refine qcw 0 hF ?_)<;>try refine ev_ ?_)|with_reducible exact ti_)
   ·have hu:uniE e=e:=by rw[hue,if_neg h3]
    rw[hu] at hF ⊢
    repeat'(first|refine vs_ ?_|(refine vr_ ?_<;>try simp only[h3,h2,go_sem,↓reduceIte])|((first|(refine cs_ ?_ ?_<;>intro hc)|refine cj_ ?_|fail|refine qcw 0 hF ?_)<;>try refine ev_ ?_)|with_reducible exact ti_)
 ·rw[if_neg h1]
  refine qek ?_ (by simp only[AV.bds,AV.bd,q8];rfl)
  refine qd c0ew 4 (by simp) (by simp) ?_
  repeat'(first|refine vs_ ?_|(refine vr_ ?_<;>try simp only[h1,go_sem,↓reduceIte])|((first|(refine cs_ ?_ ?_<;>intro hc)|refine cj_ ?_)<;>try refine ev_ ?_)|with_reducible exact ti_)
  exact qdk (S:=S) (L:=[]) rfl rfl ⟨rfl,rfl⟩
set_option maxRecDepth 4000

set_option maxRecDepth 4000

theorem hzY:AV.agg [.str [],.int .i64 0,.sl 3 []]=encY Y0:=rfl
theorem qbl5:qp Tryz.prog 19 [.nilp] (.tup [.int .i64 0,.int .i64 0]):=by
 refine qe c0es (by simp) (by simp only[go_sem]) rfl fun hw=>?_
 repeat'(first|refine vs_ ?_|((first|refine vr_ ?_|(refine cs_ ?_ ?_<;>intro hc)|refine cj_ ?_)<;>try refine ev_ ?_)|with_reducible exact ti_)
theorem qbob:qp Tryz.prog 24 [.agg [.sl 1 [],.str [],.int .i64 0,.sl 3 []],.agg [.sl 1 [],.str [],.int .i64 0,.sl 3 []]] (.bool true):=by
 refine qe c0et (by simp) (by simp only[go_sem]) rfl fun hw=>?_
 have hs:qp Tryz.prog 16 [encY Y0,encY Y0] (.bool true):=qp7 Y0 Y0
 repeat'(first|refine vs_ ?_|(refine vr_ ?_<;>try simp only[hzY,go_sem,↓reduceIte])|((first|(refine cs_ ?_ ?_<;>intro hc)|refine cj_ ?_|simp (disch:=omega) only[qa,qc]|refine qb hs fun _=>?_|refine qf hs ?_)<;>try refine ev_ ?_)|with_reducible exact ti_)
 refine qo (S:=Unit) (fun _=>True) (fun _=>(⟨[(2,.ptr 0 0),(3,.ptr 1 0),(5,.int .i64 0)],[]⟩,[.blk [.sl 1 [],.str [],.int .i64 0,.sl 3 []],.blk [.sl 1 [],.str [],.int .i64 0,.sl 3 []]])) (fun _=>0) ?_ fun _ _=>?_
 ·refine qj () [0,1] trivial rfl (by simp) ?_ ?_ ?_<;>(try refine ev_ ?_)<;>(try with_reducible exact ti_)<;>(try simp (disch:=omega) only[qc,and_true,true_and])
 ·repeat'(first|refine vs_ ?_|(refine vr_ ?_<;>try simp only[Int.lt_irrefl,go_sem,↓reduceIte])|((first|(refine cs_ ?_ ?_<;>intro hc)|refine cj_ ?_|simp (disch:=omega) only[qa,qc])<;>try refine ev_ ?_)|with_reducible exact ti_)
theorem qpd:qp Tryz.prog 56 [.sl 3 [],.sl 3 []] (.bool true):=by
 refine qe c0eu (by simp) (by simp only[go_sem]) rfl fun hw=>?_
 repeat'(first|refine vs_ ?_|((first|refine vr_ ?_|(refine cs_ ?_ ?_<;>intro hc)|refine cj_ ?_|simp (disch:=omega) only[qa,qc])<;>try refine ev_ ?_)|with_reducible exact ti_)
 refine qo (S:=Unit) (fun _=>True) (fun _=>(⟨[(0,.sl 3 []),(1,.sl 3 []),(5,.int .i64 0)],[]⟩,[])) (fun _=>0) ?_ fun _ _=>?_
 ·refine qj () [] trivial rfl (by simp) ?_ ?_ ?_<;>(try refine ev_ ?_)<;>(try with_reducible exact ti_)<;>(try simp (disch:=omega) only[qc,and_true,true_and])
 ·repeat'(first|refine vs_ ?_|(refine vr_ ?_<;>try simp only[Int.lt_irrefl,go_sem,↓reduceIte])|((first|(refine cs_ ?_ ?_<;>intro hc)|refine cj_ ?_|simp (disch:=omega) only[qa,qc])<;>try refine ev_ ?_)|with_reducible exact ti_)
theorem qxd:qp Tryz.prog 29 [encT T0,encT T0] (.bool true):=by
 rw[←qoi]
 refine qe c0ev (by simp) (by simp only[go_sem]) rfl fun hw=>?_
 repeat'(first|refine vs_ ?_|((first|refine vr_ ?_|refine qb qpd fun _=>?_|refine qf qpd ?_|(refine cs_ ?_ ?_<;>intro hc)|refine cj_ ?_|simp (disch:=omega) only[qa,qc])<;>try refine ev_ ?_)|with_reducible exact ti_)
 refine qo (S:=Unit) (fun _=>True) (fun _=>(⟨[(2,.ptr 0 0),(3,.ptr 1 0),(5,.int .i64 0)],[]⟩,[.blk [.int .i64 0,.int .i64 0,.str [],.sl 1 [],.sl 3 [],.sl 6 []],.blk [.int .i64 0,.int .i64 0,.str [],.sl 1 [],.sl 3 [],.sl 6 []]])) (fun _=>0) ?_ fun _ _=>?_
 ·refine qj () [0,1] trivial rfl (by simp) ?_ ?_ ?_<;>(try refine ev_ ?_)<;>(try with_reducible exact ti_)<;>(try simp (disch:=omega) only[qc,and_true,true_and])
 ·repeat'(first|refine vs_ ?_|(refine vr_ ?_<;>try simp only[Int.lt_irrefl,go_sem,↓reduceIte])|((first|(refine cs_ ?_ ?_<;>intro hc)|refine cj_ ?_|simp (disch:=omega) only[qa,qc])<;>try refine ev_ ?_)|with_reducible exact ti_)
  refine qo (S:=Unit) (fun _=>True) (fun _=>(⟨[(2,.ptr 0 0),(3,.ptr 1 0),(6,.int .i64 0)],[]⟩,[.blk [.int .i64 0,.int .i64 0,.str [],.sl 1 [],.sl 3 [],.sl 6 []],.blk [.int .i64 0,.int .i64 0,.str [],.sl 1 [],.sl 3 [],.sl 6 []]])) (fun _=>0) ?_ fun _ _=>?_
  ·refine qj () [0,1] trivial rfl (by simp) ?_ ?_ ?_<;>(try refine ev_ ?_)<;>(try with_reducible exact ti_)<;>(try simp (disch:=omega) only[qc,and_true,true_and])
  ·repeat'(first|refine vs_ ?_|(refine vr_ ?_<;>try simp only[Int.lt_irrefl,go_sem,↓reduceIte])|((first|(refine cs_ ?_ ?_<;>intro hc)|refine cj_ ?_|simp (disch:=omega) only[qa,qc])<;>try refine ev_ ?_)|with_reducible exact ti_)
set_option maxRecDepth 4000


def V1:Ty:=.mk [] (-1) []
def V2:Ty:=.mk [] (-2) []
def I0:Ty:=.mk [73,110,116] 0 []
def H1:Tm:=.mk 14 1 [] [] [] []
def H0:Tm:=.mk 14 0 [] [] [] []
def N0:Tm:=.mk 2 0 [] [] [] []
def A1:SS:=⟨1,0,0,0,[],[],[],[],0,0⟩
def A2:SS:=⟨2,0,0,0,[],[],[],[],0,0⟩
set_option maxRecDepth 4000

theorem qr6{L:List Ent}{Q:List Ent->VO->Prop}(hq:Q (L++[stE S0]) (.val (.ptr L.length 0))):VApp Tryz.prog L (.fn 11 [] []) [] Q:=qjw qchm rfl (by rfl) hq
theorem qb4l(t:Ty):AV.bds 0 [encY t]=true:=by simp only[AV.bds,q8,Bool.and_true]
end Go.Proofs.YtkenggenkmfopaaGreat
