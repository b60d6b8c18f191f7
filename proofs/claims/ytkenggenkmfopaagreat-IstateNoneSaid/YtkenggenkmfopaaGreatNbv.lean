/- Texts of this proof, joined. -/
import Derived.Test.YtkenggenkmfopaaGreatNbu
import Derived.Test.YtkenggenkmfopaaGreatNbr
import Derived.Test.YtkenggenkmfopaaGreatNbq
import Derived.Test.YtkenggenkmfopaaGreatNbk
import Derived.Test.YtkenggenkmfopaaGreatNbt
set_option linter.unusedVariables false
set_option linter.unusedSimpArgs false

/- matching: the program's walk -/
namespace Go.Proofs.YtkenggenkmfopaaGreat
open Go Go.RowKit Go.V

/-! patterns that are let be types -/

section
variable {L:List Ent} {Q:List Ent->VO->Prop} {s:List Pr}
theorem qt0 {f:FuncId} {args:List AV} {q:List Pr×Int} (h:VCalls Tryz.prog f [] args (newQ [] q)) (ha:AV.bds 0 args = true) (hq:if q.2 = 0 then Q (L ++ [subE q.1]) (.val (.tup [.ptr L.length 0,.int .i64 0])) else Q L (.val (.tup [.nilp,.int .i64 q.2]))):VApp Tryz.prog L (.fn f [] []) args Q:=by
 refine qbs ?_
 rw [List.nil_append,List.append_nil]
 refine q9 [] h (by simp) trivial ha (ql (m:=0) (fun i hi=>by omega) _ ha).symm fun H1 o ho=>?_
 rw [newQ] at ho
 split at ho
 ·rename_i he
  rw [if_pos he] at hq
  obtain ⟨rfl,rfl⟩:=ho
  show Q _ (.val (.tup [.ptr (L.length + (0 - 0)) 0,.int .i64 0]))
  exact hq
 ·rename_i he
  rw [if_neg he] at hq
  obtain ⟨rfl,rfl⟩:=ho
  have e1:qdm L [] [] = L:=by
   show L ++ [] = _
   rw [List.append_nil]
  rw [e1]
  exact hq
theorem qrg {f:FuncId} {args:List AV} {q:List Pr×Int} (h:VCalls Tryz.prog f [] args (newQ [] q)) (ha:AV.bds 0 args = true) (he:q = (s,0)) (hq:Q (L ++ [subE s]) (.val (.tup [.ptr L.length 0,.int .i64 0]))):VApp Tryz.prog L (.fn f [] []) args Q :=
 qt0 h ha (by subst he;rw [if_pos rfl];exact hq)
theorem q0r {f:FuncId} {args:List AV} {q:List Pr×Int} {e:Int} (h:VCalls Tryz.prog f [] args (newQ [] q)) (ha:AV.bds 0 args = true) (he:q = (s,e)) (hne:e≠0) (hq:Q L (.val (.tup [.nilp,.int .i64 e]))):VApp Tryz.prog L (.fn f [] []) args Q :=
 qt0 h ha (by subst he;rw [if_neg hne];exact hq)
end
set_option maxRecDepth 4000

mutual
theorem qqt:∀ t,(varY t).length≤szY t
 | .mk c v l => by
   have:=qsr l
   rw [qfd,qz8,List.length_append]
   split<;>simp<;>omega
theorem qsr:∀ l,(qc8 l).length≤szYs l
 | []=>by rw [qc8,szYs];exact Nat.le_refl _
 | x :: r => by
   have:=qqt x
   have:=qsr r
   rw [qc8,szYs,List.length_append];omega
end
theorem qys {a b:Ty} (ha:qf a = true) (hb:qf b = true):Inv (varY a ++ varY b) [] [(a,b)]:=by
 refine ⟨qef,fun p hp=>by simp at hp,fun p hp=>by simp at hp,fun p hp=>by simp at hp,fun x hx=>?_,fun x hx w hw=>?_⟩
 ·simp at hx;subst hx;exact ⟨ha,hb⟩
 ·simp at hx;subst hx;simpa using hw
theorem qxo {a b:Ty} (ha:qf a = true) (hb:qf b = true):(varY a ++ varY b).length≤10000:=by
 have h1:=((qs _).1 ha).1
 have h2:=((qs _).1 hb).1
 have h3:=qqt a
 have h4:=qqt b
 rw [List.length_append];omega
def UniQ (a b:Ty) (q:List Pr×Int):Prop:=if qf a = true∧qf b = true then ∃ n,slvU n [] [(a,b)] = some q else q = ([],1)
theorem qbwn {a b:Ty} {q:List Pr×Int} (h:UniQ a b q):okS q.1∧q.1.length≤10000∧(q.2≠0->q.1 = []):=by
 rw [UniQ] at h
 split at h
 ·rename_i hl
  obtain ⟨n,hq⟩:=h
  by_cases he:q.2 = 0
  ·obtain ⟨h1,_⟩:=qk8 n [] _ q (qys hl.1 hl.2) hq he
   exact ⟨h1.ok,Nat.le_trans h1.len (qxo hl.1 hl.2),fun h=>absurd he h⟩
  ·have h0:q.1 = []:=by
    obtain ⟨m,r,_,h1,h2,_⟩:=ql8 n [] [(a,b)] [] q (by simpa using hq)
    by_cases hr:r.2 = 0
    ·exfalso
     rename_i h3
     obtain ⟨k,_,h4⟩:=h3 hr
     rw [qil] at h4
     simp only [Option.some.injEq] at h4
     subst h4
     exact he rfl
    ·obtain ⟨h3,h4⟩:=h2 hr
     rw [h3,h4]
   exact ⟨by rw [h0];exact qef,by rw [h0];simp,fun _=>h0⟩
 ·subst h
  exact ⟨qef,by simp,fun _=>rfl⟩
theorem qx6 (a b:Ty):[encY a,encY b] = qj [a,b]:=by rw [qj,qj,qj]
theorem qrm {a b:Ty} (h1:szY a≤20000) (h2:dpY a≤300) (h3:szY b≤20000) (h4:dpY b≤300) {q:List Pr×Int} (h:UniQ a b q):VCalls Tryz.prog 70 [] [encY a,encY b] (newQ [] q):=by
 have hL:=qqf (l:=[a,b]) (fun x hx=>by simp at hx;rcases hx with rfl | rfl<;>exact ⟨by assumption,by assumption⟩)
 rw [← qx6] at hL
 by_cases hl:qf a = true∧qf b = true
 ·rw [UniQ,if_pos hl] at h
  obtain ⟨n,hq⟩:=h
  rw [show [a,b].all qf = true by simp [hl]] at hL
  have hS:=qqm (qxo hl.1 hl.2) (l:=[(a,b)]) (by simp) (qys hl.1 hl.2) hq
  have hS:VCalls Tryz.prog 111 [] [.sl 6 [encW (a,b)]] (newQ [] q):=hS
  have hbw:AV.bds 0 [.sl 6 [encW (a,b)]] = true:=by simp only [AV.bds,AV.bd,qfi,Bool.and_true]
  obtain ⟨r,e⟩:=q
  by_cases he:e = 0
  ·subst he
   refine qc c0dl 1 (by simp) (by simp) ?_
   repeat' (first | refine vs_ ?_ | ((first | refine vr_ ?_ | refine qa hL fun _=>?_ | (refine cs_ ?_ ?_<;>intro hc) | refine cj_ ?_ | fail)<;>(try refine ev_ ?_)) | with_reducible exact ti_)
   refine qrg hS hbw rfl ?_
   (refine ev_ ?_;(try with_reducible exact ti_))
   refine qu8 (af':=⟨[(4,.ptr 0 0),(5,.int .i64 0)],[]⟩) (H':=[subE r]) ?_ (qub [2] rfl (by simp) ?_ ?_ ?_)
   ·repeat' (first | refine vs_ ?_ | ((first | refine vr_ ?_ | (refine cs_ ?_ ?_<;>intro hc) | refine cj_ ?_ | fail)<;>(try refine ev_ ?_)) | with_reducible exact ti_)
    rw [newQ,if_pos rfl];exact ⟨rfl,rfl⟩
   all_goals (try (refine ev_ ?_;(try with_reducible exact ti_)))
  ·refine qc c0dl 0 (by simp) (by simp) ?_
   repeat' (first | refine vs_ ?_ | ((first | refine vr_ ?_ | refine qa hL fun _=>?_ | refine q0r hS hbw rfl he ?_ | (refine cs_ ?_ ?_<;>intro hc) | refine cj_ ?_ | fail)<;>(try refine ev_ ?_)) | with_reducible exact ti_)
   rw [newQ,if_neg he];exact ⟨rfl,rfl⟩
 ·rw [UniQ,if_neg hl] at h
  subst h
  rw [show [a,b].all qf = false by
   cases ha:qf a<;>cases hb:qf b<;>simp_all] at hL
  refine qc c0dl 0 (by simp) (by simp) ?_
  repeat' (first | refine vs_ ?_ | ((first | refine vr_ ?_ | refine qa hL fun _=>?_ | (refine cs_ ?_ ?_<;>intro hc) | refine cj_ ?_ | fail)<;>(try refine ev_ ?_)) | with_reducible exact ti_)
  rw [newQ,if_neg (by decide)];exact ⟨rfl,rfl⟩
end Go.Proofs.YtkenggenkmfopaaGreat

/- made one: rows, behind a substitution, qey -/
set_option maxRecDepth 4000
namespace Go.V
open Go Go.RowKit
end Go.V
namespace Go.Proofs.YtkenggenkmfopaaGreat
open Go Go.RowKit Go.V

/-! renamed -/
end Go.Proofs.YtkenggenkmfopaaGreat

/- the state: two types made one -/
set_option maxRecDepth 4000
namespace Go.Proofs.YtkenggenkmfopaaGreat
open Go Go.RowKit Go.V

def WitQ (s:List Pr) (a b:Ty) (q:List Pr×Int):Prop :=
 if (appR s a).2 = 0 then (if (appR s b).2 = 0 then ∃ u,UniQ (appR s a).1 (appR s b).1 u∧(if u.2 = 0 then q = ((behR s u.1).1,(behR s u.1).2) else q = ([],u.2)) else q = ([],(appR s b).2)) else q = ([],(appR s a).2)
theorem qbvz {L H':List Ent} {r:List Pr} {o:VO} (h:H' = L ++ [subE r]∧o = .val (.tup [.ptr L.length 0,.int .i64 0])):newQ L (r,0) H' o:=by unfold newQ;rw [if_pos rfl];exact h
theorem qtr {L H':List Ent} {r:List Pr} {e:Int} {o:VO} (he:e≠0) (h:H' = L∧o = .val (.tup [.nilp,.int .i64 e])):newQ L (r,e) H' o:=by unfold newQ;rw [if_neg he];exact h
theorem qry {s:List Pr} {a b:Ty} {q:List Pr×Int} (hs:okS s) (hl:s.length≤40000) (a1:szY a≤20000) (a2:dpY a≤300) (b1:szY b≤20000) (b2:dpY b≤300) (hq:WitQ s a b q) :
 VCalls Tryz.prog 40 [subE s] [.ptr 0 0,encY a,encY b] (newQ [subE s] q):=by
 have f1:=qir hs (by omega) a1 a2
 have f2:=qir hs (by omega) b1 b2
 unfold typA at f1 f2
 have lA:∀ t:Ty,(appR s t).2 = 0->szY (appR s t).1≤20000∧dpY (appR s t).1≤300:=fun t ht=>by
  have:=qce hs (t:=t) (by rw [ht])
  have h3:(appR s t).1 = putY s t:=this.2.2
  have z:=(qs _).1 this.2.1
  rw [h3]
  omega
 unfold WitQ at hq
 obtain ⟨A,hA⟩:∃ A,appR s a = A:=⟨_,rfl⟩
 obtain ⟨B,hB⟩:∃ B,appR s b = B:=⟨_,rfl⟩
 have lA1:=lA a
 have lB1:=lA b
 rw [hA] at f1 hq lA1
 rw [hB] at f2 hq lB1
 obtain ⟨A,ea⟩:=A
 obtain ⟨B,eb⟩:=B
 dsimp only at f1 f2 hq lA1 lB1
 by_cases h1:ea = 0
 ·rw [if_pos h1] at hq
  by_cases h2:eb = 0
  ·rw [if_pos h2] at hq
   subst h1 h2
   obtain ⟨u,hu,hq⟩:=hq
   obtain ⟨o1,o2,o3⟩:=qbwn hu
   have hU:=qrm (lA1 rfl).1 (lA1 rfl).2 (lB1 rfl).1 (lB1 rfl).2 hu
   have hbU:AV.bds 0 [encY A,encY B] = true:=by simp only [AV.bds,qw,Bool.and_true]
   by_cases h3:u.2 = 0
   ·rw [if_pos h3] at hq
    subst hq
    obtain ⟨u,ue⟩:=u
    dsimp only at h3 o1 o2
    subst h3
    obtain ⟨R,hR⟩:∃ R,behR s u = R:=⟨_,rfl⟩
    dsimp only
    rw [hR]
    obtain ⟨r,re⟩:=R
    by_cases h4:re = 0
    ·subst h4
     refine qc c0s 2 (by simp) (by simp) ?_
     repeat' (first | refine vs_ ?_ | ((first | refine vr_ ?_ | refine qo 0 f1 (bY _) (bYi _ _) ?_ | refine qo 0 f2 (bY _) (bYi _ _) ?_ | refine qrg hU hbU rfl ?_ | (refine cs_ ?_ ?_<;>intro hc) | refine cj_ ?_ | fail)<;>(try refine ev_ ?_)) | with_reducible exact ti_)
     refine q0u 0 5 hs o1 hl (by omega) (by decide) hR ?_
     (refine ev_ ?_;(try with_reducible exact ti_))
     refine qu8 (af':=⟨[(6,.ptr 1 0),(7,.int .i64 0)],[]⟩) (H':=[subE s,subE r]) ?_ (qub [0,6] rfl (by simp) ?_ ?_ ?_)
     ·repeat' (first | refine vs_ ?_ | ((first | refine vr_ ?_ | (refine cs_ ?_ ?_<;>intro hc) | refine cj_ ?_ | fail)<;>(try refine ev_ ?_)) | with_reducible exact ti_)
      exact qbvz ⟨rfl,rfl⟩
     all_goals (try (refine ev_ ?_;(try with_reducible exact ti_)))
    ·refine qc c0s 1 (by simp) (by simp) ?_
     repeat' (first | refine vs_ ?_ | ((first | refine vr_ ?_ | refine qo 0 f1 (bY _) (bYi _ _) ?_ | refine qo 0 f2 (bY _) (bYi _ _) ?_ | refine qrg hU hbU rfl ?_ | (refine cs_ ?_ ?_<;>intro hc) | refine cj_ ?_ | fail)<;>(try refine ev_ ?_)) | with_reducible exact ti_)
     refine qzm 0 5 hs o1 hl (by omega) (by decide) hR h4 ?_
     (refine ev_ ?_;(try with_reducible exact ti_))
     refine q8v ?_
     (refine ev_ ?_;(try with_reducible exact ti_))
     exact qtr h4 ⟨rfl,rfl⟩
   ·rw [if_neg h3] at hq
    subst hq
    refine qc c0s 1 (by simp) (by simp) ?_
    repeat' (first | refine vs_ ?_ | ((first | refine vr_ ?_ | fail)<;>(try simp only [h3,go_sem,↓reduceIte])) | ((first | (refine cs_ ?_ ?_<;>intro hc) | refine cj_ ?_ | fail | refine qo 0 f1 (bY _) (bYi _ _) ?_ | refine qo 0 f2 (bY _) (bYi _ _) ?_ | refine q0r hU hbU rfl h3 ?_)<;>(try refine ev_ ?_)) | with_reducible exact ti_)
    all_goals exact qtr h3 ⟨rfl,rfl⟩
  ·rw [if_neg h2] at hq
   subst hq
   refine qc c0s 1 (by simp) (by simp) ?_
   repeat' (first | refine vs_ ?_ | ((first | refine vr_ ?_ | fail)<;>(try simp only [h1,h2,go_sem,↓reduceIte])) | ((first | (refine cs_ ?_ ?_<;>intro hc) | refine cj_ ?_ | fail | refine qo 0 f1 (bY _) (bYi _ _) ?_ | refine qo 0 f2 (bY _) (bYi _ _) ?_)<;>(try refine ev_ ?_)) | with_reducible exact ti_)
   all_goals exact qtr h2 ⟨rfl,rfl⟩
 ·rw [if_neg h1] at hq
  subst hq
  refine qc c0s 1 (by simp) (by simp) ?_
  repeat' (first | refine vs_ ?_ | ((first | refine vr_ ?_ | fail)<;>(try simp only [h1,go_sem,↓reduceIte])) | ((first | (refine cs_ ?_ ?_<;>intro hc) | refine cj_ ?_ | fail | refine qo 0 f1 (bY _) (bYi _ _) ?_)<;>(try refine ev_ ?_)) | with_reducible exact ti_)
  all_goals exact qtr h1 ⟨rfl,rfl⟩
set_option maxRecDepth 4000

section
variable {H:List Ent} {raws:List AV} {K:Md->AV->List Ent->Prop} {Q:List Ent->VO->Prop} {s r:List Pr} {a b:Ty}
theorem qpi (i:Nat) {q:List Pr×Int} (hW:VCalls Tryz.prog 40 [subE s] [.ptr 0 0,encY a,encY b] (newQ [subE s] q)) (h0:ent H i = subE s) (hl:i < H.length)
 (hq:if q.2 = 0 then Q (H ++ [subE q.1]) (.val (.tup [.ptr H.length 0,.int .i64 0])) else Q H (.val (.tup [.nilp,.int .i64 q.2]))):VApp Tryz.prog H (.fn 40 [] []) [.ptr i 0,encY a,encY b] Q:=by
 refine qbs ?_
 rw [List.nil_append,List.append_nil]
 refine q9 [i] hW (by simp) ⟨⟨hl,rfl,by rw [h0];rfl⟩,trivial⟩ (by simp only [AV.bds,AV.bd,qw,Bool.and_true];rfl) (by simp only [AV.rens,AV.ren,qf1];rfl) fun H1 o ho=>?_
 have e0:H.set i (subE s) = H:=qbp h0 hl
 rw [newQ] at ho
 split at ho
 ·rename_i he
  rw [if_pos he] at hq
  obtain ⟨rfl,rfl⟩:=ho
  have e1:qdm H [i] ([subE s] ++ [subE q.1]) = H ++ [subE q.1]:=by
   show (H.set i (subE s)) ++ [subE q.1] = _
   rw [e0]
  rw [e1]
  show Q _ (.val (.tup [.ptr (H.length + (1 - 1)) 0,.int .i64 0]))
  exact hq
 ·rename_i he
  rw [if_neg he] at hq
  obtain ⟨rfl,rfl⟩:=ho
  have e1:qdm H [i] [subE s] = H:=by
   show (H.set i (subE s)) ++ [] = _
   rw [e0,List.append_nil]
  rw [e1]
  exact hq
theorem qz7 (i:Nat) (hW:VCalls Tryz.prog 40 [subE s] [.ptr 0 0,encY a,encY b] (newQ [subE s] (r,0))) (hq:K (.layR i (subE s) (subE r) (.int .i64 0)) (.tup [.ptr H.length 0,.int .i64 0]) (H ++ [subE r])) (h0:ent H i = subE s:=by rfl) :
 DApp Tryz.prog H (.fn 40 [] []) [.ptr i 0,encY a,encY b] raws K :=
 .inr (.inr (.inr (.inr (.inr ⟨i,_,_,_,⟨h0,fun H₀ h=>qpi i hW h (by
  rcases Nat.lt_or_ge i H₀.length with h1 | h1
  ·exact h1
  ·exact absurd (h.symm.trans (qhb h1)) (by intro h;cases h)) (by rw [if_pos rfl];exact ⟨rfl,rfl⟩)⟩,hq⟩))))
theorem qz1 (i:Nat) {e:Int} (he:e≠0) (hW:VCalls Tryz.prog 40 [subE s] [.ptr 0 0,encY a,encY b] (newQ [subE s] (r,e))) (hq:K (.meth i (subE s) (subE s)) (.tup [.nilp,.int .i64 e]) H) (h0:ent H i = subE s:=by rfl) (hl:i < H.length:=by simp) :
 DApp Tryz.prog H (.fn 40 [] []) [.ptr i 0,encY a,encY b] raws K :=
 .inr (.inr (.inl ⟨_,i,subE s,subE s,⟨(by intro h;cases h),h0,fun H₀ h=>by
  have h1:i < H₀.length:=by
   rcases Nat.lt_or_ge i H₀.length with h1 | h1
   ·exact h1
   ·exact absurd (h.symm.trans (qhb h1)) (by intro h;cases h)
  exact qpi i hW h h1 (by rw [if_neg he];exact ⟨(qbp h h1).symm,rfl⟩)⟩,by rw [qbp h0 hl];exact hq⟩))
end
def uniE (e:Int):Int:=if e = 1 then 2 else e
def uniS (S:SS) (q:List Pr×Int) (pos:Int):Bool×SS :=
 if S.err = 0 then (if q.2 = 0 then (true,{ S with known:=q.1 }) else (false,qbfs S (uniE q.2) pos)) else (false,S)
set_option maxHeartbeats 1000000 in
theorem qnm {S:SS} {a b:Ty} {q:List Pr×Int} (pos:Int) (hs:okS S.known) (hl:S.known.length≤40000) (a1:szY a≤20000) (a2:dpY a≤300) (b1:szY b≤20000) (b2:dpY b≤300) (hq:WitQ S.known a b q) :
 VM Tryz.prog 12 (stE S) (stE (uniS S q pos).2) [.ptr 0 0,encY a,encY b,.int .i64 pos] (.bool (uniS S q pos).1):=by
 have hW:=qry hs hl a1 a2 b1 b2 hq
 obtain ⟨r,e⟩:=q
 unfold uniS
 dsimp only
 by_cases h1:S.err = 0
 ·rw [if_pos h1]
  by_cases h2:e = 0
  ·rw [if_pos h2]
   subst h2
   refine qcd ?_ (by simp only [AV.bds,AV.bd,qw];rfl)
   refine qc c0f 7 (by simp) (by simp) ?_
   repeat' (first | refine vs_ ?_ | ((first | refine vr_ ?_ | fail)<;>(try simp only [h1,Int.reduceEq,Int.reduceNe,decide_true,decide_false,Bool.false_eq_true,go_sem,↓reduceIte])) | ((first | (refine cs_ ?_ ?_<;>intro hc) | refine cj_ ?_ | fail | refine qz7 1 hW ?_)<;>(try refine ev_ ?_)) | with_reducible exact ti_)
   exact qps (S:={ S with known:=r,err:=0 }) 6 2 3 rfl rfl rfl rfl (by simp) (by simp) (by simp) (by simp) (by simp) rfl ⟨rfl,rfl⟩
  ·rw [if_neg h2]
   have hF:=qbhi S (uniE e) pos
   have hue:uniE e = if e = 1 then 2 else e:=rfl
   refine qc c0f 1 (by simp) (by simp) ?_
   unfold k0f
   generalize hz:IC.seq (IC.seq q8n _) _ = z1
   repeat' (first | refine vs_ ?_ | ((first | refine vr_ ?_ | (refine cs_ ?_ ?_<;>intro hc) | refine cj_ ?_ | fail)<;>(try refine ev_ ?_)) | with_reducible exact ti_)
   subst hz
   refine qi9 S rfl (by simp) ?_
   simp only [List.length_cons,List.length_nil,List.set_cons_zero,List.cons_append,List.nil_append,Nat.zero_add,Nat.reduceAdd]
   generalize hz:IC.seq (IC.seq q8g _) _ = z1
   repeat' (first | refine vs_ ?_ | ((first | refine vr_ ?_ | fail)<;>(try simp only [h1,go_sem,↓reduceIte])) | ((first | (refine cs_ ?_ ?_<;>intro hc) | refine cj_ ?_ | fail | refine qz1 3 h2 hW ?_)<;>(try refine ev_ ?_)) | with_reducible exact ti_)
   refine qjw S 3 4 5 ?_ rfl rfl rfl rfl (by simp) (by simp) (by simp) (by simp) (by simp)
   subst hz
   by_cases h3:e = 1
   ·have hu:uniE e = 2:=by rw [hue,if_pos h3]
    rw [hu] at hF ⊢
    subst h3
    repeat' (first | refine vs_ ?_ | ((first | refine vr_ ?_ | fail)<;>(try simp only [Int.reduceEq,Int.reduceNe,decide_true,decide_false,Bool.false_eq_true,go_sem,↓reduceIte])) | ((first | (refine cs_ ?_ ?_<;>intro hc) | refine cj_ ?_ | fail | refine qbl 0 hF ?_)<;>(try refine ev_ ?_)) | with_reducible exact ti_)
    all_goals trace_state
   ·have hu:uniE e = e:=by rw [hue,if_neg h3]
    rw [hu] at hF ⊢
    repeat' (first | refine vs_ ?_ | ((first | refine vr_ ?_ | fail)<;>(try simp only [h3,h2,go_sem,↓reduceIte])) | ((first | (refine cs_ ?_ ?_<;>intro hc) | refine cj_ ?_ | fail | refine qbl 0 hF ?_)<;>(try refine ev_ ?_)) | with_reducible exact ti_)
    all_goals trace_state
 ·rw [if_neg h1]
  refine qcd ?_ (by simp only [AV.bds,AV.bd,qw];rfl)
  refine qc c0f 4 (by simp) (by simp) ?_
  repeat' (first | refine vs_ ?_ | ((first | refine vr_ ?_ | fail)<;>(try simp only [h1,go_sem,↓reduceIte])) | ((first | (refine cs_ ?_ ?_<;>intro hc) | refine cj_ ?_ | fail)<;>(try refine ev_ ?_)) | with_reducible exact ti_)
  exact qt (S:=S) (L:=[]) rfl rfl ⟨rfl,rfl⟩
set_option maxRecDepth 4000

abbrev filE (S:SS) (vs:List Int) (ts:List Ty) (lf:Int):List Ent:=[.blk [.ptr 1 0,.sl 1 (ints vs),.sl 3 (qj ts),.int .i64 lf],.blk (stcK S 2 3 4),subE S.known,mapE (qe0 S.fills),mapE (qei S.free)]
abbrev filF:FuncId:=57
def qm9 (S:SS) (vs:List Int) (ts:List Ty) (lf:Int) (t:Tm) (lf':Int) (t':Tm):Prop :=
 VCalls Tryz.prog filF (filE S vs ts lf) [.ptr 0 0,encT t] fun H' o=>H' = filE S vs ts lf'∧o = .val (encT t')
theorem q04 (S:SS) (vs:List Int) (ts:List Ty) (lf:Int):(filE S vs ts lf).all (Ent.bd 5) = true:=by
 simp only [filE,List.all_cons,List.all_nil,Ent.bd,AV.bds,AV.bd,qfl,qbn,qb7];rfl
section
variable {H L:List Ent} {Q:List Ent->VO->Prop} {S:SS} {vs:List Int} {ts:List Ty} {lf lf':Int} {t t':Tm}
theorem qbdh (L:List Ent) (h:qm9 S vs ts lf t lf' t') (hq:Q (filE S vs ts lf' ++ L) (.val (encT t'))) (hH:H = filE S vs ts lf ++ L:=by rfl):VApp Tryz.prog H (.fn filF [] []) [.ptr 0 0,encT t] Q:=by
 subst hH
 refine qbs (first:=[]) (caps:=[]) ?_
 simp only [List.nil_append,List.append_nil]
 refine qlq h (q04 S vs ts lf) (by simp only [AV.bds,AV.bd,qcs,Bool.and_true];rfl) ?_
 rintro H1 o ⟨rfl,rfl⟩
 exact ⟨rfl,q04 S vs ts lf',qcs _ _,hq⟩
def q1d (l:List (Int×Tm)) (k:Int):AV:=match qh2 l k with
 | some p=>.tup [encT p.2,.bool true]
 | none=>.tup [.agg [.int .i64 0,.int .i64 0,.str [],.nils,.nils,.nils],.bool false]
theorem qbkf (i:Nat) {l:List (Int×Tm)} {k:Int} {raws:List AV} {K:Md->AV->List Ent->Prop} (hq:K (.meth i (mapE (qe0 l)) (mapE (qe0 l))) (q1d l k) H) (he:ent H i = mapE (qe0 l):=by rfl) (hl:i < H.length:=by simp):DApp Tryz.prog H (mkV (.look 94 true)) [.opq i,.int .i64 k] raws K:=by
 refine .inr (.inr (.inl ⟨q1d l k,i,mapE (qe0 l),mapE (qe0 l),⟨(by intro h;cases h),he,fun H₀ h=>?_⟩,by rw [qbp he hl];exact hq⟩))
 have h1:i < H₀.length:=by
  rcases Nat.lt_or_ge i H₀.length with h1 | h1
  ·exact h1
  ·exact absurd (h.symm.trans (qhb h1)) (by intro h;cases h)
 refine qxz rfl rfl (z:=.agg [.int .i64 0,.int .i64 0,.str [],.nils,.nils,.nils]) rfl true h ⟨(qbp h h1).symm,?_⟩
 have hv:qek (qe0 l) k = (qh2 l k).map fun p=>(p.1,encT p.2):=qfa encT l k
 rw [hv,q1d]
 cases qh2 l k<;>rfl
end
abbrev filL (t u:Tm):List Ent:=[.blk (tmc t),.blk [.int .i64 0,.int .i64 0,.str [],.nils,.nils,.nils],.blk (tmc u)]
theorem qtb {S:SS} {vs:List Int} {ts:List Ty} {lf lf':Int} {t t' u:Tm} {j:Nat} (hk:t.kind = 14) (hu:qh2 S.fills t.num = some (j,u)) (h:qm9 S vs ts lf u lf' t'):qm9 S vs ts lf t lf' t':=by
 unfold qm9
 refine qc c0r 5 (by simp) (by simp) ?_
 have hkd:decide (t.kind = 14) = true:=decide_eq_true hk
 have hlk:q1d S.fills t.num = .tup [encT u,.bool true]:=by unfold q1d;rw [hu]
 repeat' (first | refine vs_ ?_ | ((first | refine vr_ ?_ | fail)<;>(try simp only [hkd,hlk,go_sem,↓reduceIte])) | ((first | simp (disch:=omega) only [hlk] | (refine cs_ ?_ ?_<;>intro hc) | refine cj_ ?_ | simp (disch:=omega) only [encs_getN,qb] | refine qbkf 3 ?_ | refine qbdh (filL t u) h ?_)<;>(try refine ev_ ?_)) | with_reducible exact ti_)
theorem q37 {S:SS} {vs:List Int} {ts:List Ty} {lf:Int} {t:Tm} (hk:t.kind≠14) (ht:t.types = []) (hks:t.kids = []) (h1:1≤lf) (h2:lf≤4096):qm9 S vs ts lf t (lf - 1) t:=by
 unfold qm9
 refine qc c0r 5 (by simp) (by simp) ?_
 have hkd:decide (t.kind = 14) = false:=decide_eq_false hk
 have hl1:t.types.length = 0:=by rw [ht];rfl
 have hl2:t.kids.length = 0:=by rw [hks];rfl
 have hwr:IntKind.i64.wrap (lf - 1) = lf - 1:=qbb (by omega) (by omega)
 have hn:¬ lf - 1 < 0:=by omega
 repeat' (first | refine vs_ ?_ | ((first | refine vr_ ?_ | fail)<;>(try simp only [hkd,hwr,hn,go_sem,↓reduceIte])) | ((first | (refine cs_ ?_ ?_<;>intro hc) | refine cj_ ?_ | simp (disch:=omega) only [encs_getN,qb])<;>(try refine ev_ ?_)) | with_reducible exact ti_)
 refine qp (S:=Unit) (fun _=>True) (fun _=>(⟨[(0,.ptr 0 0),(3,.ptr 5 0),(4,.ptr 6 0),(7,.row 7 0),(53,.sl 3 (qj t.types)),(54,.int .i64 t.types.length),(55,.int .i64 0)],[]⟩,filE S vs ts (lf - 1) ++ [.blk (tmc t),.blk [.int .i64 0,.int .i64 0,.str [],.nils,.nils,.nils],.mrow 3 []])) (fun _=>0) ?_ fun _ _=>?_
 ·refine qm () [0,1,2,3,4,5,6,7] trivial rfl (by simp) ?_ ?_ ?_<;>simp only [hl1,List.replicate_zero]<;>(try refine ev_ ?_)<;>(try with_reducible exact ti_)<;>(try simp (disch:=omega) only [qb,and_true,true_and])
 ·refine qch 7 rfl (fun v hv=>by simp at hv) ?_
  have hl1i:¬ (0:Int) < (t.types.length:Int):=by omega
  repeat' (first | refine vs_ ?_ | ((first | refine vr_ ?_ | fail)<;>(try simp only [hl1i,go_sem,↓reduceIte])) | ((first | (refine cs_ ?_ ?_<;>intro hc) | refine cj_ ?_ | simp (disch:=omega) only [encs_getN,qb])<;>(try refine ev_ ?_)) | with_reducible exact ti_)
  refine qp (S:=Unit) (fun _=>True) (fun _=>(⟨[(0,.ptr 0 0),(3,.ptr 5 0),(4,.ptr 6 0),(7,.row 7 0),(12,.row 8 0),(86,.sl 6 (qcg t.kids)),(87,.int .i64 t.kids.length),(88,.int .i64 0)],[]⟩,filE S vs ts (lf - 1) ++ [.blk (tmc t),.blk [.int .i64 0,.int .i64 0,.str [],.nils,.nils,.nils],.app 3 [],.mrow 6 []])) (fun _=>0) ?_ fun _ _=>?_
  ·refine qm () [0,1,2,3,4,5,6,7,8] trivial rfl (by simp) ?_ ?_ ?_<;>simp only [hl2,List.replicate_zero]<;>(try refine ev_ ?_)<;>(try with_reducible exact ti_)<;>(try simp (disch:=omega) only [qb,and_true,true_and])
  ·refine qch 8 rfl (fun v hv=>by simp at hv) ?_
   have hl2i:¬ (0:Int) < (t.kids.length:Int):=by omega
   repeat' (first | refine vs_ ?_ | ((first | refine vr_ ?_ | fail)<;>(try simp only [hl2i,go_sem,↓reduceIte])) | ((first | (refine cs_ ?_ ?_<;>intro hc) | refine cj_ ?_ | simp (disch:=omega) only [encs_getN,qb])<;>(try refine ev_ ?_)) | with_reducible exact ti_)
   all_goals rw [← qb6 t,ht,hks];rfl
abbrev tstE (S:SS) (X Y:Ent) (vs:List Int) (ts:List Ty) (lf:Int):List Ent:=[.blk (stcK S 4 5 6),X,Y,.blk [.ptr 0 0,.sl 1 (ints vs),.sl 3 (qj ts),.int .i64 lf],subE S.known,mapE (qe0 S.fills),mapE (qei S.free)]
theorem qbfa {X Y:Ent} {Q:List Ent->VO->Prop} {S:SS} {vs:List Int} {ts:List Ty} {lf lf':Int} {t t':Tm} (h:qm9 S vs ts lf t lf' t') (hq:Q (tstE S X Y vs ts lf') (.val (encT t'))):VApp Tryz.prog (tstE S X Y vs ts lf) (.fn filF [] []) [.ptr 3 0,encT t] Q:=by
 refine qbs ?_
 rw [List.nil_append,List.append_nil]
 refine q9 [3,0,4,5,6] h (by simp) ⟨⟨by simp,by simp only [Ent.bd,AV.bds,AV.bd,qfl,qbn];rfl,by simp only [Ent.ren,AV.rens,AV.ren,qip,qg1];rfl⟩,⟨by simp,by simp only [Ent.bd,AV.bds,AV.bd,qb7];rfl,by simp only [Ent.ren,AV.rens,AV.ren,qcb];rfl⟩,⟨by simp,by rfl,by rfl⟩,⟨by simp,by rfl,by rfl⟩,⟨by simp,by rfl,by rfl⟩,trivial⟩ (by simp only [AV.bds,AV.bd,qcs,Bool.and_true];rfl) (by simp only [AV.rens,AV.ren,qmo];rfl) fun H1 o ho=>?_
 obtain ⟨rfl,rfl⟩:=ho
 have e1:qdm (tstE S X Y vs ts lf) [3,0,4,5,6] (filE S vs ts lf') = tstE S X Y vs ts lf':=by
  show (((((tstE S X Y vs ts lf).set 3 _).set 0 _).set 4 _).set 5 _).set 6 _ ++ [] = _
  simp only [List.append_nil,List.set_cons_succ,List.set_cons_zero,Ent.ren,AV.rens,AV.ren,qip,qg1,qcb]
  rfl
 rw [e1]
 simp only [VO.ren,qmo]
 exact hq
def terS (S:SS) (t:Tm) (p:Int×Tm):Tm:=if lglT t = true then (if p.1 < 0 then T0 else if lglT p.2 = true then p.2 else T0) else T0
set_option maxHeartbeats 1000000 in
theorem qbiz {S:SS} {t t':Tm} {lf':Int} (hl:S.known.length≤100000) (ho:smlR S.known) (hF:qm9 S (lsV S.known) (lsT S.known) 4096 t lf' t'):VM Tryz.prog 30 (stE S) (stE S) [.ptr 0 0,encT t] (encT (terS S t (lf',t'))):=by
 have h1:=qtd hl ho
 have hL:=qfs t
 have hL2:=qfs t'
 have hz:AV.agg [.int .i64 0,.int .i64 0,.str [],.sl 1 [],.sl 3 [],.sl 6 []] = encT T0:=qg7
 unfold terS
 dsimp only
 refine qc c0m 1 (by simp) (by simp) ?_
 cases hlg:lglT t with
 | false =>
   rw [hlg] at hL
   repeat' (first | refine vs_ ?_ | ((first | refine vr_ ?_ | fail)<;>(try simp only [hz,go_sem,↓reduceIte])) | ((first | (refine cs_ ?_ ?_<;>intro hc) | refine cj_ ?_ | fail | refine qa hL fun _=>?_)<;>(try refine ev_ ?_)) | with_reducible exact ti_)
 | true =>
   rw [hlg] at hL
   unfold k0m
   generalize hz1:IC.seq q8p _ = z1
   repeat' (first | refine vs_ ?_ | ((first | refine vr_ ?_ | fail)<;>(try simp only [hz,go_sem,↓reduceIte])) | ((first | (refine cs_ ?_ ?_<;>intro hc) | refine cj_ ?_ | fail | refine qa hL fun _=>?_ | refine qbl 0 h1 ?_)<;>(try refine ev_ ?_)) | with_reducible exact ti_)
   subst hz1
   refine qi9 S rfl (by simp) ?_
   simp only [List.length_cons,List.length_nil,List.set_cons_zero,List.cons_append,List.nil_append,Nat.zero_add,Nat.reduceAdd]
   generalize hz2:IC.seq (IC.seq q81 _) _ = z2
   repeat' (first | refine vs_ ?_ | ((first | refine vr_ ?_ | refine qbfa hF ?_ | (refine cs_ ?_ ?_<;>intro hc) | refine cj_ ?_ | fail)<;>(try refine ev_ ?_)) | with_reducible exact ti_)
   subst hz2
   refine qjw S 4 5 6 ?_ rfl rfl rfl rfl (by simp) (by simp) (by simp) (by simp) (by simp)
   generalize lglT t' = b at *
   repeat' (first | refine vs_ ?_ | ((first | refine vr_ ?_ | fail)<;>(try simp only [hz,go_sem,↓reduceIte])) | ((first | (refine cs_ ?_ ?_<;>intro hc) | refine cj_ ?_ | fail | refine qa hL2 fun _=>?_)<;>(try refine ev_ ?_)) | with_reducible exact ti_)
   all_goals simp [*]
set_option maxRecDepth 4000

theorem hzY:AV.agg [.str [],.int .i64 0,.sl 3 []] = encY Y0:=rfl
theorem qbza:qi Tryz.prog 21 [.nilp] (encY Y0):=by
 refine qd c0b (by simp) (by simp only [go_sem]) (qw 0 _) fun hw=>?_
 repeat' (first | refine vs_ ?_ | ((first | refine vr_ ?_ | fail)<;>(try simp only [hzY,go_sem,↓reduceIte])) | ((first | (refine cs_ ?_ ?_<;>intro hc) | refine cj_ ?_ | simp (disch:=omega) only [encs_getN,qb])<;>(try refine ev_ ?_)) | with_reducible exact ti_)
theorem qbzk:qi Tryz.prog 22 [.nilp] (encY Y0):=by
 refine qd c0c (by simp) (by simp only [go_sem]) (qw 0 _) fun hw=>?_
 repeat' (first | refine vs_ ?_ | ((first | refine vr_ ?_ | fail)<;>(try simp only [hzY,go_sem,↓reduceIte])) | ((first | (refine cs_ ?_ ?_<;>intro hc) | refine cj_ ?_ | simp (disch:=omega) only [encs_getN,qb])<;>(try refine ev_ ?_)) | with_reducible exact ti_)
theorem qbtx:qi Tryz.prog 23 [.nilp] (.str []):=by
 refine qd c0d (by simp) (by simp only [go_sem]) rfl fun hw=>?_
 repeat' (first | refine vs_ ?_ | ((first | refine vr_ ?_ | (refine cs_ ?_ ?_<;>intro hc) | refine cj_ ?_ | simp (disch:=omega) only [encs_getN,qb])<;>(try refine ev_ ?_)) | with_reducible exact ti_)
theorem qbr1 (t:Ty):qi Tryz.prog 15 [.nilp,encY t] (encY Y0):=by
 refine qd c0e (by simp) (by simp only [go_sem]) (qw 0 _) fun hw=>?_
 repeat' (first | refine vs_ ?_ | ((first | refine vr_ ?_ | fail)<;>(try simp only [hzY,go_sem,↓reduceIte])) | ((first | (refine cs_ ?_ ?_<;>intro hc) | refine cj_ ?_ | fail)<;>(try refine ev_ ?_)) | with_reducible exact ti_)
theorem qbhe (a b:Ty) (pos:Int):qi Tryz.prog 12 [.nilp,encY a,encY b,.int .i64 pos] (.bool false):=by
 refine qd c0f (by simp) (by simp only [go_sem]) rfl fun hw=>?_
 repeat' (first | refine vs_ ?_ | ((first | refine vr_ ?_ | (refine cs_ ?_ ?_<;>intro hc) | refine cj_ ?_ | fail)<;>(try refine ev_ ?_)) | with_reducible exact ti_)
theorem qbr4 (e pos:Int):qi Tryz.prog 17 [.nilp,.int .i64 e,.int .i64 pos] (.bool false):=by
 refine qd c0g (by simp) (by simp only [go_sem]) rfl fun hw=>?_
 repeat' (first | refine vs_ ?_ | ((first | refine vr_ ?_ | (refine cs_ ?_ ?_<;>intro hc) | refine cj_ ?_ | fail)<;>(try refine ev_ ?_)) | with_reducible exact ti_)
theorem qbt1:qi Tryz.prog 19 [.nilp] (.tup [.int .i64 0,.int .i64 0]):=by
 refine qd c0h (by simp) (by simp only [go_sem]) rfl fun hw=>?_
 repeat' (first | refine vs_ ?_ | ((first | refine vr_ ?_ | (refine cs_ ?_ ?_<;>intro hc) | refine cj_ ?_ | fail)<;>(try refine ev_ ?_)) | with_reducible exact ti_)
theorem qbu2 (p:Pd) (pos:Int):qi Tryz.prog 25 [.nilp,encP p,.int .i64 pos] (.int .i64 0):=by
 refine qd c0i (by simp) (by simp only [go_sem]) rfl fun hw=>?_
 repeat' (first | refine vs_ ?_ | ((first | refine vr_ ?_ | (refine cs_ ?_ ?_<;>intro hc) | refine cj_ ?_ | fail)<;>(try refine ev_ ?_)) | with_reducible exact ti_)
theorem qbzi:qi Tryz.prog 26 [.nilp] (.int .i64 0):=by
 refine qd c0j (by simp) (by simp only [go_sem]) rfl fun hw=>?_
 repeat' (first | refine vs_ ?_ | ((first | refine vr_ ?_ | (refine cs_ ?_ ?_<;>intro hc) | refine cj_ ?_ | simp (disch:=omega) only [encs_getN,qb])<;>(try refine ev_ ?_)) | with_reducible exact ti_)
theorem qbmt (n:Int):qi Tryz.prog 27 [.nilp,.int .i64 n] (.sl 6 []):=by
 refine qd c0k (by simp) (by simp only [go_sem]) rfl fun hw=>?_
 repeat' (first | refine vs_ ?_ | ((first | refine vr_ ?_ | (refine cs_ ?_ ?_<;>intro hc) | refine cj_ ?_ | simp (disch:=omega) only [encs_getN,qb])<;>(try refine ev_ ?_)) | with_reducible exact ti_)
theorem qbq2 (n:Int) (t:Tm):qi Tryz.prog 28 [.nilp,.int .i64 n,encT t] (.int .i64 1):=by
 refine qd c0l (by simp) (by simp only [go_sem]) rfl fun hw=>?_
 repeat' (first | refine vs_ ?_ | ((first | refine vr_ ?_ | (refine cs_ ?_ ?_<;>intro hc) | refine cj_ ?_ | simp (disch:=omega) only [encs_getN,qb])<;>(try refine ev_ ?_)) | with_reducible exact ti_)
theorem qbwk (t:Tm):qi Tryz.prog 30 [.nilp,encT t] (encT T0):=by
 refine qd c0m (by simp) (by simp only [go_sem]) (qcs 0 _) fun hw=>?_
 have hz:AV.agg [.int .i64 0,.int .i64 0,.str [],.sl 1 [],.sl 3 [],.sl 6 []] = encT T0:=qg7
 repeat' (first | refine vs_ ?_ | ((first | refine vr_ ?_ | fail)<;>(try simp only [hz,go_sem,↓reduceIte])) | ((first | (refine cs_ ?_ ?_<;>intro hc) | refine cj_ ?_ | fail)<;>(try refine ev_ ?_)) | with_reducible exact ti_)
theorem q7m (n:Int):qi Tryz.prog 20 [.nilp,.int .i64 n] (.tup []):=by
 refine qd c0n (by simp) (by simp only [go_sem]) rfl fun hw=>?_
 repeat' (first | refine vs_ ?_ | ((first | refine vr_ ?_ | (refine cs_ ?_ ?_<;>intro hc) | refine cj_ ?_ | fail)<;>(try refine ev_ ?_)) | with_reducible exact ti_)
theorem qqh:qi Tryz.prog 24 [.agg [.sl 1 [],.str [],.int .i64 0,.sl 3 []],.agg [.sl 1 [],.str [],.int .i64 0,.sl 3 []]] (.bool true):=by
 refine qd c0o (by simp) (by simp only [go_sem]) rfl fun hw=>?_
 have hs:qi Tryz.prog 16 [encY Y0,encY Y0] (.bool true):=qll Y0 Y0
 repeat' (first | refine vs_ ?_ | ((first | refine vr_ ?_ | fail)<;>(try simp only [hzY,go_sem,↓reduceIte])) | ((first | (refine cs_ ?_ ?_<;>intro hc) | refine cj_ ?_ | simp (disch:=omega) only [encs_getN,qb] | refine qa hs fun _=>?_ | refine qg hs ?_)<;>(try refine ev_ ?_)) | with_reducible exact ti_)
 refine qp (S:=Unit) (fun _=>True) (fun _=>(⟨[(2,.ptr 0 0),(3,.ptr 1 0),(5,.int .i64 0)],[]⟩,[.blk [.sl 1 [],.str [],.int .i64 0,.sl 3 []],.blk [.sl 1 [],.str [],.int .i64 0,.sl 3 []]])) (fun _=>0) ?_ fun _ _=>?_
 ·refine qm () [0,1] trivial rfl (by simp) ?_ ?_ ?_<;>(try refine ev_ ?_)<;>(try with_reducible exact ti_)<;>(try simp (disch:=omega) only [qb,and_true,true_and])
 ·repeat' (first | refine vs_ ?_ | ((first | refine vr_ ?_ | fail)<;>(try simp only [Int.lt_irrefl,go_sem,↓reduceIte])) | ((first | (refine cs_ ?_ ?_<;>intro hc) | refine cj_ ?_ | simp (disch:=omega) only [encs_getN,qb])<;>(try refine ev_ ?_)) | with_reducible exact ti_)
theorem qk9:qi Tryz.prog 56 [.sl 3 [],.sl 3 []] (.bool true):=by
 refine qd c0p (by simp) (by simp only [go_sem]) rfl fun hw=>?_
 repeat' (first | refine vs_ ?_ | ((first | refine vr_ ?_ | (refine cs_ ?_ ?_<;>intro hc) | refine cj_ ?_ | simp (disch:=omega) only [encs_getN,qb])<;>(try refine ev_ ?_)) | with_reducible exact ti_)
 refine qp (S:=Unit) (fun _=>True) (fun _=>(⟨[(0,.sl 3 []),(1,.sl 3 []),(5,.int .i64 0)],[]⟩,[])) (fun _=>0) ?_ fun _ _=>?_
 ·refine qm () [] trivial rfl (by simp) ?_ ?_ ?_<;>(try refine ev_ ?_)<;>(try with_reducible exact ti_)<;>(try simp (disch:=omega) only [qb,and_true,true_and])
 ·repeat' (first | refine vs_ ?_ | ((first | refine vr_ ?_ | fail)<;>(try simp only [Int.lt_irrefl,go_sem,↓reduceIte])) | ((first | (refine cs_ ?_ ?_<;>intro hc) | refine cj_ ?_ | simp (disch:=omega) only [encs_getN,qb])<;>(try refine ev_ ?_)) | with_reducible exact ti_)
theorem qqu:qi Tryz.prog 29 [encT T0,encT T0] (.bool true):=by
 rw [← qg7]
 refine qd c0q (by simp) (by simp only [go_sem]) rfl fun hw=>?_
 repeat' (first | refine vs_ ?_ | ((first | refine vr_ ?_ | refine qa qk9 fun _=>?_ | refine qg qk9 ?_ | (refine cs_ ?_ ?_<;>intro hc) | refine cj_ ?_ | simp (disch:=omega) only [encs_getN,qb])<;>(try refine ev_ ?_)) | with_reducible exact ti_)
 refine qp (S:=Unit) (fun _=>True) (fun _=>(⟨[(2,.ptr 0 0),(3,.ptr 1 0),(5,.int .i64 0)],[]⟩,[.blk [.int .i64 0,.int .i64 0,.str [],.sl 1 [],.sl 3 [],.sl 6 []],.blk [.int .i64 0,.int .i64 0,.str [],.sl 1 [],.sl 3 [],.sl 6 []]])) (fun _=>0) ?_ fun _ _=>?_
 ·refine qm () [0,1] trivial rfl (by simp) ?_ ?_ ?_<;>(try refine ev_ ?_)<;>(try with_reducible exact ti_)<;>(try simp (disch:=omega) only [qb,and_true,true_and])
 ·repeat' (first | refine vs_ ?_ | ((first | refine vr_ ?_ | fail)<;>(try simp only [Int.lt_irrefl,go_sem,↓reduceIte])) | ((first | (refine cs_ ?_ ?_<;>intro hc) | refine cj_ ?_ | simp (disch:=omega) only [encs_getN,qb])<;>(try refine ev_ ?_)) | with_reducible exact ti_)
  refine qp (S:=Unit) (fun _=>True) (fun _=>(⟨[(2,.ptr 0 0),(3,.ptr 1 0),(6,.int .i64 0)],[]⟩,[.blk [.int .i64 0,.int .i64 0,.str [],.sl 1 [],.sl 3 [],.sl 6 []],.blk [.int .i64 0,.int .i64 0,.str [],.sl 1 [],.sl 3 [],.sl 6 []]])) (fun _=>0) ?_ fun _ _=>?_
  ·refine qm () [0,1] trivial rfl (by simp) ?_ ?_ ?_<;>(try refine ev_ ?_)<;>(try with_reducible exact ti_)<;>(try simp (disch:=omega) only [qb,and_true,true_and])
  ·repeat' (first | refine vs_ ?_ | ((first | refine vr_ ?_ | fail)<;>(try simp only [Int.lt_irrefl,go_sem,↓reduceIte])) | ((first | (refine cs_ ?_ ?_<;>intro hc) | refine cj_ ?_ | simp (disch:=omega) only [encs_getN,qb])<;>(try refine ev_ ?_)) | with_reducible exact ti_)
set_option maxRecDepth 4000

structure Dd where
 kind:Int
 n:Int
 pos:Int
 cls:List UInt8
 a:Ty
 b:Ty
 t:Tm
abbrev ddc (d:Dd):List AV:=[.int .i64 d.kind,.int .i64 d.n,.int .i64 d.pos,.str d.cls,.str d.a.con,.int .i64 d.a.var,.sl 3 (qj d.a.args),.str d.b.con,.int .i64 d.b.var,.sl 3 (qj d.b.args),.int .i64 d.t.kind,.int .i64 d.t.num,.str d.t.name,.sl 1 (ints d.t.vars),.sl 3 (qj d.t.types),.sl 6 (qcg d.t.kids)]
def encD (d:Dd):AV:=.agg (ddc d)
theorem qboa (k:Nat) (d:Dd):(encD d).bd k = true:=by simp only [encD,AV.bd,AV.bds,qfl,qbn,qm3,Bool.and_true]
set_option maxHeartbeats 2000000 in
theorem qk7 (h37:qi Tryz.prog 10 [] (.bool true)) (d:Dd):qi Tryz.prog 5 [encD d] (.bool true):=by
 refine qd c0a (by simp) (by simp only [AV.bds,qboa];rfl) rfl fun hw=>?_
 have hs:qi Tryz.prog 16 [encY Y0,encY Y0] (.bool true):=qll Y0 Y0
 have ha:AV.agg [.str d.a.con,.int .i64 d.a.var,.sl 3 (qj d.a.args)] = encY d.a:=qbh _
 have hb:AV.agg [.str d.b.con,.int .i64 d.b.var,.sl 3 (qj d.b.args)] = encY d.b:=qbh _
 have ht:AV.agg [.int .i64 d.t.kind,.int .i64 d.t.num,.str d.t.name,.sl 1 (ints d.t.vars),.sl 3 (qj d.t.types),.sl 6 (qcg d.t.kids)] = encT d.t:=qb6 _
 have hz:AV.agg [.int .i64 0,.int .i64 0,.str [],.sl 1 [],.sl 3 [],.sl 6 []] = encT T0:=qg7
 have hp:qi Tryz.prog 25 [.nilp,.agg [.str [],.str [],.int .i64 0,.sl 3 []],.int .i64 d.pos] (.int .i64 0):=qbu2 P0 d.pos
 unfold encD
 repeat' (first | refine vs_ ?_ | ((first | refine vr_ ?_ | fail)<;>(try simp only [hzY,ha,hb,ht,hz,go_sem,↓reduceIte])) | ((first | (refine cs_ ?_ ?_<;>intro hc) | refine cj_ ?_ | fail | refine qa (q7m _) fun _=>?_ | refine qa qbt1 fun _=>?_ | refine qa (qbr1 _) fun _=>?_ | refine qa qbza fun _=>?_ | refine qa qbzk fun _=>?_ | refine qa qbtx fun _=>?_ | refine qa hs fun _=>?_ | refine qa qqh fun _=>?_ | refine qa (qbhe _ _ _) fun _=>?_ | refine qa (qbr4 _ _) fun _=>?_ | refine qa hp fun _=>?_ | refine qa qbzi fun _=>?_ | refine qa (qbmt _) fun _=>?_ | refine qa (qbq2 _ _) fun _=>?_ | refine qa (qbwk _) fun _=>?_ | refine qa qqu fun _=>?_ | refine qa h37 fun _=>?_)<;>(try refine ev_ ?_)) | with_reducible exact ti_)
 all_goals trace_state
end Go.Proofs.YtkenggenkmfopaaGreat
