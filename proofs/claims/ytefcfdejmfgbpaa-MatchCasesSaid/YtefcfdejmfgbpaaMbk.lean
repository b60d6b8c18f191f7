/- Texts of this proof, joined. -/
import Derived.Test.YtefcfdejmfgbpaaMbc
import Derived.Test.YtefcfdejmfgbpaaMbi
import Derived.Test.YtefcfdejmfgbpaaMaq
import Derived.Test.YtefcfdejmfgbpaaMbe
set_option linter.unusedVariables false
set_option linter.unusedSimpArgs false

/- matching: what it finds -/
namespace Go.Proofs.Ytefcfdejmfgbpaa
open Go Go.RowKit Go.V

mutual
def subF (f:Int->Ty):Ty->Ty
 | .mk c v l=>if c = [] then f v else .mk c v (qbw f l)
def qbw (f:Int->Ty):List Ty->List Ty
 | []=>[]
 | x :: r=>subF f x :: qbw f r
end
theorem qmq (f:Int->Ty):∀ l,(qbw f l).length = l.length
 | []=>rfl
 | x :: r=>by rw [qbw,List.length_cons,List.length_cons,qmq f r]
def funR (s:List Pr) (v:Int):Ty:=(qp v s).getD (.mk [] v [])
mutual
theorem qo0 (s:List Pr):∀ t,bare t->putY s t = subF (funR s) t
 | .mk c v l, h => by
   rw [bare] at h
   rw [putY,subF]
   split
   ·rename_i hc
    have hl:l = []:=h.1 hc
    subst hl
    rw [funR]
    subst hc
    cases qp v s<;>rfl
   ·rw [qll s l h.2]
theorem qll (s:List Pr):∀ l,qeg l->qda s l = qbw (funR s) l
 | [],_=>by rw [qda,qbw]
 | x :: r, h => by
   rw [qeg] at h
   rw [qda,qbw,qo0 s x h.1,qll s r h.2]
end
mutual
theorem qmh (f g:Int->Ty):∀ t,subF g (subF f t) = subF (fun v=>subF g (f v)) t
 | .mk c v l => by
   rw [subF,subF]
   split
   ·rfl
   ·rename_i hc
    rw [subF,if_neg hc,qj2 f g l]
theorem qj2 (f g:Int->Ty):∀ l,qbw g (qbw f l) = qbw (fun v=>subF g (f v)) l
 | []=>by simp only [qbw]
 | x :: r=>by rw [qbw,qbw,qbw,qmh f g x,qj2 f g r]
end
theorem qbet (c:List UInt8) (v:Int) (l:List Ty):szY (.mk c v l) = 1 + szYs l:=by rw [szY]
theorem qbdm (c:List UInt8) (v:Int) (l:List Ty):dpY (.mk c v l) = 1 + dpYs l:=by rw [dpY]
theorem qoj (c:List UInt8) (v:Int) (l:List Ty):varY (.mk c v l) = (if c = [] then [v] else []) ++ qf7 l:=by rw [varY]
mutual
theorem ql2 (f:Int->Ty):∀ t v,bare t->v∈varY t->szY (f v)≤szY (subF f t)∧dpY (f v)≤dpY (subF f t)∧(qbf (subF f t) = true->qbf (f v) = true)
 | .mk c x l, v, hb, h => by
   rw [bare] at hb
   rw [qoj] at h
   rw [subF]
   split
   ·rename_i hc
    have hl:l = []:=hb.1 hc
    subst hl
    rw [if_pos hc] at h
    simp only [qf7,List.append_nil,List.mem_singleton] at h
    subst h
    exact ⟨Nat.le_refl _,Nat.le_refl _,fun h=>h⟩
   ·rename_i hc
    rw [if_neg hc,List.nil_append] at h
    have h1:=qjp f l v hb.2 h
    refine ⟨by rw [qbet];omega,by rw [qbdm];omega,fun hs=>h1.2.2 ?_⟩
    rw [qbf,Bool.and_eq_true] at hs
    exact hs.1
theorem qjp (f:Int->Ty):∀ l v,qeg l->v∈qf7 l->szY (f v)≤szYs (qbw f l)∧dpY (f v)≤dpYs (qbw f l)∧(qba (qbw f l) = true->qbf (f v) = true)
 | [],v,_,h=>by simp [qf7] at h
 | x :: r, v, hb, h => by
   rw [qeg] at hb
   rw [qf7] at h
   rw [qbw,szYs,dpYs,qba,Bool.and_eq_true]
   rcases List.mem_append.1 h with h | h
   ·have h1:=ql2 f x v hb.1 h
    exact ⟨by omega,by omega,fun hs=>h1.2.2 hs.1⟩
   ·have h1:=qjp f r v hb.2 h
    exact ⟨by omega,by omega,fun hs=>h1.2.2 hs.2⟩
end
theorem qr1 {f:Int->Ty} {t:Ty} (hb:bare t) (h:qi (subF f t) = true) {v:Int} (hv:v∈varY t):qi (f v) = true:=by
 obtain ⟨h1,h2,h3⟩:=(qz _).1 h
 obtain ⟨q1,q2,q3⟩:=ql2 f t v hb hv
 exact (qz _).2 ⟨by omega,by omega,q3 h3⟩
theorem qbcx {s:List Pr} {v:Int} {t:Ty} (h:(setR s v t).2 = 0) (hn:qp v s = none):qi t = true∧(setR s v t).1 = insR v t s:=by
 by_cases hl:qi t = true
 ·rw [qfr hl hn];exact ⟨hl,rfl⟩
 ·rw [qg3 (by simpa using hl)] at h;cases h
mutual
theorem q3n:∀ (p t:Ty) (s:List Pr) (v:Int) (u:Ty),qp v s = some u->qp v (onP p t s).1 = some u
 | .mk c x l, t, s, v, u, h => by
   rw [onP]
   split
   ·cases hl:qp x s with
    | some w=>exact h
    | none =>
      by_cases hlg:qi t = true
      ·dsimp only
       rw [qfr hlg hl]
       dsimp only
       rw [qfc hl]
       by_cases hv:v = x
       ·subst hv;rw [hl] at h;cases h
       ·rw [if_neg hv];exact h
      ·dsimp only
       rw [qg3 (by simpa using hlg)];exact h
   split
   ·split
    ·exact qkr l t.args s v u h
    ·exact h
   ·exact h
theorem qkr:∀ (l m:List Ty) (s:List Pr) (v:Int) (u:Ty),qp v s = some u->qp v (onPs l m s).1 = some u
 | [],m,s,v,u,h=>by rw [onPs];exact h
 | x :: r, m, s, v, u, h => by
   have h1:=q3n x (m.headD Y0) s v u h
   rw [onPs]
   split
   ·exact qkr r m.tail _ v u h1
   ·exact h1
end
theorem qpa {t:Ty} (h:qbf t = true) (hc:t.con≠[]):t.var = 0:=by
 rw [qdy,Bool.and_eq_true] at h
 have h2:=h.2
 rw [mayY,mayW,if_neg hc] at h2
 split at h2
 ·simp at h2;exact h2.1
 split at h2
 ·simp at h2;exact h2.1
 ·simp at h2;exact h2.1
mutual
theorem qpn (f:Int->Ty):∀ (p t:Ty) (s:List Pr),qbf p = true->qbf t = true->(onP p t s).2 = true->(∀ v u,qp v (onP p t s).1 = some u->f v = u)->subF f p = t
 | .mk c x l, t, s, hp, ht, h, hf => by
   rw [onP] at h hf
   rw [subF]
   by_cases hc:c = []
   ·rw [if_pos hc] at h hf ⊢
    cases hl:qp x s with
    | some w =>
      rw [hl] at h hf
      have hs:=(qk4 w t).1 h
      subst hs
      exact hf x w hl
    | none =>
      rw [hl] at h hf
      dsimp only at h hf
      obtain ⟨q1,q2⟩:=qbcx (of_decide_eq_true h) hl
      refine hf x t ?_
      rw [q2,qfc hl,if_pos rfl]
   ·rw [if_neg hc] at h hf ⊢
    by_cases hct:c = t.con
    ·rw [if_pos hct] at h hf
     by_cases hlt:l.length = t.args.length
     ·rw [if_pos hlt] at h hf
      have hp1:qba l = true:=by rw [qbf,Bool.and_eq_true] at hp;exact hp.1
      have ht1:qba t.args = true:=by rw [qdy,Bool.and_eq_true] at ht;exact ht.1
      have h1:=qlq f l t.args s hlt hp1 ht1 h hf
      have hv1:x = 0:=qpa hp hc
      have hv2:t.var = 0:=qpa ht (by rw [← hct];exact hc)
      rw [h1]
      refine ty_eq.2 ⟨⟨hct,?_⟩,rfl⟩
      rw [hv2];exact hv1
     ·rw [if_neg hlt] at h;cases h
    ·rw [if_neg hct] at h;cases h
theorem qlq (f:Int->Ty):∀ (l m:List Ty) (s:List Pr),l.length = m.length->qba l = true->qba m = true->(onPs l m s).2 = true->(∀ v u,qp v (onPs l m s).1 = some u->f v = u)->qbw f l = m
 | [],[],s,_,_,_,_,_=>by rw [qbw]
 | x :: r,[],s,hlm,_,_,_,_=>by simp at hlm
 | [],y :: m,s,hlm,_,_,_,_=>by simp at hlm
 | x :: r, y :: m, s, hlm, hl, hm, h, hf => by
   rw [onPs] at h hf
   rw [qba,Bool.and_eq_true] at hl hm
   show qbw f (x :: r) = y :: m
   by_cases h0:(onP x y s).2 = true
   ·have h0':(onP x ((y :: m).headD Y0) s).2 = true:=h0
    rw [if_pos h0'] at h hf
    have h2:=qlq f r m _ (by simpa using hlm) hl.2 hm.2 h hf
    have h1:=qpn f x y s hl.1 hm.1 h0 fun v u hu=>hf v u (qkr r m _ v u hu)
    rw [qbw,h1,h2]
   ·have h0':¬ (onP x ((y :: m).headD Y0) s).2 = true:=h0
    rw [if_neg h0'] at h;cases h
end
mutual
theorem qiq (f:Int->Ty):∀ (p:Ty) (s:List Pr),bare p->(∀ v u,qp v s = some u->f v = u)->(∀ v,v∈varY p->qi (f v) = true) →
 (onP p (subF f p) s).2 = true∧∀ v u,qp v (onP p (subF f p) s).1 = some u->f v = u
 | .mk c x l, s, hb, hs, hv => by
   rw [bare] at hb
   rw [onP,subF]
   by_cases hc:c = []
   ·rw [if_pos hc,if_pos hc]
    cases hl:qp x s with
    | some w=>exact ⟨by dsimp only;rw [hs x w hl];exact qsk _,hs⟩
    | none =>
      have hlg:=hv x (by rw [qoj,if_pos hc];simp)
      dsimp only
      rw [qfr hlg hl]
      refine ⟨rfl,fun v u hu=>?_⟩
      dsimp only at hu
      rw [qfc hl] at hu
      by_cases hvx:v = x
      ·rw [if_pos hvx] at hu;rw [hvx];simpa using hu
      ·rw [if_neg hvx] at hu;exact hs v u hu
   ·rw [if_neg hc,if_neg hc]
    have h1:c = (Ty.mk c x (qbw f l)).con:=rfl
    have h2:l.length = (Ty.mk c x (qbw f l)).args.length:=(qmq f l).symm
    rw [if_pos h1,if_pos h2]
    exact qgi f l s hb.2 hs fun v hvl=>hv v (by rw [qoj,if_neg hc];exact hvl)
theorem qgi (f:Int->Ty):∀ (l:List Ty) (s:List Pr),qeg l->(∀ v u,qp v s = some u->f v = u)->(∀ v,v∈qf7 l->qi (f v) = true) →
 (onPs l (qbw f l) s).2 = true∧∀ v u,qp v (onPs l (qbw f l) s).1 = some u->f v = u
 | [],s,_,hs,_=>by rw [onPs];exact ⟨rfl,hs⟩
 | x :: r, s, hb, hs, hv => by
   rw [qeg] at hb
   have h1:=qiq f x s hb.1 hs fun v h=>hv v (by rw [qf7];simp [h])
   have e1:(qbw f (x :: r)).headD Y0 = subF f x:=by rw [qbw];rfl
   have e2:(qbw f (x :: r)).tail = qbw f r:=by rw [qbw];rfl
   rw [onPs,e1,e2,if_pos h1.1]
   exact qgi f r _ hb.2 h1.2 fun v h=>hv v (by rw [qf7];simp [h])
end

theorem qyc (p t:Ty) (s:List Pr):qfw [p] [t] s = onP p t s:=by
 rw [qfw,if_pos (by rfl:[p].length = [t].length),onPs]
 show (if (onP p t s).2 = true then onPs [] [] (onP p t s).1 else ((onP p t s).1,false)) = _
 rw [onPs]
 generalize onP p t s = q
 obtain ⟨a,b⟩:=q
 cases b<;>rfl
theorem q0f (p t:Ty):matP p t = if qi p = true∧qi t = true then (if (onP p t []).2 = true then ((onP p t []).1,0) else ([],14)) else ([],1):=by
 rw [matP,allP,qyc]
 simp only [List.all_cons,List.all_nil,Bool.and_true]
theorem qbb7 {p t:Ty} (h:(matP p t).2 = 0):qi p = true∧qi t = true∧(onP p t []).2 = true∧(matP p t).1 = (onP p t []).1:=by
 rw [q0f] at h ⊢
 by_cases h1:qi p = true∧qi t = true
 ·rw [if_pos h1] at h ⊢
  by_cases h2:(onP p t []).2 = true
  ·rw [if_pos h2];exact ⟨h1.1,h1.2,h2,rfl⟩
  ·rw [if_neg h2] at h;cases h
 ·rw [if_neg h1] at h;cases h
theorem qi9 {t:Ty} (h:qi t = true):bare t:=qcp t ((qz t).1 h).2.2
theorem qj7 {p t:Ty} (hp:qi p = true) (ht:qi t = true):abvP p t = true ↔ ∃ f,subF f p = t:=by
 rw [abvP,decide_eq_true_eq]
 constructor
 ·intro h
  obtain ⟨_,_,h3,_⟩:=qbb7 h
  refine ⟨funR (onP p t []).1,qpn _ p t [] ((qz p).1 hp).2.2 ((qz t).1 ht).2.2 h3 fun v u hu=>?_⟩
  rw [funR,hu];rfl
 ·rintro ⟨f,rfl⟩
  have hb:=qi9 hp
  have h1:=qiq f p [] hb (fun v u h=>by simp [qp] at h) fun v hv=>qr1 hb ht hv
  rw [q0f,if_pos ⟨hp,ht⟩,if_pos h1.1]
theorem qlj {p t:Ty} (h:abvP p t = true):qi p = true∧qi t = true:=by
 rw [abvP,decide_eq_true_eq] at h
 obtain ⟨h1,h2,_⟩:=qbb7 h
 exact ⟨h1,h2⟩
theorem qv1 {p t u:Ty} (h1:abvP p t = true) (h2:abvP t u = true):abvP p u = true:=by
 obtain ⟨q1,q2⟩:=qlj h1
 obtain ⟨_,q3⟩:=qlj h2
 obtain ⟨f,hf⟩:=(qj7 q1 q2).1 h1
 obtain ⟨g,hg⟩:=(qj7 q2 q3).1 h2
 exact (qj7 q1 q3).2 ⟨_,by rw [← qmh,hf,hg]⟩
theorem qwd {s:List Pr} {p:Ty} (hs:okS s) (he:(appR s p).2 = 0):abvP p (appR s p).1 = true:=by
 obtain ⟨h1,h2,h3⟩:=qfz hs he
 rw [h3]
 exact (qj7 h1 h2).2 ⟨funR s,(qo0 s p (qi9 h1)).symm⟩
/-! the reference's -/


def Suf (r:Rd) (k:Nat) (p:Ty×Rd):Prop:=(∃ j,p.2.s = r.s.drop j)∧p.2.lv = r.lv∧p.1.args.length + p.2.s.length≤k + r.s.length
theorem qe5 {r r1:Rd} {k:Nat} {p:Ty×Rd} (h:(∃ j,r1.s = r.s.drop j)∧r1.lv = r.lv) (hp:Suf r1 k p) {k':Nat} (hl:k + r1.s.length≤k' + r.s.length):Suf r k' p:=by
 obtain ⟨⟨j,h1⟩,h2⟩:=h
 obtain ⟨⟨i,h3⟩,h4,h5⟩:=hp
 exact ⟨⟨j + i,by rw [h3,h1,List.drop_drop]⟩,h4.trans h2,by omega⟩
theorem qqr (s:List UInt8):(qkt s).args = []:=by
 unfold qkt
 split
 ·rfl
 split
 ·split<;>rfl
 ·rfl
theorem qw0 (r:Rd):Suf r 0 (qkd r):=⟨⟨qdz r.s,rfl⟩,rfl,by simp [qkd,qqr,badR,cutR]⟩
theorem qep (k:Nat) (r:Rd):(cutR k r).s.length = r.s.length - k:=by simp [cutR]
theorem qez {p s:List UInt8} (h:pfx p s = true):p.length≤s.length:=by
 simp only [pfx,decide_eq_true_eq] at h
 have:=congrArg List.length h
 rw [List.length_take] at this
 omega
theorem q49 {r:Rd} {p:Ty×Rd} (h:Suf r 0 p):Suf r 0 (endA p):=by
 obtain ⟨⟨j,h1⟩,h2,h3⟩:=h
 unfold endA
 repeat' split
 ·exact ⟨⟨j,h1⟩,h2,h3⟩
 ·refine ⟨⟨j + 1,by rw [cutR,h1,List.drop_drop]⟩,h2,?_⟩
  rw [qep];dsimp only;omega
 ·exact ⟨⟨j,h1⟩,h2,h3⟩
theorem q1u:∀ n,(∀ r,Suf r 0 (qco n r)∨n = 0)∧(∀ r,Suf r 0 (qde n r)∨n = 0)∧(∀ t r,Suf r t.args.length (qiy n t r))∧(∀ p k (r:Rd),Suf r k p->Suf (lvR (r.lv - 1) r) k (qs7 n p)):=by
 intro n
 induction n with
 | zero =>
   refine ⟨fun r=>.inr rfl,fun r=>.inr rfl,fun t r=>?_,fun p k r h=>?_⟩
   ·rw [qiy];exact ⟨⟨0,rfl⟩,rfl,Nat.le_refl _⟩
   ·rw [qs7];obtain ⟨h1,h2,h3⟩:=h;exact ⟨h1,by show p.2.lv - 1 = r.lv - 1;rw [h2],h3⟩
 | succ n ih =>
   obtain ⟨iA,iT,iM,iL⟩:=ih
   have hA0:∀ r,Suf r 0 (qco n r):=fun r=>by
    rcases iA r with h | rfl
    ·exact h
    ·rw [qco];exact ⟨⟨0,rfl⟩,rfl,by show ([]:List Ty).length + _≤_;simp⟩
   have hT0:∀ r,Suf r 0 (qde n r):=fun r=>by
    rcases iT r with h | rfl
    ·exact h
    ·rw [qde];exact ⟨⟨0,rfl⟩,rfl,by show ([]:List Ty).length + _≤_;simp⟩
   refine ⟨fun r=>.inl ?_,fun r=>.inl ?_,fun t r=>?_,fun p k r h=>?_⟩
   ·rw [qco]
    split
    ·have h0:(∃ j,(cutR 1 r).s = r.s.drop j)∧(cutR 1 r).lv = r.lv:=⟨⟨1,rfl⟩,rfl⟩
     exact q49 (qe5 h0 (hT0 (cutR 1 r)) (by rw [qep];omega))
    ·exact qw0 r
   ·rw [qde]
    split
    ·exact ⟨⟨0,rfl⟩,rfl,by show ([]:List Ty).length + _≤_;simp [badR]⟩
    ·have h1:=hA0 (lvR (r.lv + 1) r)
     have h2:=iM (qco n (lvR (r.lv + 1) r)).1 (qco n (lvR (r.lv + 1) r)).2
     have h3:Suf (lvR (r.lv + 1) r) 0 (qiy n (qco n (lvR (r.lv + 1) r)).1 (qco n (lvR (r.lv + 1) r)).2):=by
      refine qe5 ⟨h1.1,h1.2.1⟩ h2 h1.2.2
     have h4:=iL _ 0 _ h3
     obtain ⟨⟨j,q1⟩,q2,q3⟩:=h4
     refine ⟨⟨j,q1⟩,?_,q3⟩
     rw [q2]
     show r.lv + 1 - 1 = r.lv
     omega
   ·rw [qiy]
    split
    ·rename_i hc
     have hl:=qez hc.2.2
     simp only [List.length_cons,List.length_nil] at hl
     have h1:=hA0 (cutR 1 r)
     have h2:=iM (.mk t.con t.var (t.args ++ [(qco n (cutR 1 r)).1])) (qco n (cutR 1 r)).2
     obtain ⟨⟨j,q1⟩,q2,q3⟩:=h1
     rw [qep] at q3
     have h0:(∃ j,(qco n (cutR 1 r)).2.s = r.s.drop j)∧(qco n (cutR 1 r)).2.lv = r.lv:=⟨⟨1 + j,by rw [q1,cutR,List.drop_drop]⟩,q2⟩
     refine qe5 h0 h2 ?_
     show (t.args ++ [(qco n (cutR 1 r)).1]).length + _≤_
     rw [List.length_append,List.length_singleton]
     omega
    ·exact ⟨⟨0,rfl⟩,rfl,Nat.le_refl _⟩
   ·rw [qs7]
    obtain ⟨⟨j,h1⟩,h2,h3⟩:=h
    split
    ·rename_i hc
     have hl:=qez hc.2
     simp only [arrS,List.length_cons,List.length_nil] at hl
     obtain ⟨⟨i,q1⟩,q2,q3⟩:=hT0 (cutR 4 p.2)
     rw [qep] at q3
     refine ⟨⟨j + 4 + i,?_⟩,?_,?_⟩
     ·show (qde n (cutR 4 p.2)).2.s = _
      rw [q1,cutR,h1,List.drop_drop,List.drop_drop,← Nat.add_assoc];rfl
     ·show (qde n (cutR 4 p.2)).2.lv - 1 = r.lv - 1
      rw [q2];show p.2.lv - 1 = _;rw [h2]
     ·show 2 + (qde n (cutR 4 p.2)).2.s.length≤k + r.s.length
      omega
    ·exact ⟨⟨j,h1⟩,by show p.2.lv - 1 = r.lv - 1;rw [h2],h3⟩
theorem qow {n:Nat} (hn:n≠0) (r:Rd):Suf r 0 (qco n r):=((q1u n).1 r).resolve_right hn
theorem qyi {n:Nat} (hn:n≠0) (r:Rd):Suf r 0 (qde n r):=((q1u n).2.1 r).resolve_right hn
theorem qy2 (n:Nat) (t:Ty) (r:Rd):Suf r t.args.length (qiy n t r):=(q1u n).2.2.1 t r
theorem qbbt {r:Rd} {k:Nat} {p:Ty×Rd} (h:Suf r k p) (hk:ascS r.s):ascS p.2.s:=by obtain ⟨⟨j,h1⟩,_⟩:=h;rw [h1];exact qcs hk j
end Go.Proofs.Ytefcfdejmfgbpaa
