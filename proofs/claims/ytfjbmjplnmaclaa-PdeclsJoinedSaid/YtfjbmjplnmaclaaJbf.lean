/- Texts of this proof, joined. -/
import Derived.Test.YtfjbmjplnmaclaaJbe
import Derived.Test.YtfjbmjplnmaclaaJbd
set_option linter.unusedVariables false
set_option linter.unusedSimpArgs false

/- the words of two texts, one behind the other -/
namespace Go.Proofs.Ytfjbmjplnmaclaa.JN
open Go Go.RowKit Go.V
set_option linter.unusedSectionVars false

theorem qgm (f:Int->Bool):∀ (l r:List UInt8),qz f (l ++ r) = if qz f l < l.length then qz f l else l.length + qz f r
 | [],r=>by simp [qz]
 | c :: l, r => by
   rw [List.cons_append]
   by_cases h:f c.toNat = true
   ·rw [qh6 h,qh6 h,qgm f l r,List.length_cons]
    split<;>split<;>omega
   ·have h:f c.toNat = false:=by simpa using h
    rw [qie (l:=c :: l) (by simpa using h),qie (l:=c :: (l ++ r)) (by simpa using h),if_pos (by simp)]
section
variable {v:List UInt8}
theorem qsv {f:Int->Bool} (hf:f 10 = false) (l:List UInt8):qz f (l ++ 10 :: v) = qz f l:=by
 have h0:qz f (10 :: v) = 0:=qie (by simpa using hf)
 have:=qdm f l
 rw [qgm,h0]
 split<;>omega
theorem qbfy {m l:List UInt8} (hm:(10:UInt8) ∉ m):pfx m (l ++ 10 :: v) = pfx m l:=by
 unfold pfx
 by_cases h:m.length≤l.length
 ·rw [List.take_append_of_le_length h]
 ·have h1:¬ l.take m.length = m:=by
   intro e
   have:=congrArg List.length e
   rw [List.length_take] at this;omega
  have h2:¬ (l ++ 10 :: v).take m.length = m:=by
   intro e
   apply hm
   rw [← e,List.take_append,List.mem_append]
   refine .inr ?_
   rw [show m.length - l.length = (m.length - l.length - 1) + 1 by omega,List.take_succ_cons]
   simp
  rw [decide_eq_false h1,decide_eq_false h2]
theorem q1g {l:List UInt8}:∀ {ms:List (List UInt8)},(∀ m∈ms,(10:UInt8) ∉ m)->qka (l ++ 10 :: v) ms = qka l ms
 | [],_=>rfl
 | m :: r,h=>by rw [qka,qka,qbfy (h m (by simp)),q1g fun x hx=>h x (by simp [hx])]
theorem q48 (l:List UInt8):qir (l ++ 10 :: v) = qir l:=q1g (by decide)
theorem qot {l:List UInt8} (hl:l≠[]):(l ++ 10 :: v).getD 0 0 = l.getD 0 0:=qq4 hl
theorem qye {l:List UInt8} {n:Nat} (h:n≤l.length):(l ++ 10 :: v).take n = l.take n:=List.take_append_of_le_length h
theorem qbex {l:List UInt8} (hl:l≠[]) (he:(qcf l).2 = 0):qcf (l ++ 10 :: v) = qcf l:=by
 by_cases hd:qcd (l.getD 0 0).toNat = true
 ·rw [qjg hd,qjg (by rw [qot hl];exact hd),qsv (by decide),qye (qdm _ _)]
 ·have hd:qcd (l.getD 0 0).toNat = false:=by simpa using hd
  by_cases ho:(onW (l.getD 0 0).toNat && !decide (((l.getD 0 0).toNat:Int) = 39)) = true
  ·rw [qk2 hd ho,qk2 (by rw [qot hl];exact hd) (by rw [qot hl];exact ho),qsv (by decide),qye (qdm _ _)]
  ·have ho:(onW (l.getD 0 0).toNat && !decide (((l.getD 0 0).toNat:Int) = 39)) = false:=by simpa using ho
   by_cases hm:qir l = 0
   ·rw [qs7 hd ho hm] at he;simp at he
   ·rw [qf6 hd ho hm,qf6 (by rw [qot hl];exact hd) (by rw [qot hl];exact ho) (by rw [q48];exact hm),q48,qye (qn7 _)]
theorem qta {l:List UInt8} {n:Nat} (h:n≤l.length):(l ++ 10 :: v).drop n = l.drop n ++ 10 :: v:=List.drop_append_of_le_length h
theorem qbbu {l:List UInt8}:qd8 (l ++ 10 :: v) = if qz qc0 l < l.length then qd8 l else l.length + qd8 (10 :: v):=by
 have hb:=qgm qc0 l (10 :: v)
 by_cases h:qz qc0 l < l.length
 ·rw [if_pos h] at hb ⊢
  unfold qd8
  rw [hb,qta (by omega),qbfy (by decide)]
  split
  ·rw [qsv (by decide)]
  ·rfl
 ·rw [if_neg h] at hb ⊢
  unfold qd8
  rw [hb,show (l ++ 10 :: v).drop (l.length + qz qc0 (10 :: v)) = (10 :: v).drop (qz qc0 (10 :: v)) by rw [List.drop_append];simp]
  split<;>omega
theorem qsh:qbr (10 :: v) = 1 + qbr v:=qxy (by decide)
theorem q74:qd8 (10 :: v)≠0:=by
 intro h
 have:=qg9 h
 rw [qsh] at this;omega
theorem q0r:∀ (n:Nat) (l:List UInt8),l.length≤n->qbr (l ++ 10 :: v) = if qbr l < l.length then qbr l else l.length + 1 + qbr v:=by
 intro n
 induction n with
 | zero =>
   intro l hn
   have:l = []:=List.eq_nil_of_length_eq_zero (by omega)
   subst this
   rw [List.nil_append,qsh,if_neg (by simp)];simp
 | succ n ih =>
   intro l hn
   have hle:=qkw l
   have hlw:=qk9 l
   have hK:=qbbu (v:=v) (l:=l)
   by_cases h:qz qc0 l < l.length
   ·rw [if_pos h] at hK
    by_cases h0:qd8 l = 0
    ·rw [qg9 (l:=l ++ 10 :: v) (by rw [hK];exact h0),qg9 h0,if_pos (by omega)]
    ·rw [qhh (l:=l ++ 10 :: v) (by rw [hK];exact h0),hK,qta hle,ih _ (by rw [List.length_drop];omega)]
     rw [qhh h0] at hlw ⊢
     rw [List.length_drop]
     split<;>split<;>omega
   ·rw [if_neg h] at hK
    have hw:qbr l = l.length:=by
     have h2:=qdm qc0 l
     have h3:qz qc0 l = l.length:=by omega
     have h4:qd8 l = l.length:=by
      unfold qd8
      rw [h3,List.drop_length]
      rfl
     by_cases h0:l.length = 0
     ·rw [qg9 (by omega)];omega
     ·rw [qhh (by omega),h4,List.drop_length];rfl
    have hk0:=q74 (v:=v)
    have h1:=qsh (v:=v)
    rw [qhh hk0] at h1
    rw [qhh (by omega),hK,show (l ++ 10 :: v).drop (l.length + qd8 (10 :: v)) = (10 :: v).drop (qd8 (10 :: v)) by rw [List.drop_append];simp,hw,if_neg (by omega)]
    omega
def endV (v s:List UInt8) (k:Nat):Nat:=if k < s.length then k else s.length + 1 + qbr v
theorem qjv (r:LR):appR [] r = r:=by
 unfold appR
 split
 ·rfl
 ·rfl
theorem q7o {s:List UInt8}:∀ (n k:Nat),s.length - k≤n->k≤s.length->(lexG s k).2.2 = 0->lexG (s ++ 10 :: v) (endV v s k) = appR (lexG s k).1 (lexG (s ++ 10 :: v) (s.length + 1 + qbr v))
 | n, k, hn, hk, h => by
   by_cases h1:k < s.length
   ·rw [endV,if_pos h1]
    by_cases h2:(qcf (s.drop k)).2 = 0
    ·cases n with
     | zero=>omega
     | succ n =>
     have hlt:=qmk h1 h2
     have hle:=qxx (Nat.le_of_lt h1)
     have hne:s.drop k≠[]:=by intro e;have:=congrArg List.length e;simp at this;omega
     have hd:=qta (v:=v) (l:=s) (n:=k) (by omega)
     have hw:=qbex (v:=v) hne h2
     have hN:lexN (s ++ 10 :: v) k = lexN s k:=by unfold lexN;rw [hd,hw]
     have hNl:=qx5 (Nat.le_of_lt h1)
     have hK:lexK (s ++ 10 :: v) k = endV v s (lexK s k):=by
      unfold lexK
      rw [hN,qta hNl,q0r _ _ (Nat.le_refl _),List.length_drop,endV]
      have:=qk9 (s.drop (lexN s k))
      rw [List.length_drop] at this
      split<;>split<;>omega
     have hT:lexT (s ++ 10 :: v) k = lexT s k:=by unfold lexT;rw [hd,hw]
     have h0:(lexG s (lexK s k)).2.2 = 0:=by
      rw [qm0 h1 h2,appR] at h
      split at h
      ·rename_i e;exact e
      ·exact h
     have g:=q7o n (lexK s k) (by omega) hle h0
     rw [qm0 h1 h2,qm0 (s:=s ++ 10 :: v) (by rw [List.length_append];omega) (by rw [hd,hw];exact h2),hK,hT,g,qzw,show (appR [lexT s k] (lexG s (lexK s k))).1 = [lexT s k] ++ (lexG s (lexK s k)).1 by rw [appR,if_pos h0]]
    ·rw [q8b h1 h2] at h;exact absurd h h2
   ·rw [endV,if_neg h1,q1o h1,qjv]
end
theorem qy0 {p v:List UInt8}:∀ (n k:Nat),v.length - k≤n->(lexG v k).2.2 = 0->(lexG (p ++ v) (p.length + k)).2.2 = 0∧(lexG (p ++ v) (p.length + k)).1.map bare = (lexG v k).1.map bare
 | n, k, hn, h => by
   by_cases h1:k < v.length
   ·by_cases h2:(qcf (v.drop k)).2 = 0
    ·cases n with
     | zero=>omega
     | succ n =>
     have hlt:=qmk h1 h2
     have hd:∀ j,(p ++ v).drop (p.length + j) = v.drop j:=fun j=>by rw [List.drop_append];simp
     have hN:lexN (p ++ v) (p.length + k) = p.length + lexN v k:=by unfold lexN;rw [hd];omega
     have hK:lexK (p ++ v) (p.length + k) = p.length + lexK v k:=by unfold lexK;rw [hN,hd];omega
     have h0:(lexG v (lexK v k)).2.2 = 0:=by
      rw [qm0 h1 h2,appR] at h
      split at h
      ·rename_i e;exact e
      ·exact h
     obtain ⟨g1,g2⟩:=qy0 n (lexK v k) (by omega) h0
     rw [qm0 h1 h2,qm0 (s:=p ++ v) (by rw [List.length_append];omega) (by rw [hd];exact h2),hK,appR,appR,if_pos h0,if_pos g1]
     refine ⟨g1,?_⟩
     have hT:bare (lexT (p ++ v) (p.length + k)) = bare (lexT v k):=by unfold lexT bare;rw [hd]
     simp only [List.map_append,List.map_cons,List.map_nil,g2,hT]
    ·rw [q8b h1 h2] at h;exact absurd h h2
   ·rw [q1o h1,q1o (s:=p ++ v) (by rw [List.length_append];omega)]
    exact ⟨rfl,rfl⟩
theorem qno {s:List UInt8} (hs:s.length≤1048576):((lexV s).2.2 = 0 ↔ (lexG s (qbr s)).2.2 = 0)∧((lexV s).2.2 = 0->remT (newK (lexV s).1) = (lexG s (qbr s)).1):=by
 have e1:=q2z (s:=s) hs
 have ha:∀ (l:List T) (t:T),(∀ u∈l,u.kind≠0)->t.kind = 0->qey (l ++ [t]) = l:=by
  intro l t hl ht
  induction l with
  | nil=>simp [qey,ht]
  | cons u r ih=>rw [List.cons_append,qey,if_neg (hl u (by simp)),ih (fun v hv=>hl v (by simp [hv]))]
 by_cases h:(lexG s (qbr s)).2.2 = 0
 ·rw [if_pos h] at e1
  rw [e1]
  refine ⟨⟨fun _=>h,fun _=>rfl⟩,fun _=>?_⟩
  show (qey ((lexG s (qbr s)).1 ++ [_])).drop 0 = _
  rw [List.drop_zero]
  exact ha (lexG s (qbr s)).1 ⟨0,s.length,0,[]⟩ (fun t ht=>(q0f _ _ h t ht).2) rfl
 ·rw [if_neg h] at e1
  rw [e1]
  exact ⟨Iff.rfl,fun q=>absurd q h⟩
theorem q0d {s v:List UInt8} (hs:s.length + v.length≤1000000) (h:(lexV s).2.2 = 0) (hv:(lexG v (qbr v)).2.2 = 0):(lexV (s ++ 10 :: v)).2.2 = 0∧∃ wv,remT (newK (lexV (s ++ 10 :: v)).1) = remT (newK (lexV s).1) ++ wv∧wv.map bare = (lexG v (qbr v)).1.map bare:=by
 obtain ⟨a1,a2⟩:=qno (s:=s) (by omega)
 obtain ⟨b1,b2⟩:=qno (s:=s ++ 10 :: v) (by rw [List.length_append,List.length_cons];omega)
 have h1:=a1.1 h
 have hK:qbr (s ++ 10 :: v) = endV v s (qbr s):=q0r _ _ (Nat.le_refl _)
 have hG:=q7o (v:=v) _ _ (Nat.le_refl _) (qk9 s) h1
 obtain ⟨c1,c2⟩:=qy0 (p:=s ++ [10]) (v:=v) _ (qbr v) (Nat.le_refl _) hv
 have hp:s ++ 10 :: v = (s ++ [10]) ++ v:=by simp
 have hpl:(s ++ [10]).length + qbr v = s.length + 1 + qbr v:=by simp
 rw [← hp,hpl] at c1 c2
 rw [← hK,appR,if_pos c1] at hG
 have hz:(lexV (s ++ 10 :: v)).2.2 = 0:=b1.2 (by rw [hG];exact c1)
 refine ⟨hz,(lexG (s ++ 10 :: v) (s.length + 1 + qbr v)).1,?_,c2⟩
 rw [b2 hz,a2 h,hG]
theorem q2g {t:List UInt8} (h:(lexG t (qbr t)).2.2 = 0):qbr (59 :: t) = 0∧(lexG (59 :: t) 0).2.2 = 0∧∃ sm tb,(lexG (59 :: t) 0).1 = sm :: tb∧isS sm∧tb.map bare = (lexG t (qbr t)).1.map bare:=by
 have h0:qbr (59 :: t) = 0:=by
  refine ql2 ?_ ?_
  ·simp [pfx]
  ·exact qie (show qc0 (((59:UInt8).toNat:Nat):Int) = false by decide)
 have hm:qir (59 :: t) = 1:=by
  simp [qir,marksW,qka,pfx]
 have hw:qcf (59 :: t) = (⟨5,0,0,[59]⟩,0):=by
  rw [qf6 (l:=59 :: t) (show qcd (((59:UInt8).toNat:Nat):Int) = false by decide) (show (onW (((59:UInt8).toNat:Nat):Int) && !decide ((((59:UInt8).toNat:Nat):Int) = 39)) = false by decide) (by rw [hm];decide),hm];rfl
 have hl:0 < (59 :: t).length:=by simp
 have hN:lexN (59 :: t) 0 = 1:=by unfold lexN;rw [List.drop_zero,hw];rfl
 have hK:lexK (59 :: t) 0 = 1 + qbr t:=by unfold lexK;rw [hN];rfl
 obtain ⟨c1,c2⟩:=qy0 (p:=[59]) (v:=t) _ (qbr t) (Nat.le_refl _) h
 have hpl:([59]:List UInt8).length + qbr t = 1 + qbr t:=rfl
 rw [List.singleton_append,hpl] at c1 c2
 have e:=qm0 (s:=59 :: t) (k:=0) hl (by rw [List.drop_zero,hw])
 rw [hK,appR,if_pos c1] at e
 refine ⟨h0,by rw [e];exact c1,lexT (59 :: t) 0,_,by rw [e];rfl,?_,c2⟩
 unfold lexT
 rw [List.drop_zero,hw]
 exact ⟨.inr rfl,rfl⟩

theorem qbbz:∀ n,dp (qj n) = dp n∧sz (qj n) = sz n:=N.ind fun n ih=>by
 rw [qqe,qxi,qxi n,qhv,qhv n]
 show dps (qkq n.kids) + 1 = _∧szs (qkq n.kids) + 1 = _
 rw [qgd]
 have:∀ l:List N,(∀ x∈l,dp (qj x) = dp x∧sz (qj x) = sz x)->dps (l.map qj) = dps l∧szs (l.map qj) = szs l:=fun l=>by
  induction l with
  | nil=>exact fun _=>⟨rfl,rfl⟩
  | cons x l ihl =>
    intro h
    obtain ⟨h1,h2⟩:=h x (by simp)
    obtain ⟨h3,h4⟩:=ihl fun y hy=>h y (by simp [hy])
    rw [List.map_cons,dps,dps,szs,szs,h1,h2,h3,h4]
    exact ⟨rfl,rfl⟩
 obtain ⟨h1,h2⟩:=this n.kids ih
 exact ⟨by rw [h1],by rw [h2]⟩
theorem qbiz {a b:N} (h:NS a b):qit a b = true:=by
 have h:qj a = qj b:=h
 have key:∀ a b:N,qj a = qj b->qit a b = true:=N.ind fun a ih b h=>by
  rw [qqe,qqe,qgd,qgd] at h
  obtain ⟨h1,_,h3,h4,h5⟩:=N.mk.inj h
  rw [qj0,decide_eq_true h1,decide_eq_true h4,decide_eq_true h3,Bool.true_and,Bool.true_and,Bool.true_and]
  have:∀ l m:List N,(∀ x∈l,∀ y,qj x = qj y->qit x y = true)->l.map qj = m.map qj->qet l m = true:=fun l=>by
   induction l with
   | nil =>
     intro m _ e
     cases m with
     | nil=>rfl
     | cons _ _=>cases e
   | cons x l ihl =>
     intro m hx e
     cases m with
     | nil=>cases e
     | cons y m =>
       rw [List.map_cons,List.map_cons] at e
       obtain ⟨e1,e2⟩:=List.cons.inj e
       rw [qet,hx x (by simp) y e1,ihl m (fun z hz=>hx z (by simp [hz])) e2];rfl
  exact this _ _ ih h5
 exact key a b h
theorem q43:∀ a b:List N,dps (a ++ b) = max (dps a) (dps b)
 | [],b=>by rw [List.nil_append,dps];omega
 | x :: a,b=>by rw [List.cons_append,dps,dps,q43 a b];omega
theorem q5p {l m:List N} (h:l.map qj = m.map qj):dps l = dps m:=by
 have key:∀ l:List N,dps (l.map qj) = dps l:=fun l=>by
  induction l with
  | nil=>rfl
  | cons x r ih=>rw [List.map_cons,dps,dps,ih,(qbbz x).1]
 rw [← key l,h,key m]
theorem qbir {c:K} (h:(qhg c).2 = 0):c.err = 0∧remT c = []:=by
 have he:=qbf8 h
 refine ⟨he,?_⟩
 unfold qhg at h
 rw [if_pos he] at h
 by_cases hl:c.at' < c.l.length
 ·rw [if_pos hl] at h;cases h
 ·exact List.drop_of_length_le (by omega)
theorem qbic {c:K} (he:c.err = 0) (h:remT c = []):(qhg c).2 = 0:=by
 unfold qhg
 have:¬ c.at' < c.l.length:=by
  have:=congrArg List.length h
  simp [remT] at this;omega
 rw [if_pos he,if_neg this]
theorem prog_is {s:List UInt8} (h:(qdr s).2.2 = 0):(lexV s).2.2 = 0∧(rowS qp qcb false (newK (lexV s).1) []).2.1.err = 0∧remT (rowS qp qcb false (newK (lexV s).1) []).2.1 = []∧qdr s = (qew (rowS qp qcb false (newK (lexV s).1) []).2.2.1,0,0)∧depR (qew (rowS qp qcb false (newK (lexV s).1) []).2.2.1)≤100:=by
 unfold qdr q3f at h ⊢
 by_cases hl:(lexV s).2.2 = 0
 ·rw [if_pos hl] at h ⊢
  unfold qqu at h ⊢
  simp only [Option.getD_some] at h ⊢
  unfold q0i at h ⊢
  by_cases hd:(qhg (rowS qp qcb false (newK (lexV s).1) []).2.1).2 = 0
  ·rw [if_pos hd] at h ⊢
   obtain ⟨a,b⟩:=qbir hd
   by_cases hp:depR (qew (rowS qp qcb false (newK (lexV s).1) []).2.2.1) > 100
   ·rw [if_pos hp] at h;cases h
   ·rw [if_neg hp];exact ⟨hl,a,b,rfl,by omega⟩
  ·rw [if_neg hd] at h;exact absurd h hd
 ·rw [if_neg hl] at h;exact absurd h hl
theorem qbm7 {s:List UInt8} {l:List N} (hl:(lexV s).2.2 = 0) (he:(rowS qp qcb false (newK (lexV s).1) []).2.1.err = 0) (hr:remT (rowS qp qcb false (newK (lexV s).1) []).2.1 = []) (hL:(rowS qp qcb false (newK (lexV s).1) []).2.2.1 = l) (hd:depR (qew l)≤100):qdr s = (qew l,0,0):=by
 unfold qdr q3f
 rw [if_pos hl]
 unfold qqu
 simp only [Option.getD_some]
 unfold q0i
 rw [if_pos (qbic he hr),hL,if_neg (by omega)]
theorem qbim (l:List T):(newK l).err = 0:=rfl
theorem qtw (l:List T):(newK l).nest = 0:=rfl
theorem q05 {c:K} (he:c.err = 0) (hr:remT c = []):(rowS qp qcb false c []).2.2.1 = []:=by
 unfold rowS
 have m1:qcb false c = (false,c,false):=by
  unfold qcb
  rw [if_pos (by rw [qn0 hr he])]
 rw [rowF,m1,if_neg noB]
theorem sz_prog {s:List UInt8} (hs:s.length≤100000):sz (qew (rowS qp qcb false (newK (lexV s).1) []).2.2.1)≤1000000:=by
 have h1:=q1j (newK (lexV s).1)
 have h2:=qju (lexV s).1
 have h3:=(qio s).2
 have h4:rest (newK (lexV s).1) = (qey (lexV s).1).length:=rfl
 unfold qqu at h1
 simp only [Option.getD_some] at h1
 omega
theorem law_joined {s t:List UInt8} (hs:s.length≤2000) (ht:t.length≤2000) (h1:(qdr s).2.2 = 0) (h2:(qdr t).2.2 = 0) (hne:(qdr s).1.kids≠[]) :
 (∃ x,qdr (s ++ [10,59] ++ t) = (x,0,0)∧qit x (qew ((qdr s).1.kids ++ (qdr t).1.kids)) = true)∨(∃ x,qdr (s ++ [10] ++ t) = (x,0,0)∧qit x (qew ((qdr s).1.kids ++ (qdr t).1.kids)) = true):=by
 obtain ⟨ls,es,rs,ps,ds⟩:=prog_is h1
 obtain ⟨lt,et,rt,pt,dt⟩:=prog_is h2
 have zs:=sz_prog (s:=s) (by omega)
 have zt:=sz_prog (s:=t) (by omega)
 rw [ps] at hne ⊢
 rw [pt]
 show (∃ x,_∧qit x (qew ((rowS qp qcb false (newK (lexV s).1) []).2.2.1 ++ (rowS qp qcb false (newK (lexV t).1) []).2.2.1)) = true)∨(∃ x,_∧qit x (qew ((rowS qp qcb false (newK (lexV s).1) []).2.2.1 ++ (rowS qp qcb false (newK (lexV t).1) []).2.2.1)) = true)
 have hne:(rowS qp qcb false (newK (lexV s).1) []).2.2.1≠[]:=hne
 have hkS:NoEnd (newK (lexV s).1):=fun u hu=>qh2 hu
 have hkT:NoEnd (newK (lexV t).1):=fun u hu=>qh2 hu
 have gS:=qk1 (qio s).1
 have gT:=qk1 (qio t).1
 have hrS:remT (newK (lexV s).1)≠[]:=fun q=>hne (q05 rfl q)
 obtain ⟨core,tr,l,i1,i2,i3,i4,i5,_⟩:=qbpr (rest (newK (lexV s).1) + 1) _ [] gS rfl hkS hrS (Nat.lt_succ_self _) es rs
 have i4:(rowS qp qcb false (newK (lexV s).1) []).2.2.1 = l:=i4
 have wt2:=(qno (s:=t) (by omega)).2 lt
 have lt0:=(qno (s:=t) (by omega)).1.1 lt
 -- whatever text has these words
 have fin:∀ (u:List UInt8) (sm:T) (tb:List T),u.length≤10000->(lexV u).2.2 = 0->remT (newK (lexV u).1) = core ++ sm :: tb->isS sm->tb.map bare = (remT (newK (lexV t).1)).map bare →
  ∃ x,qdr u = (x,0,0)∧qit x (qew ((rowS qp qcb false (newK (lexV s).1) []).2.2.1 ++ (rowS qp qcb false (newK (lexV t).1) []).2.2.1)) = true:=fun u sm tb hu hlu hw hsm htb=>by
  have hkU:NoEnd (newK (lexV u).1):=fun u hu=>qh2 hu
  have gU:=qk1 (qio u).1
  have hlk:Like (newK (lexV s).1) (newK (lexV u).1):=⟨gU,qbim _,(qtw _).trans (qtw _).symm,hkU⟩
  obtain ⟨l',d',f'',j1,j2,j3,j4,j5⟩:=i5 _ core sm tb (rest (newK (lexV u).1) + 1) [] hlk rfl hw hsm (Nat.lt_succ_self _)
  rw [List.nil_append] at j2
  obtain ⟨f3,rfl⟩:∃ f3,f'' = f3 + 1:=⟨f'' - 1,by omega⟩
  obtain ⟨b1,b2,b3⟩:=qev j3 j4.e
  rw [qk3 j4.k j4.e j3 hsm] at j2
  -- the rows of both, one behind the other
  have hfin:∃ lb,lb.map qj = (rowS qp qcb false (newK (lexV t).1) []).2.2.1.map qj∧(rowS qp qcb false (newK (lexV u).1) []).2.2.1 = l' ++ lb∧(rowS qp qcb false (newK (lexV u).1) []).2.1.err = 0∧remT (rowS qp qcb false (newK (lexV u).1) []).2.1 = []:=by
   unfold rowS
   rw [j2]
   by_cases h0:tb = []
   ·rw [if_pos h0]
    have hT0:remT (newK (lexV t).1) = []:=map_nil htb h0
    have:=q05 (c:=newK (lexV t).1) rfl hT0
    unfold rowS at this
    exact ⟨[],by rw [this],by rw [List.append_nil],b2,by rw [b1,h0]⟩
   ·rw [if_neg h0]
    have hT0:remT (newK (lexV t).1)≠[]:=fun q=>h0 (map_nil htb.symm q)
    obtain ⟨_,_,lb,_,_,_,k4,_,k6⟩:=qbpr (rest (newK (lexV t).1) + 1) _ [] gT rfl hkT hT0 (Nat.lt_succ_self _) et rt
    have hlk2:Like (newK (lexV t).1) (qg d'):=⟨(qbd _).1 j4.g,b2,b3.trans (j4.n.trans ((qtw _).trans (qtw _).symm)),j4.k.mon (qbd _)⟩
    have hlt:rest (qg d') < f3 + 1:=by
     have e1:(remT (qg d')).length = rest (qg d'):=qer _
     have e2:(remT d').length = rest d':=qer _
     rw [b1] at e1
     rw [j3,List.length_cons] at e2
     omega
    obtain ⟨lb',m1,m2,m3,m4⟩:=k6 (qg d') (f3 + 1) l' hlk2 (by rw [b1];exact htb.symm) hlt
    refine ⟨lb',?_,m2,m3,m4⟩
    rw [k4,List.nil_append];exact m1.symm
  obtain ⟨lb,n1,n2,n3,n4⟩:=hfin
  have zu:=sz_prog (s:=u) (by omega)
  rw [n2] at zu
  have e1:=qsm _ zu
  have e2:=qsm _ zs
  have e3:=qsm _ zt
  rw [e2,i4] at ds
  rw [e3] at dt
  have hdp:dp (qew (l' ++ lb))≤100:=by
   rw [qxi] at ds dt ⊢
   simp only [qew,N.kids] at ds dt ⊢
   rw [q43,q5p j1.symm,q5p n1]
   omega
  refine ⟨_,qbm7 hlu n3 n4 n2 (by rw [e1];omega),qbiz ?_⟩
  refine NS.mk rfl rfl ?_
  rw [List.map_append,List.map_append,i4,j1,n1]
 have hcs:s ++ [10,59] ++ t = s ++ 10 :: (59 :: t):=by simp
 have hcy:s ++ [10] ++ t = s ++ 10 :: t:=by simp
 rcases i3 with rfl | ⟨t0,rfl,hs0⟩
 ·left
  rw [List.append_nil] at i1
  obtain ⟨v0,v1,sm,tb,v2,v3,v4⟩:=q2g lt0
  obtain ⟨w1,wv,w2,w3⟩:=q0d (s:=s) (v:=59 :: t) (by simp;omega) ls (by rw [v0];exact v1)
  rw [v0,v2] at w3
  cases wv with
  | nil=>simp at w3
  | cons sm' tb' =>
    simp only [List.map_cons,List.cons.injEq] at w3
    rw [hcs]
    refine fin _ sm' tb' (by simp;omega) w1 (by rw [w2,i1]) (qn8 w3.1.symm v3) ?_
    rw [w3.2,v4,wt2]
 ·right
  obtain ⟨w1,wv,w2,w3⟩:=q0d (s:=s) (v:=t) (by omega) ls lt0
  rw [hcy]
  refine fin _ t0 wv (by simp;omega) w1 (by rw [w2,i1,List.append_assoc];rfl) hs0 ?_
  rw [w3,wt2]
end Go.Proofs.Ytfjbmjplnmaclaa.JN
