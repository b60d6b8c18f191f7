/- Texts of this proof, joined. -/
import Derived.Test.YtfpobiheiloamaaJbc
import Derived.Test.YtfpobiheiloamaaJbh
import Derived.Test.YtfpobiheiloamaaJau
import Derived.Test.YtfpobiheiloamaaJbe

/- matching: what it finds -/
namespace Go.Proofs.Ytfpobiheiloamaa
open Go Go.RowKit Go.V
set_option linter.unusedVariables false
set_option linter.unusedSimpArgs false

mutual
def subF (f : Int → Ty) : Ty → Ty
 | .mk c v l => if c = [] then f v else .mk c v (qfy f l)
def qfy (f : Int → Ty) : List Ty → List Ty
 | [] => []
 | x :: r => subF f x :: qfy f r
end
def funR (s : List Pr) (v : Int) : Ty := (qq v s).getD (.mk [] v [])
mutual
theorem qot (s : List Pr) : ∀ t, bare t → putY s t = subF (funR s) t
 | .mk c v l, h => by
   rw [bare] at h
   rw [putY, subF]
   split
   ·rename_i hc
    have hl : l = [] := h.1 hc
    subst hl
    rw [funR]
    subst hc
    cases qq v s <;> rfl
   ·rw [qmj s l h.2]
theorem qmj (s : List Pr) : ∀ l, qeg l → qc7 s l = qfy (funR s) l
 | [], _ => by rw [qc7, qfy]
 | x :: r, h => by
   rw [qeg] at h
   rw [qc7, qfy, qot s x h.1, qmj s r h.2]
end
theorem qbij (c : List UInt8) (v : Int) (l : List Ty) : szY (.mk c v l) = 1 + szYs l := by rw [szY]
theorem qbgg (c : List UInt8) (v : Int) (l : List Ty) : dpY (.mk c v l) = 1 + dpYs l := by rw [dpY]
theorem qs3 (c : List UInt8) (v : Int) (l : List Ty) : varY (.mk c v l) = (if c = [] then [v] else []) ++ qc5 l := by rw [varY]
mutual
theorem qs9 (f : Int → Ty) : ∀ t v, bare t → v ∈ varY t → szY (f v) ≤ szY (subF f t) ∧ dpY (f v) ≤ dpY (subF f t) ∧ (qbc (subF f t) = true → qbc (f v) = true)
 | .mk c x l, v, hb, h => by
   rw [bare] at hb
   rw [qs3] at h
   rw [subF]
   split
   ·rename_i hc
    have hl : l = [] := hb.1 hc
    subst hl
    rw [if_pos hc] at h
    simp only [qc5, List.append_nil, List.mem_singleton] at h
    subst h
    exact ⟨Nat.le_refl _, Nat.le_refl _, fun h => h⟩
   ·rename_i hc
    rw [if_neg hc, List.nil_append] at h
    have h1 := qja f l v hb.2 h
    refine ⟨by rw [qbij]; omega, by rw [qbgg]; omega, fun hs => h1.2.2 ?_⟩
    rw [qbc, Bool.and_eq_true] at hs
    exact hs.1
theorem qja (f : Int → Ty) : ∀ l v, qeg l → v ∈ qc5 l → szY (f v) ≤ szYs (qfy f l) ∧ dpY (f v) ≤ dpYs (qfy f l) ∧ (q7 (qfy f l) = true → qbc (f v) = true)
 | [], v, _, h => by simp [qc5] at h
 | x :: r, v, hb, h => by
   rw [qeg] at hb
   rw [qc5] at h
   rw [qfy, szYs, dpYs, q7, Bool.and_eq_true]
   rcases List.mem_append.1 h with h | h
   ·have h1 := qs9 f x v hb.1 h
    exact ⟨by omega, by omega, fun hs => h1.2.2 hs.1⟩
   ·have h1 := qja f r v hb.2 h
    exact ⟨by omega, by omega, fun hs => h1.2.2 hs.2⟩
end
theorem qz4 {s : List Pr} {v : Int} {t : Ty} (h : (setR s v t).2 = 0) (hn : qq v s = none) : qk t = true ∧ (setR s v t).1 = insR v t s := by
 by_cases hl : qk t = true
 ·rw [qhb hl hn]; exact ⟨hl, rfl⟩
 ·rw [qhc (by simpa using hl)] at h; cases h
mutual
theorem q35 : ∀ (p t : Ty) (s : List Pr) (v : Int) (u : Ty), qq v s = some u → qq v (onP p t s).1 = some u
 | .mk c x l, t, s, v, u, h => by
   rw [onP]
   split
   ·cases hl : qq x s with
    | some w => exact h
    | none =>
      by_cases hlg : qk t = true
      ·dsimp only
       rw [qhb hlg hl]
       dsimp only
       rw [qfs hl]
       by_cases hv : v = x
       ·subst hv; rw [hl] at h; cases h
       ·rw [if_neg hv]; exact h
      ·dsimp only
       rw [qhc (by simpa using hlg)]; exact h
   split
   ·split
    ·exact qkz l t.args s v u h
    ·exact h
   ·exact h
theorem qkz : ∀ (l m : List Ty) (s : List Pr) (v : Int) (u : Ty), qq v s = some u → qq v (onPs l m s).1 = some u
 | [], m, s, v, u, h => by rw [onPs]; exact h
 | x :: r, m, s, v, u, h => by
   have h1 := q35 x (m.headD Y0) s v u h
   rw [onPs]
   split
   ·exact qkz r m.tail _ v u h1
   ·exact h1
end
theorem qog {t : Ty} (h : qbc t = true) (hc : t.con ≠ []) : t.var = 0 := by
 rw [qdt, Bool.and_eq_true] at h
 have h2 := h.2
 rw [mayY, mayW, if_neg hc] at h2
 split at h2
 ·simp at h2; exact h2.1
 split at h2
 ·simp at h2; exact h2.1
 ·simp at h2; exact h2.1
mutual
theorem qoo (f : Int → Ty) : ∀ (p t : Ty) (s : List Pr), qbc p = true → qbc t = true → (onP p t s).2 = true → (∀ v u, qq v (onP p t s).1 = some u → f v = u) → subF f p = t
 | .mk c x l, t, s, hp, ht, h, hf => by
   rw [onP] at h hf
   rw [subF]
   by_cases hc : c = []
   ·rw [if_pos hc] at h hf ⊢
    cases hl : qq x s with
    | some w =>
      rw [hl] at h hf
      have hs := (qpe w t).1 h
      subst hs
      exact hf x w hl
    | none =>
      rw [hl] at h hf
      dsimp only at h hf
      obtain ⟨q1, q2⟩ := qz4 (of_decide_eq_true h) hl
      refine hf x t ?_
      rw [q2, qfs hl, if_pos rfl]
   ·rw [if_neg hc] at h hf ⊢
    by_cases hct : c = t.con
    ·rw [if_pos hct] at h hf
     by_cases hlt : l.length = t.args.length
     ·rw [if_pos hlt] at h hf
      have hp1 : q7 l = true := by rw [qbc, Bool.and_eq_true] at hp; exact hp.1
      have ht1 : q7 t.args = true := by rw [qdt, Bool.and_eq_true] at ht; exact ht.1
      have h1 := qml f l t.args s hlt hp1 ht1 h hf
      have hv1 : x = 0 := qog hp hc
      have hv2 : t.var = 0 := qog ht (by rw [← hct]; exact hc)
      rw [h1]
      refine ty_eq.2 ⟨⟨hct, ?_⟩, rfl⟩
      rw [hv2]; exact hv1
     ·rw [if_neg hlt] at h; cases h
    ·rw [if_neg hct] at h; cases h
theorem qml (f : Int → Ty) : ∀ (l m : List Ty) (s : List Pr), l.length = m.length → q7 l = true → q7 m = true → (onPs l m s).2 = true → (∀ v u, qq v (onPs l m s).1 = some u → f v = u) → qfy f l = m
 | [], [], s, _, _, _, _, _ => by rw [qfy]
 | x :: r, [], s, hlm, _, _, _, _ => by simp at hlm
 | [], y :: m, s, hlm, _, _, _, _ => by simp at hlm
 | x :: r, y :: m, s, hlm, hl, hm, h, hf => by
   rw [onPs] at h hf
   rw [q7, Bool.and_eq_true] at hl hm
   show qfy f (x :: r) = y :: m
   by_cases h0 : (onP x y s).2 = true
   ·have h0' : (onP x ((y :: m).headD Y0) s).2 = true := h0
    rw [if_pos h0'] at h hf
    have h2 := qml f r m _ (by simpa using hlm) hl.2 hm.2 h hf
    have h1 := qoo f x y s hl.1 hm.1 h0 fun v u hu => hf v u (qkz r m _ v u hu)
    rw [qfy, h1, h2]
   ·have h0' : ¬ (onP x ((y :: m).headD Y0) s).2 = true := h0
    rw [if_neg h0'] at h; cases h
end
mutual
theorem que : ∀ (p t : Ty) (s : List Pr), bare p → (onP p t s).2 = true → ∀ v, (qq v (onP p t s).1).isSome = true ↔ (qq v s).isSome = true ∨ v ∈ varY p
 | .mk c x l, t, s, hb, h, v => by
   rw [bare] at hb
   rw [onP] at h ⊢
   rw [qs3]
   by_cases hc : c = []
   ·have hl0 : l = [] := hb.1 hc
    subst hl0
    simp only [if_pos hc, qc5, List.append_nil, List.mem_singleton] at h ⊢
    cases hl : qq x s with
    | some w =>
      dsimp only
      constructor
      ·exact fun q => .inl q
      ·rintro (q | rfl)
       ·exact q
       ·rw [hl]; rfl
    | none =>
      rw [hl] at h
      dsimp only at h ⊢
      obtain ⟨q1, q2⟩ := qz4 (of_decide_eq_true h) hl
      rw [q2, qfs hl]
      by_cases hvx : v = x
      ·simp [hvx]
      ·simp [hvx]
   ·simp only [if_neg hc, List.nil_append] at h ⊢
    by_cases hct : c = t.con
    ·rw [if_pos hct] at h ⊢
     by_cases hlt : l.length = t.args.length
     ·rw [if_pos hlt] at h ⊢
      exact qpb l t.args s hb.2 h v
     ·rw [if_neg hlt] at h; cases h
    ·rw [if_neg hct] at h; cases h
theorem qpb : ∀ (l m : List Ty) (s : List Pr), qeg l → (onPs l m s).2 = true → ∀ v, (qq v (onPs l m s).1).isSome = true ↔ (qq v s).isSome = true ∨ v ∈ qc5 l
 | [], m, s, _, h, v => by rw [onPs, qc5]; simp
 | x :: r, m, s, hb, h, v => by
   rw [qeg] at hb
   rw [onPs] at h ⊢
   by_cases h0 : (onP x (m.headD Y0) s).2 = true
   ·rw [if_pos h0] at h ⊢
    rw [qpb r m.tail _ hb.2 h v, que x (m.headD Y0) s hb.1 h0 v, qc5, List.mem_append, or_assoc]
   ·rw [if_neg h0] at h; cases h
end

theorem qzy (p t : Ty) (s : List Pr) : qgg [p] [t] s = onP p t s := by
 rw [qgg, if_pos (by rfl : [p].length = [t].length), onPs]
 show (if (onP p t s).2 = true then onPs [] [] (onP p t s).1 else ((onP p t s).1, false)) = _
 rw [onPs]
 generalize onP p t s = q
 obtain ⟨a, b⟩ := q
 cases b <;> rfl
theorem qz2 (p t : Ty) : matP p t = if qk p = true ∧ qk t = true then (if (onP p t []).2 = true then ((onP p t []).1, 0) else ([], 14)) else ([], 1) := by
 rw [matP, allP, qzy]
 simp only [List.all_cons, List.all_nil, Bool.and_true]
theorem qbeh {p t : Ty} (h : (matP p t).2 = 0) : qk p = true ∧ qk t = true ∧ (onP p t []).2 = true ∧ (matP p t).1 = (onP p t []).1 := by
 rw [qz2] at h ⊢
 by_cases h1 : qk p = true ∧ qk t = true
 ·rw [if_pos h1] at h ⊢
  by_cases h2 : (onP p t []).2 = true
  ·rw [if_pos h2]; exact ⟨h1.1, h1.2, h2, rfl⟩
  ·rw [if_neg h2] at h; cases h
 ·rw [if_neg h1] at h; cases h
theorem qjh {t : Ty} (h : qk t = true) : bare t := qci t ((q8 t).1 h).2.2
theorem q4i {p t : Ty} (h : (matP p t).2 = 0) : appR (matP p t).1 p = (t, 0) := by
 obtain ⟨h1, h2, h3, h4⟩ := qbeh h
 have hs : okS (matP p t).1 := qky
 have hp : putY (matP p t).1 p = t := by
  rw [qot _ p (qjh h1), h4]
  refine qoo _ p t [] ((q8 p).1 h1).2.2 ((q8 t).1 h2).2.2 h3 fun v u hu => ?_
  rw [funR, hu]; rfl
 rw [qnr hs, if_pos h1, hp, if_pos h2]
theorem qug {s : List Pr} {v : Int} : (qq v s).isSome = true ↔ v ∈ s.map Pr.v := by
 constructor
 ·intro h
  cases hl : qq v s with
  | none => rw [hl] at h; cases h
  | some u => obtain ⟨q, h1, h2, _⟩ := qfo hl; exact List.mem_map.2 ⟨q, h1, h2⟩
 ·intro h
  cases hl : qq v s with
  | some u => rfl
  | none => obtain ⟨q, h1, h2⟩ := List.mem_map.1 h; exact absurd h2 (qee hl q h1)
theorem qlp : ∀ {s : List Pr}, risR s → (s.map Pr.v).Nodup
 | [], _ => List.Pairwise.nil
 | p :: r, h => by
   rw [List.map_cons, List.nodup_cons]
   refine ⟨fun hm => ?_, qlp h.2⟩
   obtain ⟨q, h1, h2⟩ := List.mem_map.1 hm
   have := h.1 q h1
   omega
theorem qp6 {p t : Ty} (h : (matP p t).2 = 0) (v : Int) : v ∈ (matP p t).1.map Pr.v ↔ v ∈ varY p := by
 obtain ⟨h1, h2, h3, h4⟩ := qbeh h
 rw [← qug, h4, que p t [] (qjh h1) h3 v]
 simp [qq]
theorem q84 {p t : Ty} (h : (matP p t).2 = 0) {q : Pr} (hq : q ∈ (matP p t).1) : q.v ∈ varY p := (qp6 h q.v).1 (List.mem_map_of_mem hq)
theorem q23 {p t : Ty} (h : (matP p t).2 = 0) : (matP p t).1.length = (qdw [] (varY p)).length := by
 have hs : okS (matP p t).1 := qky
 have h1 := qlp hs.1
 have h2 := qns (varY p) [] (by simp)
 have h3 : ((matP p t).1.map Pr.v).Perm (qdw [] (varY p)) := (List.perm_ext_iff_of_nodup h1 h2).2 fun v => by
  rw [qp6 h v, qtw]; simp
 have := h3.length_eq
 rwa [List.length_map] at this

/-! the reference's -/
set_option maxRecDepth 4000


def Suf (r : Rd) (k : Nat) (p : Ty × Rd) : Prop := (∃ j, p.2.s = r.s.drop j) ∧ p.2.lv = r.lv ∧ p.1.args.length + p.2.s.length ≤ k + r.s.length
theorem qfa {r r1 : Rd} {k : Nat} {p : Ty × Rd} (h : (∃ j, r1.s = r.s.drop j) ∧ r1.lv = r.lv) (hp : Suf r1 k p) {k' : Nat} (hl : k + r1.s.length ≤ k' + r.s.length) : Suf r k' p := by
 obtain ⟨⟨j, h1⟩, h2⟩ := h
 obtain ⟨⟨i, h3⟩, h4, h5⟩ := hp
 exact ⟨⟨j + i, by rw [h3, h1, List.drop_drop]⟩, h4.trans h2, by omega⟩
theorem qq8 (s : List UInt8) : (qkq s).args = [] := by
 unfold qkq
 split
 ·rfl
 split
 ·split <;> rfl
 ·rfl
theorem qx0 (r : Rd) : Suf r 0 (qke r) := ⟨⟨qd3 r.s, rfl⟩, rfl, by simp [qke, qq8, badR, cutR]⟩
theorem qes (k : Nat) (r : Rd) : (cutR k r).s.length = r.s.length - k := by simp [cutR]
theorem qfw {p s : List UInt8} (h : pfx p s = true) : p.length ≤ s.length := by
 simp only [pfx, decide_eq_true_eq] at h
 have := congrArg List.length h
 rw [List.length_take] at this
 omega
theorem q4u {r : Rd} {p : Ty × Rd} (h : Suf r 0 p) : Suf r 0 (endA p) := by
 obtain ⟨⟨j, h1⟩, h2, h3⟩ := h
 unfold endA
 repeat' split
 ·exact ⟨⟨j, h1⟩, h2, h3⟩
 ·refine ⟨⟨j + 1, by rw [cutR, h1, List.drop_drop]⟩, h2, ?_⟩
  rw [qes]; dsimp only; omega
 ·exact ⟨⟨j, h1⟩, h2, h3⟩
theorem q77 : ∀ n, (∀ r, Suf r 0 (qb8 n r) ∨ n = 0) ∧ (∀ r, Suf r 0 (qdh n r) ∨ n = 0) ∧ (∀ t r, Suf r t.args.length (qi5 n t r)) ∧ (∀ p k (r : Rd), Suf r k p → Suf (lvR (r.lv - 1) r) k (qty n p)) := by
 intro n
 induction n with
 | zero =>
   refine ⟨fun r => .inr rfl, fun r => .inr rfl, fun t r => ?_, fun p k r h => ?_⟩
   ·rw [qi5]; exact ⟨⟨0, rfl⟩, rfl, Nat.le_refl _⟩
   ·rw [qty]; obtain ⟨h1, h2, h3⟩ := h; exact ⟨h1, by show p.2.lv - 1 = r.lv - 1; rw [h2], h3⟩
 | succ n ih =>
   obtain ⟨iA, iT, iM, iL⟩ := ih
   have hA0 : ∀ r, Suf r 0 (qb8 n r) := fun r => by
    rcases iA r with h | rfl
    ·exact h
    ·rw [qb8]; exact ⟨⟨0, rfl⟩, rfl, by show ([] : List Ty).length + _ ≤ _; simp⟩
   have hT0 : ∀ r, Suf r 0 (qdh n r) := fun r => by
    rcases iT r with h | rfl
    ·exact h
    ·rw [qdh]; exact ⟨⟨0, rfl⟩, rfl, by show ([] : List Ty).length + _ ≤ _; simp⟩
   refine ⟨fun r => .inl ?_, fun r => .inl ?_, fun t r => ?_, fun p k r h => ?_⟩
   ·rw [qb8]
    split
    ·have h0 : (∃ j, (cutR 1 r).s = r.s.drop j) ∧ (cutR 1 r).lv = r.lv := ⟨⟨1, rfl⟩, rfl⟩
     exact q4u (qfa h0 (hT0 (cutR 1 r)) (by rw [qes]; omega))
    ·exact qx0 r
   ·rw [qdh]
    split
    ·exact ⟨⟨0, rfl⟩, rfl, by show ([] : List Ty).length + _ ≤ _; simp [badR]⟩
    ·have h1 := hA0 (lvR (r.lv + 1) r)
     have h2 := iM (qb8 n (lvR (r.lv + 1) r)).1 (qb8 n (lvR (r.lv + 1) r)).2
     have h3 : Suf (lvR (r.lv + 1) r) 0 (qi5 n (qb8 n (lvR (r.lv + 1) r)).1 (qb8 n (lvR (r.lv + 1) r)).2) := by
      refine qfa ⟨h1.1, h1.2.1⟩ h2 h1.2.2
     have h4 := iL _ 0 _ h3
     obtain ⟨⟨j, q1⟩, q2, q3⟩ := h4
     refine ⟨⟨j, q1⟩, ?_, q3⟩
     rw [q2]
     show r.lv + 1 - 1 = r.lv
     omega
   ·rw [qi5]
    split
    ·rename_i hc
     have hl := qfw hc.2.2
     simp only [List.length_cons, List.length_nil] at hl
     have h1 := hA0 (cutR 1 r)
     have h2 := iM (.mk t.con t.var (t.args ++ [(qb8 n (cutR 1 r)).1])) (qb8 n (cutR 1 r)).2
     obtain ⟨⟨j, q1⟩, q2, q3⟩ := h1
     rw [qes] at q3
     have h0 : (∃ j, (qb8 n (cutR 1 r)).2.s = r.s.drop j) ∧ (qb8 n (cutR 1 r)).2.lv = r.lv := ⟨⟨1 + j, by rw [q1, cutR, List.drop_drop]⟩, q2⟩
     refine qfa h0 h2 ?_
     show (t.args ++ [(qb8 n (cutR 1 r)).1]).length + _ ≤ _
     rw [List.length_append, List.length_singleton]
     omega
    ·exact ⟨⟨0, rfl⟩, rfl, Nat.le_refl _⟩
   ·rw [qty]
    obtain ⟨⟨j, h1⟩, h2, h3⟩ := h
    split
    ·rename_i hc
     have hl := qfw hc.2
     simp only [arrS, List.length_cons, List.length_nil] at hl
     obtain ⟨⟨i, q1⟩, q2, q3⟩ := hT0 (cutR 4 p.2)
     rw [qes] at q3
     refine ⟨⟨j + 4 + i, ?_⟩, ?_, ?_⟩
     ·show (qdh n (cutR 4 p.2)).2.s = _
      rw [q1, cutR, h1, List.drop_drop, List.drop_drop, ← Nat.add_assoc]; rfl
     ·show (qdh n (cutR 4 p.2)).2.lv - 1 = r.lv - 1
      rw [q2]; show p.2.lv - 1 = _; rw [h2]
     ·show 2 + (qdh n (cutR 4 p.2)).2.s.length ≤ k + r.s.length
      omega
    ·exact ⟨⟨j, h1⟩, by show p.2.lv - 1 = r.lv - 1; rw [h2], h3⟩
theorem qp3 {n : Nat} (hn : n ≠ 0) (r : Rd) : Suf r 0 (qb8 n r) := ((q77 n).1 r).resolve_right hn
theorem qxs {n : Nat} (hn : n ≠ 0) (r : Rd) : Suf r 0 (qdh n r) := ((q77 n).2.1 r).resolve_right hn
theorem qy8 (n : Nat) (t : Ty) (r : Rd) : Suf r t.args.length (qi5 n t r) := (q77 n).2.2.1 t r
theorem qbg4 {r : Rd} {k : Nat} {p : Ty × Rd} (h : Suf r k p) (hk : ascS r.s) : ascS p.2.s := by obtain ⟨⟨j, h1⟩, _⟩ := h; rw [h1]; exact qck hk j
end Go.Proofs.Ytfpobiheiloamaa
