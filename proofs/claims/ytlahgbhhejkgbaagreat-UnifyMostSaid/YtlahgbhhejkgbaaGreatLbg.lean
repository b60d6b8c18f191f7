/- Texts of this proof, joined. -/
import Derived.Test.YtlahgbhhejkgbaaGreatLbf

/- matching: what it finds -/
namespace Go.Proofs.YtlahgbhhejkgbaaGreat
open Go Go.RowKit Go.V
set_option linter.unusedVariables false
set_option linter.unusedSimpArgs false

mutual
def subF (f : Int → Ty) : Ty → Ty
 | .mk c v l => if c = [] then f v else .mk c v (qbo f l)
def qbo (f : Int → Ty) : List Ty → List Ty
 | [] => []
 | x :: r => subF f x :: qbo f r
end
theorem qf6 (f : Int → Ty) : ∀ l, (qbo f l).length = l.length
 | [] => rfl
 | x :: r => by rw [qbo, List.length_cons, List.length_cons, qf6 f r]
def funR (s : List Pr) (v : Int) : Ty := (qi v s).getD (.mk [] v [])
mutual
theorem qdi (s : List Pr) : ∀ t, bare t → putY s t = subF (funR s) t
 | .mk c v l, h => by
   rw [bare] at h
   rw [putY, subF]
   split
   ·rename_i hc
    have hl : l = [] := h.1 hc
    subst hl
    rw [funR]
    subst hc
    cases qi v s <;> rfl
   ·rw [qo7 s l h.2]
theorem qo7 (s : List Pr) : ∀ l, qec l → qds s l = qbo (funR s) l
 | [], _ => by rw [qds, qbo]
 | x :: r, h => by
   rw [qec] at h
   rw [qds, qbo, qdi s x h.1, qo7 s r h.2]
end
mutual
theorem qpb (f g : Int → Ty) : ∀ t, subF g (subF f t) = subF (fun v => subF g (f v)) t
 | .mk c v l => by
   rw [subF, subF]
   split
   ·rfl
   ·rename_i hc
    rw [subF, if_neg hc, qk8 f g l]
theorem qk8 (f g : Int → Ty) : ∀ l, qbo g (qbo f l) = qbo (fun v => subF g (f v)) l
 | [] => by simp only [qbo]
 | x :: r => by rw [qbo, qbo, qbo, qpb f g x, qk8 f g r]
end
theorem qnp (c : List UInt8) (v : Int) (l : List Ty) : szY (.mk c v l) = 1 + szYs l := by rw [szY]
theorem qbjt (c : List UInt8) (v : Int) (l : List Ty) : dpY (.mk c v l) = 1 + dpYs l := by rw [dpY]
theorem qcv (c : List UInt8) (v : Int) (l : List Ty) : varY (.mk c v l) = (if c = [] then [v] else []) ++ qbu l := by rw [varY]
mutual
theorem qon (f : Int → Ty) : ∀ t v, bare t → v ∈ varY t → szY (f v) ≤ szY (subF f t) ∧ dpY (f v) ≤ dpY (subF f t) ∧ (qbj (subF f t) = true → qbj (f v) = true)
 | .mk c x l, v, hb, h => by
   rw [bare] at hb
   rw [qcv] at h
   rw [subF]
   split
   ·rename_i hc
    have hl : l = [] := hb.1 hc
    subst hl
    rw [if_pos hc] at h
    simp only [qbu, List.append_nil, List.mem_singleton] at h
    subst h
    exact ⟨Nat.le_refl _, Nat.le_refl _, fun h => h⟩
   ·rename_i hc
    rw [if_neg hc, List.nil_append] at h
    have h1 := qhm f l v hb.2 h
    refine ⟨by rw [qnp]; omega, by rw [qbjt]; omega, fun hs => h1.2.2 ?_⟩
    rw [qbj, Bool.and_eq_true] at hs
    exact hs.1
theorem qhm (f : Int → Ty) : ∀ l v, qec l → v ∈ qbu l → szY (f v) ≤ szYs (qbo f l) ∧ dpY (f v) ≤ dpYs (qbo f l) ∧ (qx (qbo f l) = true → qbj (f v) = true)
 | [], v, _, h => by simp [qbu] at h
 | x :: r, v, hb, h => by
   rw [qec] at hb
   rw [qbu] at h
   rw [qbo, szYs, dpYs, qx, Bool.and_eq_true]
   rcases List.mem_append.1 h with h | h
   ·have h1 := qon f x v hb.1 h
    exact ⟨by omega, by omega, fun hs => h1.2.2 hs.1⟩
   ·have h1 := qhm f r v hb.2 h
    exact ⟨by omega, by omega, fun hs => h1.2.2 hs.2⟩
end
theorem qup {f : Int → Ty} {t : Ty} (hb : bare t) (h : qc (subF f t) = true) {v : Int} (hv : v ∈ varY t) : qc (f v) = true := by
 obtain ⟨h1, h2, h3⟩ := (ql _).1 h
 obtain ⟨q1, q2, q3⟩ := qon f t v hb hv
 exact (ql _).2 ⟨by omega, by omega, q3 h3⟩
theorem qbsm {s : List Pr} {v : Int} {t : Ty} (h : (setR s v t).2 = 0) (hn : qi v s = none) : qc t = true ∧ (setR s v t).1 = insR v t s := by
 by_cases hl : qc t = true
 ·rw [qgt hl hn]; exact ⟨hl, rfl⟩
 ·rw [qiz (by simpa using hl)] at h; cases h
mutual
theorem qbdx : ∀ (p t : Ty) (s : List Pr) (v : Int) (u : Ty), qi v s = some u → qi v (onP p t s).1 = some u
 | .mk c x l, t, s, v, u, h => by
   rw [onP]
   split
   ·cases hl : qi x s with
    | some w => exact h
    | none =>
      by_cases hlg : qc t = true
      ·dsimp only
       rw [qgt hlg hl]
       dsimp only
       rw [qet hl]
       by_cases hv : v = x
       ·subst hv; rw [hl] at h; cases h
       ·rw [if_neg hv]; exact h
      ·dsimp only
       rw [qiz (by simpa using hlg)]; exact h
   split
   ·split
    ·exact qmx l t.args s v u h
    ·exact h
   ·exact h
theorem qmx : ∀ (l m : List Ty) (s : List Pr) (v : Int) (u : Ty), qi v s = some u → qi v (onPs l m s).1 = some u
 | [], m, s, v, u, h => by rw [onPs]; exact h
 | x :: r, m, s, v, u, h => by
   have h1 := qbdx x (m.headD Y0) s v u h
   rw [onPs]
   split
   ·exact qmx r m.tail _ v u h1
   ·exact h1
end
theorem qip {t : Ty} (h : qbj t = true) (hc : t.con ≠ []) : t.var = 0 := by
 rw [qdc, Bool.and_eq_true] at h
 have h2 := h.2
 rw [mayY, mayW, if_neg hc] at h2
 split at h2
 ·simp at h2; exact h2.1
 split at h2
 ·simp at h2; exact h2.1
 ·simp at h2; exact h2.1
mutual
theorem qsl (f : Int → Ty) : ∀ (p t : Ty) (s : List Pr), qbj p = true → qbj t = true → (onP p t s).2 = true → (∀ v u, qi v (onP p t s).1 = some u → f v = u) → subF f p = t
 | .mk c x l, t, s, hp, ht, h, hf => by
   rw [onP] at h hf
   rw [subF]
   by_cases hc : c = []
   ·rw [if_pos hc] at h hf ⊢
    cases hl : qi x s with
    | some w =>
      rw [hl] at h hf
      have hs := (qim w t).1 h
      subst hs
      exact hf x w hl
    | none =>
      rw [hl] at h hf
      dsimp only at h hf
      obtain ⟨q1, q2⟩ := qbsm (of_decide_eq_true h) hl
      refine hf x t ?_
      rw [q2, qet hl, if_pos rfl]
   ·rw [if_neg hc] at h hf ⊢
    by_cases hct : c = t.con
    ·rw [if_pos hct] at h hf
     by_cases hlt : l.length = t.args.length
     ·rw [if_pos hlt] at h hf
      have hp1 : qx l = true := by rw [qbj, Bool.and_eq_true] at hp; exact hp.1
      have ht1 : qx t.args = true := by rw [qdc, Bool.and_eq_true] at ht; exact ht.1
      have h1 := qn0 f l t.args s hlt hp1 ht1 h hf
      have hv1 : x = 0 := qip hp hc
      have hv2 : t.var = 0 := qip ht (by rw [← hct]; exact hc)
      rw [h1]
      refine ty_eq.2 ⟨⟨hct, ?_⟩, rfl⟩
      rw [hv2]; exact hv1
     ·rw [if_neg hlt] at h; cases h
    ·rw [if_neg hct] at h; cases h
theorem qn0 (f : Int → Ty) : ∀ (l m : List Ty) (s : List Pr), l.length = m.length → qx l = true → qx m = true → (onPs l m s).2 = true → (∀ v u, qi v (onPs l m s).1 = some u → f v = u) → qbo f l = m
 | [], [], s, _, _, _, _, _ => by rw [qbo]
 | x :: r, [], s, hlm, _, _, _, _ => by simp at hlm
 | [], y :: m, s, hlm, _, _, _, _ => by simp at hlm
 | x :: r, y :: m, s, hlm, hl, hm, h, hf => by
   rw [onPs] at h hf
   rw [qx, Bool.and_eq_true] at hl hm
   show qbo f (x :: r) = y :: m
   by_cases h0 : (onP x y s).2 = true
   ·have h0' : (onP x ((y :: m).headD Y0) s).2 = true := h0
    rw [if_pos h0'] at h hf
    have h2 := qn0 f r m _ (by simpa using hlm) hl.2 hm.2 h hf
    have h1 := qsl f x y s hl.1 hm.1 h0 fun v u hu => hf v u (qmx r m _ v u hu)
    rw [qbo, h1, h2]
   ·have h0' : ¬ (onP x ((y :: m).headD Y0) s).2 = true := h0
    rw [if_neg h0'] at h; cases h
end
mutual
theorem qke (f : Int → Ty) : ∀ (p : Ty) (s : List Pr), bare p → (∀ v u, qi v s = some u → f v = u) → (∀ v, v ∈ varY p → qc (f v) = true) →
 (onP p (subF f p) s).2 = true ∧ ∀ v u, qi v (onP p (subF f p) s).1 = some u → f v = u
 | .mk c x l, s, hb, hs, hv => by
   rw [bare] at hb
   rw [onP, subF]
   by_cases hc : c = []
   ·rw [if_pos hc, if_pos hc]
    cases hl : qi x s with
    | some w => exact ⟨by dsimp only; rw [hs x w hl]; exact qwc _, hs⟩
    | none =>
      have hlg := hv x (by rw [qcv, if_pos hc]; simp)
      dsimp only
      rw [qgt hlg hl]
      refine ⟨rfl, fun v u hu => ?_⟩
      dsimp only at hu
      rw [qet hl] at hu
      by_cases hvx : v = x
      ·rw [if_pos hvx] at hu; rw [hvx]; simpa using hu
      ·rw [if_neg hvx] at hu; exact hs v u hu
   ·rw [if_neg hc, if_neg hc]
    have h1 : c = (Ty.mk c x (qbo f l)).con := rfl
    have h2 : l.length = (Ty.mk c x (qbo f l)).args.length := (qf6 f l).symm
    rw [if_pos h1, if_pos h2]
    exact qh5 f l s hb.2 hs fun v hvl => hv v (by rw [qcv, if_neg hc]; exact hvl)
theorem qh5 (f : Int → Ty) : ∀ (l : List Ty) (s : List Pr), qec l → (∀ v u, qi v s = some u → f v = u) → (∀ v, v ∈ qbu l → qc (f v) = true) →
 (onPs l (qbo f l) s).2 = true ∧ ∀ v u, qi v (onPs l (qbo f l) s).1 = some u → f v = u
 | [], s, _, hs, _ => by rw [onPs]; exact ⟨rfl, hs⟩
 | x :: r, s, hb, hs, hv => by
   rw [qec] at hb
   have h1 := qke f x s hb.1 hs fun v h => hv v (by rw [qbu]; simp [h])
   have e1 : (qbo f (x :: r)).headD Y0 = subF f x := by rw [qbo]; rfl
   have e2 : (qbo f (x :: r)).tail = qbo f r := by rw [qbo]; rfl
   rw [onPs, e1, e2, if_pos h1.1]
   exact qh5 f r _ hb.2 h1.2 fun v h => hv v (by rw [qbu]; simp [h])
end

theorem q31 (p t : Ty) (s : List Pr) : q4f [p] [t] s = onP p t s := by
 rw [q4f, if_pos (by rfl : [p].length = [t].length), onPs]
 show (if (onP p t s).2 = true then onPs [] [] (onP p t s).1 else ((onP p t s).1, false)) = _
 rw [onPs]
 generalize onP p t s = q
 obtain ⟨a, b⟩ := q
 cases b <;> rfl
theorem q5u (p t : Ty) : matP p t = if qc p = true ∧ qc t = true then (if (onP p t []).2 = true then ((onP p t []).1, 0) else ([], 14)) else ([], 1) := by
 rw [matP, allP, q31]
 simp only [List.all_cons, List.all_nil, Bool.and_true]
theorem qbk5 {p t : Ty} (h : (matP p t).2 = 0) : qc p = true ∧ qc t = true ∧ (onP p t []).2 = true ∧ (matP p t).1 = (onP p t []).1 := by
 rw [q5u] at h ⊢
 by_cases h1 : qc p = true ∧ qc t = true
 ·rw [if_pos h1] at h ⊢
  by_cases h2 : (onP p t []).2 = true
  ·rw [if_pos h2]; exact ⟨h1.1, h1.2, h2, rfl⟩
  ·rw [if_neg h2] at h; cases h
 ·rw [if_neg h1] at h; cases h
theorem qv {t : Ty} (h : qc t = true) : bare t := qc4 t ((ql t).1 h).2.2
theorem q8k {p t : Ty} (hp : qc p = true) (ht : qc t = true) : abvP p t = true ↔ ∃ f, subF f p = t := by
 rw [abvP, decide_eq_true_eq]
 constructor
 ·intro h
  obtain ⟨_, _, h3, _⟩ := qbk5 h
  refine ⟨funR (onP p t []).1, qsl _ p t [] ((ql p).1 hp).2.2 ((ql t).1 ht).2.2 h3 fun v u hu => ?_⟩
  rw [funR, hu]; rfl
 ·rintro ⟨f, rfl⟩
  have hb := qv hp
  have h1 := qke f p [] hb (fun v u h => by simp [qi] at h) fun v hv => qup hb ht hv
  rw [q5u, if_pos ⟨hp, ht⟩, if_pos h1.1]
theorem qox : ∀ {s : List Pr}, risR s → (s.map Pr.v).Nodup
 | [], _ => List.Pairwise.nil
 | p :: r, h => by
   rw [List.map_cons, List.nodup_cons]
   refine ⟨fun hm => ?_, qox h.2⟩
   obtain ⟨q, h1, h2⟩ := List.mem_map.1 hm
   have := h.1 q h1
   omega
/-! the reference's -/
theorem qjv {t a : Ty} (h : qc t = true) (ha : a ∈ t.args) : qc a = true := by
 obtain ⟨h1, h2, h3⟩ := (ql t).1 h
 have q1 := qhu ha
 have q2 := qki ha
 rw [qge] at h1
 rw [qsf] at h2
 rw [qdc, Bool.and_eq_true] at h3
 refine (ql a).2 ⟨by omega, by omega, ?_⟩
 have : ∀ l : List Ty, qx l = true → ∀ a ∈ l, qbj a = true := fun l => by
  induction l with
  | nil => intro _ a ha; cases ha
  | cons x r ih =>
    intro hl a ha
    rw [qx, Bool.and_eq_true] at hl
    rcases List.mem_cons.1 ha with rfl | ha
    ·exact hl.1
    ·exact ih hl.2 a ha
 exact this _ h3.1 a ha

def bndU (s : List Pr) (v : Int) (t : Ty) : List Pr × Int := if t.con = [] ∧ t.var = v then (s, 0) else if v ∈ varY t then ([], 15) else behR s [⟨v, t⟩]
def hdU (s : List Pr) (A B : Ty) : (List Pr × Int) × List (Ty × Ty) :=
 if A.con = [] then (bndU s A.var B, []) else if B.con = [] then (bndU s B.var A, []) else if A.con = B.con ∧ A.args.length = B.args.length then ((s, 0), A.args.zip B.args) else (([], 14), [])
def stpU (s : List Pr) (a b : Ty) : (List Pr × Int) × List (Ty × Ty) :=
 if (appR s a).2 = 0 then (if (appR s b).2 = 0 then hdU s (appR s a).1 (appR s b).1 else (([], (appR s b).2), [])) else (([], (appR s a).2), [])
def slvU : Nat → List Pr → List (Ty × Ty) → Option (List Pr × Int)
 | _, s, [] => some (s, 0)
 | 0, _, _ :: _ => none
 | n + 1, s, x :: r => if (stpU s x.1 x.2).1.2 = 0 then slvU n (stpU s x.1 x.2).1.1 ((stpU s x.1 x.2).2 ++ r) else some ([], (stpU s x.1 x.2).1.2)
theorem qgi (n : Nat) (s : List Pr) : slvU n s [] = some (s, 0) := by cases n <;> rfl
theorem ql3 : ∀ (n : Nat) (s : List Pr) (xs ys : List (Ty × Ty)) (r : List Pr × Int), slvU n s (xs ++ ys) = some r →
 ∃ m q, m ≤ n ∧ slvU m s xs = some q ∧ (q.2 ≠ 0 → r = q ∧ q.1 = []) ∧ (q.2 = 0 → ∃ k, k ≤ n ∧ slvU k q.1 ys = some r)
 | n, s, [], ys, r, h => ⟨n, (s, 0), Nat.le_refl _, qgi _ _, fun h => absurd rfl h, fun _ => ⟨n, Nat.le_refl _, h⟩⟩
 | 0, s, x :: xs, ys, r, h => by simp [slvU] at h
 | n + 1, s, x :: xs, ys, r, h => by
   rw [List.cons_append, slvU] at h
   by_cases he : (stpU s x.1 x.2).1.2 = 0
   ·rw [if_pos he, ← List.append_assoc] at h
    obtain ⟨m, q, h1, h2, h3, h4⟩ := ql3 n _ _ ys r h
    refine ⟨m + 1, q, by omega, by rw [slvU, if_pos he]; exact h2, h3, fun hq => ?_⟩
    obtain ⟨k, h5, h6⟩ := h4 hq
    exact ⟨k, by omega, h6⟩
   ·rw [if_neg he] at h
    refine ⟨1, ([], (stpU s x.1 x.2).1.2), by omega, by rw [slvU, if_neg he], fun _ => ⟨?_, rfl⟩, fun hq => absurd hq he⟩
    simpa using h.symm
/-! types under functions -/
theorem var1 (v : Int) : varY (.mk [] v []) = [v] := by rw [qcv, qbu, if_pos rfl]; rfl
mutual
theorem qix (f : Int → Ty) : ∀ t, bare t → ∀ w, w ∈ varY (subF f t) → ∃ v, v ∈ varY t ∧ w ∈ varY (f v)
 | .mk c v l, hb, w, hw => by
   rw [bare] at hb
   rw [subF] at hw
   by_cases hc : c = []
   ·rw [if_pos hc] at hw
    exact ⟨v, by rw [qcv, if_pos hc]; simp, hw⟩
   ·rw [if_neg hc, qcv, if_neg hc, List.nil_append] at hw
    obtain ⟨x, h1, h2⟩ := qov f l hb.2 w hw
    exact ⟨x, by rw [qcv]; simp [h1], h2⟩
theorem qov (f : Int → Ty) : ∀ l, qec l → ∀ w, w ∈ qbu (qbo f l) → ∃ v, v ∈ qbu l ∧ w ∈ varY (f v)
 | [], hb, w, hw => by rw [qbo, qbu] at hw; simp at hw
 | x :: r, hb, w, hw => by
   rw [qbo, qbu] at hw
   rcases List.mem_append.1 hw with hw | hw
   ·obtain ⟨v, h1, h2⟩ := qix f x hb.1 w hw
    exact ⟨v, by rw [qbu]; simp [h1], h2⟩
   ·obtain ⟨v, h1, h2⟩ := qov f r hb.2 w hw
    exact ⟨v, by rw [qbu]; simp [h1], h2⟩
end
mutual
theorem qqy (f : Int → Ty) : ∀ t, bare t → (∀ w, w ∈ varY t → f w = .mk [] w []) → subF f t = t
 | .mk c v l, hb, h => by
   rw [bare] at hb
   rw [subF]
   by_cases hc : c = []
   ·rw [if_pos hc, h v (by rw [qcv, if_pos hc]; simp), hc, hb.1 hc]
   ·rw [if_neg hc, qs0 f l hb.2 fun w hw => h w (by rw [qcv]; simp [hw])]
theorem qs0 (f : Int → Ty) : ∀ l, qec l → (∀ w, w ∈ qbu l → f w = .mk [] w []) → qbo f l = l
 | [], _, _ => by rw [qbo]
 | x :: r, hb, h => by
   rw [qbo, qqy f x hb.1 fun w hw => h w (by rw [qbu]; simp [hw]), qs0 f r hb.2 fun w hw => h w (by rw [qbu]; simp [hw])]
end
theorem qcs {s : List Pr} {v : Int} (h : qi v s = none) : funR s v = .mk [] v [] := by rw [funR, h]; rfl
def abs (f : Int → Ty) (s : List Pr) : Prop := ∀ v, subF f (funR s v) = f v
theorem qf0 {f : Int → Ty} {s : List Pr} (h : abs f s) {t : Ty} (hb : bare t) : subF f (putY s t) = subF f t := by
 rw [qdi s t hb, qpb]
 congr 1
 exact funext h
theorem qbbv (f : Int → Ty) : abs f [] := fun v => by rw [qcs rfl, subF, if_pos rfl]
def sep (s : List Pr) : Prop := ∀ p ∈ s, ∀ w, w ∈ varY p.ty → qi w s = none
theorem qqj {s : List Pr} (ho : okS s) (h : sep s) {t : Ty} (hb : bare t) {w : Int} (hw : w ∈ varY (putY s t)) : qi w s = none := by
 rw [qdi s t hb] at hw
 obtain ⟨v, h1, h2⟩ := qix _ t hb w hw
 cases hl : qi v s with
 | none => rw [qcs hl, var1] at h2; simp at h2; subst h2; exact hl
 | some u =>
   rw [funR, hl] at h2
   obtain ⟨p, hp, rfl, rfl⟩ := qdt hl
   exact h p hp w h2
theorem q3f {s : List Pr} {t : Ty} (hb : bare t) (h : ∀ w, w ∈ varY t → qi w s = none) : putY s t = t := by
 rw [qdi s t hb]
 exact qqy _ t hb fun w hw => qcs (h w hw)
/-! a variable more -/
theorem qw3 {s : List Pr} (hs : okS s) {t : Ty} (ht : qc t = true) : (appR s t).2 = 0 ∨ (appR s t).2 = 2 := by
 rw [qmu hs, if_pos ht]; split
 ·exact .inl rfl
 ·exact .inr rfl
theorem qvn {t : List Pr} (ht : okS t) : ∀ (s acc : List Pr), (∀ p ∈ s, qc p.ty = true) → (qhh t acc s).2 = 0 ∨ (qhh t acc s).2 = 2
 | [], acc, _ => .inl rfl
 | p :: r, acc, h => by
   rw [qhh]
   split
   ·exact qvn ht r _ fun q hq => h q (by simp [hq])
   ·rename_i hn
    exact .inr ((qw3 ht (h p (by simp))).resolve_left hn)
theorem q5w {s t : List Pr} (hs : okS s) (ht : okS t) : (behR s t).2 = 0 ∨ (behR s t).2 = 2 ∧ (behR s t).1 = [] := by
 rw [behR]
 split
 ·exact .inl rfl
 ·rename_i h
  exact .inr ⟨(qvn ht s [] hs.2).resolve_left h, rfl⟩
theorem qdk {v : Int} {B : Ty} (h : qc B = true) : okS [⟨v, B⟩] := ⟨⟨fun q hq => by simp at hq, trivial⟩, fun p hp => by simp at hp; subst hp; exact h⟩
theorem qbfw {s : List Pr} (hs : okS s) {v : Int} {B : Ty} (hB : qc B = true) (hn : qi v s = none) (he : (behR s [⟨v, B⟩]).2 = 0) : (behR s [⟨v, B⟩]).1 = insR v B (s.map fun p => ⟨p.v, putY [⟨v, B⟩] p.ty⟩) := by
 rw [behR] at he ⊢
 split at he
 ·rename_i h0
  rw [if_pos h0]
  obtain ⟨q1, _⟩ := qgd (qdk hB) s [] h0
  rw [List.nil_append] at q1
  show (setR _ v B).1 = _
  rw [q1, setR, if_pos hB, qnc, hn]; rfl
 ·rename_i h0; exact absurd he h0
theorem qvd (x v : Int) (B : Ty) : qi x [⟨v, B⟩] = if v = x then some B else none := by rw [qi]; rfl
theorem qta {s : List Pr} (hs : okS s) {v : Int} {B : Ty} (hB : qc B = true) (hn : qi v s = none) (he : (behR s [⟨v, B⟩]).2 = 0) (x : Int) : funR (behR s [⟨v, B⟩]).1 x = match qi x s with | some u => putY [⟨v, B⟩] u | none => if x = v then B else .mk [] x [] := by
 rw [funR, qo4 hs (qdk hB) he, qvd]
 cases hl : qi x s with
 | some u => rfl
 | none =>
   by_cases hx : x = v
   ·rw [if_pos hx, if_pos hx.symm]; rfl
   ·rw [if_neg hx, if_neg (fun h => hx h.symm)]; rfl
structure Inv (V : List Int) (s : List Pr) (st : List (Ty × Ty)) : Prop where
 ok : okS s
 sep : sep s
 keys : ∀ p ∈ s, p.v ∈ V
 vars : ∀ p ∈ s, ∀ w, w ∈ varY p.ty → w ∈ V
 leg : ∀ x ∈ st, qc x.1 = true ∧ qc x.2 = true
 stk : ∀ x ∈ st, ∀ w, w ∈ varY x.1 ∨ w ∈ varY x.2 → w ∈ V
theorem Inv.tail {V : List Int} {s : List Pr} {x : Ty × Ty} {st : List (Ty × Ty)} (h : Inv V s (x :: st)) : Inv V s st :=
 ⟨h.ok, h.sep, h.keys, h.vars, fun y hy => h.leg y (by simp [hy]), fun y hy => h.stk y (by simp [hy])⟩
theorem qr1 {t : Ty} (h : qc t = true) (hc : t.con = []) : t = .mk [] t.var [] := ty_eq.2 ⟨⟨hc, rfl⟩, qnu (qft h) hc⟩
theorem qit {V : List Int} {s : List Pr} {st : List (Ty × Ty)} (h : Inv V s st) {t : Ty} (hb : bare t) (ht : ∀ w, w ∈ varY t → w ∈ V) {w : Int} (hw : w ∈ varY (putY s t)) : w ∈ V := by
 rw [qdi s t hb] at hw
 obtain ⟨v, h1, h2⟩ := qix _ t hb w hw
 cases hl : qi v s with
 | none => rw [qcs hl, var1] at h2; simp at h2; subst h2; exact ht _ h1
 | some u =>
   rw [funR, hl] at h2
   obtain ⟨p, hp, rfl, rfl⟩ := qdt hl
   exact h.vars p hp w h2
theorem q40 {V : List Int} {s : List Pr} {st : List (Ty × Ty)} (h : Inv V s st) {v : Int} {B : Ty} (hB : qc B = true) (hv : v ∈ V) (hn : qi v s = none) (hBV : ∀ w, w ∈ varY B → w ∈ V) (hBn : ∀ w, w ∈ varY B → qi w s = none) (ho : v ∉ varY B) (he : (behR s [⟨v, B⟩]).2 = 0) :
 Inv V (behR s [⟨v, B⟩]).1 st ∧ (behR s [⟨v, B⟩]).1.length = s.length + 1 := by
 have heq := qbfw h.ok hB hn he
 have hok := qrb h.ok (qdk (v := v) hB)
 have hlk := qo4 h.ok (qdk (v := v) hB) he
 have hmem : ∀ p ∈ (behR s [⟨v, B⟩]).1, p = ⟨v, B⟩ ∨ ∃ q ∈ s, p = ⟨q.v, putY [⟨v, B⟩] q.ty⟩ := fun p hp => by
  rw [heq] at hp
  rcases insR_mem.1 hp with rfl | hp
  ·exact .inl rfl
  ·obtain ⟨q, hq, rfl⟩ := List.mem_map.1 hp
   exact .inr ⟨q, hq, rfl⟩
 have hpv : ∀ q ∈ s, ∀ w, w ∈ varY (putY [⟨v, B⟩] q.ty) → (w ∈ varY q.ty ∧ w ≠ v) ∨ w ∈ varY B := fun q hq w hw => by
  have hb := qv (h.ok.2 q hq)
  rw [qdi _ _ hb] at hw
  obtain ⟨x, h1, h2⟩ := qix _ _ hb w hw
  by_cases hx : v = x
  ·rw [funR, qvd, if_pos hx] at h2
   exact .inr h2
  ·rw [funR, qvd, if_neg hx, Option.getD_none, var1] at h2
   simp at h2
   subst h2
   exact .inl ⟨h1, fun h => hx h.symm⟩
 have hfree : ∀ w, qi w s = none → w ≠ v → qi w (behR s [⟨v, B⟩]).1 = none := fun w h1 h2 => by
  rw [hlk, h1, qvd, if_neg (fun h => h2 h.symm)]
 refine ⟨⟨hok, fun p hp w hw => ?_, fun p hp => ?_, fun p hp w hw => ?_, h.leg, h.stk⟩, by rw [heq, qmf, List.length_map]⟩
 ·rcases hmem p hp with rfl | ⟨q, hq, rfl⟩
  ·exact hfree w (hBn w hw) fun h => ho (h ▸ hw)
  ·rcases hpv q hq w hw with ⟨h1, h2⟩ | h1
   ·exact hfree w (h.sep q hq w h1) h2
   ·exact hfree w (hBn w h1) fun h => ho (h ▸ h1)
 ·rcases hmem p hp with rfl | ⟨q, hq, rfl⟩
  ·exact hv
  ·exact h.keys q hq
 ·rcases hmem p hp with rfl | ⟨q, hq, rfl⟩
  ·exact hBV w hw
  ·rcases hpv q hq w hw with ⟨h1, h2⟩ | h1
   ·exact h.vars q hq w h1
   ·exact hBV w h1
def q92 (A B : Ty) (v : Int) (t : Ty) : Prop := (A = .mk [] v [] ∧ B = t) ∨ (B = .mk [] v [] ∧ A = t)
inductive StepU (V : List Int) (s : List Pr) (a b : Ty) : (List Pr × Int) × List (Ty × Ty) → Prop
 | same (h : putY s a = putY s b) : StepU V s a b ((s, 0), [])
 | bind (v : Int) (t : Ty) (hp : q92 (putY s a) (putY s b) v t) (ht : qc t = true) (hv : v ∈ V) (hn : qi v s = none) (hV : ∀ w, w ∈ varY t → w ∈ V) (hf : ∀ w, w ∈ varY t → qi w s = none) (ho : v ∉ varY t) (he : (behR s [⟨v, t⟩]).2 = 0) : StepU V s a b (behR s [⟨v, t⟩], [])
 | args (c : List UInt8) (x y : Int) (l m : List Ty) (hA : putY s a = .mk c x l) (hB : putY s b = .mk c y m) (hc : c ≠ []) (hl : l.length = m.length) (h1 : qc (.mk c x l) = true) (h2 : qc (.mk c y m) = true) : StepU V s a b ((s, 0), l.zip m)
 | limit : StepU V s a b (([], 2), [])
 | heads (h1 : (putY s a).con ≠ []) (h2 : (putY s b).con ≠ []) (h : ¬ ((putY s a).con = (putY s b).con ∧ (putY s a).args.length = (putY s b).args.length)) : StepU V s a b (([], 14), [])
 | occurs (v : Int) (t : Ty) (hp : q92 (putY s a) (putY s b) v t) (ht : qc t = true) (hv : v ∈ varY t) (hn : ¬ (t.con = [] ∧ t.var = v)) : StepU V s a b (([], 15), [])
theorem qso {V : List Int} {s : List Pr} {a b : Ty} {st : List (Ty × Ty)} (h : Inv V s st) {v : Int} {t : Ty} (hp : q92 (putY s a) (putY s b) v t) (ht : qc t = true) (hv : v ∈ V) (hn : qi v s = none) (hV : ∀ w, w ∈ varY t → w ∈ V) (hf : ∀ w, w ∈ varY t → qi w s = none) : StepU V s a b (bndU s v t, []) := by
 rw [bndU]
 split
 ·rename_i h1
  refine .same ?_
  have : t = .mk [] v [] := by rw [qr1 ht h1.1, h1.2]
  rcases hp with ⟨p1, p2⟩ | ⟨p1, p2⟩
  ·rw [p1, p2, this]
  ·rw [p1, p2, this]
 ·rename_i h1
  split
  ·rename_i h2
   exact .occurs v t hp ht h2 h1
  ·rename_i h2
   rcases q5w h.ok (qdk (v := v) ht) with he | ⟨he, he'⟩
   ·exact .bind v t hp ht hv hn hV hf h2 he
   ·rw [show behR s [⟨v, t⟩] = ([], 2) from Prod.ext he' he]
    exact .limit
theorem qe3 {V : List Int} {s : List Pr} {a b : Ty} {st : List (Ty × Ty)} (h : Inv V s ((a, b) :: st)) : StepU V s a b (stpU s a b) := by
 obtain ⟨ha, hb⟩ := h.leg (a, b) (by simp)
 have hba := qv ha
 have hbb := qv hb
 rw [stpU]
 by_cases e1 : (appR s a).2 = 0
 case neg =>
  rw [if_neg e1, (qw3 h.ok ha).resolve_left e1]; exact .limit
 rw [if_pos e1]
 by_cases e2 : (appR s b).2 = 0
 case neg =>
  rw [if_neg e2, (qw3 h.ok hb).resolve_left e2]; exact .limit
 rw [if_pos e2]
 obtain ⟨_, hA, eA⟩ := qbc h.ok e1
 obtain ⟨_, hB, eB⟩ := qbc h.ok e2
 rw [eA, eB]
 have fA : ∀ w, w ∈ varY (putY s a) → qi w s = none := fun w hw => qqj h.ok h.sep hba hw
 have fB : ∀ w, w ∈ varY (putY s b) → qi w s = none := fun w hw => qqj h.ok h.sep hbb hw
 have vA : ∀ w, w ∈ varY (putY s a) → w ∈ V := fun w hw => qit h hba (fun w hw => h.stk (a, b) (by simp) w (.inl hw)) hw
 have vB : ∀ w, w ∈ varY (putY s b) → w ∈ V := fun w hw => qit h hbb (fun w hw => h.stk (a, b) (by simp) w (.inr hw)) hw
 rw [hdU]
 by_cases c1 : (putY s a).con = []
 ·rw [if_pos c1]
  have hvar := qr1 hA c1
  have hmem : (putY s a).var ∈ varY (putY s a) := by rw [hvar, var1]; exact List.mem_singleton.2 rfl
  exact qso h (.inl ⟨hvar, rfl⟩) hB (vA _ hmem) (fA _ hmem) vB fB
 rw [if_neg c1]
 by_cases c2 : (putY s b).con = []
 ·rw [if_pos c2]
  have hvar := qr1 hB c2
  have hmem : (putY s b).var ∈ varY (putY s b) := by rw [hvar, var1]; exact List.mem_singleton.2 rfl
  exact qso h (.inr ⟨hvar, rfl⟩) hA (vB _ hmem) (fB _ hmem) vA fA
 rw [if_neg c2]
 by_cases c3 : (putY s a).con = (putY s b).con ∧ (putY s a).args.length = (putY s b).args.length
 ·rw [if_pos c3]
  have hA' : putY s a = .mk (putY s a).con (putY s a).var (putY s a).args := ty_eq.2 ⟨⟨rfl, rfl⟩, rfl⟩
  have hB' : putY s b = .mk (putY s a).con (putY s b).var (putY s b).args := ty_eq.2 ⟨⟨c3.1.symm, rfl⟩, rfl⟩
  refine .args _ _ _ _ _ hA' hB' c1 c3.2 (by rw [← hA']; exact hA) (by rw [← hB']; exact hB)
 ·rw [if_neg c3]
  exact .heads c1 c2 c3

def wtU (s : List Pr) : List (Ty × Ty) → Nat
 | [] => 0
 | x :: r => szY (putY s x.1) + wtU s r
theorem qmr (s : List Pr) : ∀ a b, wtU s (a ++ b) = wtU s a + wtU s b
 | [], b => by simp [wtU]
 | x :: a, b => by rw [List.cons_append, wtU, wtU, qmr s a b]; omega
theorem qp1 (s : List Pr) : ∀ a, a.length ≤ wtU s a
 | [] => Nat.zero_le _
 | x :: a => by have := qjb (putY s x.1); have := qp1 s a; rw [List.length_cons, wtU]; omega
theorem qvr {s : List Pr} : ∀ (l m : List Ty), (∀ x ∈ l, putY s x = x) → wtU s (l.zip m) ≤ szYs l
 | [], m, _ => by simp [wtU]
 | x :: l, [], _ => by simp [wtU]
 | x :: l, y :: m, h => by
   have := qvr l m fun z hz => h z (by simp [hz])
   rw [List.zip_cons_cons, wtU, szYs, h x (by simp)]
   omega
theorem qm8 {l m : List Ty} {x : Ty × Ty} (h : x ∈ l.zip m) : x.1 ∈ l ∧ x.2 ∈ m := ⟨(List.of_mem_zip h).1, (List.of_mem_zip h).2⟩
theorem qfd : ∀ {l : List Ty} {t : Ty} {w : Int}, t ∈ l → w ∈ varY t → w ∈ qbu l
 | [], t, w, h, _ => by simp at h
 | x :: r, t, w, h, hw => by
   rw [qbu]
   rcases List.mem_cons.1 h with rfl | h
   ·simp [hw]
   ·simp [qfd h hw]
theorem ql9 {c : List UInt8} {x : Int} {l : List Ty} {w : Int} (h : w ∈ qbu l) : w ∈ varY (.mk c x l) := by rw [qcv]; simp [h]
theorem qe7 {V : List Int} {s : List Pr} {a b : Ty} {st : List (Ty × Ty)} (h : Inv V s ((a, b) :: st)) {q : (List Pr × Int) × List (Ty × Ty)} (hq : StepU V s a b q) (he : q.1.2 = 0) :
 Inv V q.1.1 (q.2 ++ st) ∧ ((q.1.1 = s ∧ wtU s q.2 < szY (putY s a) ∧ wtU s q.2 ≤ 4096) ∨ (q.2 = [] ∧ q.1.1.length = s.length + 1)) := by
 cases hq with
 | same hh => exact ⟨h.tail, .inl ⟨rfl, qjb _, by simp [wtU]⟩⟩
 | bind v t hp ht hv hn hV hf ho he' =>
   obtain ⟨h1, h2⟩ := q40 h.tail ht hv hn hV hf ho he'
   exact ⟨h1, .inr ⟨rfl, h2⟩⟩
 | args c x y l m hA hB hc hl h1 h2 =>
   have ha := qv (h.leg (a, b) (by simp)).1
   have hb := qv (h.leg (a, b) (by simp)).2
   have hlf : ∀ z ∈ l, putY s z = z := fun z hz => q3f (qv (qjv (t := .mk c x l) h1 hz)) fun w hw => qqj h.ok h.sep ha (by rw [hA]; exact ql9 (qfd hz hw))
   have hw := qvr l m hlf
   have hsz : szYs l < 4096 := by
    have := ((ql _).1 h1).1
    rw [qnp] at this; omega
   refine ⟨⟨h.ok, h.sep, h.keys, h.vars, fun z hz => ?_, fun z hz w hw => ?_⟩, .inl ⟨rfl, by rw [hA, qnp]; show wtU s (l.zip m) < _; omega, by show wtU s (l.zip m) ≤ _; omega⟩⟩
   ·rcases List.mem_append.1 hz with hz | hz
    ·obtain ⟨q1, q2⟩ := qm8 hz
     exact ⟨qjv (t := .mk c x l) h1 q1, qjv (t := .mk c y m) h2 q2⟩
    ·exact h.leg z (by simp [hz])
   ·rcases List.mem_append.1 hz with hz | hz
    ·obtain ⟨q1, q2⟩ := qm8 hz
     rcases hw with hw | hw
     ·exact qit h ha (fun w hw => h.stk (a, b) (by simp) w (.inl hw)) (by rw [hA]; exact ql9 (qfd q1 hw))
     ·exact qit h hb (fun w hw => h.stk (a, b) (by simp) w (.inr hw)) (by rw [hB]; exact ql9 (qfd q2 hw))
    ·exact h.stk z (by simp [hz]) w hw
 | limit => cases he
 | heads => cases he
 | occurs => cases he
theorem qs1 : ∀ (l m : List Int), l.Nodup → (∀ x ∈ l, x ∈ m) → l.length ≤ m.length
 | [], m, _, _ => Nat.zero_le _
 | x :: l, m, hn, h => by
   rw [List.nodup_cons] at hn
   have hx := h x (by simp)
   have := qs1 l (m.erase x) hn.2 fun y hy => (List.mem_erase_of_ne (by intro e; subst e; exact hn.1 hy)).2 (h y (by simp [hy]))
   rw [List.length_erase_of_mem hx] at this
   have := List.length_pos_of_mem hx
   rw [List.length_cons]; omega
theorem Inv.len {V : List Int} {s : List Pr} {st : List (Ty × Ty)} (h : Inv V s st) : s.length ≤ V.length := by
 have := qs1 (s.map Pr.v) V (qox h.ok.1) fun v hv => by
  obtain ⟨p, hp, rfl⟩ := List.mem_map.1 hv
  exact h.keys p hp
 rwa [List.length_map] at this
theorem qwh {V : List Int} : ∀ (k m : Nat) (s : List Pr) (st : List (Ty × Ty)), Inv V s st → V.length - s.length ≤ k → wtU s st ≤ m → ∃ n r, slvU n s st = some r := by
 intro k
 induction k with
 | zero =>
   intro m
   induction m with
   | zero =>
     intro s st h hk hm
     cases st with
     | nil => exact ⟨0, _, rfl⟩
     | cons x st => have := qjb (putY s x.1); rw [wtU] at hm; omega
   | succ m ih =>
     intro s st h hk hm
     cases st with
     | nil => exact ⟨0, _, rfl⟩
     | cons x st =>
       obtain ⟨a, b⟩ := x
       by_cases he : (stpU s a b).1.2 = 0
       case neg => exact ⟨1, _, by rw [slvU, if_neg he]⟩
       obtain ⟨h1, h2⟩ := qe7 h (qe3 h) he
       rcases h2 with ⟨e1, h2, _⟩ | ⟨e1, h2⟩
       ·rw [e1] at h1
        obtain ⟨n, r, hr⟩ := ih s _ h1 hk (by rw [qmr]; rw [wtU] at hm; dsimp only at hm; omega)
        exact ⟨n + 1, r, by rw [slvU, if_pos he]; dsimp only; rw [e1]; exact hr⟩
       ·have := h1.len
        have := h.len
        omega
 | succ k ihk =>
   intro m
   induction m with
   | zero =>
     intro s st h hk hm
     cases st with
     | nil => exact ⟨0, _, rfl⟩
     | cons x st => have := qjb (putY s x.1); rw [wtU] at hm; omega
   | succ m ih =>
     intro s st h hk hm
     cases st with
     | nil => exact ⟨0, _, rfl⟩
     | cons x st =>
       obtain ⟨a, b⟩ := x
       by_cases he : (stpU s a b).1.2 = 0
       case neg => exact ⟨1, _, by rw [slvU, if_neg he]⟩
       obtain ⟨h1, h2⟩ := qe7 h (qe3 h) he
       rcases h2 with ⟨e1, h2, _⟩ | ⟨e1, h2⟩
       ·rw [e1] at h1
        obtain ⟨n, r, hr⟩ := ih s _ h1 hk (by rw [qmr]; rw [wtU] at hm; dsimp only at hm; omega)
        exact ⟨n + 1, r, by rw [slvU, if_pos he]; dsimp only; rw [e1]; exact hr⟩
       ·obtain ⟨n, r, hr⟩ := ihk _ _ _ h1 (by omega) (Nat.le_refl _)
        exact ⟨n + 1, r, by rw [slvU, if_pos he]; exact hr⟩
/-! what is told makes them one -/
theorem qy3 {f : Int → Ty} {v : Int} {t : Ty} (h : f v = subF f t) : abs f [⟨v, t⟩] := fun x => by
 by_cases hx : v = x
 ·rw [funR, qvd, if_pos hx, ← hx, h]; rfl
 ·rw [funR, qvd, if_neg hx, Option.getD_none, subF, if_pos rfl]
theorem q1q {V : List Int} {f : Int → Ty} {s : List Pr} (hs : okS s) {v : Int} {t : Ty} (ht : qc t = true) (hn : qi v s = none) (he : (behR s [⟨v, t⟩]).2 = 0) (h : abs f (behR s [⟨v, t⟩]).1) : abs f s ∧ f v = subF f t := by
 have hf := qta hs ht hn he
 have hv : f v = subF f t := by
  have := h v
  rw [hf v, hn] at this
  simp only [if_true] at this
  exact this.symm
 refine ⟨fun x => ?_, hv⟩
 cases hl : qi x s with
 | none => rw [qcs hl, subF, if_pos rfl]
 | some u =>
   have := h x
   rw [hf x, hl] at this
   simp only at this
   rw [funR, hl, Option.getD_some, ← qf0 (qy3 hv) (qv (qm2 hs hl))]
   exact this
theorem qbk9 {f : Int → Ty} {s : List Pr} (hs : okS s) {v : Int} {t : Ty} (ht : qc t = true) (hn : qi v s = none) (he : (behR s [⟨v, t⟩]).2 = 0) (h : abs f s) (hv : f v = subF f t) : abs f (behR s [⟨v, t⟩]).1 := fun x => by
 rw [qta hs ht hn he x]
 cases hl : qi x s with
 | none =>
   simp only
   by_cases hx : x = v
   ·rw [if_pos hx, hx, hv]
   ·rw [if_neg hx, subF, if_pos rfl]
 | some u =>
   simp only
   rw [qf0 (qy3 hv) (qv (qm2 hs hl))]
   have := h x
   rwa [funR, hl, Option.getD_some] at this
theorem q4w {s : List Pr} (hs : okS s) (h : sep s) : abs (funR s) s := fun v => by
 cases hl : qi v s with
 | none => rw [qcs hl, subF, if_pos rfl, qcs hl]
 | some u =>
   have hu : funR s v = u := by rw [funR, hl]; rfl
   rw [hu]
   obtain ⟨p, hp, rfl, rfl⟩ := qdt hl
   exact qqy _ _ (qv (hs.2 p hp)) fun w hw => qcs (h p hp w hw)
theorem qhp (f : Int → Ty) (v : Int) : subF f (.mk [] v []) = f v := by rw [subF, if_pos rfl]
theorem qmd {f : Int → Ty} : ∀ (l m : List Ty), l.length = m.length → ((∀ x ∈ l.zip m, subF f x.1 = subF f x.2) ↔ qbo f l = qbo f m)
 | [], [], _ => by simp [qbo]
 | [], y :: m, h => by simp at h
 | x :: l, [], h => by simp at h
 | x :: l, y :: m, h => by
   rw [qbo, qbo, List.cons.injEq, ← qmd l m (by simpa using h), List.zip_cons_cons]
   simp only [List.mem_cons, forall_eq_or_imp]
theorem qfu (f : Int → Ty) {t : Ty} (h : t.con ≠ []) : subF f t = .mk t.con t.var (qbo f t.args) := by
 cases t with
 | mk c v l =>
   have h' : c ≠ [] := h
   rw [subF, if_neg h']; rfl
theorem q5n {c d : List UInt8} {x y : Int} {l m : List Ty} (h : Ty.mk c x l = .mk d y m) : c = d ∧ x = y ∧ l = m := by cases h; exact ⟨rfl, rfl, rfl⟩
theorem qll {V : List Int} : ∀ (n : Nat) (s : List Pr) (st : List (Ty × Ty)) (r : List Pr × Int), Inv V s st → slvU n s st = some r → r.2 = 0 →
 Inv V r.1 [] ∧ abs (funR r.1) s ∧ ∀ x ∈ st, subF (funR r.1) x.1 = subF (funR r.1) x.2
 | n, s, [], r, h, hr, he => by
   rw [qgi] at hr
   simp only [Option.some.injEq] at hr
   subst hr
   exact ⟨h, q4w h.ok h.sep, fun x hx => by simp at hx⟩
 | 0, s, x :: st, r, h, hr, he => by simp [slvU] at hr
 | n + 1, s, (a, b) :: st, r, h, hr, he => by
   rw [slvU] at hr
   dsimp only at hr
   by_cases e0 : (stpU s a b).1.2 = 0
   case neg =>
    rw [if_neg e0] at hr
    simp only [Option.some.injEq] at hr
    subst hr
    exact absurd he e0
   rw [if_pos e0] at hr
   have hc := qe3 h
   obtain ⟨h1, _⟩ := qe7 h hc e0
   obtain ⟨q1, q2, q3⟩ := qll n _ _ r h1 hr he
   have hba := qv (h.leg (a, b) (by simp)).1
   have hbb := qv (h.leg (a, b) (by simp)).2
   generalize stpU s a b = q at hc e0 h1 q2 q3 hr
   have fin : abs (funR r.1) s → subF (funR r.1) (putY s a) = subF (funR r.1) (putY s b) → (∀ x ∈ st, subF (funR r.1) x.1 = subF (funR r.1) x.2) → Inv V r.1 [] ∧ abs (funR r.1) s ∧ ∀ x ∈ (a, b) :: st, subF (funR r.1) x.1 = subF (funR r.1) x.2 := fun k1 k2 k3 => by
    refine ⟨q1, k1, fun x hx => ?_⟩
    rcases List.mem_cons.1 hx with rfl | hx
    ·rwa [qf0 k1 hba, qf0 k1 hbb] at k2
    ·exact k3 x hx
   cases hc with
   | same hh => exact fin q2 (by rw [hh]) fun x hx => q3 x (by simp [hx])
   | bind v t hp ht hv hn hV hf ho he' =>
     obtain ⟨k1, k2⟩ := q1q (V := V) h.ok ht hn he' q2
     refine fin k1 ?_ fun x hx => q3 x (by simpa using hx)
     rcases hp with ⟨p1, p2⟩ | ⟨p1, p2⟩
     ·rw [p1, p2, qhp, k2]
     ·rw [p1, p2, qhp, k2]
   | args c x y l m hA hB hc' hl g1 g2 =>
     refine fin q2 ?_ fun x hx => q3 x (by simp [hx])
     have hx0 := qip ((ql _).1 g1).2.2 hc'
     have hy0 := qip ((ql _).1 g2).2.2 hc'
     rw [hA, hB, qfu _ (t := .mk c x l) hc', qfu _ (t := .mk c y m) hc']
     refine ty_eq.2 ⟨⟨rfl, hx0.trans hy0.symm⟩, ?_⟩
     exact (qmd l m hl).1 fun z hz => q3 z (by simp [hz])
   | limit => cases e0
   | heads => cases e0
   | occurs => cases e0
theorem qpn {V : List Int} (f : Int → Ty) : ∀ (n : Nat) (s : List Pr) (st : List (Ty × Ty)) (r : List Pr × Int), Inv V s st → slvU n s st = some r → abs f s → (∀ x ∈ st, subF f x.1 = subF f x.2) → (r.2 = 0 ∧ abs f r.1) ∨ r.2 = 2
 | n, s, [], r, h, hr, ha, hx => by
   rw [qgi] at hr
   simp only [Option.some.injEq] at hr
   subst hr
   exact .inl ⟨rfl, ha⟩
 | 0, s, x :: st, r, h, hr, ha, hx => by simp [slvU] at hr
 | n + 1, s, (a, b) :: st, r, h, hr, ha, hx => by
   rw [slvU] at hr
   dsimp only at hr
   have hba := qv (h.leg (a, b) (by simp)).1
   have hbb := qv (h.leg (a, b) (by simp)).2
   have hab : subF f (putY s a) = subF f (putY s b) := by rw [qf0 ha hba, qf0 ha hbb]; exact hx (a, b) (by simp)
   have hc := qe3 h
   by_cases e0 : (stpU s a b).1.2 = 0
   case neg =>
    rw [if_neg e0] at hr
    simp only [Option.some.injEq] at hr
    subst hr
    refine .inr ?_
    dsimp only
    generalize stpU s a b = q at hc e0
    cases hc with
    | same hh => exact absurd rfl e0
    | bind v t hp ht hv hn hV hf ho he' => exact absurd he' e0
    | args => exact absurd rfl e0
    | limit => rfl
    | heads h1 h2 h3 =>
      exfalso
      rw [qfu f h1, qfu f h2] at hab
      obtain ⟨k1, _, k2⟩ := q5n hab
      have := congrArg List.length k2
      rw [qf6, qf6] at this
      exact h3 ⟨k1, this⟩
    | occurs v t hp ht hv hn =>
      exfalso
      have hft : f v = subF f t := by
       rcases hp with ⟨p1, p2⟩ | ⟨p1, p2⟩
       ·rw [p1, p2, qhp] at hab; exact hab
       ·rw [p1, p2, qhp] at hab; exact hab.symm
      by_cases hc : t.con = []
      ·rw [qr1 ht hc, var1] at hv
       simp at hv
       exact hn ⟨hc, hv.symm⟩
      ·have hb := qv ht
       rw [qfu f hc] at hft
       have ht' : t = .mk t.con t.var t.args := ty_eq.2 ⟨⟨rfl, rfl⟩, rfl⟩
       rw [ht', qcv, if_neg hc, List.nil_append] at hv
       rw [qwi] at hb
       have := (qhm f t.args v hb.2 hv).1
       rw [hft, qnp] at this
       omega
   rw [if_pos e0] at hr
   obtain ⟨h1, _⟩ := qe7 h hc e0
   refine qpn f n _ _ r h1 hr ?_ ?_
   ·generalize stpU s a b = q at hc e0
    cases hc with
    | same hh => exact ha
    | bind v t hp ht hv hn hV hf ho he' =>
      refine qbk9 h.ok ht hn he' ha ?_
      rcases hp with ⟨p1, p2⟩ | ⟨p1, p2⟩
      ·rw [p1, p2, qhp] at hab; exact hab
      ·rw [p1, p2, qhp] at hab; exact hab.symm
    | args => exact ha
    | limit => cases e0
    | heads => cases e0
    | occurs => cases e0
   ·generalize stpU s a b = q at hc e0
    intro x hxm
    rcases List.mem_append.1 hxm with hxm | hxm
    ·cases hc with
     | same hh => cases hxm
     | bind v t hp ht hv hn hV hf ho he' => cases hxm
     | args c x' y l m hA hB hc' hl g1 g2 =>
       rw [hA, hB, qfu f (t := .mk c x' l) hc', qfu f (t := .mk c y m) hc'] at hab
       exact (qmd l m hl).2 (q5n hab).2.2 x hxm
     | limit => cases e0
     | heads => cases e0
     | occurs => cases e0
    ·exact hx x (by simp [hxm])
/-! how much may lie on the stack -/
def Bd (k : Nat) (s : List Pr) (st : List (Ty × Ty)) : Prop := ∃ P O, st = P ++ O ∧ wtU s P ≤ 4096 ∧ O.length ≤ k + 4097 * s.length
theorem q90 {V : List Int} {k : Nat} {s : List Pr} {a b : Ty} {st : List (Ty × Ty)} (h : Inv V s ((a, b) :: st)) (hb : Bd k s ((a, b) :: st)) {q : (List Pr × Int) × List (Ty × Ty)} (hq : StepU V s a b q) (he : q.1.2 = 0) : Bd k q.1.1 (q.2 ++ st) := by
 obtain ⟨P, O, e, h1, h2⟩ := hb
 obtain ⟨_, h3⟩ := qe7 h hq he
 cases P with
 | nil =>
   rw [List.nil_append] at e
   subst e
   rw [List.length_cons] at h2
   rcases h3 with ⟨e1, _, h3⟩ | ⟨e1, h3⟩
   ·rw [e1]; exact ⟨q.2, st, rfl, h3, by omega⟩
   ·rw [e1]; exact ⟨[], st, rfl, by simp [wtU], by rw [h3]; omega⟩
 | cons x P =>
   rw [List.cons_append, List.cons.injEq] at e
   obtain ⟨rfl, rfl⟩ := e
   rw [wtU] at h1
   rcases h3 with ⟨e1, h4, h3⟩ | ⟨e1, h3⟩
   ·rw [e1]; exact ⟨q.2 ++ P, O, by rw [List.append_assoc], by rw [qmr]; dsimp only at h1; omega, h2⟩
   ·have := qp1 s P
    rw [e1]; exact ⟨[], P ++ O, rfl, by simp [wtU], by rw [h3, List.length_append]; omega⟩
theorem qbsj {k : Nat} {s : List Pr} {st : List (Ty × Ty)} (h : Bd k s st) : st.length ≤ 4096 + k + 4097 * s.length := by
 obtain ⟨P, O, rfl, h1, h2⟩ := h
 have := qp1 s P
 rw [List.length_append]; omega
end Go.Proofs.YtlahgbhhejkgbaaGreat
