/- Texts of this proof, joined. -/
import Derived.Test.YtbbjelfnocmaoaaGreatBbb

/- matching: what it does -/
namespace Go.Proofs.YtbbjelfnocmaoaaGreat
open Go Go.RowKit Go.V
set_option linter.unusedVariables false
set_option linter.unusedSimpArgs false

mutual
def onP : Ty → Ty → List Pr → List Pr × Bool
 | .mk c v l, t, s => if c = [] then (match qq v s with | some u => (s, qfh u t) | none => ((setR s v t).1, decide ((setR s v t).2 = 0)))
  else if c = t.con then (if l.length = t.args.length then onPs l t.args s else (s, false)) else (s, false)
def onPs : List Ty → List Ty → List Pr → List Pr × Bool
 | [], _, s => (s, true)
 | x :: r, m, s => if (onP x (m.headD Y0) s).2 = true then onPs r m.tail (onP x (m.headD Y0) s).1 else ((onP x (m.headD Y0) s).1, false)
end
theorem qbpp (p t : Ty) (s : List Pr) : onP p t s = if p.con = [] then (match qq p.var s with | some u => (s, qfh u t) | none => ((setR s p.var t).1, decide ((setR s p.var t).2 = 0)))
 else if p.con = t.con then (if p.args.length = t.args.length then onPs p.args t.args s else (s, false)) else (s, false) := by
 cases p; rw [onP]; rfl
theorem qwa {l m : List Ty} {i : Nat} (h : i < l.length) (h' : i < m.length) (s : List Pr) : onPs (l.drop i) (m.drop i) s = if (onP (l.getD i Y0) (m.getD i Y0) s).2 = true then onPs (l.drop (i + 1)) (m.drop (i + 1)) (onP (l.getD i Y0) (m.getD i Y0) s).1 else ((onP (l.getD i Y0) (m.getD i Y0) s).1, false) := by
 rw [qg5 h, qg5 h', onPs]; rfl
theorem q0m {l m : List Ty} {i : Nat} (h : l.length ≤ i) (s : List Pr) : onPs (l.drop i) (m.drop i) s = (s, true) := by
 rw [List.drop_of_length_le h, onPs]
mutual
theorem q4y : ∀ (p t : Ty) (s : List Pr), okS s → okS (onP p t s).1 ∧ (onP p t s).1.length ≤ s.length + szY p
 | .mk c v l, t, s, h => by
   rw [onP, szY]
   split
   ·cases hl : qq v s with
    | some u => exact ⟨h, by dsimp only; omega⟩
    | none => exact ⟨qly h v t, by have := ql1 s v t; dsimp only; omega⟩
   split
   ·split
    ·have := qwv l t.args s h
     exact ⟨this.1, by omega⟩
    ·exact ⟨h, by dsimp only; omega⟩
   ·exact ⟨h, by dsimp only; omega⟩
theorem qwv : ∀ (l m : List Ty) (s : List Pr), okS s → okS (onPs l m s).1 ∧ (onPs l m s).1.length ≤ s.length + szYs l
 | [], m, s, h => by rw [onPs, szYs]; exact ⟨h, by dsimp only; omega⟩
 | x :: r, m, s, h => by
   have h1 := q4y x (m.headD Y0) s h
   rw [onPs, szYs]
   split
   ·have h2 := qwv r m.tail _ h1.1
    exact ⟨h2.1, by omega⟩
   ·exact ⟨h1.1, by dsimp only; omega⟩
end
def qki (l m : List Ty) (s : List Pr) : List Pr × Bool := if l.length = m.length then onPs l m s else (s, false)
def allP (l m : List Ty) : List Pr × Int := if l.all qg = true ∧ m.all qg = true then (if (qki l m []).2 = true then ((qki l m []).1, 0) else ([], 14)) else ([], 1)
def matP (p t : Ty) : List Pr × Int := allP [p] [t]
def abvP (p t : Ty) : Bool := decide ((matP p t).2 = 0)
theorem qxs {l : List Ty} {k : Nat} (h : l.all qg = true) (hl : l.length ≤ k) : szYs l ≤ 4096 * k := by
 induction l generalizing k with
 | nil => simp [szYs]
 | cons x r ih =>
   rw [List.all_cons, Bool.and_eq_true] at h
   rw [List.length_cons] at hl
   have h1 := ih (k := k - 1) h.2 (by omega)
   have h2 := ((qs x).1 h.1).1
   rw [szYs]
   have : 4096 * k = 4096 * (k - 1) + 4096 := by omega
   omega

mutual
def subF (f : Int → Ty) : Ty → Ty
 | .mk c v l => if c = [] then f v else .mk c v (qc6 f l)
def qc6 (f : Int → Ty) : List Ty → List Ty
 | [] => []
 | x :: r => subF f x :: qc6 f r
end
theorem qn9 (f : Int → Ty) : ∀ l, (qc6 f l).length = l.length
 | [] => rfl
 | x :: r => by rw [qc6, List.length_cons, List.length_cons, qn9 f r]
def funR (s : List Pr) (v : Int) : Ty := (qq v s).getD (.mk [] v [])
theorem q4k (c : List UInt8) (v : Int) (l : List Ty) : szY (.mk c v l) = 1 + szYs l := by rw [szY]
theorem q4j (c : List UInt8) (v : Int) (l : List Ty) : dpY (.mk c v l) = 1 + dpYs l := by rw [dpY]
theorem qpl (c : List UInt8) (v : Int) (l : List Ty) : varY (.mk c v l) = (if c = [] then [v] else []) ++ qg6 l := by rw [varY]
mutual
theorem qnn (f : Int → Ty) : ∀ t v, bare t → v ∈ varY t → szY (f v) ≤ szY (subF f t) ∧ dpY (f v) ≤ dpY (subF f t) ∧ (qbe (subF f t) = true → qbe (f v) = true)
 | .mk c x l, v, hb, h => by
   rw [bare] at hb
   rw [qpl] at h
   rw [subF]
   split
   ·rename_i hc
    have hl : l = [] := hb.1 hc
    subst hl
    rw [if_pos hc] at h
    simp only [qg6, List.append_nil, List.mem_singleton] at h
    subst h
    exact ⟨Nat.le_refl _, Nat.le_refl _, fun h => h⟩
   ·rename_i hc
    rw [if_neg hc, List.nil_append] at h
    have h1 := qli f l v hb.2 h
    refine ⟨by rw [q4k]; omega, by rw [q4j]; omega, fun hs => h1.2.2 ?_⟩
    rw [qbe, Bool.and_eq_true] at hs
    exact hs.1
theorem qli (f : Int → Ty) : ∀ l v, qf8 l → v ∈ qg6 l → szY (f v) ≤ szYs (qc6 f l) ∧ dpY (f v) ≤ dpYs (qc6 f l) ∧ (qt (qc6 f l) = true → qbe (f v) = true)
 | [], v, _, h => by simp [qg6] at h
 | x :: r, v, hb, h => by
   rw [qf8] at hb
   rw [qg6] at h
   rw [qc6, szYs, dpYs, qt, Bool.and_eq_true]
   rcases List.mem_append.1 h with h | h
   ·have h1 := qnn f x v hb.1 h
    exact ⟨by omega, by omega, fun hs => h1.2.2 hs.1⟩
   ·have h1 := qli f r v hb.2 h
    exact ⟨by omega, by omega, fun hs => h1.2.2 hs.2⟩
end
theorem qt7 {f : Int → Ty} {t : Ty} (hb : bare t) (h : qg (subF f t) = true) {v : Int} (hv : v ∈ varY t) : qg (f v) = true := by
 obtain ⟨h1, h2, h3⟩ := (qs _).1 h
 obtain ⟨q1, q2, q3⟩ := qnn f t v hb hv
 exact (qs _).2 ⟨by omega, by omega, q3 h3⟩
theorem qbpw {s : List Pr} {v : Int} {t : Ty} (h : (setR s v t).2 = 0) (hn : qq v s = none) : qg t = true ∧ (setR s v t).1 = insR v t s := by
 by_cases hl : qg t = true
 ·rw [qe8 hl hn]; exact ⟨hl, rfl⟩
 ·rw [qig (by simpa using hl)] at h; cases h
mutual
theorem qbct : ∀ (p t : Ty) (s : List Pr) (v : Int) (u : Ty), qq v s = some u → qq v (onP p t s).1 = some u
 | .mk c x l, t, s, v, u, h => by
   rw [onP]
   split
   ·cases hl : qq x s with
    | some w => exact h
    | none =>
      by_cases hlg : qg t = true
      ·dsimp only
       rw [qe8 hlg hl]
       dsimp only
       rw [qe1 hl]
       by_cases hv : v = x
       ·subst hv; rw [hl] at h; cases h
       ·rw [if_neg hv]; exact h
      ·dsimp only
       rw [qig (by simpa using hlg)]; exact h
   split
   ·split
    ·exact qmi l t.args s v u h
    ·exact h
   ·exact h
theorem qmi : ∀ (l m : List Ty) (s : List Pr) (v : Int) (u : Ty), qq v s = some u → qq v (onPs l m s).1 = some u
 | [], m, s, v, u, h => by rw [onPs]; exact h
 | x :: r, m, s, v, u, h => by
   have h1 := qbct x (m.headD Y0) s v u h
   rw [onPs]
   split
   ·exact qmi r m.tail _ v u h1
   ·exact h1
end
theorem qma {t : Ty} (h : qbe t = true) (hc : t.con ≠ []) : t.var = 0 := by
 rw [qc8, Bool.and_eq_true] at h
 have h2 := h.2
 rw [mayY, mayW, if_neg hc] at h2
 split at h2
 ·simp at h2; exact h2.1
 split at h2
 ·simp at h2; exact h2.1
 ·simp at h2; exact h2.1
mutual
theorem qsb (f : Int → Ty) : ∀ (p t : Ty) (s : List Pr), qbe p = true → qbe t = true → (onP p t s).2 = true → (∀ v u, qq v (onP p t s).1 = some u → f v = u) → subF f p = t
 | .mk c x l, t, s, hp, ht, h, hf => by
   rw [onP] at h hf
   rw [subF]
   by_cases hc : c = []
   ·rw [if_pos hc] at h hf ⊢
    cases hl : qq x s with
    | some w =>
      rw [hl] at h hf
      have hs := (qh8 w t).1 h
      subst hs
      exact hf x w hl
    | none =>
      rw [hl] at h hf
      dsimp only at h hf
      obtain ⟨q1, q2⟩ := qbpw (of_decide_eq_true h) hl
      refine hf x t ?_
      rw [q2, qe1 hl, if_pos rfl]
   ·rw [if_neg hc] at h hf ⊢
    by_cases hct : c = t.con
    ·rw [if_pos hct] at h hf
     by_cases hlt : l.length = t.args.length
     ·rw [if_pos hlt] at h hf
      have hp1 : qt l = true := by rw [qbe, Bool.and_eq_true] at hp; exact hp.1
      have ht1 : qt t.args = true := by rw [qc8, Bool.and_eq_true] at ht; exact ht.1
      have h1 := qnf f l t.args s hlt hp1 ht1 h hf
      have hv1 : x = 0 := qma hp hc
      have hv2 : t.var = 0 := qma ht (by rw [← hct]; exact hc)
      rw [h1]
      refine ty_eq.2 ⟨⟨hct, ?_⟩, rfl⟩
      rw [hv2]; exact hv1
     ·rw [if_neg hlt] at h; cases h
    ·rw [if_neg hct] at h; cases h
theorem qnf (f : Int → Ty) : ∀ (l m : List Ty) (s : List Pr), l.length = m.length → qt l = true → qt m = true → (onPs l m s).2 = true → (∀ v u, qq v (onPs l m s).1 = some u → f v = u) → qc6 f l = m
 | [], [], s, _, _, _, _, _ => by rw [qc6]
 | x :: r, [], s, hlm, _, _, _, _ => by simp at hlm
 | [], y :: m, s, hlm, _, _, _, _ => by simp at hlm
 | x :: r, y :: m, s, hlm, hl, hm, h, hf => by
   rw [onPs] at h hf
   rw [qt, Bool.and_eq_true] at hl hm
   show qc6 f (x :: r) = y :: m
   by_cases h0 : (onP x y s).2 = true
   ·have h0' : (onP x ((y :: m).headD Y0) s).2 = true := h0
    rw [if_pos h0'] at h hf
    have h2 := qnf f r m _ (by simpa using hlm) hl.2 hm.2 h hf
    have h1 := qsb f x y s hl.1 hm.1 h0 fun v u hu => hf v u (qmi r m _ v u hu)
    rw [qc6, h1, h2]
   ·have h0' : ¬ (onP x ((y :: m).headD Y0) s).2 = true := h0
    rw [if_neg h0'] at h; cases h
end
mutual
theorem qjd (f : Int → Ty) : ∀ (p : Ty) (s : List Pr), bare p → (∀ v u, qq v s = some u → f v = u) → (∀ v, v ∈ varY p → qg (f v) = true) →
 (onP p (subF f p) s).2 = true ∧ ∀ v u, qq v (onP p (subF f p) s).1 = some u → f v = u
 | .mk c x l, s, hb, hs, hv => by
   rw [bare] at hb
   rw [onP, subF]
   by_cases hc : c = []
   ·rw [if_pos hc, if_pos hc]
    cases hl : qq x s with
    | some w => exact ⟨by dsimp only; rw [hs x w hl]; exact qy5 _, hs⟩
    | none =>
      have hlg := hv x (by rw [qpl, if_pos hc]; simp)
      dsimp only
      rw [qe8 hlg hl]
      refine ⟨rfl, fun v u hu => ?_⟩
      dsimp only at hu
      rw [qe1 hl] at hu
      by_cases hvx : v = x
      ·rw [if_pos hvx] at hu; rw [hvx]; simpa using hu
      ·rw [if_neg hvx] at hu; exact hs v u hu
   ·rw [if_neg hc, if_neg hc]
    have h1 : c = (Ty.mk c x (qc6 f l)).con := rfl
    have h2 : l.length = (Ty.mk c x (qc6 f l)).args.length := (qn9 f l).symm
    rw [if_pos h1, if_pos h2]
    exact qhz f l s hb.2 hs fun v hvl => hv v (by rw [qpl, if_neg hc]; exact hvl)
theorem qhz (f : Int → Ty) : ∀ (l : List Ty) (s : List Pr), qf8 l → (∀ v u, qq v s = some u → f v = u) → (∀ v, v ∈ qg6 l → qg (f v) = true) →
 (onPs l (qc6 f l) s).2 = true ∧ ∀ v u, qq v (onPs l (qc6 f l) s).1 = some u → f v = u
 | [], s, _, hs, _ => by rw [onPs]; exact ⟨rfl, hs⟩
 | x :: r, s, hb, hs, hv => by
   rw [qf8] at hb
   have h1 := qjd f x s hb.1 hs fun v h => hv v (by rw [qg6]; simp [h])
   have e1 : (qc6 f (x :: r)).headD Y0 = subF f x := by rw [qc6]; rfl
   have e2 : (qc6 f (x :: r)).tail = qc6 f r := by rw [qc6]; rfl
   rw [onPs, e1, e2, if_pos h1.1]
   exact qhz f r _ hb.2 h1.2 fun v h => hv v (by rw [qg6]; simp [h])
end

theorem q32 (p t : Ty) (s : List Pr) : qki [p] [t] s = onP p t s := by
 rw [qki, if_pos (by rfl : [p].length = [t].length), onPs]
 show (if (onP p t s).2 = true then onPs [] [] (onP p t s).1 else ((onP p t s).1, false)) = _
 rw [onPs]
 generalize onP p t s = q
 obtain ⟨a, b⟩ := q
 cases b <;> rfl
theorem q4x (p t : Ty) : matP p t = if qg p = true ∧ qg t = true then (if (onP p t []).2 = true then ((onP p t []).1, 0) else ([], 14)) else ([], 1) := by
 rw [matP, allP, q32]
 simp only [List.all_cons, List.all_nil, Bool.and_true]
theorem qbs4 {p t : Ty} (h : (matP p t).2 = 0) : qg p = true ∧ qg t = true ∧ (onP p t []).2 = true ∧ (matP p t).1 = (onP p t []).1 := by
 rw [q4x] at h ⊢
 by_cases h1 : qg p = true ∧ qg t = true
 ·rw [if_pos h1] at h ⊢
  by_cases h2 : (onP p t []).2 = true
  ·rw [if_pos h2]; exact ⟨h1.1, h1.2, h2, rfl⟩
  ·rw [if_neg h2] at h; cases h
 ·rw [if_neg h1] at h; cases h
theorem quz {t : Ty} (h : qg t = true) : bare t := qcn t ((qs t).1 h).2.2
theorem qbce {p t : Ty} (hp : qg p = true) (ht : qg t = true) : abvP p t = true ↔ ∃ f, subF f p = t := by
 rw [abvP, decide_eq_true_eq]
 constructor
 ·intro h
  obtain ⟨_, _, h3, _⟩ := qbs4 h
  refine ⟨funR (onP p t []).1, qsb _ p t [] ((qs p).1 hp).2.2 ((qs t).1 ht).2.2 h3 fun v u hu => ?_⟩
  rw [funR, hu]; rfl
 ·rintro ⟨f, rfl⟩
  have hb := quz hp
  have h1 := qjd f p [] hb (fun v u h => by simp [qq] at h) fun v hv => qt7 hb ht hv
  rw [q4x, if_pos ⟨hp, ht⟩, if_pos h1.1]
/-! the reference's -/
theorem qwm {t a : Ty} (h : qg t = true) (ha : a ∈ t.args) : qg a = true := by
 obtain ⟨h1, h2, h3⟩ := (qs t).1 h
 have q1 := qdc ha
 have q2 := qhm ha
 rw [qcw] at h1
 rw [qji] at h2
 rw [qc8, Bool.and_eq_true] at h3
 refine (qs a).2 ⟨by omega, by omega, ?_⟩
 have : ∀ l : List Ty, qt l = true → ∀ a ∈ l, qbe a = true := fun l => by
  induction l with
  | nil => intro _ a ha; cases ha
  | cons x r ih =>
    intro hl a ha
    rw [qt, Bool.and_eq_true] at hl
    rcases List.mem_cons.1 ha with rfl | ha
    ·exact hl.1
    ·exact ih hl.2 a ha
 exact this _ h3.1 a ha
end Go.Proofs.YtbbjelfnocmaoaaGreat
