/- A text of this proof. -/
import Derived.Test.YtmekebfgmjaenaaPbd
import Derived.Test.YtmekebfgmjaenaaPbk

/- patterns: the reference -/
namespace Go.Proofs.Ytmekebfgmjaenaa
open Go Go.RowKit Go.V
set_option linter.unusedVariables false
set_option linter.unusedSimpArgs false

theorem qv0 {c : K} (h : (leafP c).isSome = true) : c.err = 0 ∧ rest (qs c) + 1 = rest c := by
  obtain ⟨n, hn⟩ := Option.isSome_iff_exists.1 h
  exact ⟨(qfm (qhp hn)).1, qbh (qhp hn)⟩
theorem q5g {c : K} (h : begP c = true) : c.err = 0 := by
  simp only [begP, Bool.or_eq_true] at h
  rcases h with h | h
  · exact (qv0 h).1
  · exact qt7 h
theorem qvk {c : K} (h : c.err ≠ 0) : begP c = false := by
  cases hb : begP c with
  | false => rfl
  | true => exact absurd (q5g hb) h
def qe9 (rec : K → K × N) (c : K) : K × N :=
  if begP c = true then
    if isK c [40] = true then (qbv (qr (rec (qr (qe c).1 [40]).1).1 [41]).1, (rec (qr (qe c).1 [40]).1).2)
    else (qs c, (leafP c).getD N0)
  else (qee c 5, N0)
def qgn (rec : K → K × N) : Nat → K → List N → K × List N
  | 0, c, acc => (c, acc)
  | f + 1, c, acc => if begP c = true then qgn rec f (qe9 rec c).1 (acc ++ [(qe9 rec c).2]) else (c, acc)
def qkm : Nat → K → K × N
  | 0, c => (c, N0)
  | f + 1, c =>
    if (qw (qe c).1).kind = 2 then
      (qbv (qgn (qkm f) (em (qs (qe c).1) + 1) (qs (qe c).1) []).1, .mk 14 (qw (qe c).1).pos 0 (qw (qe c).1).text (qgn (qkm f) (em (qs (qe c).1) + 1) (qs (qe c).1) []).2)
    else (qbv (qe9 (qkm f) (qe c).1).1, (qe9 (qkm f) (qe c).1).2)
section
variable {rec : K → K × N} (hm : ∀ c, Mon c (rec c).1)
include hm
theorem qtd (c : K) : Mon (qr (qe c).1 [40]).1 (qbv (qr (rec (qr (qe c).1 [40]).1).1 [41]).1) := ((hm _).trans (qo _ _)).trans (qbg _)
theorem qm8 (c : K) : Mon c (qe9 rec c).1 := by
  unfold qe9
  split
  · split
    · exact ((qx c).trans (qo _ _)).trans (qtd hm c)
    · exact qbm c
  · exact qec c 5
theorem qrw {c : K} (h : begP c = true) : em (qe9 rec c).1 < em c := by
  unfold qe9
  rw [if_pos h]
  split
  · have h1 := qim (c := c) (by assumption)
    have h2 := (qtd hm c).em
    simp only; omega
  · rename_i hk
    have h1 := qv0 (c := c) (by simpa [begP, hk] using h)
    have h2 := qxr (qs c)
    rw [q9x h1.1]
    simp only; omega
theorem qnj : ∀ (f : Nat) (c : K) (acc : List N), Mon c (qgn rec f c acc).1
  | 0, c, acc => Mon.refl c
  | f + 1, c, acc => by
    rw [qgn]
    split
    · exact (qm8 hm c).trans (qnj f _ _)
    · exact Mon.refl c
end
theorem qjs : ∀ (f : Nat) (c : K), Mon c (qkm f c).1
  | 0, c => Mon.refl c
  | f + 1, c => by
    rw [qkm]
    split
    · exact (((qx c).trans (qbm _)).trans (qnj (qjs f) _ _ _)).trans (qbg _)
    · exact ((qx c).trans (qm8 (qjs f) _)).trans (qbg _)

/-! The program. -/
/-! What both read. -/
theorem qmo {rec : K → K × N} {c : K} (h : c.err ≠ 0) : qe9 rec c = (c, N0) := by
  rw [qe9, if_neg (by rw [qvk h]; simp), qev h]
theorem qu0 {rec : K → K × N} {c : K} (h : c.err ≠ 0) (f : Nat) (acc : List N) : qgn rec f c acc = (c, acc) := by
  cases f with
  | zero => rfl
  | succ f => rw [qgn, if_neg (by rw [qvk h]; simp)]
theorem qrk (f : Nat) {c : K} (h : c.err ≠ 0) : qkm f c = (c, N0) := by
  cases f with
  | zero => rfl
  | succ f => rw [qkm, qih h, qft h, if_neg (by decide), qmo h, qb3 h]
section
variable {rp : K → K × Option N} {rr : K → K × N} {b : Nat} (hx : ∀ c : K, c.err ≠ 0 → (rr c).1 = c) (ih : ∀ c, em c < b → qdl (rp c) (rr c))
include hx ih
theorem qoy {c : K} (hr : em c ≤ b) : qdl (qbn rp c) (qe9 rr c) := by
  unfold qbn qe9
  by_cases hl : (leafP c).isSome = true
  · have hk : ¬ isK c [40] = true := by
      intro h
      obtain ⟨n, hn⟩ := Option.isSome_iff_exists.1 hl
      simp only [isK, qes, Bool.and_eq_true, Bool.or_eq_true, decide_eq_true_eq] at h
      unfold leafP at hn
      rw [if_neg (by omega), if_neg (by omega), if_neg (by omega), if_neg (by simp [isK, qes, h.2.2])] at hn
      cases hn
    rw [if_pos hl, if_pos (show begP c = true by simp [begP, hl]), if_neg hk]
    exact ⟨rfl, fun n h => by simp only at h ⊢; rw [h]; rfl, fun h => by simp only at h; rw [h] at hl; cases hl⟩
  · rw [if_neg hl]
    by_cases hk : isK c [40] = true
    · rw [if_pos hk, if_pos (show begP c = true by simp [begP, hk]), if_pos hk]
      have hem := qim hk
      by_cases he : (qe c).2 = true
      · rw [if_pos he]
        have hk' : isK (qe c).1 [40] = true := by rw [qlv he]; exact hk
        rw [qgb hk'] at hem ⊢
        simp only at hem ⊢
        obtain ⟨a1, a2, a3⟩ := ih (qs (qe c).1) (by omega)
        rw [← a1]
        generalize rp (qs (qe c).1) = r at *
        obtain ⟨d, o⟩ := r
        simp only at a1 a2 a3 ⊢
        cases o with
        | none =>
          have h3 := a3 rfl
          rw [if_neg (by simp), qbz h3, qb3 h3]
          exact ⟨rfl, (fun n h => by cases h), fun _ => h3⟩
        | some n =>
          rw [if_pos (by rfl)]
          by_cases hw : (qr d [41]).2 = true
          · rw [if_pos hw]
            exact ⟨rfl, fun m h => a2 m h, (fun h => by cases h)⟩
          · rw [if_neg hw]
            have h3 := qdh (by simpa using hw)
            exact ⟨(qb3 h3).symm, (fun n h => by cases h), fun _ => h3⟩
      · have he' : (qe c).2 = false := by simpa using he
        have h1 := qe3 he'
        rw [if_neg he]
        rw [qbz h1] at hem ⊢
        simp only at hem ⊢
        rw [hx _ h1, qbz h1, qb3 h1]
        exact ⟨rfl, (fun n h => by cases h), fun _ => h1⟩
    · rw [if_neg hk, if_neg (show ¬ begP c = true by simp [begP, hl, hk])]
      exact ⟨rfl, (fun n h => by cases h), fun _ => qg6 c⟩
theorem qpe (hp : ∀ c, Mon c (rp c).1) (hm : ∀ c, Mon c (rr c).1) : ∀ (f g : Nat) (c : K) (acc : List N), rest c < f → em c < g → em c ≤ b →
    (qeq rp f c acc).1 = (qgn rr g c acc).1 ∧ (∀ l, (qeq rp f c acc).2 = some l → l = (qgn rr g c acc).2) ∧ ((qeq rp f c acc).2 = none → (qeq rp f c acc).1.err ≠ 0)
  | 0, _, _, _ => fun h _ _ => by omega
  | _, 0, _, _ => fun _ h _ => by omega
  | f + 1, g + 1, c, acc => fun hf hg hb => by
    rw [qeq, qgn]
    by_cases hk : begP c = true
    · rw [if_pos hk, if_pos hk]
      obtain ⟨a1, a2, a3⟩ := qoy hx ih hb
      have hl := qrw hm hk
      rw [← a1] at hl ⊢
      cases ho : (qbn rp c).2 with
      | none =>
        have h3 := a3 ho
        rw [if_neg (by simp), qu0 h3]
        exact ⟨rfl, (fun n h => by cases h), fun _ => h3⟩
      | some n =>
        rw [if_pos (by rfl), ← a2 n ho]
        exact qpe hp hm f g _ _ (by have := qmv hp (c := c) (by rw [ho]; rfl); omega) (by omega) (by omega)
    · rw [if_neg hk, if_neg hk]
      exact ⟨rfl, (fun l h => by cases h; rfl), (fun h => by cases h)⟩
end
theorem qv4 : ∀ (f : Nat) (c : K), em c < f → qdl (qb1 f c) (qkm f c)
  | 0, _ => fun h => by omega
  | f + 1, c => fun hf => by
    have ih := qv4 f
    have hx : ∀ c : K, c.err ≠ 0 → (qkm f c).1 = c := fun c h => by rw [qrk f h]
    by_cases he : (qe c).2 = true
    · have h1 := (qx c).em
      rw [qb1, qkm, if_pos he]
      by_cases hk : (qw (qe c).1).kind = 2
      · rw [if_pos hk, if_pos hk]
        have hr := qbh (c := (qe c).1) (by omega)
        obtain ⟨a1, a2, a3⟩ := qpe hx ih (qd8 f) (qjs f) (rest (qe c).1 + 1) (em (qs (qe c).1) + 1) (qs (qe c).1) [] (by omega) (by omega) (by have := (qbm (qe c).1).em; omega)
        rw [← a1]
        generalize qeq (qb1 f) (rest (qe c).1 + 1) (qs (qe c).1) [] = r at *
        obtain ⟨d, o⟩ := r
        cases o with
        | none =>
          have h3 := a3 rfl
          simp only at h3
          refine ⟨rfl, (fun n h => by cases h), fun _ => ?_⟩
          simp only
          rwa [qb3 h3]
        | some l => exact ⟨rfl, (fun n h => by cases h; rw [a2 l rfl]), (fun h => by cases h)⟩
      · rw [if_neg hk, if_neg hk]
        obtain ⟨a1, a2, a3⟩ := qoy hx ih (c := (qe c).1) (by omega)
        rw [← a1]
        exact ⟨rfl, a2, fun h => by simp only at h ⊢; rw [qb3 (a3 h)]; exact a3 h⟩
    · have he' : (qe c).2 = false := by simpa using he
      have h1 := qe3 he'
      rw [qb1, if_neg he, qkm, qft h1, if_neg (by decide), qmo h1]
      exact ⟨(qb3 h1).symm, (fun n h => by cases h), fun _ => h1⟩
end Go.Proofs.Ytmekebfgmjaenaa
