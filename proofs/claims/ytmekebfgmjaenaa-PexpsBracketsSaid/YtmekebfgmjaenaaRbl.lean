/- A text of this proof. -/
import Derived.Test.YtmekebfgmjaenaaRbd
import Derived.Test.YtmekebfgmjaenaaRbk

/- patterns: the reference -/
namespace Go.Proofs.Ytmekebfgmjaenaa
open Go Go.RowKit Go.V
set_option linter.unusedVariables false
set_option linter.unusedSimpArgs false

theorem qvt {c : K} (h : (leafP c).isSome = true) : c.err = 0 ∧ rest (qt c) + 1 = rest c := by
  obtain ⟨n, hn⟩ := Option.isSome_iff_exists.1 h
  exact ⟨(qff (qhd hn)).1, qbg (qhd hn)⟩
theorem q6i {c : K} (h : begP c = true) : c.err = 0 := by
  simp only [begP, Bool.or_eq_true] at h
  rcases h with h | h
  · exact (qvt h).1
  · exact qtn h
theorem qvs {c : K} (h : c.err ≠ 0) : begP c = false := by
  cases hb : begP c with
  | false => rfl
  | true => exact absurd (q6i hb) h
def qe1 (rec : K → K × N) (c : K) : K × N :=
  if begP c = true then
    if isK c [40] = true then (qbn (qq (rec (qq (qe c).1 [40]).1).1 [41]).1, (rec (qq (qe c).1 [40]).1).2)
    else (qt c, (leafP c).getD N0)
  else (qee c 5, N0)
def qgd (rec : K → K × N) : Nat → K → List N → K × List N
  | 0, c, acc => (c, acc)
  | f + 1, c, acc => if begP c = true then qgd rec f (qe1 rec c).1 (acc ++ [(qe1 rec c).2]) else (c, acc)
def qj2 : Nat → K → K × N
  | 0, c => (c, N0)
  | f + 1, c =>
    if (qw (qe c).1).kind = 2 then
      (qbn (qgd (qj2 f) (em (qt (qe c).1) + 1) (qt (qe c).1) []).1, .mk 14 (qw (qe c).1).pos 0 (qw (qe c).1).text (qgd (qj2 f) (em (qt (qe c).1) + 1) (qt (qe c).1) []).2)
    else (qbn (qe1 (qj2 f) (qe c).1).1, (qe1 (qj2 f) (qe c).1).2)
section
variable {rec : K → K × N} (hm : ∀ c, Mon c (rec c).1)
include hm
theorem qr3 (c : K) : Mon (qq (qe c).1 [40]).1 (qbn (qq (rec (qq (qe c).1 [40]).1).1 [41]).1) := ((hm _).trans (qo _ _)).trans (qbc _)
theorem qnw (c : K) : Mon c (qe1 rec c).1 := by
  unfold qe1
  split
  · split
    · exact ((qv c).trans (qo _ _)).trans (qr3 hm c)
    · exact qbm c
  · exact qd7 c 5
theorem qrv {c : K} (h : begP c = true) : em (qe1 rec c).1 < em c := by
  unfold qe1
  rw [if_pos h]
  split
  · have h1 := qig (c := c) (by assumption)
    have h2 := (qr3 hm c).em
    simp only; omega
  · rename_i hk
    have h1 := qvt (c := c) (by simpa [begP, hk] using h)
    have h2 := qxv (qt c)
    rw [qbef h1.1]
    simp only; omega
theorem qnz : ∀ (f : Nat) (c : K) (acc : List N), Mon c (qgd rec f c acc).1
  | 0, c, acc => Mon.refl c
  | f + 1, c, acc => by
    rw [qgd]
    split
    · exact (qnw hm c).trans (qnz f _ _)
    · exact Mon.refl c
end
theorem qjs : ∀ (f : Nat) (c : K), Mon c (qj2 f c).1
  | 0, c => Mon.refl c
  | f + 1, c => by
    rw [qj2]
    split
    · exact (((qv c).trans (qbm _)).trans (qnz (qjs f) _ _ _)).trans (qbc _)
    · exact ((qv c).trans (qnw (qjs f) _)).trans (qbc _)

/-! The program. -/
/-! What both read. -/
theorem qmn {rec : K → K × N} {c : K} (h : c.err ≠ 0) : qe1 rec c = (c, N0) := by
  rw [qe1, if_neg (by rw [qvs h]; simp), qex h]
theorem qt1 {rec : K → K × N} {c : K} (h : c.err ≠ 0) (f : Nat) (acc : List N) : qgd rec f c acc = (c, acc) := by
  cases f with
  | zero => rfl
  | succ f => rw [qgd, if_neg (by rw [qvs h]; simp)]
theorem qtd (f : Nat) {c : K} (h : c.err ≠ 0) : qj2 f c = (c, N0) := by
  cases f with
  | zero => rfl
  | succ f => rw [qj2, qic h, qfo h, if_neg (by decide), qmn h, qb1 h]
section
variable {rp : K → K × Option N} {rr : K → K × N} {b : Nat} (hx : ∀ c : K, c.err ≠ 0 → (rr c).1 = c) (ih : ∀ c, em c < b → qdn (rp c) (rr c))
include hx ih
theorem qpd {c : K} (hr : em c ≤ b) : qdn (qbj rp c) (qe1 rr c) := by
  unfold qbj qe1
  by_cases hl : (leafP c).isSome = true
  · have hk : ¬ isK c [40] = true := by
      intro h
      obtain ⟨n, hn⟩ := Option.isSome_iff_exists.1 hl
      simp only [isK, qe6, Bool.and_eq_true, Bool.or_eq_true, decide_eq_true_eq] at h
      unfold leafP at hn
      rw [if_neg (by omega), if_neg (by omega), if_neg (by omega), if_neg (by simp [isK, qe6, h.2.2])] at hn
      cases hn
    rw [if_pos hl, if_pos (show begP c = true by simp [begP, hl]), if_neg hk]
    exact ⟨rfl, fun n h => by simp only at h ⊢; rw [h]; rfl, fun h => by simp only at h; rw [h] at hl; cases hl⟩
  · rw [if_neg hl]
    by_cases hk : isK c [40] = true
    · rw [if_pos hk, if_pos (show begP c = true by simp [begP, hk]), if_pos hk]
      have hem := qig hk
      by_cases he : (qe c).2 = true
      · rw [if_pos he]
        have hk' : isK (qe c).1 [40] = true := by rw [qlt he]; exact hk
        rw [qg3 hk'] at hem ⊢
        simp only at hem ⊢
        obtain ⟨a1, a2, a3⟩ := ih (qt (qe c).1) (by omega)
        rw [← a1]
        generalize rp (qt (qe c).1) = r at *
        obtain ⟨d, o⟩ := r
        simp only at a1 a2 a3 ⊢
        cases o with
        | none =>
          have h3 := a3 rfl
          rw [if_neg (by simp), qbv h3, qb1 h3]
          exact ⟨rfl, (fun n h => by cases h), fun _ => h3⟩
        | some n =>
          rw [if_pos (by rfl)]
          by_cases hw : (qq d [41]).2 = true
          · rw [if_pos hw]
            exact ⟨rfl, fun m h => a2 m h, (fun h => by cases h)⟩
          · rw [if_neg hw]
            have h3 := qdg (by simpa using hw)
            exact ⟨(qb1 h3).symm, (fun n h => by cases h), fun _ => h3⟩
      · have he' : (qe c).2 = false := by simpa using he
        have h1 := qet he'
        rw [if_neg he]
        rw [qbv h1] at hem ⊢
        simp only at hem ⊢
        rw [hx _ h1, qbv h1, qb1 h1]
        exact ⟨rfl, (fun n h => by cases h), fun _ => h1⟩
    · rw [if_neg hk, if_neg (show ¬ begP c = true by simp [begP, hl, hk])]
      exact ⟨rfl, (fun n h => by cases h), fun _ => qgz c⟩
theorem qoo (hp : ∀ c, Mon c (rp c).1) (hm : ∀ c, Mon c (rr c).1) : ∀ (f g : Nat) (c : K) (acc : List N), rest c < f → em c < g → em c ≤ b →
    (qek rp f c acc).1 = (qgd rr g c acc).1 ∧ (∀ l, (qek rp f c acc).2 = some l → l = (qgd rr g c acc).2) ∧ ((qek rp f c acc).2 = none → (qek rp f c acc).1.err ≠ 0)
  | 0, _, _, _ => fun h _ _ => by omega
  | _, 0, _, _ => fun _ h _ => by omega
  | f + 1, g + 1, c, acc => fun hf hg hb => by
    rw [qek, qgd]
    by_cases hk : begP c = true
    · rw [if_pos hk, if_pos hk]
      obtain ⟨a1, a2, a3⟩ := qpd hx ih hb
      have hl := qrv hm hk
      rw [← a1] at hl ⊢
      cases ho : (qbj rp c).2 with
      | none =>
        have h3 := a3 ho
        rw [if_neg (by simp), qt1 h3]
        exact ⟨rfl, (fun n h => by cases h), fun _ => h3⟩
      | some n =>
        rw [if_pos (by rfl), ← a2 n ho]
        exact qoo hp hm f g _ _ (by have := qm8 hp (c := c) (by rw [ho]; rfl); omega) (by omega) (by omega)
    · rw [if_neg hk, if_neg hk]
      exact ⟨rfl, (fun l h => by cases h; rfl), (fun h => by cases h)⟩
end
theorem qvf : ∀ (f : Nat) (c : K), em c < f → qdn (qbx f c) (qj2 f c)
  | 0, _ => fun h => by omega
  | f + 1, c => fun hf => by
    have ih := qvf f
    have hx : ∀ c : K, c.err ≠ 0 → (qj2 f c).1 = c := fun c h => by rw [qtd f h]
    by_cases he : (qe c).2 = true
    · have h1 := (qv c).em
      rw [qbx, qj2, if_pos he]
      by_cases hk : (qw (qe c).1).kind = 2
      · rw [if_pos hk, if_pos hk]
        have hr := qbg (c := (qe c).1) (by omega)
        obtain ⟨a1, a2, a3⟩ := qoo hx ih (qd8 f) (qjs f) (rest (qe c).1 + 1) (em (qt (qe c).1) + 1) (qt (qe c).1) [] (by omega) (by omega) (by have := (qbm (qe c).1).em; omega)
        rw [← a1]
        generalize qek (qbx f) (rest (qe c).1 + 1) (qt (qe c).1) [] = r at *
        obtain ⟨d, o⟩ := r
        cases o with
        | none =>
          have h3 := a3 rfl
          simp only at h3
          refine ⟨rfl, (fun n h => by cases h), fun _ => ?_⟩
          simp only
          rwa [qb1 h3]
        | some l => exact ⟨rfl, (fun n h => by cases h; rw [a2 l rfl]), (fun h => by cases h)⟩
      · rw [if_neg hk, if_neg hk]
        obtain ⟨a1, a2, a3⟩ := qpd hx ih (c := (qe c).1) (by omega)
        rw [← a1]
        exact ⟨rfl, a2, fun h => by simp only at h ⊢; rw [qb1 (a3 h)]; exact a3 h⟩
    · have he' : (qe c).2 = false := by simpa using he
      have h1 := qet he'
      rw [qbx, if_neg he, qj2, qfo h1, if_neg (by decide), qmn h1]
      exact ⟨(qb1 h1).symm, (fun n h => by cases h), fun _ => h1⟩
end Go.Proofs.Ytmekebfgmjaenaa
