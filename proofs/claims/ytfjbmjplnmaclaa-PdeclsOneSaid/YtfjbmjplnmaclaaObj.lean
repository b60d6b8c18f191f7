/- A text of this proof. -/
import Derived.Test.YtfjbmjplnmaclaaObc
import Derived.Test.YtfjbmjplnmaclaaObi

/- patterns: the reference -/
namespace Go.Proofs.Ytfjbmjplnmaclaa
open Go Go.RowKit Go.V
set_option linter.unusedVariables false
set_option linter.unusedSimpArgs false

theorem q0b {c : K} (h : (leafP c).isSome = true) : c.err = 0 ∧ rest (q7 c) + 1 = rest c := by
  obtain ⟨n, hn⟩ := Option.isSome_iff_exists.1 h
  exact ⟨(qfd (qiz hn)).1, qbj (qiz hn)⟩
theorem qbbm {c : K} (h : begP c = true) : c.err = 0 := by
  simp only [begP, Bool.or_eq_true] at h
  rcases h with h | h
  · exact (q0b h).1
  · exact qw6 h
theorem qza {c : K} (h : c.err ≠ 0) : begP c = false := by
  cases hb : begP c with
  | false => rfl
  | true => exact absurd (qbbm hb) h
def qf3 (rec : K → K × N) (c : K) : K × N :=
  if begP c = true then
    if isK c [40] = true then (qci (qq (rec (qq (qi c).1 [40]).1).1 [41]).1, (rec (qq (qi c).1 [40]).1).2)
    else (q7 c, (leafP c).getD N0)
  else (qd3 c 5, N0)
def qhg (rec : K → K × N) : Nat → K → List N → K × List N
  | 0, c, acc => (c, acc)
  | f + 1, c, acc => if begP c = true then qhg rec f (qf3 rec c).1 (acc ++ [(qf3 rec c).2]) else (c, acc)
def qmo : Nat → K → K × N
  | 0, c => (c, N0)
  | f + 1, c =>
    if (qw (qi c).1).kind = 2 then
      (qci (qhg (qmo f) (em (q7 (qi c).1) + 1) (q7 (qi c).1) []).1, .mk 14 (qw (qi c).1).pos 0 (qw (qi c).1).text (qhg (qmo f) (em (q7 (qi c).1) + 1) (q7 (qi c).1) []).2)
    else (qci (qf3 (qmo f) (qi c).1).1, (qf3 (qmo f) (qi c).1).2)
section
variable {rec : K → K × N} (hm : ∀ c, Mon c (rec c).1)
include hm
theorem qub (c : K) : Mon (qq (qi c).1 [40]).1 (qci (qq (rec (qq (qi c).1 [40]).1).1 [41]).1) := ((hm _).trans (qr _ _)).trans (qbh _)
theorem qqb (c : K) : Mon c (qf3 rec c).1 := by
  unfold qf3
  split
  · split
    · exact ((q8 c).trans (qr _ _)).trans (qub hm c)
    · exact qb1 c
  · exact qd9 c 5
theorem qud {c : K} (h : begP c = true) : em (qf3 rec c).1 < em c := by
  unfold qf3
  rw [if_pos h]
  split
  · have h1 := qjr (c := c) (by assumption)
    have h2 := (qub hm c).em
    simp only; omega
  · rename_i hk
    have h1 := q0b (c := c) (by simpa [begP, hk] using h)
    have h2 := qwm (q7 c)
    rw [qbfo h1.1]
    simp only; omega
theorem qp4 : ∀ (f : Nat) (c : K) (acc : List N), Mon c (qhg rec f c acc).1
  | 0, c, acc => Mon.refl c
  | f + 1, c, acc => by
    rw [qhg]
    split
    · exact (qqb hm c).trans (qp4 f _ _)
    · exact Mon.refl c
end
theorem qle : ∀ (f : Nat) (c : K), Mon c (qmo f c).1
  | 0, c => Mon.refl c
  | f + 1, c => by
    rw [qmo]
    split
    · exact (((q8 c).trans (qb1 _)).trans (qp4 (qle f) _ _ _)).trans (qbh _)
    · exact ((q8 c).trans (qqb (qle f) _)).trans (qbh _)

/-! The program. -/
/-! What both read. -/
theorem qpz {rec : K → K × N} {c : K} (h : c.err ≠ 0) : qf3 rec c = (c, N0) := by
  rw [qf3, if_neg (by rw [qza h]; simp), qe7 h]
theorem qxm {rec : K → K × N} {c : K} (h : c.err ≠ 0) (f : Nat) (acc : List N) : qhg rec f c acc = (c, acc) := by
  cases f with
  | zero => rfl
  | succ f => rw [qhg, if_neg (by rw [qza h]; simp)]
theorem qwd (f : Nat) {c : K} (h : c.err ≠ 0) : qmo f c = (c, N0) := by
  cases f with
  | zero => rfl
  | succ f => rw [qmo, qjw h, qgo h, if_neg (by decide), qpz h, qck h]
section
variable {rp : K → K × Option N} {rr : K → K × N} {b : Nat} (hx : ∀ c : K, c.err ≠ 0 → (rr c).1 = c) (ih : ∀ c, em c < b → qdr (rp c) (rr c))
include hx ih
theorem qq5 {c : K} (hr : em c ≤ b) : qdr (qbp rp c) (qf3 rr c) := by
  unfold qbp qf3
  by_cases hl : (leafP c).isSome = true
  · have hk : ¬ isK c [40] = true := by
      intro h
      obtain ⟨n, hn⟩ := Option.isSome_iff_exists.1 hl
      simp only [isK, qf0, Bool.and_eq_true, Bool.or_eq_true, decide_eq_true_eq] at h
      unfold leafP at hn
      rw [if_neg (by omega), if_neg (by omega), if_neg (by omega), if_neg (by simp [isK, qf0, h.2.2])] at hn
      cases hn
    rw [if_pos hl, if_pos (show begP c = true by simp [begP, hl]), if_neg hk]
    exact ⟨rfl, fun n h => by simp only at h ⊢; rw [h]; rfl, fun h => by simp only at h; rw [h] at hl; cases hl⟩
  · rw [if_neg hl]
    by_cases hk : isK c [40] = true
    · rw [if_pos hk, if_pos (show begP c = true by simp [begP, hk]), if_pos hk]
      have hem := qjr hk
      by_cases he : (qi c).2 = true
      · rw [if_pos he]
        have hk' : isK (qi c).1 [40] = true := by rw [qn1 he]; exact hk
        rw [qjy hk'] at hem ⊢
        simp only at hem ⊢
        obtain ⟨a1, a2, a3⟩ := ih (q7 (qi c).1) (by omega)
        rw [← a1]
        generalize rp (q7 (qi c).1) = r at *
        obtain ⟨d, o⟩ := r
        simp only at a1 a2 a3 ⊢
        cases o with
        | none =>
          have h3 := a3 rfl
          rw [if_neg (by simp), qbv h3, qck h3]
          exact ⟨rfl, (fun n h => by cases h), fun _ => h3⟩
        | some n =>
          rw [if_pos (by rfl)]
          by_cases hw : (qq d [41]).2 = true
          · rw [if_pos hw]
            exact ⟨rfl, fun m h => a2 m h, (fun h => by cases h)⟩
          · rw [if_neg hw]
            have h3 := qdd (by simpa using hw)
            exact ⟨(qck h3).symm, (fun n h => by cases h), fun _ => h3⟩
      · have he' : (qi c).2 = false := by simpa using he
        have h1 := qfq he'
        rw [if_neg he]
        rw [qbv h1] at hem ⊢
        simp only at hem ⊢
        rw [hx _ h1, qbv h1, qck h1]
        exact ⟨rfl, (fun n h => by cases h), fun _ => h1⟩
    · rw [if_neg hk, if_neg (show ¬ begP c = true by simp [begP, hl, hk])]
      exact ⟨rfl, (fun n h => by cases h), fun _ => qfn c⟩
theorem qrt (hp : ∀ c, Mon c (rp c).1) (hm : ∀ c, Mon c (rr c).1) : ∀ (f g : Nat) (c : K) (acc : List N), rest c < f → em c < g → em c ≤ b →
    (qfg rp f c acc).1 = (qhg rr g c acc).1 ∧ (∀ l, (qfg rp f c acc).2 = some l → l = (qhg rr g c acc).2) ∧ ((qfg rp f c acc).2 = none → (qfg rp f c acc).1.err ≠ 0)
  | 0, _, _, _ => fun h _ _ => by omega
  | _, 0, _, _ => fun _ h _ => by omega
  | f + 1, g + 1, c, acc => fun hf hg hb => by
    rw [qfg, qhg]
    by_cases hk : begP c = true
    · rw [if_pos hk, if_pos hk]
      obtain ⟨a1, a2, a3⟩ := qq5 hx ih hb
      have hl := qud hm hk
      rw [← a1] at hl ⊢
      cases ho : (qbp rp c).2 with
      | none =>
        have h3 := a3 ho
        rw [if_neg (by simp), qxm h3]
        exact ⟨rfl, (fun n h => by cases h), fun _ => h3⟩
      | some n =>
        rw [if_pos (by rfl), ← a2 n ho]
        exact qrt hp hm f g _ _ (by have := qog hp (c := c) (by rw [ho]; rfl); omega) (by omega) (by omega)
    · rw [if_neg hk, if_neg hk]
      exact ⟨rfl, (fun l h => by cases h; rfl), (fun h => by cases h)⟩
end
theorem qy1 : ∀ (f : Nat) (c : K), em c < f → qdr (qcf f c) (qmo f c)
  | 0, _ => fun h => by omega
  | f + 1, c => fun hf => by
    have ih := qy1 f
    have hx : ∀ c : K, c.err ≠ 0 → (qmo f c).1 = c := fun c h => by rw [qwd f h]
    by_cases he : (qi c).2 = true
    · have h1 := (q8 c).em
      rw [qcf, qmo, if_pos he]
      by_cases hk : (qw (qi c).1).kind = 2
      · rw [if_pos hk, if_pos hk]
        have hr := qbj (c := (qi c).1) (by omega)
        obtain ⟨a1, a2, a3⟩ := qrt hx ih (qe0 f) (qle f) (rest (qi c).1 + 1) (em (q7 (qi c).1) + 1) (q7 (qi c).1) [] (by omega) (by omega) (by have := (qb1 (qi c).1).em; omega)
        rw [← a1]
        generalize qfg (qcf f) (rest (qi c).1 + 1) (q7 (qi c).1) [] = r at *
        obtain ⟨d, o⟩ := r
        cases o with
        | none =>
          have h3 := a3 rfl
          simp only at h3
          refine ⟨rfl, (fun n h => by cases h), fun _ => ?_⟩
          simp only
          rwa [qck h3]
        | some l => exact ⟨rfl, (fun n h => by cases h; rw [a2 l rfl]), (fun h => by cases h)⟩
      · rw [if_neg hk, if_neg hk]
        obtain ⟨a1, a2, a3⟩ := qq5 hx ih (c := (qi c).1) (by omega)
        rw [← a1]
        exact ⟨rfl, a2, fun h => by simp only at h ⊢; rw [qck (a3 h)]; exact a3 h⟩
    · have he' : (qi c).2 = false := by simpa using he
      have h1 := qfq he'
      rw [qcf, if_neg he, qmo, qgo h1, if_neg (by decide), qpz h1]
      exact ⟨(qck h1).symm, (fun n h => by cases h), fun _ => h1⟩
end Go.Proofs.Ytfjbmjplnmaclaa
