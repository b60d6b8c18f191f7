/- A text of this proof. -/
import Derived.Test.YtfjbmjplnmaclaaObc

/- patterns: the size of what is read -/
namespace Go.Proofs.Ytfjbmjplnmaclaa
open Go Go.RowKit Go.V
set_option linter.unusedVariables false
set_option linter.unusedSimpArgs false

theorem qbk7 {c : K} {n : N} (h : leafP c = some n) : sz n = 1 := by
  unfold leafP at h
  repeat' split at h
  all_goals first | (cases h; rw [qjh]; rfl) | cases h
section
variable {rec : K → K × Option N} (ih : ∀ c n, (rec c).2 = some n → sz n + rest (rec c).1 ≤ rest c)
include ih
theorem q7g {c : K} {n : N} (h : (qbp rec c).2 = some n) : sz n + rest (qbp rec c).1 ≤ rest c := by
  unfold qbp at h ⊢
  split at h
  · rename_i h1
    rw [if_pos h1]
    have := qbj (qiz h)
    have := qbk7 h
    simp only; omega
  · rename_i h1
    rw [if_neg h1]
    split at h
    · rename_i h2
      rw [if_pos h2]
      split at h
      · rename_i h3
        rw [if_pos h3]
        have hp := qbj (c := (qi c).1) (by rw [qc1 h3]; exact qcv h2)
        have h0 := (q8 c).2.1
        split at h
        · rename_i h4
          rw [if_pos h4]
          split at h
          · rename_i h5
            rw [if_pos h5]
            have h6 := ih _ _ h
            have h7 := (qr (rec (q7 (qi c).1)).1 [41]).2.1
            have h8 := (qbh (qq (rec (q7 (qi c).1)).1 [41]).1).2.1
            simp only at h6 ⊢; omega
          · cases h
        · cases h
      · cases h
    · cases h
theorem q29 : ∀ (f : Nat) (c : K) (acc l : List N), (qfg rec f c acc).2 = some l → szs l + rest (qfg rec f c acc).1 ≤ szs acc + rest c
  | 0, c, acc, l => fun h => by cases h
  | f + 1, c, acc, l => fun h => by
    rw [qfg] at h ⊢
    split at h
    · rename_i h1
      rw [if_pos h1]
      split at h
      · rename_i h2
        rw [if_pos h2]
        obtain ⟨n, hn⟩ := Option.isSome_iff_exists.1 h2
        have h3 := q29 f _ _ _ h
        have h4 := q7g ih hn
        rw [qfx, hn] at h3
        simp only [Option.getD_some, szs] at h3
        rw [hn]
        simp only [Option.getD_some]
        omega
      · cases h
    · rename_i h1
      rw [if_neg h1]
      cases h
      exact Nat.le_refl _
end
theorem qbhp : ∀ (f : Nat) (c : K) (n : N), (qcf f c).2 = some n → sz n + rest (qcf f c).1 ≤ rest c
  | 0, _, _ => fun h => by cases h
  | f + 1, c, n => fun h => by
    rw [qcf] at h ⊢
    have h0 := (q8 c).2.1
    split at h
    · rename_i h1
      rw [if_pos h1]
      split at h
      · rename_i h2
        rw [if_pos h2]
        have hr := qbj (c := (qi c).1) (by omega)
        obtain ⟨l, hl, rfl⟩ := Option.map_eq_some_iff.1 h
        have h3 := q29 (qbhp f) _ _ _ _ hl
        have h4 := (qbh (qfg (qcf f) (rest (qi c).1 + 1) (q7 (qi c).1) []).1).2.1
        rw [qjh]
        simp only [N.kids, szs] at h3 ⊢
        omega
      · rename_i h2
        rw [if_neg h2]
        have h3 := q7g (qbhp f) h
        have h4 := (qbh (qbp (qcf f) (qi c).1).1).2.1
        simp only
        omega
    · cases h
end Go.Proofs.Ytfjbmjplnmaclaa
