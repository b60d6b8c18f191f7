/- A text of this proof. -/
import Derived.Test.YtmekebfgmjaenaaRbd

/- patterns: the size of what is read -/
namespace Go.Proofs.Ytmekebfgmjaenaa
open Go Go.RowKit Go.V
set_option linter.unusedVariables false
set_option linter.unusedSimpArgs false

theorem qbgb {c : K} {n : N} (h : leafP c = some n) : sz n = 1 := by
  unfold leafP at h
  repeat' split at h
  all_goals first | (cases h; rw [qim]; rfl) | cases h
section
variable {rec : K → K × Option N} (ih : ∀ c n, (rec c).2 = some n → sz n + rest (rec c).1 ≤ rest c)
include ih
theorem q1x {c : K} {n : N} (h : (qbj rec c).2 = some n) : sz n + rest (qbj rec c).1 ≤ rest c := by
  unfold qbj at h ⊢
  split at h
  · rename_i h1
    rw [if_pos h1]
    have := qbg (qhd h)
    have := qbgb h
    simp only; omega
  · rename_i h1
    rw [if_neg h1]
    split at h
    · rename_i h2
      rw [if_pos h2]
      split at h
      · rename_i h3
        rw [if_pos h3]
        have hp := qbg (c := (qe c).1) (by rw [qcp h3]; exact qcg h2)
        have h0 := (qv c).2.1
        split at h
        · rename_i h4
          rw [if_pos h4]
          split at h
          · rename_i h5
            rw [if_pos h5]
            have h6 := ih _ _ h
            have h7 := (qo (rec (qt (qe c).1)).1 [41]).2.1
            have h8 := (qbc (qq (rec (qt (qe c).1)).1 [41]).1).2.1
            simp only at h6 ⊢; omega
          · cases h
        · cases h
      · cases h
    · cases h
theorem q04 : ∀ (f : Nat) (c : K) (acc l : List N), (qek rec f c acc).2 = some l → szs l + rest (qek rec f c acc).1 ≤ szs acc + rest c
  | 0, c, acc, l => fun h => by cases h
  | f + 1, c, acc, l => fun h => by
    rw [qek] at h ⊢
    split at h
    · rename_i h1
      rw [if_pos h1]
      split at h
      · rename_i h2
        rw [if_pos h2]
        obtain ⟨n, hn⟩ := Option.isSome_iff_exists.1 h2
        have h3 := q04 f _ _ _ h
        have h4 := q1x ih hn
        rw [qgc, hn] at h3
        simp only [Option.getD_some, szs] at h3
        rw [hn]
        simp only [Option.getD_some]
        omega
      · cases h
    · rename_i h1
      rw [if_neg h1]
      cases h
      exact Nat.le_refl _
end
theorem qbdb : ∀ (f : Nat) (c : K) (n : N), (qbx f c).2 = some n → sz n + rest (qbx f c).1 ≤ rest c
  | 0, _, _ => fun h => by cases h
  | f + 1, c, n => fun h => by
    rw [qbx] at h ⊢
    have h0 := (qv c).2.1
    split at h
    · rename_i h1
      rw [if_pos h1]
      split at h
      · rename_i h2
        rw [if_pos h2]
        have hr := qbg (c := (qe c).1) (by omega)
        obtain ⟨l, hl, rfl⟩ := Option.map_eq_some_iff.1 h
        have h3 := q04 (qbdb f) _ _ _ _ hl
        have h4 := (qbc (qek (qbx f) (rest (qe c).1 + 1) (qt (qe c).1) []).1).2.1
        rw [qim]
        simp only [N.kids, szs] at h3 ⊢
        omega
      · rename_i h2
        rw [if_neg h2]
        have h3 := q1x (qbdb f) h
        have h4 := (qbc (qbj (qbx f) (qe c).1).1).2.1
        simp only
        omega
    · cases h
end Go.Proofs.Ytmekebfgmjaenaa
