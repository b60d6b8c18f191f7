/- A text of this proof. -/
import Derived.Test.YtmekebfgmjaenaaGreatEbc

/- patterns: the size of what is read -/
namespace Go.Proofs.YtmekebfgmjaenaaGreat
open Go Go.RowKit Go.V
set_option linter.unusedVariables false
set_option linter.unusedSimpArgs false

theorem qbga {c : K} {n : N} (h : qit c = some n) : sz n = 1 := by
  unfold qit at h
  repeat' split at h
  all_goals first | (cases h; rw [qi1]; rfl) | cases h
section
variable {rec : K → K × Option N} (ih : ∀ c n, (rec c).2 = some n → sz n + rest (rec c).1 ≤ rest c)
include ih
theorem q4d {c : K} {n : N} (h : (qbx rec c).2 = some n) : sz n + rest (qbx rec c).1 ≤ rest c := by
  unfold qbx at h ⊢
  split at h
  · rename_i h1
    rw [if_pos h1]
    have := qbo (qld h)
    have := qbga h
    simp only; omega
  · rename_i h1
    rw [if_neg h1]
    split at h
    · rename_i h2
      rw [if_pos h2]
      split at h
      · rename_i h3
        rw [if_pos h3]
        have hp := qbo (c := (qj c).1) (by rw [qeo h3]; exact qdo h2)
        have h0 := (qx c).2.1
        split at h
        · rename_i h4
          rw [if_pos h4]
          split at h
          · rename_i h5
            rw [if_pos h5]
            have h6 := ih _ _ h
            have h7 := (qq (rec (q9 (qj c).1)).1 [41]).2.1
            have h8 := (qbw (qv (rec (q9 (qj c).1)).1 [41]).1).2.1
            simp only at h6 ⊢; omega
          · cases h
        · cases h
      · cases h
    · cases h
theorem q3x : ∀ (f : Nat) (c : K) (acc l : List N), (qhb rec f c acc).2 = some l → szs l + rest (qhb rec f c acc).1 ≤ szs acc + rest c
  | 0, c, acc, l => fun h => by cases h
  | f + 1, c, acc, l => fun h => by
    rw [qhb] at h ⊢
    split at h
    · rename_i h1
      rw [if_pos h1]
      split at h
      · rename_i h2
        rw [if_pos h2]
        obtain ⟨n, hn⟩ := Option.isSome_iff_exists.1 h2
        have h3 := q3x f _ _ _ h
        have h4 := q4d ih hn
        rw [qhs, hn] at h3
        simp only [Option.getD_some, szs] at h3
        rw [hn]
        simp only [Option.getD_some]
        omega
      · cases h
    · rename_i h1
      rw [if_neg h1]
      cases h
      exact Nat.le_refl _
end
theorem qbnr : ∀ (f : Nat) (c : K) (n : N), (qcu f c).2 = some n → sz n + rest (qcu f c).1 ≤ rest c
  | 0, _, _ => fun h => by cases h
  | f + 1, c, n => fun h => by
    rw [qcu] at h ⊢
    have h0 := (qx c).2.1
    split at h
    · rename_i h1
      rw [if_pos h1]
      split at h
      · rename_i h2
        rw [if_pos h2]
        have hr := qbo (c := (qj c).1) (by omega)
        obtain ⟨l, hl, rfl⟩ := Option.map_eq_some_iff.1 h
        have h3 := q3x (qbnr f) _ _ _ _ hl
        have h4 := (qbw (qhb (qcu f) (rest (qj c).1 + 1) (q9 (qj c).1) []).1).2.1
        rw [qi1]
        simp only [N.kids, szs] at h3 ⊢
        omega
      · rename_i h2
        rw [if_neg h2]
        have h3 := q4d (qbnr f) h
        have h4 := (qbw (qbx (qcu f) (qj c).1).1).2.1
        simp only
        omega
    · cases h
end Go.Proofs.YtmekebfgmjaenaaGreat
