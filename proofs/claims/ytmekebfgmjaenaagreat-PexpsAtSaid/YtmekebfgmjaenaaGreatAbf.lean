/- A text of this proof. -/
import Derived.Test.YtmekebfgmjaenaaGreatAbd

/- patterns: the size of what is read -/
namespace Go.Proofs.YtmekebfgmjaenaaGreat
open Go Go.RowKit Go.V
set_option linter.unusedVariables false
set_option linter.unusedSimpArgs false

theorem qboa {c : K} {n : N} (h : qjb c = some n) : sz n = 1 := by
  unfold qjb at h
  repeat' split at h
  all_goals first | (cases h; rw [qjc]; rfl) | cases h
section
variable {rec : K → K × Option N} (ih : ∀ c n, (rec c).2 = some n → sz n + rest (rec c).1 ≤ rest c)
include ih
theorem qzf {c : K} {n : N} (h : (qbz rec c).2 = some n) : sz n + rest (qbz rec c).1 ≤ rest c := by
  unfold qbz at h ⊢
  split at h
  · rename_i h1
    rw [if_pos h1]
    have := qbj (qj9 h)
    have := qboa h
    simp only; omega
  · rename_i h1
    rw [if_neg h1]
    split at h
    · rename_i h2
      rw [if_pos h2]
      split at h
      · rename_i h3
        rw [if_pos h3]
        have hp := qbj (c := (qh c).1) (by rw [qeg h3]; exact qdn h2)
        have h0 := (qy c).2.1
        split at h
        · rename_i h4
          rw [if_pos h4]
          split at h
          · rename_i h5
            rw [if_pos h5]
            have h6 := ih _ _ h
            have h7 := (qp (rec (q8 (qh c).1)).1 [41]).2.1
            have h8 := (qbv (qu (rec (q8 (qh c).1)).1 [41]).1).2.1
            simp only at h6 ⊢; omega
          · cases h
        · cases h
      · cases h
    · cases h
theorem q0n : ∀ (f : Nat) (c : K) (acc l : List N), (qhe rec f c acc).2 = some l → szs l + rest (qhe rec f c acc).1 ≤ szs acc + rest c
  | 0, c, acc, l => fun h => by cases h
  | f + 1, c, acc, l => fun h => by
    rw [qhe] at h ⊢
    split at h
    · rename_i h1
      rw [if_pos h1]
      split at h
      · rename_i h2
        rw [if_pos h2]
        obtain ⟨n, hn⟩ := Option.isSome_iff_exists.1 h2
        have h3 := q0n f _ _ _ h
        have h4 := qzf ih hn
        rw [qhc, hn] at h3
        simp only [Option.getD_some, szs] at h3
        rw [hn]
        simp only [Option.getD_some]
        omega
      · cases h
    · rename_i h1
      rw [if_neg h1]
      cases h
      exact Nat.le_refl _
end
theorem qbjc : ∀ (f : Nat) (c : K) (n : N), (qcv f c).2 = some n → sz n + rest (qcv f c).1 ≤ rest c
  | 0, _, _ => fun h => by cases h
  | f + 1, c, n => fun h => by
    rw [qcv] at h ⊢
    have h0 := (qy c).2.1
    split at h
    · rename_i h1
      rw [if_pos h1]
      split at h
      · rename_i h2
        rw [if_pos h2]
        have hr := qbj (c := (qh c).1) (by omega)
        obtain ⟨l, hl, rfl⟩ := Option.map_eq_some_iff.1 h
        have h3 := q0n (qbjc f) _ _ _ _ hl
        have h4 := (qbv (qhe (qcv f) (rest (qh c).1 + 1) (q8 (qh c).1) []).1).2.1
        rw [qjc]
        simp only [N.kids, szs] at h3 ⊢
        omega
      · rename_i h2
        rw [if_neg h2]
        have h3 := qzf (qbjc f) h
        have h4 := (qbv (qbz (qcv f) (qh c).1).1).2.1
        simp only
        omega
    · cases h
end Go.Proofs.YtmekebfgmjaenaaGreat
