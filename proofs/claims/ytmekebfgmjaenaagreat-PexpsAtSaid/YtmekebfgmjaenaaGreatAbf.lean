/- A text of this proof. -/
import Derived.Test.YtmekebfgmjaenaaGreatAbd

/- patterns: the size of what is read -/
namespace Go.Proofs.YtmekebfgmjaenaaGreat
open Go Go.RowKit Go.V
set_option linter.unusedVariables false
set_option linter.unusedSimpArgs false

theorem qbol {c : K} {n : N} (h : qjb c = some n) : sz n = 1 := by
  unfold qjb at h
  repeat' split at h
  all_goals first | (cases h; rw [qjd]; rfl) | cases h
section
variable {rec : K → K × Option N} (ih : ∀ c n, (rec c).2 = some n → sz n + rest (rec c).1 ≤ rest c)
include ih
theorem q1c {c : K} {n : N} (h : (qb1 rec c).2 = some n) : sz n + rest (qb1 rec c).1 ≤ rest c := by
  unfold qb1 at h ⊢
  split at h
  · rename_i h1
    rw [if_pos h1]
    have := qbm (qj7 h)
    have := qbol h
    simp only; omega
  · rename_i h1
    rw [if_neg h1]
    split at h
    · rename_i h2
      rw [if_pos h2]
      split at h
      · rename_i h3
        rw [if_pos h3]
        have hp := qbm (c := (qr c).1) (by rw [qei h3]; exact qdp h2)
        have h0 := (qbb c).2.1
        split at h
        · rename_i h4
          rw [if_pos h4]
          split at h
          · rename_i h5
            rw [if_pos h5]
            have h6 := ih _ _ h
            have h7 := (qx (rec (qbc (qr c).1)).1 [41]).2.1
            have h8 := (qby (q9 (rec (qbc (qr c).1)).1 [41]).1).2.1
            simp only at h6 ⊢; omega
          · cases h
        · cases h
      · cases h
    · cases h
theorem q0s : ∀ (f : Nat) (c : K) (acc l : List N), (qhe rec f c acc).2 = some l → szs l + rest (qhe rec f c acc).1 ≤ szs acc + rest c
  | 0, c, acc, l => fun h => by cases h
  | f + 1, c, acc, l => fun h => by
    rw [qhe] at h ⊢
    split at h
    · rename_i h1
      rw [if_pos h1]
      split at h
      · rename_i h2
        rw [if_pos h2]
        obtain ⟨n, hn⟩ := Option.isSome_iff_exists.1 h2
        have h3 := q0s f _ _ _ h
        have h4 := q1c ih hn
        rw [qg8, hn] at h3
        simp only [Option.getD_some, szs] at h3
        rw [hn]
        simp only [Option.getD_some]
        omega
      · cases h
    · rename_i h1
      rw [if_neg h1]
      cases h
      exact Nat.le_refl _
end
theorem qbl7 : ∀ (f : Nat) (c : K) (n : N), (qcy f c).2 = some n → sz n + rest (qcy f c).1 ≤ rest c
  | 0, _, _ => fun h => by cases h
  | f + 1, c, n => fun h => by
    rw [qcy] at h ⊢
    have h0 := (qbb c).2.1
    split at h
    · rename_i h1
      rw [if_pos h1]
      split at h
      · rename_i h2
        rw [if_pos h2]
        have hr := qbm (c := (qr c).1) (by omega)
        obtain ⟨l, hl, rfl⟩ := Option.map_eq_some_iff.1 h
        have h3 := q0s (qbl7 f) _ _ _ _ hl
        have h4 := (qby (qhe (qcy f) (rest (qr c).1 + 1) (qbc (qr c).1) []).1).2.1
        rw [qjd]
        simp only [N.kids, szs] at h3 ⊢
        omega
      · rename_i h2
        rw [if_neg h2]
        have h3 := q1c (qbl7 f) h
        have h4 := (qby (qb1 (qcy f) (qr c).1).1).2.1
        simp only
        omega
    · cases h
end Go.Proofs.YtmekebfgmjaenaaGreat
