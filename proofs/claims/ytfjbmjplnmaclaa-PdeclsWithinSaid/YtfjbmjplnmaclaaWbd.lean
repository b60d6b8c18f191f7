/- A text of this proof. -/
import Derived.Test.YtfjbmjplnmaclaaWbb

/- patterns: the size of what is read -/
namespace Go.Proofs.Ytfjbmjplnmaclaa
open Go Go.RowKit Go.V
set_option linter.unusedVariables false
set_option linter.unusedSimpArgs false

theorem qbak {c : K} {n : N} (h : qlx c = some n) : sz n = 1 := by
  unfold qlx at h
  repeat' split at h
  all_goals first | (cases h; rw [qgw]; rfl) | cases h
section
variable {rec : K → K × Option N} (ih : ∀ c n, (rec c).2 = some n → sz n + rest (rec c).1 ≤ rest c)
include ih
theorem qu6 {c : K} {n : N} (h : (qbx rec c).2 = some n) : sz n + rest (qbx rec c).1 ≤ rest c := by
  unfold qbx at h ⊢
  split at h
  · rename_i h1
    rw [if_pos h1]
    have := qbm (qpm h)
    have := qbak h
    simp only; omega
  · rename_i h1
    rw [if_neg h1]
    split at h
    · rename_i h2
      rw [if_pos h2]
      split at h
      · rename_i h3
        rw [if_pos h3]
        have hp := qbm (c := (qp c).1) (by rw [qdo h3]; exact qdm h2)
        have h0 := (qbb c).2.1
        split at h
        · rename_i h4
          rw [if_pos h4]
          split at h
          · rename_i h5
            rw [if_pos h5]
            have h6 := ih _ _ h
            have h7 := (qt (rec (qbg (qp c).1)).1 [41]).2.1
            have h8 := (qb1 (qx (rec (qbg (qp c).1)).1 [41]).1).2.1
            simp only at h6 ⊢; omega
          · cases h
        · cases h
      · cases h
    · cases h
theorem qx2 : ∀ (f : Nat) (c : K) (acc l : List N), (qhx rec f c acc).2 = some l → szs l + rest (qhx rec f c acc).1 ≤ szs acc + rest c
  | 0, c, acc, l => fun h => by cases h
  | f + 1, c, acc, l => fun h => by
    rw [qhx] at h ⊢
    split at h
    · rename_i h1
      rw [if_pos h1]
      split at h
      · rename_i h2
        rw [if_pos h2]
        obtain ⟨n, hn⟩ := Option.isSome_iff_exists.1 h2
        have h3 := qx2 f _ _ _ h
        have h4 := qu6 ih hn
        rw [qej, hn] at h3
        simp only [Option.getD_some, szs] at h3
        rw [hn]
        simp only [Option.getD_some]
        omega
      · cases h
    · rename_i h1
      rw [if_neg h1]
      cases h
      exact Nat.le_refl _
end
theorem q93 : ∀ (f : Nat) (c : K) (n : N), (qcq f c).2 = some n → sz n + rest (qcq f c).1 ≤ rest c
  | 0, _, _ => fun h => by cases h
  | f + 1, c, n => fun h => by
    rw [qcq] at h ⊢
    have h0 := (qbb c).2.1
    split at h
    · rename_i h1
      rw [if_pos h1]
      split at h
      · rename_i h2
        rw [if_pos h2]
        have hr := qbm (c := (qp c).1) (by omega)
        obtain ⟨l, hl, rfl⟩ := Option.map_eq_some_iff.1 h
        have h3 := qx2 (q93 f) _ _ _ _ hl
        have h4 := (qb1 (qhx (qcq f) (rest (qp c).1 + 1) (qbg (qp c).1) []).1).2.1
        rw [qgw]
        simp only [N.kids, szs] at h3 ⊢
        omega
      · rename_i h2
        rw [if_neg h2]
        have h3 := qu6 (q93 f) h
        have h4 := (qb1 (qbx (qcq f) (qp c).1).1).2.1
        simp only
        omega
    · cases h
end Go.Proofs.Ytfjbmjplnmaclaa
