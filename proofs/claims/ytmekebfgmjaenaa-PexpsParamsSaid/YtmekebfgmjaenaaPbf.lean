/- A text of this proof. -/
import Derived.Test.YtmekebfgmjaenaaPbd

/- patterns: the size of what is read -/
namespace Go.Proofs.Ytmekebfgmjaenaa
open Go Go.RowKit Go.V
set_option linter.unusedVariables false
set_option linter.unusedSimpArgs false

theorem qbd6 {c : K} {n : N} (h : leafP c = some n) : sz n = 1 := by
  unfold leafP at h
  repeat' split at h
  all_goals first | (cases h; rw [qiw]; rfl) | cases h
section
variable {rec : K → K × Option N} (ih : ∀ c n, (rec c).2 = some n → sz n + rest (rec c).1 ≤ rest c)
include ih
theorem q2l {c : K} {n : N} (h : (qbn rec c).2 = some n) : sz n + rest (qbn rec c).1 ≤ rest c := by
  unfold qbn at h ⊢
  split at h
  · rename_i h1
    rw [if_pos h1]
    have := qbh (qhp h)
    have := qbd6 h
    simp only; omega
  · rename_i h1
    rw [if_neg h1]
    split at h
    · rename_i h2
      rw [if_pos h2]
      split at h
      · rename_i h3
        rw [if_pos h3]
        have hp := qbh (c := (qe c).1) (by rw [qcu h3]; exact qcd h2)
        have h0 := (qx c).2.1
        split at h
        · rename_i h4
          rw [if_pos h4]
          split at h
          · rename_i h5
            rw [if_pos h5]
            have h6 := ih _ _ h
            have h7 := (qo (rec (qs (qe c).1)).1 [41]).2.1
            have h8 := (qbg (qr (rec (qs (qe c).1)).1 [41]).1).2.1
            simp only at h6 ⊢; omega
          · cases h
        · cases h
      · cases h
    · cases h
theorem q2v : ∀ (f : Nat) (c : K) (acc l : List N), (qeq rec f c acc).2 = some l → szs l + rest (qeq rec f c acc).1 ≤ szs acc + rest c
  | 0, c, acc, l => fun h => by cases h
  | f + 1, c, acc, l => fun h => by
    rw [qeq] at h ⊢
    split at h
    · rename_i h1
      rw [if_pos h1]
      split at h
      · rename_i h2
        rw [if_pos h2]
        obtain ⟨n, hn⟩ := Option.isSome_iff_exists.1 h2
        have h3 := q2v f _ _ _ h
        have h4 := q2l ih hn
        rw [qgl, hn] at h3
        simp only [Option.getD_some, szs] at h3
        rw [hn]
        simp only [Option.getD_some]
        omega
      · cases h
    · rename_i h1
      rw [if_neg h1]
      cases h
      exact Nat.le_refl _
end
theorem qbco : ∀ (f : Nat) (c : K) (n : N), (qb1 f c).2 = some n → sz n + rest (qb1 f c).1 ≤ rest c
  | 0, _, _ => fun h => by cases h
  | f + 1, c, n => fun h => by
    rw [qb1] at h ⊢
    have h0 := (qx c).2.1
    split at h
    · rename_i h1
      rw [if_pos h1]
      split at h
      · rename_i h2
        rw [if_pos h2]
        have hr := qbh (c := (qe c).1) (by omega)
        obtain ⟨l, hl, rfl⟩ := Option.map_eq_some_iff.1 h
        have h3 := q2v (qbco f) _ _ _ _ hl
        have h4 := (qbg (qeq (qb1 f) (rest (qe c).1 + 1) (qs (qe c).1) []).1).2.1
        rw [qiw]
        simp only [N.kids, szs] at h3 ⊢
        omega
      · rename_i h2
        rw [if_neg h2]
        have h3 := q2l (qbco f) h
        have h4 := (qbg (qbn (qb1 f) (qe c).1).1).2.1
        simp only
        omega
    · cases h
end Go.Proofs.Ytmekebfgmjaenaa
