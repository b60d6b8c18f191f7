/- Texts of this proof, joined. -/
import Derived.Test.YtmekebfgmjaenaaGreatAbc
import Derived.Test.YtmekebfgmjaenaaGreatAbh

/- types: of a text: the reference; the statements' functions -/
set_option maxRecDepth 4000
namespace Go.Proofs.YtmekebfgmjaenaaGreat
open Go Go.RowKit Go.V
set_option linter.unusedVariables false
set_option linter.unusedSimpArgs false

theorem qrx : ∀ n, qr1 n n = true := N.ind fun n ih => by
  rw [qhl]
  have key : ∀ l : List N, (∀ x ∈ l, qr1 x x = true) → qe0 l l = true := by
    intro l
    induction l with
    | nil => intro _; rw [qe0]
    | cons x r ihr => intro h; rw [qe0, h x (by simp), ihr fun y hy => h y (by simp [hy])]; rfl
  simp [key n.kids ih]

theorem qil {c : K} (h : c.err = 0) : (q8 c).err = 0 := by
  unfold q8
  repeat' split
  all_goals exact h
theorem qhf {c : K} (h : c.err = 0) : (qcg c).err = 0 := by
  unfold qcg
  repeat' split
  all_goals exact h
theorem qm8 {c : K} {x : List UInt8} (h : (qu c x).2 = true) : (qu c x).1.err = 0 := by
  unfold qu at h ⊢
  split at h
  · rename_i h1
    rw [if_pos h1]
    exact qil (qqr h1)
  · cases h
/-- What is read: nothing failed. -/
def Fine {α : Type} (p : K × Option α) : Prop := p.2.isSome = true → p.1.err = 0
section
variable {rec : K → K × Option N} (ih : ∀ c, Fine (rec c))
include ih
omit ih in
theorem qoy (c : K) : Fine (qb5 rec c) := by
  intro h
  unfold qb5 at h ⊢
  split at h
  · rename_i h1
    rw [if_pos h1]
    exact qil (qd0 (by omega)).1
  · rename_i h1
    rw [if_neg h1]
    split at h
    · rename_i h2
      rw [if_pos h2]
      exact qil (qd0 (by omega)).1
    · rename_i h2
      rw [if_neg h2]
      split at h
      · rename_i h3
        rw [if_pos h3]
        split at h
        · rename_i h4
          rw [if_pos h4]
          split at h
          · rename_i h5
            rw [if_pos h5]
            simp only at h ⊢
            split at h
            · rename_i h6; exact qhf (qm8 h6)
            · cases h
          · cases h
        · cases h
      · cases h
omit ih in
theorem qom : ∀ (f : Nat) (c : K) (acc : List N), c.err = 0 → Fine (qd9 rec f c acc)
  | 0, c, acc => fun _ h => by cases h
  | f + 1, c, acc => fun h0 h => by
    rw [qd9] at h ⊢
    split at h
    · rename_i h1
      rw [if_pos h1]
      split at h
      · rename_i h2
        rw [if_pos h2]
        exact qom f _ _ (qoy c h2) h
      · cases h
    · rename_i h1
      rw [if_neg h1]
      exact h0
omit ih in
theorem q0v (c : K) : Fine (qcf rec c) := by
  intro h
  unfold qcf at h ⊢
  split at h
  · rename_i h1
    rw [if_pos h1]
    exact qom _ _ _ (qil (qd0 (by omega)).1) (by simpa using h)
  · rename_i h1
    rw [if_neg h1]
    exact qoy c h
end
theorem qwn : ∀ (f : Nat) (c : K), Fine (qcb f c)
  | 0, c => fun h => by cases h
  | f + 1, c => fun h => by
    have ih := qwn f
    rw [qcb] at h ⊢
    split at h
    · rename_i h1
      rw [if_pos h1]
      split at h
      · rename_i h2
        rw [if_pos h2]
        split at h
        · rename_i h3
          rw [if_pos h3]
          exact qhf (ih _ (by simpa using h))
        · rename_i h3
          rw [if_neg h3]
          exact qhf (q0v _ h2)
      · cases h
    · cases h
theorem qx0 (f : Nat) (c : K) : Fine (qep f c) := by
  intro h
  unfold qep at h ⊢
  split at h
  · rename_i h1
    rw [if_pos h1]
    exact qwn f _ (by simpa using h)
  · cases h
end Go.Proofs.YtmekebfgmjaenaaGreat
