/- A text of this proof. -/
import Derived.Test.YtjigahnncojikaaJaz
import Derived.Test.YtjigahnncojikaaJap
import Derived.Test.YtjigahnncojikaaJat
import Derived.Test.YtjigahnncojikaaJan

/- rows of texts -/
namespace Go.Proofs.Ytjigahnncojikaa
open Go Go.RowKit Go.V
set_option linter.unusedVariables false
set_option linter.unusedSimpArgs false
theorem bifT {α : Type} (a b : α) : (bif true then a else b) = a := Eq.trans rfl rfl
theorem bifF {α : Type} (a b : α) : (bif false then a else b) = b := Eq.trans rfl rfl
attribute [go_sem] bifT bifF
def idxW (x : List UInt8) : List (List UInt8) → Nat → Int
  | [], _ => -1
  | y :: r, i => if x = y then i else idxW x r (i + 1)
theorem idx_has (x : List UInt8) : ∀ (ls : List (List UInt8)) (i : Nat), decide (0 ≤ idxW x ls i) = ls.contains x
  | [], i => rfl
  | y :: r, i => by
    rw [idxW, List.contains_cons]
    split
    · rename_i h; simp [h]
    · rename_i h; rw [idx_has x r (i + 1), beq_eq_false_iff_ne.2 h, Bool.false_or]
end Go.Proofs.Ytjigahnncojikaa
