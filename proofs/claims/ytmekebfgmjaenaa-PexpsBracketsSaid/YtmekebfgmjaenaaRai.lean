/- A text of this proof. -/
import Derived.Test.YtmekebfgmjaenaaRah

/-
  The value logic, part t: rows that grow from none.
-/
namespace Go.V
open Go Go.RowKit
set_option linter.unusedVariables false

def accV (r : Nat) (es : List AV) : AV :=
  match es with
  | [] => .nils
  | _ :: _ => .row r es.length
def accE (n : Nat) (es : List AV) : List Ent :=
  match es with
  | [] => []
  | _ :: _ => [.app n es]
section
variable {r n : Nat} {es fs : List AV} {x : AV}
theorem qb7 : accV r [] = .nils := rfl
theorem qcb : accE n [] = [] := rfl
theorem qch (h : es ≠ []) : accV r es = .row r es.length := by cases es with | nil => exact absurd rfl h | cons _ _ => rfl
theorem qci (h : es ≠ []) : accE n es = [.app n es] := by cases es with | nil => exact absurd rfl h | cons _ _ => rfl
theorem qew : accV r (es ++ [x]) = .row r (es.length + 1) := by rw [qch (by simp)]; simp
theorem qev : accE n (es ++ [x]) = [.app n (es ++ [x])] := qci (by simp)
theorem qf4 : accV r [x] = .row r 1 := rfl
theorem qf1 : accE n [x] = [.app n [x]] := rfl
end
attribute [go_sem] qb7 qcb qew qev qf4 qf1
end Go.V
