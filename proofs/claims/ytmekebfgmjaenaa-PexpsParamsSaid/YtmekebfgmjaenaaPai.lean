/- A text of this proof. -/
import Derived.Test.YtmekebfgmjaenaaPah

/-
  The value logic, part t: rows that grow from none.
-/
namespace Go.V
open Go Go.RowKit
set_option linter.unusedVariables false

def accV (r : Nat) (es : List AV) : AV :=
  match es with
  | [] => .nils
  | _ :: _ => .row r es.length
def accE (n : Nat) (es : List AV) : List Ent :=
  match es with
  | [] => []
  | _ :: _ => [.app n es]
section
variable {r n : Nat} {es fs : List AV} {x : AV}
theorem qb8 : accV r [] = .nils := rfl
theorem qce : accE n [] = [] := rfl
theorem qcm (h : es ≠ []) : accV r es = .row r es.length := by cases es with | nil => exact absurd rfl h | cons _ _ => rfl
theorem qcl (h : es ≠ []) : accE n es = [.app n es] := by cases es with | nil => exact absurd rfl h | cons _ _ => rfl
theorem qe2 : accV r (es ++ [x]) = .row r (es.length + 1) := by rw [qcm (by simp)]; simp
theorem qe0 : accE n (es ++ [x]) = [.app n (es ++ [x])] := qcl (by simp)
theorem qf5 : accV r [x] = .row r 1 := rfl
theorem qgf : accE n [x] = [.app n [x]] := rfl
end
attribute [go_sem] qb8 qce qe2 qe0 qf5 qgf
end Go.V
