/- A text of this proof. -/
import Derived.Test.YtmekebfgmjaenaaGreatAah

/-
  The value logic, part t: rows that grow from none.
-/
namespace Go.V
open Go Go.RowKit
set_option linter.unusedVariables false

def accV (r : Nat) (es : List AV) : AV :=
  match es with
  | [] => .nils
  | _ :: _ => .row r es.length
def accE (n : Nat) (es : List AV) : List Ent :=
  match es with
  | [] => []
  | _ :: _ => [.app n es]
section
variable {r n : Nat} {es fs : List AV} {x : AV}
theorem qbs : accV r [] = .nils := rfl
theorem qbu : accE n [] = [] := rfl
theorem qb9 (h : es ≠ []) : accV r es = .row r es.length := by cases es with | nil => exact absurd rfl h | cons _ _ => rfl
theorem qb7 (h : es ≠ []) : accE n es = [.app n es] := by cases es with | nil => exact absurd rfl h | cons _ _ => rfl
theorem qcr : accV r (es ++ [x]) = .row r (es.length + 1) := by rw [qb9 (by simp)]; simp
theorem qcs : accE n (es ++ [x]) = [.app n (es ++ [x])] := qb7 (by simp)
theorem qdc : accV r [x] = .row r 1 := rfl
theorem qdd : accE n [x] = [.app n [x]] := rfl
end
attribute [go_sem] qbs qbu qcr qcs qdc qdd
end Go.V
