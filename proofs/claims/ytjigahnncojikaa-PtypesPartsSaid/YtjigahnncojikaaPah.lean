/- A text of this proof. -/
import Derived.Test.YtjigahnncojikaaPag

/-
  The value logic, part t: rows that grow from none.
-/
namespace Go.V
open Go Go.RowKit
set_option linter.unusedVariables false

def accV (r : Nat) (es : List AV) : AV :=
  match es with
  | [] => .nils
  | _ :: _ => .row r es.length
def accE (n : Nat) (es : List AV) : List Ent :=
  match es with
  | [] => []
  | _ :: _ => [.app n es]
section
variable {r n : Nat} {es fs : List AV} {x : AV}
theorem accV_nil : accV r [] = .nils := rfl
theorem accE_nil : accE n [] = [] := rfl
theorem accV_ne (h : es ≠ []) : accV r es = .row r es.length := by cases es with | nil => exact absurd rfl h | cons _ _ => rfl
theorem accE_ne (h : es ≠ []) : accE n es = [.app n es] := by cases es with | nil => exact absurd rfl h | cons _ _ => rfl
theorem accV_snoc : accV r (es ++ [x]) = .row r (es.length + 1) := by rw [accV_ne (by simp)]; simp
theorem accE_snoc : accE n (es ++ [x]) = [.app n (es ++ [x])] := accE_ne (by simp)
theorem accV_one : accV r [x] = .row r 1 := rfl
theorem accE_one : accE n [x] = [.app n [x]] := rfl
end
attribute [go_sem] accV_nil accE_nil accV_snoc accE_snoc accV_one accE_one
end Go.V
