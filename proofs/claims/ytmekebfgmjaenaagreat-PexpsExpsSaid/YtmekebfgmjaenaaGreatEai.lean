/- A text of this proof. -/
import Derived.Test.YtmekebfgmjaenaaGreatEah

/-
  The value logic, part t: rows that grow from none.
-/
namespace Go.V
open Go Go.RowKit
set_option linter.unusedVariables false

def accV (r : Nat) (es : List AV) : AV :=
  match es with
  | [] => .nils
  | _ :: _ => .row r es.length
def accE (n : Nat) (es : List AV) : List Ent :=
  match es with
  | [] => []
  | _ :: _ => [.app n es]
section
variable {r n : Nat} {es fs : List AV} {x : AV}
theorem qbu : accV r [] = .nils := rfl
theorem qbv : accE n [] = [] := rfl
theorem qb4 (h : es ≠ []) : accV r es = .row r es.length := by cases es with | nil => exact absurd rfl h | cons _ _ => rfl
theorem qb3 (h : es ≠ []) : accE n es = [.app n es] := by cases es with | nil => exact absurd rfl h | cons _ _ => rfl
theorem qct : accV r (es ++ [x]) = .row r (es.length + 1) := by rw [qb4 (by simp)]; simp
theorem qcs : accE n (es ++ [x]) = [.app n (es ++ [x])] := qb3 (by simp)
theorem qdg : accV r [x] = .row r 1 := rfl
theorem qdh : accE n [x] = [.app n [x]] := rfl
end
attribute [go_sem] qbu qbv qct qcs qdg qdh
end Go.V
