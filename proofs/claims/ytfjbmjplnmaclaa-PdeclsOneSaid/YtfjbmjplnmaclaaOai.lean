/- A text of this proof. -/
import Derived.Test.YtfjbmjplnmaclaaOah

/-
  The value logic, part t: rows that grow from none.
-/
namespace Go.V
open Go Go.RowKit
set_option linter.unusedVariables false

def accV (r : Nat) (es : List AV) : AV :=
  match es with
  | [] => .nils
  | _ :: _ => .row r es.length
def accE (n : Nat) (es : List AV) : List Ent :=
  match es with
  | [] => []
  | _ :: _ => [.app n es]
section
variable {r n : Nat} {es fs : List AV} {x : AV}
theorem qbq : accV r [] = .nils := rfl
theorem qbt : accE n [] = [] := rfl
theorem qby (h : es ≠ []) : accV r es = .row r es.length := by cases es with | nil => exact absurd rfl h | cons _ _ => rfl
theorem qbz (h : es ≠ []) : accE n es = [.app n es] := by cases es with | nil => exact absurd rfl h | cons _ _ => rfl
theorem qfs : accV r (es ++ [x]) = .row r (es.length + 1) := by rw [qby (by simp)]; simp
theorem qft : accE n (es ++ [x]) = [.app n (es ++ [x])] := qbz (by simp)
theorem qg1 : accV r [x] = .row r 1 := rfl
theorem qgw : accE n [x] = [.app n [x]] := rfl
end
attribute [go_sem] qbq qbt qfs qft qg1 qgw
end Go.V
