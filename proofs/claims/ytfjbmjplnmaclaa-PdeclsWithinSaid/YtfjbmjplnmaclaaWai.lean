/- A text of this proof. -/
import Derived.Test.YtfjbmjplnmaclaaWah

/-
  The value logic, part t: rows that grow from none.
-/
namespace Go.V
open Go Go.RowKit
set_option linter.unusedVariables false

def accV (r : Nat) (es : List AV) : AV :=
  match es with
  | [] => .nils
  | _ :: _ => .row r es.length
def accE (n : Nat) (es : List AV) : List Ent :=
  match es with
  | [] => []
  | _ :: _ => [.app n es]
section
variable {r n : Nat} {es fs : List AV} {x : AV}
theorem qbh : accV r [] = .nils := rfl
theorem qbj : accE n [] = [] := rfl
theorem qbo (h : es ≠ []) : accV r es = .row r es.length := by cases es with | nil => exact absurd rfl h | cons _ _ => rfl
theorem qbp (h : es ≠ []) : accE n es = [.app n es] := by cases es with | nil => exact absurd rfl h | cons _ _ => rfl
theorem qee : accV r (es ++ [x]) = .row r (es.length + 1) := by rw [qbo (by simp)]; simp
theorem qed : accE n (es ++ [x]) = [.app n (es ++ [x])] := qbp (by simp)
theorem qfe : accV r [x] = .row r 1 := rfl
theorem qfl : accE n [x] = [.app n [x]] := rfl
end
attribute [go_sem] qbh qbj qee qed qfe qfl
end Go.V
