/- A text of this proof. -/
import Derived.Test.YtkenggenkmfopaaGreatNak
import Derived.Lib.Join
set_option linter.unusedVariables false
set_option linter.unusedSimpArgs false

/-
 The value logic, part u: functions of which a qt9 says that they add blocks alone.
-/
namespace Go.V
open Go Go.RowKit

theorem qr1 (k:Nat):∀ ls:List (List UInt8),AV.bds k (ls.map AV.str) = true
 | []=>rfl
 | l :: ls=>qr1 k ls
theorem q7p (σ:Nat->Nat) (ls:List (List UInt8)):AV.rens σ (ls.map AV.str) = ls.map AV.str:=ql (m:=0) (fun i hi=>by omega) _ (qr1 0 ls)
theorem q7f (ls:List (List UInt8)):(ls.map AV.str).length = ls.length:=by simp
attribute [go_sem] qr1 q7p q7f
/-! ### Results as they are -/
def rawR (l:List (RV×Co)):List (RV×Co):=l.map fun p=>(p.1,.id)
attribute [go_sem] rawR
end Go.V
