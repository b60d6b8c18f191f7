/- A text of this proof. -/
import Derived.Test.YtkenggenkmfopaaGreatFag
import Derived.Lib.Join
set_option linter.unusedVariables false
set_option linter.unusedSimpArgs false

/-
 The value logic, part u: functions of which a qzu says that they add blocks alone.
-/
namespace Go.V
open Go Go.RowKit

theorem qwu(k:Nat):∀ls:List (List UInt8),AV.bds k (ls.map AV.str)=true
 | []=>rfl
 | l::ls=>qwu k ls
theorem qbe7(σ:Nat->Nat)(ls:List (List UInt8)):AV.rens σ (ls.map AV.str)=ls.map AV.str:=qp (m:=0) (fun i hi=>by omega) _ (qwu 0 ls)
theorem qbis(ls:List (List UInt8)):(ls.map AV.str).length=ls.length:=by simp
attribute [go_sem] qwu qbe7 qbis
/-! ### Results as they are -/
def rawR(l:List (RV×Co)):List (RV×Co):=l.map fun p=>(p.1,.id)
attribute [go_sem] rawR
end Go.V
