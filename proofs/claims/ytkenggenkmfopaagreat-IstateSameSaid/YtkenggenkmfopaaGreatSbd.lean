/- A text of this proof. -/
import Derived.Test.YtkenggenkmfopaaGreatSag
import Derived.Lib.Join
set_option linter.unusedVariables false
set_option linter.unusedSimpArgs false

/-
 The value logic, part u: functions of which a qyg says that they add blocks alone.
-/
namespace Go.V
open Go Go.RowKit

theorem qvr(k:Nat):∀ls:List (List UInt8),AV.bds k (ls.map AV.str)=true
 | []=>rfl
 | l::ls=>qvr k ls
theorem qbbq(σ:Nat->Nat)(ls:List (List UInt8)):AV.rens σ (ls.map AV.str)=ls.map AV.str:=qp (m:=0) (fun i hi=>by omega) _ (qvr 0 ls)
theorem qbas(ls:List (List UInt8)):(ls.map AV.str).length=ls.length:=by simp
attribute [go_sem] qvr qbbq qbas
/-! ### Results as they are -/
def rawR(l:List (RV×Co)):List (RV×Co):=l.map fun p=>(p.1,.id)
attribute [go_sem] rawR
end Go.V
