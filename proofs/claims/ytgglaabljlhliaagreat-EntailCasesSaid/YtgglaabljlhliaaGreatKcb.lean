/- Texts of this proof, joined. -/
import Derived.Test.YtgglaabljlhliaaGreatKbt
set_option linter.unusedVariables false
set_option linter.unusedSimpArgs false

/-
 The value logic, part le: regions that draw, where several operations lay new entries: a family of orders.
-/
namespace Go.V
open Go Go.RowKit

section
variable {P:Program} {fr:Option Nat} {n m:Nat} {Q:VE->AF->List Ent->Prop} {ops:Array Oper}

end

section
variable {P:Program} {fr:Option Nat} {n m:Nat} {Q:VE->AF->List Ent->Prop} {ops:Array Oper}

variable {af:AF} {H:List Ent}
end
end Go.V
