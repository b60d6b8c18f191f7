/- A text of this proof. -/
import Derived.Test.YtkenggenkmfopaaGreatFau
import Derived.Test.YtkenggenkmfopaaGreatFaf
set_option linter.unusedVariables false
set_option linter.unusedSimpArgs false

/-
 The value logic, part zi: regions that draw, where two operations, one behind the other, both lay new entries, behind calls.
-/
namespace Go.V
open Go Go.RowKit

end Go.V
