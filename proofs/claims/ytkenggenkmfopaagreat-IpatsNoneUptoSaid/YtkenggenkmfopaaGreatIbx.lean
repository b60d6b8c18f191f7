/- A text of this proof. -/
import Derived.Test.YtkenggenkmfopaaGreatIbi
set_option linter.unusedVariables false
set_option linter.unusedSimpArgs false

/-
 The value logic: a variable that is captured, and never written again, is memory that stays.
-/
namespace Go.V
open Go Go.RowKit

end Go.V
