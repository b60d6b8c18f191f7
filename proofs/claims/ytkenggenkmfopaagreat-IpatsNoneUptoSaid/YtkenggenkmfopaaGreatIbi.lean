/- A text of this proof. -/
import Derived.Test.YtkenggenkmfopaaGreatIaw
import Derived.Lib.SliceRun
set_option linter.unusedVariables false
set_option linter.unusedSimpArgs false

/-
 The value logic: a slice that is compared with nil; a copy of a slice.
-/
namespace Go.V
open Go Go.RowKit

end Go.V
