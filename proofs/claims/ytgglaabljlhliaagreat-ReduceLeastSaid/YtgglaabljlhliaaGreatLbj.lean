/- A text of this proof. -/
import Derived.Test.YtgglaabljlhliaaGreatLaj
set_option linter.unusedVariables false
set_option linter.unusedSimpArgs false

/-
 Words as data.
-/
namespace Go.V
open Go Go.RowKit

structure T where
 kind:Int
 pos:Int
 num:Int
 text:List UInt8
deriving DecidableEq

end Go.V
