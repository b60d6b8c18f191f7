/- A text of this proof. -/
import Derived.Test.YtlmcofjcpadmiaaGreatWaj
set_option linter.unusedVariables false
set_option linter.unusedSimpArgs false

/- The value logic, part x: regions whose calls get their arguments as they are. -/
namespace Go.V
open Go Go.RowKit

end Go.V
