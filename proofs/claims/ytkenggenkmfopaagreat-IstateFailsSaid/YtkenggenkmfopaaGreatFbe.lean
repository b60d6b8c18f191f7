/- A text of this proof. -/
import Derived.Test.YtkenggenkmfopaaGreatFan
import Derived.Test.YtkenggenkmfopaaGreatFbd
import Derived.Lib.IndexAny
set_option linter.unusedVariables false
set_option linter.unusedSimpArgs false

/- the reader of terms: what it reads -/
namespace Go.Proofs.YtkenggenkmfopaaGreat
open Go Go.RowKit Go.V

/-! the number of a letter -/
/-! the reader -/
end Go.Proofs.YtkenggenkmfopaaGreat
