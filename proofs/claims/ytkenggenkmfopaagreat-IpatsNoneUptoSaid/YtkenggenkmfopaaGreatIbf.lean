/- Texts of this proof, joined. -/
import Derived.Test.YtkenggenkmfopaaGreatIav
import Derived.Test.YtkenggenkmfopaaGreatIbe
import Derived.Test.YtkenggenkmfopaaGreatIbd
import Derived.Test.YtkenggenkmfopaaGreatIar
import Derived.Lib.IndexAny
set_option linter.unusedVariables false
set_option linter.unusedSimpArgs false

/- predicates: their text -/
namespace Go.Proofs.YtkenggenkmfopaaGreat
open Go Go.RowKit Go.V



/-! the number of a letter -/
/-! the reader -/
end Go.Proofs.YtkenggenkmfopaaGreat
