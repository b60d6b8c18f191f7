/- Texts of this proof, joined. -/
import Derived.Test.YtmekebfgmjaenaaRbk
import Derived.Test.YtmekebfgmjaenaaRbn

/- types: of a text: the reference; the statements' functions -/
namespace Go.Proofs.Ytmekebfgmjaenaa
open Go Go.RowKit Go.V
set_option linter.unusedVariables false
set_option linter.unusedSimpArgs false


end Go.Proofs.Ytmekebfgmjaenaa
