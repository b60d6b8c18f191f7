/- A text of this proof. -/
import Derived.Test.YtmekebfgmjaenaaGreatEbh

/- types: of any words: what is read tells that nothing failed -/
namespace Go.Proofs.YtmekebfgmjaenaaGreat
open Go Go.RowKit Go.V
set_option linter.unusedVariables false
set_option linter.unusedSimpArgs false

end Go.Proofs.YtmekebfgmjaenaaGreat
