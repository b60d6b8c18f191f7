/- A text of this proof. -/
import Derived.Test.YtfjbmjplnmaclaaObk
import Derived.Test.YtfjbmjplnmaclaaObm

/- expressions: what is read tells that nothing failed; of a text: the reference; PexpsAt: the function -/
namespace Go.Proofs.Ytfjbmjplnmaclaa
open Go Go.RowKit Go.V
set_option linter.unusedVariables false
set_option linter.unusedSimpArgs false

end Go.Proofs.Ytfjbmjplnmaclaa
