/- A text of this proof. -/
import Derived.Test.YtfjbmjplnmaclaaWas
import Derived.Test.YtfjbmjplnmaclaaWai

/- the lexer's words: the reference -/
namespace Go.Proofs.Ytfjbmjplnmaclaa
open Go Go.RowKit Go.V
set_option linter.unusedVariables false
set_option linter.unusedSimpArgs false

end Go.Proofs.Ytfjbmjplnmaclaa
