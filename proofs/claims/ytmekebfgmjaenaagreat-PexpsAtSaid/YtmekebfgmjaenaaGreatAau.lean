/- A text of this proof. -/
import Derived.Test.YtmekebfgmjaenaaGreatAat
import Derived.Test.YtmekebfgmjaenaaGreatAai

/- the lexer's words: the reference -/
set_option maxRecDepth 4000
namespace Go.Proofs.YtmekebfgmjaenaaGreat
open Go Go.RowKit Go.V
set_option linter.unusedVariables false
set_option linter.unusedSimpArgs false

end Go.Proofs.YtmekebfgmjaenaaGreat
