/- Texts of this proof, joined. -/
import Derived.Shelf.Strings.Builder1
import Derived.Test.YtkenggenkmfopaaGreatProg
import Derived.Test.YtkenggenkmfopaaGreatIbf
import Derived.Test.YtkenggenkmfopaaGreatIbg
import Derived.Test.YtkenggenkmfopaaGreatIaq
set_option linter.unusedVariables false
set_option linter.unusedSimpArgs false
/-
 The shelf's contracts over this program, laid as plain text by the kit's lay-plain.
-/
namespace Go.Proofs
open Go.Shelf

end Go.Proofs

/- the reader of terms: numbers of letters, leaves, what is taken -/
namespace Go.Proofs.YtkenggenkmfopaaGreat
open Go Go.RowKit Go.V

attribute [go_sem] q41
end Go.Proofs.YtkenggenkmfopaaGreat
