/- A text of this proof. -/
import Derived.Test.YtfjbmjplnmaclaaOak
import Derived.WalkKit
import Derived.ProofKit
import Derived.OpenShut
import Derived.Carry
import Derived.ChangeSame
import Derived.Below

/- from the statement's reading of a tree to the tree -/
namespace Go.V
open Go Go.RowKit
set_option linter.unusedVariables false
set_option linter.unusedSimpArgs false

section
variable {H : Type} {enc' : TypeId × Value → H} {P : Program} {w : World} {base : Nat} {sp : Nat → Bool} {held : Bool} {I Z S T : TypeId}

end
end Go.V
