/- A text of this proof. -/
import Derived.Test.YtmekebfgmjaenaaRam
import Derived.Test.YtmekebfgmjaenaaRan

/- arguments of the statements: rows of words, numbers -/
set_option maxRecDepth 100000
namespace Go.Proofs.Ytmekebfgmjaenaa
open Go Go.RowKit Go.V Go.ChangeShapes Go.WideShapes Go.ChangeAt
set_option linter.unusedVariables false
set_option linter.unusedSimpArgs false

section
variable {H : Type} {enc' : TypeId × Value → H} {W W' : World} {base : Nat} {v : Value} {d : DataW H} {p : List MemPlace} {sp : Nat → Bool}
instance : Inhabited T := ⟨T0⟩
end
end Go.Proofs.Ytmekebfgmjaenaa
