/- A text of this proof. -/
import Derived.Test.YtjigahnncojikaaRows
import Derived.Test.YtjigahnncojikaaPai
import Derived.Test.YtjigahnncojikaaPak

/- arguments of the statements: texts, trees -/
set_option maxRecDepth 100000
namespace Go.Proofs.Ytjigahnncojikaa
open Go Go.RowKit Go.V Go.ChangeShapes Go.WideShapes Go.ChangeAt
set_option linter.unusedVariables false
set_option linter.unusedSimpArgs false

theorem own : ownKnob Try.prog.godebug = none := by kernel_rfl
theorem laidOut : laidOutB Try.prog = true := by kernel_rfl
end Go.Proofs.Ytjigahnncojikaa
