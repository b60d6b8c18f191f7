/- A text of this proof. -/
import Derived.Test.YtmekebfgmjaenaaGreatRows
import Derived.Test.YtmekebfgmjaenaaGreatAaj
import Derived.Test.YtmekebfgmjaenaaGreatAal

/- arguments of the statements: texts, trees -/
set_option maxRecDepth 100000
namespace Go.Proofs.YtmekebfgmjaenaaGreat
open Go Go.RowKit Go.V Go.ChangeShapes Go.WideShapes Go.ChangeAt
set_option linter.unusedVariables false
set_option linter.unusedSimpArgs false

theorem own : ownKnob Tryz.prog.godebug = none := by kernel_rfl
theorem q17 : laidOutB Tryz.prog = true := by kernel_rfl
end Go.Proofs.YtmekebfgmjaenaaGreat
