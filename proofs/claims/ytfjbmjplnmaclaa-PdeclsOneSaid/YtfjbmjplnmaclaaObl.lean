/- A text of this proof. -/
import Derived.Test.YtfjbmjplnmaclaaOba
import Derived.Test.YtfjbmjplnmaclaaOaq
import Derived.Test.YtfjbmjplnmaclaaOau
import Derived.Test.YtfjbmjplnmaclaaOao

/- rows of texts -/
namespace Go.Proofs.Ytfjbmjplnmaclaa
open Go Go.RowKit Go.V
set_option linter.unusedVariables false
set_option linter.unusedSimpArgs false
theorem bifT {α : Type} (a b : α) : (bif true then a else b) = a := Eq.trans rfl rfl
theorem bifF {α : Type} (a b : α) : (bif false then a else b) = b := Eq.trans rfl rfl
attribute [go_sem] bifT bifF
end Go.Proofs.Ytfjbmjplnmaclaa
