/- A text of this proof. -/
import Derived.Test.YtjigahnncojikaaPai

/- The value logic, part x: regions whose calls get their arguments as they are. -/
namespace Go.V
open Go Go.RowKit
set_option linter.unusedVariables false
set_option linter.unusedSimpArgs false

def rawO : List (Opd × Co) → List (Opd × Co)
  | [] => []
  | (x, _) :: r => (x, .id) :: rawO r
def rawI : I → I
  | .call f l => .call f (rawO l)
  | i => i
def rawL : List GI → List GI
  | [] => []
  | ⟨g, d, i⟩ :: r => ⟨g, d, rawI i⟩ :: rawL r
attribute [go_sem] rawO rawI rawL
end Go.V
