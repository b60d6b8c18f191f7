/- Texts of this proof, joined. -/
import Derived.Test.YtlmcofjcpadmiaaGreatWar
import Derived.Test.YtlmcofjcpadmiaaGreatWas
import Derived.Test.YtlmcofjcpadmiaaGreatWaj
import Derived.Lib.Join
set_option linter.unusedVariables false
set_option linter.unusedSimpArgs false

/- the lexer's words: one word -/
set_option maxRecDepth 4000
namespace Go.Proofs.YtlmcofjcpadmiaaGreat
open Go Go.RowKit Go.V

attribute [go_sem] qbk9

/-! What the loop over a text's words does. -/
variable {s:List UInt8} {fn:FuncId} {asn bd:Code} {tm:List (Nat×AV)} {acc:List T} {H:List Ent}
set_option maxRecDepth 4000
variable {s:List UInt8} {fn:FuncId} {asn bd:Code} {tm:List (Nat×AV)} {acc:List T} {H:List Ent}

set_option maxRecDepth 4000
variable {s:List UInt8} {fn:FuncId} {asn bd:Code} {tm:List (Nat×AV)} {acc:List T} {H:List Ent}

set_option maxRecDepth 4000



/-! Where it fails. -/
/-! Each word stands where it says. -/

end Go.Proofs.YtlmcofjcpadmiaaGreat
