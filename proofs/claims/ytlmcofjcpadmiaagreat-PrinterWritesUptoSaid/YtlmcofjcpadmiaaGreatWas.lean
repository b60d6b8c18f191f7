/- A text of this proof. -/
import Derived.Test.YtlmcofjcpadmiaaGreatWai
set_option linter.unusedVariables false
set_option linter.unusedSimpArgs false

/-
 Words as data.
-/
namespace Go.V
open Go Go.RowKit

structure T where
 kind:Int
 pos:Int
 num:Int
 text:List UInt8
deriving DecidableEq

def T0:T:=⟨0,0,0,[]⟩
def T.wf (t:T):Prop:=(Lit.int .i64 t.kind).wf = true∧(Lit.int .i64 t.pos).wf = true∧(Lit.int .i64 t.num).wf = true∧t.text.length≤maxLen
end Go.V
