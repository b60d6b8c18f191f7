/- A text of this proof. -/
import Derived.Test.YtlmcofjcpadmiaaPai
set_option linter.unusedVariables false
set_option linter.unusedSimpArgs false

/-
 Words as data.
-/
namespace Go.V
open Go Go.RowKit

structure T where
 kind:Int
 pos:Int
 num:Int
 text:List UInt8
deriving DecidableEq

def T0:T:=⟨0,0,0,[]⟩
def T.wf (t:T):Prop:=(Lit.int .i64 t.kind).wf = true∧(Lit.int .i64 t.pos).wf = true∧(Lit.int .i64 t.num).wf = true∧t.text.length≤maxLen
theorem qbdf {l:List T} {i:Nat} (h:i < l.length):l.drop i = l.getD i T0 :: l.drop (i + 1):=by
 rw [List.drop_eq_getElem_cons h,List.getD_eq_getElem?_getD,List.getElem?_eq_getElem h];rfl
end Go.V
