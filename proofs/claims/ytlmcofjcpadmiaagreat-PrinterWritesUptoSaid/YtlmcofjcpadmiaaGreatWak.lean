/- A text of this proof. -/
import Derived.Test.YtlmcofjcpadmiaaGreatRows
import Derived.Test.YtlmcofjcpadmiaaGreatWaj
set_option linter.unusedVariables false
set_option linter.unusedSimpArgs false

/- arguments of the statements: texts, trees -/
set_option maxRecDepth 100000
namespace Go.Proofs.YtlmcofjcpadmiaaGreat
open Go Go.RowKit Go.V Go.ChangeShapes Go.WideShapes Go.ChangeAt

theorem own:ownKnob Tryz.prog.godebug = none:=by kernel_rfl
theorem q2v:laidOutB Tryz.prog = true:=by kernel_rfl
section
variable {H:Type} {enc':TypeId×Value->H} {W W':World} {base:Nat} {v:Value} {d:DataW H} {p:List MemPlace} {sp:Nat->Bool}
theorem qr0 (h:DataW.Trod enc' Tryz.prog W 0 (fun _=>true) true 24 v d p) (hlt:∀ x∈p,x.block < W.heap.size) (hb:Below W.heap.size W W') (hsp:∀ x∈p,sp x.block = true):DataW.Trod enc' Tryz.prog W' 0 sp true 24 v d p :=
 WideElems.Trod_stays q2v (show Tryz.prog.readableRec 24 = true by kernel_rfl) (of_decide_eq_true (by kernel_rfl)) h (fun x hx=>hb.same (hlt x hx)) hsp
end
end Go.Proofs.YtlmcofjcpadmiaaGreat
