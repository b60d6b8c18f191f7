/- A text of this proof. -/
import Derived.Test.YtlmcofjcpadmiaaGreatRows
import Derived.Test.YtlmcofjcpadmiaaGreatNak
set_option linter.unusedVariables false
set_option linter.unusedSimpArgs false

/- arguments of the statements: texts, trees -/
set_option maxRecDepth 100000
namespace Go.Proofs.YtlmcofjcpadmiaaGreat
open Go Go.RowKit Go.V Go.ChangeShapes Go.WideShapes Go.ChangeAt

theorem own:ownKnob Tryz.prog.godebug = none:=by kernel_rfl
theorem qbto:laidOutB Tryz.prog = true:=by kernel_rfl
def LT:List TypeId:=[9,3]
theorem hLT:LT.all (quz Tryz.prog LT) = true:=by kernel_rfl
section
variable {H:Type} {enc':TypeId×Value->H} {W W':World} {base:Nat} {v:Value} {d:DataW H} {p:List MemPlace} {sp:Nat->Bool}
theorem qbt0 (hok:Value.okWide Tryz.prog W .any base 9 v) (h:DataW.Trod enc' Tryz.prog W 0 (fun _=>true) true 9 v d p):∃ s,VR W (MM W) [] (.str s) v:=by
 obtain ⟨f,cs,h1,h2⟩:=qcdq hLT (by decide) hok h
 obtain ⟨l,rfl⟩:=qcdc Tryz.underlying9 h1
 rw [qb8d Tryz.underlying9] at h2
 exact ⟨l,h2⟩
theorem qbit (h:DataW.Trod enc' Tryz.prog W 0 (fun _=>true) true 9 v d p) (hlt:∀ x∈p,x.block < W.heap.size) (hb:Below W.heap.size W W') (hsp:∀ x∈p,sp x.block = true):DataW.Trod enc' Tryz.prog W' 0 sp true 9 v d p :=
 WideElems.Trod_stays qbto (show Tryz.prog.readableRec 9 = true by kernel_rfl) (of_decide_eq_true (by kernel_rfl)) h (fun x hx=>hb.same (hlt x hx)) hsp
end
end Go.Proofs.YtlmcofjcpadmiaaGreat
