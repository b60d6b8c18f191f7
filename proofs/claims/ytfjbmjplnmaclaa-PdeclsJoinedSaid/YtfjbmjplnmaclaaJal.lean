/- A text of this proof. -/
import Derived.Test.YtfjbmjplnmaclaaRows
import Derived.Test.YtfjbmjplnmaclaaJak
set_option linter.unusedVariables false
set_option linter.unusedSimpArgs false

/- arguments of the statements: texts, trees -/
set_option maxRecDepth 100000
namespace Go.Proofs.Ytfjbmjplnmaclaa
open Go Go.RowKit Go.V Go.ChangeShapes Go.WideShapes Go.ChangeAt

theorem own:ownKnob Try.prog.godebug = none:=by kernel_rfl
theorem qbsy:laidOutB Try.prog = true:=by kernel_rfl
def LT:List TypeId:=[9,3]
theorem hLT:LT.all (qrv Try.prog LT) = true:=by kernel_rfl
section
variable {H:Type} {enc':TypeId×Value->H} {W W':World} {base:Nat} {v:Value} {d:DataW H} {p:List MemPlace} {sp:Nat->Bool}
theorem q4y (hok:Value.okWide Try.prog W .any base 9 v) (h:DataW.Trod enc' Try.prog W 0 (fun _=>true) true 9 v d p):∃ s,VR W (MM W) [] (.str s) v:=by
 obtain ⟨f,cs,h1,h2⟩:=qbxd hLT (by decide) hok h
 obtain ⟨l,rfl⟩:=qbyl Try.underlying9 h1
 rw [qbha Try.underlying9] at h2
 exact ⟨l,h2⟩
theorem qzx (h:DataW.Trod enc' Try.prog W 0 (fun _=>true) true 9 v d p) (hlt:∀ x∈p,x.block < W.heap.size) (hb:Below W.heap.size W W') (hsp:∀ x∈p,sp x.block = true):DataW.Trod enc' Try.prog W' 0 sp true 9 v d p :=
 WideElems.Trod_stays qbsy (show Try.prog.readableRec 9 = true by kernel_rfl) (of_decide_eq_true (by kernel_rfl)) h (fun x hx=>hb.same (hlt x hx)) hsp
end
end Go.Proofs.Ytfjbmjplnmaclaa
