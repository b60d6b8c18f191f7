/- A text of this proof. -/
import Derived.Test.YtlahgbhhejkgbaaRows
import Derived.Test.YtlahgbhhejkgbaaKai
set_option linter.unusedVariables false
set_option linter.unusedSimpArgs false

/- arguments of the statements: types, rows of types, integers, texts -/
set_option maxRecDepth 100000
namespace Go.Proofs.Ytlahgbhhejkgbaa
open Go Go.RowKit Go.V Go.ChangeShapes Go.WideShapes Go.ChangeAt

theorem own:ownKnob Try.prog.godebug = none:=by kernel_rfl
theorem quh:laidOutB Try.prog = true:=by kernel_rfl
def LTt:List TypeId:=[9,3,24,22]
theorem hLTt:LTt.all (qjl Try.prog LTt) = true:=by kernel_rfl
instance:Inhabited Ty:=⟨Y0⟩
theorem qy2:∀ (f:Nat) (ds:List AV),TC Try.prog f 24 ds->∃ t:Ty,ds = yc t:=by
 intro f
 induction f using Nat.strongRecOn with
 | ind f ih =>
   intro ds h
   obtain ⟨f',rfl,hl,h⟩:=qbeh Try.underlying24 h
   rw [show Try.prog.cellsOf 24 = 3 by kernel_rfl] at hl
   match ds,hl with
   | [a, b, c], _ =>
     have h0:=h (9,0) (by decide)
     have h1:=h (3,1) (by decide)
     have h2:=h (22,2) (by decide)
     simp only [show Try.prog.cellsOf 3 = 1 by kernel_rfl,show Try.prog.cellsOf 9 = 1 by kernel_rfl,show Try.prog.cellsOf 22 = 1 by kernel_rfl,List.drop_zero,List.drop_succ_cons,List.take_succ_cons,List.take_zero] at h0 h1 h2
     obtain ⟨n0,e0⟩:=qyu Try.underlying9 h0
     obtain ⟨n1,e1⟩:=q8h Try.underlying3 h1
     obtain ⟨f'',es,rfl,e2,he⟩:=qbd3 Try.underlying22 h2
     obtain ⟨l,rfl⟩:=q3x (enc:=encY) he fun ds hd=>by
      obtain ⟨t,rfl⟩:=ih f'' (by omega) ds hd
      exact ⟨t,by rw [qy1 Try.underlying24];exact qbk t⟩
     rw [show Try.prog.cellsOf 24 = 3 by kernel_rfl,← qcy] at e2
     cases e0;cases e1;cases e2
     exact ⟨.mk n0 n1 l,rfl⟩
section
variable {H:Type} {enc':TypeId×Value->H} {W W':World} {base:Nat} {v:Value} {d:DataW H} {p:List MemPlace} {sp:Nat->Bool}
theorem qlb (h:DataW.Trod enc' Try.prog W 0 (fun _=>true) true 24 v d p) (hlt:∀ x∈p,x.block < W.heap.size) (hb:Below W.heap.size W W') (hsp:∀ x∈p,sp x.block = true):DataW.Trod enc' Try.prog W' 0 sp true 24 v d p :=
 WideElems.Trod_stays quh (show Try.prog.readableRec 24 = true by kernel_rfl) (of_decide_eq_true (by kernel_rfl)) h (fun x hx=>hb.same (hlt x hx)) hsp
theorem qxs (h:DataW.Trod enc' Try.prog W 0 (fun _=>true) true 9 v d p) (hlt:∀ x∈p,x.block < W.heap.size) (hb:Below W.heap.size W W') (hsp:∀ x∈p,sp x.block = true):DataW.Trod enc' Try.prog W' 0 sp true 9 v d p :=
 WideElems.Trod_stays quh (show Try.prog.readableRec 9 = true by kernel_rfl) (of_decide_eq_true (by kernel_rfl)) h (fun x hx=>hb.same (hlt x hx)) hsp
end
end Go.Proofs.Ytlahgbhhejkgbaa
