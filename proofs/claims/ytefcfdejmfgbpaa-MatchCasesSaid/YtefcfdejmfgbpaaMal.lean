/- A text of this proof. -/
import Derived.Test.YtefcfdejmfgbpaaRows
import Derived.Test.YtefcfdejmfgbpaaMak
set_option linter.unusedVariables false
set_option linter.unusedSimpArgs false

/- arguments of the statements: types, rows of types, integers, texts -/
set_option maxRecDepth 100000
namespace Go.Proofs.Ytefcfdejmfgbpaa
open Go Go.RowKit Go.V Go.ChangeShapes Go.WideShapes Go.ChangeAt

theorem own:ownKnob Try.prog.godebug = none:=by kernel_rfl
theorem qoa:laidOutB Try.prog = true:=by kernel_rfl
def LTt:List TypeId:=[9,3,25,23]
theorem hLTt:LTt.all (qh4 Try.prog LTt) = true:=by kernel_rfl
instance:Inhabited Ty:=⟨Y0⟩
theorem qkn:∀ (f:Nat) (ds:List AV),TC Try.prog f 25 ds->∃ t:Ty,ds = yc t:=by
 intro f
 induction f using Nat.strongRecOn with
 | ind f ih =>
   intro ds h
   obtain ⟨f',rfl,hl,h⟩:=q9s Try.underlying25 h
   rw [show Try.prog.cellsOf 25 = 3 by kernel_rfl] at hl
   match ds,hl with
   | [a, b, c], _ =>
     have h0:=h (9,0) (by decide)
     have h1:=h (3,1) (by decide)
     have h2:=h (23,2) (by decide)
     simp only [show Try.prog.cellsOf 3 = 1 by kernel_rfl,show Try.prog.cellsOf 9 = 1 by kernel_rfl,show Try.prog.cellsOf 23 = 1 by kernel_rfl,List.drop_zero,List.drop_succ_cons,List.take_succ_cons,List.take_zero] at h0 h1 h2
     obtain ⟨n0,e0⟩:=qbeg Try.underlying9 h0
     obtain ⟨n1,e1⟩:=q0e Try.underlying3 h1
     obtain ⟨f'',es,rfl,e2,he⟩:=qbcl Try.underlying23 h2
     obtain ⟨l,rfl⟩:=qub (enc:=encY) he fun ds hd=>by
      obtain ⟨t,rfl⟩:=ih f'' (by omega) ds hd
      exact ⟨t,by rw [qug Try.underlying25];exact qb6 t⟩
     rw [show Try.prog.cellsOf 25 = 3 by kernel_rfl,← qce] at e2
     cases e0;cases e1;cases e2
     exact ⟨.mk n0 n1 l,rfl⟩
section
variable {H:Type} {enc':TypeId×Value->H} {W W':World} {base:Nat} {v:Value} {d:DataW H} {p:List MemPlace} {sp:Nat->Bool}
theorem qx7 (hok:Value.okWide Try.prog W .any base 25 v) (h:DataW.Trod enc' Try.prog W 0 (fun _=>true) true 25 v d p):∃ l,VR W (MM W) [] (encY l) v:=by
 obtain ⟨f,cs,h1,h2⟩:=qt1 hLTt (by decide) hok h
 obtain ⟨l,rfl⟩:=qkn f _ h1
 rw [qug Try.underlying25,qb6] at h2
 exact ⟨l,h2⟩
theorem qvo (h:DataW.Trod enc' Try.prog W 0 (fun _=>true) true 25 v d p) (hlt:∀ x∈p,x.block < W.heap.size) (hb:Below W.heap.size W W') (hsp:∀ x∈p,sp x.block = true):DataW.Trod enc' Try.prog W' 0 sp true 25 v d p :=
 WideElems.Trod_stays qoa (show Try.prog.readableRec 25 = true by kernel_rfl) (of_decide_eq_true (by kernel_rfl)) h (fun x hx=>hb.same (hlt x hx)) hsp
end
end Go.Proofs.Ytefcfdejmfgbpaa
