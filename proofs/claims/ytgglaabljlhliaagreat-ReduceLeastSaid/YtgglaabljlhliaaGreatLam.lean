/- A text of this proof. -/
import Derived.Test.YtgglaabljlhliaaGreatRows
import Derived.Test.YtgglaabljlhliaaGreatLal
set_option linter.unusedVariables false
set_option linter.unusedSimpArgs false

/- arguments of the statements: predicates, types, rows of both -/
set_option maxRecDepth 100000
namespace Go.Proofs.YtgglaabljlhliaaGreat
open Go Go.RowKit Go.V Go.ChangeShapes Go.WideShapes Go.ChangeAt

theorem own:ownKnob Tryz.prog.godebug = none:=by kernel_rfl
theorem q3e:laidOutB Tryz.prog = true:=by kernel_rfl
def LTp:List TypeId:=[9,3,31,29,33,27]
theorem hLTp:LTp.all (qla Tryz.prog LTp) = true:=by kernel_rfl
instance:Inhabited Ty:=⟨Y0⟩
instance:Inhabited Pd:=⟨P0⟩
theorem qbk5:∀ (f:Nat) (ds:List AV),TC Tryz.prog f 31 ds->∃ t:Ty,ds = yc t:=by
 intro f
 induction f using Nat.strongRecOn with
 | ind f ih =>
   intro ds h
   obtain ⟨f',rfl,hl,h⟩:=q3o Tryz.underlying31 h
   rw [show Tryz.prog.cellsOf 31 = 3 by kernel_rfl] at hl
   match ds,hl with
   | [a, b, c], _ =>
     have h0:=h (9,0) (by decide)
     have h1:=h (3,1) (by decide)
     have h2:=h (29,2) (by decide)
     simp only [show Tryz.prog.cellsOf 3 = 1 by kernel_rfl,show Tryz.prog.cellsOf 9 = 1 by kernel_rfl,show Tryz.prog.cellsOf 29 = 1 by kernel_rfl,List.drop_zero,List.drop_succ_cons,List.take_succ_cons,List.take_zero] at h0 h1 h2
     obtain ⟨n0,e0⟩:=qne Tryz.underlying9 h0
     obtain ⟨n1,e1⟩:=qbdv Tryz.underlying3 h1
     obtain ⟨f'',es,rfl,e2,he⟩:=qrn Tryz.underlying29 h2
     obtain ⟨l,rfl⟩:=qi8 (enc:=encY) he fun ds hd=>by
      obtain ⟨t,rfl⟩:=ih f'' (by omega) ds hd
      exact ⟨t,by rw [qqd Tryz.underlying31];exact qcr t⟩
     rw [show Tryz.prog.cellsOf 31 = 3 by kernel_rfl,← qdk] at e2
     cases e0;cases e1;cases e2
     exact ⟨.mk n0 n1 l,rfl⟩
theorem q18 {f:Nat} {ds:List AV} (h:TC Tryz.prog f 33 ds):∃ p:Pd,elA Tryz.prog 33 ds = encP p:=by
 obtain ⟨f',rfl,hl,h⟩:=q3o Tryz.underlying33 h
 rw [show Tryz.prog.cellsOf 33 = 4 by kernel_rfl] at hl
 match ds,hl with
 | [a, b, c, e], _ =>
   have h0:=h (9,0) (by decide)
   have h1:=h (31,1) (by decide)
   simp only [show Tryz.prog.cellsOf 31 = 3 by kernel_rfl,show Tryz.prog.cellsOf 9 = 1 by kernel_rfl,List.drop_zero,List.drop_succ_cons,List.take_succ_cons,List.take_zero] at h0 h1
   obtain ⟨n0,h0⟩:=qne Tryz.underlying9 h0
   obtain ⟨t,h1⟩:=qbk5 f' _ h1
   cases h0;cases h1
   exact ⟨⟨n0,t⟩,qqd Tryz.underlying33 _⟩
section
variable {H:Type} {enc':TypeId×Value->H} {W W':World} {base:Nat} {v:Value} {d:DataW H} {p:List MemPlace} {sp:Nat->Bool}
theorem q3l (hok:Value.okWide Tryz.prog W .any base 27 v) (h:DataW.Trod enc' Tryz.prog W 0 (fun _=>true) true 27 v d p):∃ l,VR W (MM W) [] (.sl 4 (qg l)) v:=by
 obtain ⟨f,cs,h1,h2⟩:=qbdl hLTp (by decide) hok h
 obtain ⟨f',es,rfl,rfl,he⟩:=qrn Tryz.underlying27 h1
 obtain ⟨l,rfl⟩:=qi8 he fun ds hd=>q18 hd
 rw [qb37 Tryz.underlying27,show Tryz.prog.cellsOf 33 = 4 by kernel_rfl] at h2
 exact ⟨l,h2⟩
theorem qyk (h:DataW.Trod enc' Tryz.prog W 0 (fun _=>true) true 27 v d p) (hlt:∀ x∈p,x.block < W.heap.size) (hb:Below W.heap.size W W') (hsp:∀ x∈p,sp x.block = true):DataW.Trod enc' Tryz.prog W' 0 sp true 27 v d p :=
 WideElems.Trod_stays q3e (show Tryz.prog.readableRec 27 = true by kernel_rfl) (of_decide_eq_true (by kernel_rfl)) h (fun x hx=>hb.same (hlt x hx)) hsp
end
end Go.Proofs.YtgglaabljlhliaaGreat
