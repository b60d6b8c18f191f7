/- A text of this proof. -/
import Derived.Test.YtkenggenkmfopaaGreatRows
import Derived.Test.YtkenggenkmfopaaGreatNal
import Derived.Test.YtkenggenkmfopaaGreatNbv
set_option linter.unusedVariables false
set_option linter.unusedSimpArgs false

/- arguments of the statements: deeds -/
set_option maxRecDepth 100000
namespace Go.Proofs.YtkenggenkmfopaaGreat
open Go Go.RowKit Go.V Go.ChangeShapes Go.WideShapes Go.ChangeAt

theorem own:ownKnob Tryz.prog.godebug = none:=by kernel_rfl
theorem qbfx:laidOutB Tryz.prog = true:=by kernel_rfl
def LTdd:List TypeId:=[9,3,41,25,23,44,42,46]
theorem qbzh:LTdd.all (qli Tryz.prog LTdd) = true:=by kernel_rfl
instance:Inhabited Ty:=⟨Y0⟩
instance:Inhabited Tm:=⟨T0⟩
theorem qnn:∀ (f:Nat) (ds:List AV),TC Tryz.prog f 25 ds->∃ t:Ty,ds = yc t:=by
 intro f
 induction f using Nat.strongRecOn with
 | ind f ih =>
   intro ds h
   obtain ⟨f',rfl,hl,h⟩:=qbe3 Tryz.underlying25 h
   rw [show Tryz.prog.cellsOf 25 = 3 by kernel_rfl] at hl
   match ds,hl with
   | [a, b, c], _ =>
     have h0:=h (9,0) (by decide)
     have h1:=h (3,1) (by decide)
     have h2:=h (23,2) (by decide)
     simp only [show Tryz.prog.cellsOf 3 = 1 by kernel_rfl,show Tryz.prog.cellsOf 9 = 1 by kernel_rfl,show Tryz.prog.cellsOf 23 = 1 by kernel_rfl,List.drop_zero,List.drop_succ_cons,List.take_succ_cons,List.take_zero] at h0 h1 h2
     obtain ⟨n0,e0⟩:=qy6 Tryz.underlying9 h0
     obtain ⟨n1,e1⟩:=qjc Tryz.underlying3 h1
     obtain ⟨f'',es,rfl,e2,he⟩:=q66 Tryz.underlying23 h2
     obtain ⟨l,rfl⟩:=qnq (enc:=encY) he fun ds hd=>by
      obtain ⟨t,rfl⟩:=ih f'' (by omega) ds hd
      exact ⟨t,by rw [qs3 Tryz.underlying25];exact qbh t⟩
     rw [show Tryz.prog.cellsOf 25 = 3 by kernel_rfl,← qb8] at e2
     cases e0;cases e1;cases e2
     exact ⟨.mk n0 n1 l,rfl⟩
theorem q2z:∀ (f:Nat) (ds:List AV),TC Tryz.prog f 44 ds->∃ t:Tm,ds = tmc t:=by
 intro f
 induction f using Nat.strongRecOn with
 | ind f ih =>
   intro ds h
   obtain ⟨f',rfl,hl,h⟩:=qbe3 Tryz.underlying44 h
   rw [show Tryz.prog.cellsOf 44 = 6 by kernel_rfl] at hl
   match ds,hl with
   | [a, b, c, d, e, g], _ =>
     have h0:=h (3,0) (by decide)
     have h1:=h (3,1) (by decide)
     have h2:=h (9,2) (by decide)
     have h3:=h (41,3) (by decide)
     have h4:=h (23,4) (by decide)
     have h5:=h (42,5) (by decide)
     simp only [show Tryz.prog.cellsOf 3 = 1 by kernel_rfl,show Tryz.prog.cellsOf 9 = 1 by kernel_rfl,show Tryz.prog.cellsOf 41 = 1 by kernel_rfl,show Tryz.prog.cellsOf 23 = 1 by kernel_rfl,show Tryz.prog.cellsOf 42 = 1 by kernel_rfl,List.drop_zero,List.drop_succ_cons,List.take_succ_cons,List.take_zero] at h0 h1 h2 h3 h4 h5
     obtain ⟨n0,e0⟩:=qjc Tryz.underlying3 h0
     obtain ⟨n1,e1⟩:=qjc Tryz.underlying3 h1
     obtain ⟨n2,e2⟩:=qy6 Tryz.underlying9 h2
     obtain ⟨f3,es3,hf3,e3,he3⟩:=q66 Tryz.underlying41 h3
     obtain ⟨f4,es4,hf4,e4,he4⟩:=q66 Tryz.underlying23 h4
     obtain ⟨f5,es5,rfl,e5,he5⟩:=q66 Tryz.underlying42 h5
     obtain ⟨l3,rfl⟩:=qnq (enc:=AV.int .i64) he3 fun ds hd=>by
      obtain ⟨n,rfl⟩:=qjc Tryz.underlying3 hd
      exact ⟨n,qbgn Tryz.underlying3 _⟩
     obtain ⟨l4,rfl⟩:=qnq (enc:=encY) he4 fun ds hd=>by
      obtain ⟨t,rfl⟩:=qnn f4 ds hd
      exact ⟨t,by rw [qs3 Tryz.underlying25];exact qbh t⟩
     obtain ⟨l5,rfl⟩:=qnq (enc:=encT) he5 fun ds hd=>by
      obtain ⟨t,rfl⟩:=ih f5 (by omega) ds hd
      exact ⟨t,by rw [qs3 Tryz.underlying44];exact qb6 t⟩
     rw [show Tryz.prog.cellsOf 3 = 1 by kernel_rfl] at e3
     rw [show Tryz.prog.cellsOf 25 = 3 by kernel_rfl,← qb8] at e4
     rw [show Tryz.prog.cellsOf 44 = 6 by kernel_rfl,← qcm] at e5
     cases e0;cases e1;cases e2;cases e3;cases e4;cases e5
     exact ⟨.mk n0 n1 n2 l3 l4 l5,rfl⟩
section
variable {H:Type} {enc':TypeId×Value->H} {W W':World} {base:Nat} {v:Value} {d:DataW H} {p:List MemPlace} {sp:Nat->Bool}
theorem q6d (hok:Value.okWide Tryz.prog W .any base 46 v) (h:DataW.Trod enc' Tryz.prog W 0 (fun _=>true) true 46 v d p):∃ x:Dd,VR W (MM W) [] (encD x) v:=by
 obtain ⟨f,cs,h1,h2⟩:=qbv6 qbzh (by decide) hok h
 obtain ⟨f',rfl,hl,h⟩:=qbe3 Tryz.underlying46 h1
 rw [show Tryz.prog.cellsOf 46 = 16 by kernel_rfl] at hl
 match cs,hl with
 | [a0, a1, a2, a3, a4, a5, a6, a7, a8, a9, a10, a11, a12, a13, a14, a15], _ =>
   have h0:=h (3,0) (by decide)
   have h1:=h (3,1) (by decide)
   have h2':=h (3,2) (by decide)
   have h3:=h (9,3) (by decide)
   have h4:=h (25,4) (by decide)
   have h5:=h (25,7) (by decide)
   have h6:=h (44,10) (by decide)
   simp only [show Tryz.prog.cellsOf 3 = 1 by kernel_rfl,show Tryz.prog.cellsOf 9 = 1 by kernel_rfl,show Tryz.prog.cellsOf 25 = 3 by kernel_rfl,show Tryz.prog.cellsOf 44 = 6 by kernel_rfl,List.drop_zero,List.drop_succ_cons,List.take_succ_cons,List.take_zero] at h0 h1 h2' h3 h4 h5 h6
   obtain ⟨n0,e0⟩:=qjc Tryz.underlying3 h0
   obtain ⟨n1,e1⟩:=qjc Tryz.underlying3 h1
   obtain ⟨n2,e2⟩:=qjc Tryz.underlying3 h2'
   obtain ⟨n3,e3⟩:=qy6 Tryz.underlying9 h3
   obtain ⟨t4,e4⟩:=qnn f' _ h4
   obtain ⟨t5,e5⟩:=qnn f' _ h5
   obtain ⟨t6,e6⟩:=q2z f' _ h6
   cases e0;cases e1;cases e2;cases e3;cases e4;cases e5;cases e6
   rw [qs3 Tryz.underlying46] at h2
   exact ⟨⟨n0,n1,n2,n3,t4,t5,t6⟩,h2⟩
theorem qzy (h:DataW.Trod enc' Tryz.prog W 0 (fun _=>true) true 46 v d p) (hlt:∀ x∈p,x.block < W.heap.size) (hb:Below W.heap.size W W') (hsp:∀ x∈p,sp x.block = true):DataW.Trod enc' Tryz.prog W' 0 sp true 46 v d p :=
 WideElems.Trod_stays qbfx (show Tryz.prog.readableRec 46 = true by kernel_rfl) (of_decide_eq_true (by kernel_rfl)) h (fun x hx=>hb.same (hlt x hx)) hsp
end
end Go.Proofs.YtkenggenkmfopaaGreat
