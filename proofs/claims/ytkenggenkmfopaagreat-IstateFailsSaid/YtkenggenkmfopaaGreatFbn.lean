/- A text of this proof. -/
import Derived.Test.YtkenggenkmfopaaGreatRows
import Derived.Test.YtkenggenkmfopaaGreatFah
import Derived.Test.YtkenggenkmfopaaGreatFbm
set_option linter.unusedVariables false
set_option linter.unusedSimpArgs false

/- arguments of the statements: deeds -/
set_option maxRecDepth 100000
namespace Go.Proofs.YtkenggenkmfopaaGreat
open Go Go.RowKit Go.V Go.ChangeShapes Go.WideShapes Go.ChangeAt

theorem own:ownKnob Tryz.prog.godebug=none:=by kernel_rfl
theorem qwa:laidOutB Tryz.prog=true:=by kernel_rfl
instance:Inhabited Ty:=⟨Y0⟩
instance:Inhabited Tm:=⟨T0⟩
theorem ql0:∀(f:Nat) (ds:List AV),TC Tryz.prog f 25 ds->∃t:Ty,ds=yc t:=by
 intro f
 induction f using Nat.strongRecOn with
 | ind f ih =>
   intro ds h
   obtain⟨f',rfl,hl,h⟩:=qb5t Tryz.underlying25 h
   rw[show Tryz.prog.cellsOf 25=3 by kernel_rfl] at hl
   match ds,hl with
   | [a, b, c], _ =>
     have h0:=h (9,0) (by decide)
     have h1:=h (3,1) (by decide)
     have h2:=h (23,2) (by decide)
     simp only[show Tryz.prog.cellsOf 3=1 by kernel_rfl,show Tryz.prog.cellsOf 9=1 by kernel_rfl,show Tryz.prog.cellsOf 23=1 by kernel_rfl,List.drop_zero,List.drop_succ_cons,List.take_succ_cons,List.take_zero] at h0 h1 h2
     obtain⟨n0,e0⟩:=q3c Tryz.underlying9 h0
     obtain⟨n1,e1⟩:=qi3 Tryz.underlying3 h1
     obtain⟨f'',es,rfl,e2,he⟩:=q5d Tryz.underlying23 h2
     obtain⟨l,rfl⟩:=qn0 (enc:=encY) he fun ds hd=>by
      obtain⟨t,rfl⟩:=ih f'' (by omega) ds hd
      exact⟨t,by rw[quc Tryz.underlying25];exact qbd t⟩
     rw[show Tryz.prog.cellsOf 25=3 by kernel_rfl,←qcn] at e2
     cases e0;cases e1;cases e2
     exact⟨.mk n0 n1 l,rfl⟩
theorem qbar:∀(f:Nat) (ds:List AV),TC Tryz.prog f 44 ds->∃t:Tm,ds=tmc t:=by
 intro f
 induction f using Nat.strongRecOn with
 | ind f ih =>
   intro ds h
   obtain⟨f',rfl,hl,h⟩:=qb5t Tryz.underlying44 h
   rw[show Tryz.prog.cellsOf 44=6 by kernel_rfl] at hl
   match ds,hl with
   | [a, b, c, d, e, g], _ =>
     have h0:=h (3,0) (by decide)
     have h1:=h (3,1) (by decide)
     have h2:=h (9,2) (by decide)
     have h3:=h (41,3) (by decide)
     have h4:=h (23,4) (by decide)
     have h5:=h (42,5) (by decide)
     simp only[show Tryz.prog.cellsOf 3=1 by kernel_rfl,show Tryz.prog.cellsOf 9=1 by kernel_rfl,show Tryz.prog.cellsOf 41=1 by kernel_rfl,show Tryz.prog.cellsOf 23=1 by kernel_rfl,show Tryz.prog.cellsOf 42=1 by kernel_rfl,List.drop_zero,List.drop_succ_cons,List.take_succ_cons,List.take_zero] at h0 h1 h2 h3 h4 h5
     obtain⟨n0,e0⟩:=qi3 Tryz.underlying3 h0
     obtain⟨n1,e1⟩:=qi3 Tryz.underlying3 h1
     obtain⟨n2,e2⟩:=q3c Tryz.underlying9 h2
     obtain⟨f3,es3,hf3,e3,he3⟩:=q5d Tryz.underlying41 h3
     obtain⟨f4,es4,hf4,e4,he4⟩:=q5d Tryz.underlying23 h4
     obtain⟨f5,es5,rfl,e5,he5⟩:=q5d Tryz.underlying42 h5
     obtain⟨l3,rfl⟩:=qn0 (enc:=AV.int .i64) he3 fun ds hd=>by
      obtain⟨n,rfl⟩:=qi3 Tryz.underlying3 hd
      exact⟨n,qbpg Tryz.underlying3 _⟩
     obtain⟨l4,rfl⟩:=qn0 (enc:=encY) he4 fun ds hd=>by
      obtain⟨t,rfl⟩:=ql0 f4 ds hd
      exact⟨t,by rw[quc Tryz.underlying25];exact qbd t⟩
     obtain⟨l5,rfl⟩:=qn0 (enc:=encT) he5 fun ds hd=>by
      obtain⟨t,rfl⟩:=ih f5 (by omega) ds hd
      exact⟨t,by rw[quc Tryz.underlying44];exact qcf t⟩
     rw[show Tryz.prog.cellsOf 3=1 by kernel_rfl] at e3
     rw[show Tryz.prog.cellsOf 25=3 by kernel_rfl,←qcn] at e4
     rw[show Tryz.prog.cellsOf 44=6 by kernel_rfl,←qcp] at e5
     cases e0;cases e1;cases e2;cases e3;cases e4;cases e5
     exact⟨.mk n0 n1 n2 l3 l4 l5,rfl⟩
end Go.Proofs.YtkenggenkmfopaaGreat
