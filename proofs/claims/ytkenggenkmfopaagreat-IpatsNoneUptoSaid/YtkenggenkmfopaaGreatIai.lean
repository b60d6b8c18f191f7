/- A text of this proof. -/
import Derived.Test.YtkenggenkmfopaaGreatRows
import Derived.Test.YtkenggenkmfopaaGreatIah
set_option linter.unusedVariables false
set_option linter.unusedSimpArgs false

/- arguments of the statements: predicates, types, rows of both -/
set_option maxRecDepth 100000
namespace Go.Proofs.YtkenggenkmfopaaGreat
open Go Go.RowKit Go.V Go.ChangeShapes Go.WideShapes Go.ChangeAt

theorem own:ownKnob Tryz.prog.godebug=none:=by kernel_rfl
theorem q4x:laidOutB Tryz.prog=true:=by kernel_rfl
instance:Inhabited Ty:=⟨Y0⟩
instance:Inhabited Pd:=⟨P0⟩
theorem qxx:∀(f:Nat) (ds:List AV),TC Tryz.prog f 25 ds->∃t:Ty,ds=yc t:=by
 intro f
 induction f using Nat.strongRecOn with
 | ind f ih =>
   intro ds h
   obtain⟨f',rfl,hl,h⟩:=qr5 Tryz.underlying25 h
   rw[show Tryz.prog.cellsOf 25=3 by kernel_rfl] at hl
   match ds,hl with
   | [a, b, c], _ =>
     have h0:=h (9,0) (by decide)
     have h1:=h (3,1) (by decide)
     have h2:=h (23,2) (by decide)
     simp only[show Tryz.prog.cellsOf 3=1 by kernel_rfl,show Tryz.prog.cellsOf 9=1 by kernel_rfl,show Tryz.prog.cellsOf 23=1 by kernel_rfl,List.drop_zero,List.drop_succ_cons,List.take_succ_cons,List.take_zero] at h0 h1 h2
     obtain⟨n0,e0⟩:=qif Tryz.underlying9 h0
     obtain⟨n1,e1⟩:=qoc Tryz.underlying3 h1
     obtain⟨f'',es,rfl,e2,he⟩:=qpa Tryz.underlying23 h2
     obtain⟨l,rfl⟩:=qfo (enc:=encY) he fun ds hd=>by
      obtain⟨t,rfl⟩:=ih f'' (by omega) ds hd
      exact⟨t,by rw[qhq Tryz.underlying25];exact qb4 t⟩
     rw[show Tryz.prog.cellsOf 25=3 by kernel_rfl,←qcy] at e2
     cases e0;cases e1;cases e2
     exact⟨.mk n0 n1 l,rfl⟩
theorem qbsb{f:Nat}{ds:List AV}(h:TC Tryz.prog f 65 ds):∃p:Pd,elA Tryz.prog 65 ds=encP p:=by
 obtain⟨f',rfl,hl,h⟩:=qr5 Tryz.underlying65 h
 rw[show Tryz.prog.cellsOf 65=4 by kernel_rfl] at hl
 match ds,hl with
 | [a, b, c, e], _ =>
   have h0:=h (9,0) (by decide)
   have h1:=h (25,1) (by decide)
   simp only[show Tryz.prog.cellsOf 25=3 by kernel_rfl,show Tryz.prog.cellsOf 9=1 by kernel_rfl,List.drop_zero,List.drop_succ_cons,List.take_succ_cons,List.take_zero] at h0 h1
   obtain⟨n0,h0⟩:=qif Tryz.underlying9 h0
   obtain⟨t,h1⟩:=qxx f' _ h1
   cases h0;cases h1
   exact⟨⟨n0,t⟩,qhq Tryz.underlying65 _⟩
end Go.Proofs.YtkenggenkmfopaaGreat
