/- A text of this proof. -/
import Derived.Test.YtkenggenkmfopaaGreatIai
import Derived.Test.YtkenggenkmfopaaGreatIaj
set_option linter.unusedVariables false
set_option linter.unusedSimpArgs false

/- arguments of the statements: instances, and rows of them; a predicate; a number -/
set_option maxRecDepth 100000
namespace Go.Proofs.YtkenggenkmfopaaGreat
open Go Go.RowKit Go.V Go.ChangeShapes Go.WideShapes Go.ChangeAt

instance:Inhabited Ins:=⟨I0⟩
theorem qb5i{f:Nat}{ds:List AV}(h:TC Tryz.prog f 228 ds):∃x:Ins,elA Tryz.prog 228 ds=encI x:=by
 obtain⟨f',rfl,hl,h⟩:=qr5 Tryz.underlying228 h
 rw[show Tryz.prog.cellsOf 228=4 by kernel_rfl] at hl
 match ds,hl with
 | [a, b, c, e], _ =>
   have h0:=h (9,0) (by decide)
   have h1:=h (9,1) (by decide)
   have h2:=h (3,2) (by decide)
   have h3:=h (192,3) (by decide)
   simp only[show Tryz.prog.cellsOf 192=1 by kernel_rfl,show Tryz.prog.cellsOf 3=1 by kernel_rfl,show Tryz.prog.cellsOf 9=1 by kernel_rfl,List.drop_zero,List.drop_succ_cons,List.take_succ_cons,List.take_zero] at h0 h1 h2 h3
   obtain⟨n0,e0⟩:=qif Tryz.underlying9 h0
   obtain⟨n1,e1⟩:=qif Tryz.underlying9 h1
   obtain⟨n2,e2⟩:=qoc Tryz.underlying3 h2
   obtain⟨f'',es,rfl,e3,he⟩:=qpa Tryz.underlying192 h3
   obtain⟨l,rfl⟩:=qfo he fun ds hd=>qbsb hd
   rw[show Tryz.prog.cellsOf 65=4 by kernel_rfl] at e3
   cases e0;cases e1;cases e2;cases e3
   exact⟨⟨n0,n1,n2,l⟩,qhq Tryz.underlying228 _⟩
end Go.Proofs.YtkenggenkmfopaaGreat
