/- A text of this proof. -/
import Derived.Test.YtkenggenkmfopaaGreatFbn
import Derived.Test.YtkenggenkmfopaaGreatFbo
set_option linter.unusedVariables false
set_option linter.unusedSimpArgs false

/- arguments of the statements: rows of deeds, types, two numbers -/
set_option maxRecDepth 100000
namespace Go.Proofs.YtkenggenkmfopaaGreat
open Go Go.RowKit Go.V Go.ChangeShapes Go.WideShapes Go.ChangeAt

def LTde:List TypeId:=[9,3,41,25,23,44,42,46,22,50]
theorem qcai:LTde.all (qo3 Tryz.prog LTde)=true:=by kernel_rfl
instance:Inhabited Dd:=⟨D0⟩
theorem q94{f:Nat}{cs:List AV}(h1:TC Tryz.prog f 46 cs):∃x:Dd,elA Tryz.prog 46 cs=encD x:=by
 obtain⟨f',rfl,hl,h⟩:=qb5t Tryz.underlying46 h1
 rw[show Tryz.prog.cellsOf 46=16 by kernel_rfl] at hl
 match cs,hl with
 | [a0, a1, a2, a3, a4, a5, a6, a7, a8, a9, a10, a11, a12, a13, a14, a15], _ =>
   have h0:=h (3,0) (by decide)
   have h1:=h (3,1) (by decide)
   have h2':=h (3,2) (by decide)
   have h3:=h (9,3) (by decide)
   have h4:=h (25,4) (by decide)
   have h5:=h (25,7) (by decide)
   have h6:=h (44,10) (by decide)
   simp only[show Tryz.prog.cellsOf 3=1 by kernel_rfl,show Tryz.prog.cellsOf 9=1 by kernel_rfl,show Tryz.prog.cellsOf 25=3 by kernel_rfl,show Tryz.prog.cellsOf 44=6 by kernel_rfl,List.drop_zero,List.drop_succ_cons,List.take_succ_cons,List.take_zero] at h0 h1 h2' h3 h4 h5 h6
   obtain⟨n0,e0⟩:=qi3 Tryz.underlying3 h0
   obtain⟨n1,e1⟩:=qi3 Tryz.underlying3 h1
   obtain⟨n2,e2⟩:=qi3 Tryz.underlying3 h2'
   obtain⟨n3,e3⟩:=q3c Tryz.underlying9 h3
   obtain⟨t4,e4⟩:=ql0 f' _ h4
   obtain⟨t5,e5⟩:=ql0 f' _ h5
   obtain⟨t6,e6⟩:=qbar f' _ h6
   cases e0;cases e1;cases e2;cases e3;cases e4;cases e5;cases e6
   exact⟨⟨n0,n1,n2,n3,t4,t5,t6⟩,quc Tryz.underlying46 _⟩
section
variable {H:Type} {enc':TypeId×Value->H} {W W':World} {base:Nat} {v:Value} {d:DataW H} {p:List MemPlace} {sp:Nat->Bool}
theorem q6v(hok:Value.okWide Tryz.prog W .any base 22 v)(h:DataW.Trod enc' Tryz.prog W 0 (fun _=>true) true 22 v d p):∃l,VR W (MM W) [] (.sl 16 (qju l)) v:=by
 obtain⟨f,cs,h1,h2⟩:=q64 qcai (by decide) hok h
 obtain⟨f',es,rfl,rfl,he⟩:=q5d Tryz.underlying22 h1
 obtain⟨l,rfl⟩:=qn0 he fun ds hd=>q94 hd
 rw[qckd Tryz.underlying22,show Tryz.prog.cellsOf 46=16 by kernel_rfl] at h2
 exact⟨l,h2⟩
theorem q7v(hok:Value.okWide Tryz.prog W .any base 25 v)(h:DataW.Trod enc' Tryz.prog W 0 (fun _=>true) true 25 v d p):∃t,VR W (MM W) [] (encY t) v:=by
 obtain⟨f,cs,h1,h2⟩:=q64 qcai (by decide) hok h
 obtain⟨t,rfl⟩:=ql0 f _ h1
 rw[quc Tryz.underlying25] at h2
 exact⟨t,by rw[←qbd t];exact h2⟩
theorem qche(hok:Value.okWide Tryz.prog W .any base 50 v)(h:DataW.Trod enc' Tryz.prog W 0 (fun _=>true) true 50 v d p):∃x:Int×Int,VR W (MM W) [] (.agg [.int .i64 x.1,.int .i64 x.2]) v:=by
 obtain⟨f,cs,h1,h2⟩:=q64 qcai (by decide) hok h
 obtain⟨f',rfl,hl,h3⟩:=qcja Tryz.underlying50 h1
 rw[show Tryz.prog.cellsOf 50=2 by kernel_rfl] at hl
 have hpl:qja Tryz.prog 2 3=[(3,0),(3,1)]:=by kernel_rfl
 rw[hpl] at h3
 match cs,hl with
 | [a, b], _ =>
   have ha:=h3 (3,0) (by simp)
   have hb:=h3 (3,1) (by simp)
   simp only[show Tryz.prog.cellsOf 3=1 by kernel_rfl,List.drop_zero,List.drop_succ_cons,List.take_succ_cons,List.take_zero] at ha hb
   obtain⟨x,hx⟩:=qi3 Tryz.underlying3 ha
   obtain⟨y,hy⟩:=qi3 Tryz.underlying3 hb
   cases hx;cases hy
   rw[qb9o Tryz.underlying50] at h2
   exact⟨(x,y),h2⟩
theorem q2a(h:DataW.Trod enc' Tryz.prog W 0 (fun _=>true) true 22 v d p)(hlt:∀x∈p,x.block<W.heap.size)(hb:Below W.heap.size W W')(hsp:∀x∈p,sp x.block=true):DataW.Trod enc' Tryz.prog W' 0 sp true 22 v d p :=
 WideElems.Trod_stays qwa (show Tryz.prog.readableRec 22=true by kernel_rfl) (of_decide_eq_true (by kernel_rfl)) h (fun x hx=>hb.same (hlt x hx)) hsp
theorem q1q(h:DataW.Trod enc' Tryz.prog W 0 (fun _=>true) true 25 v d p)(hlt:∀x∈p,x.block<W.heap.size)(hb:Below W.heap.size W W')(hsp:∀x∈p,sp x.block=true):DataW.Trod enc' Tryz.prog W' 0 sp true 25 v d p :=
 WideElems.Trod_stays qwa (show Tryz.prog.readableRec 25=true by kernel_rfl) (of_decide_eq_true (by kernel_rfl)) h (fun x hx=>hb.same (hlt x hx)) hsp
theorem qbu0(h:DataW.Trod enc' Tryz.prog W 0 (fun _=>true) true 50 v d p)(hlt:∀x∈p,x.block<W.heap.size)(hb:Below W.heap.size W W')(hsp:∀x∈p,sp x.block=true):DataW.Trod enc' Tryz.prog W' 0 sp true 50 v d p :=
 WideElems.Trod_stays qwa (show Tryz.prog.readableRec 50=true by kernel_rfl) (of_decide_eq_true (by kernel_rfl)) h (fun x hx=>hb.same (hlt x hx)) hsp
end
end Go.Proofs.YtkenggenkmfopaaGreat
