/- A text of this proof. -/
import Derived.Test.YtgglaabljlhliaaGreatMan
import Derived.Test.YtgglaabljlhliaaGreatMbm
set_option linter.unusedVariables false
set_option linter.unusedSimpArgs false

/- arguments of the statements: classes, all that is declared; two rows of predicates -/
set_option maxRecDepth 100000
namespace Go.V
open Go Go.RowKit
mutual
theorem q3r {w:World} {M:Nat->Nat->Prop}:∀ (v:AV) (x:Value),VR w M [] v x->v.bd 0 = true
 | .agg cs,x,h=>by obtain ⟨vs,_,h⟩:=h;exact qfx cs vs h
 | .tup cs,x,h=>by obtain ⟨vs,_,h⟩:=h;exact qfx cs vs h
 | .sl n es,x,h=>by obtain ⟨_,_,us,h,_⟩:=h;exact qfx es us h
 | .lit n es,x,h=>by obtain ⟨_,us,h,_⟩:=h;exact qfx es us h
 | .ptr i off,x,h=>by obtain ⟨g,h,_⟩:=h;simp at h
 | .row i len,x,h=>by obtain ⟨g,h,_⟩:=h;simp at h
 | .eptr n es k off,x,h=>by obtain ⟨_,_,us,h,_⟩:=h;exact qfx es us h
 | .rptr i n k off,x,h=>by obtain ⟨g,h,_⟩:=h;simp at h
 | .vw i off len cap,x,h=>by obtain ⟨g,h,_⟩:=h;simp at h
 | .fn f first caps, x, h => by
   obtain ⟨xs,ys,h1,h2,_⟩:=h
   have a:=qfx first xs h1
   have b:=qfx caps ys h2
   show (AV.bds 0 first && AV.bds 0 caps) = true
   rw [a,b];rfl
 | .opq i,x,h=>by obtain ⟨g,h,_⟩:=h;simp at h
 | .iface t v,x,h=>by obtain ⟨y,h,_⟩:=h;exact q3r v y h
 | .bool b,x,h=>rfl
 | .int k n,x,h=>rfl
 | .str l,x,h=>rfl
 | .nilp,x,h=>rfl
 | .nilf,x,h=>rfl
 | .nili,x,h=>rfl
 | .nils,x,h=>rfl
 | .nilm,x,h=>rfl
 | .junk,x,h=>rfl
theorem qfx {w:World} {M:Nat->Nat->Prop}:∀ (vs:List AV) (xs:List Value),VRs w M [] vs xs->AV.bds 0 vs = true
 | [],xs,h=>rfl
 | c :: cs, xs, h => by
   obtain ⟨v,r,_,h1,h2⟩:=h
   have a:=q3r c v h1
   have b:=qfx cs r h2
   show (AV.bd 0 c && AV.bds 0 cs) = true
   rw [a,b];rfl
end
end Go.V
namespace Go.Proofs.YtgglaabljlhliaaGreat
open Go Go.RowKit Go.V Go.ChangeShapes Go.WideShapes Go.ChangeAt

def LTe:List TypeId:=[9,3,56,31,29,33,27,61,24,233,227,229,22,231,57,59,23,26]
theorem hLTe:LTe.all (qjb Tryz.prog LTe) = true:=by kernel_rfl
def LTd:List TypeId:=[9,3,31,29,33,27,28]
theorem hLTd:LTd.all (qjb Tryz.prog LTd) = true:=by kernel_rfl
structure ClsR where
 name:List UInt8
 sup:List (List UInt8)
 ms:List AV
instance:Inhabited ClsR:=⟨⟨[],[],[]⟩⟩
def qxb (x:ClsR):AV:=.agg [.str x.name,.sl 1 (x.sup.map AV.str),.sl 5 x.ms]
theorem qu8:∀ (l:List ClsR),AV.bds 0 (l.map qxb) = true->∃ l':List Cls,l.map qxb = qci l'
 | [],_=>⟨[],rfl⟩
 | x :: r, h => by
   rw [List.map_cons] at h
   have h:(AV.bd 0 (qxb x) && AV.bds 0 (r.map qxb)) = true:=h
   rw [Bool.and_eq_true] at h
   obtain ⟨l',hl⟩:=qu8 r h.2
   have h1:AV.bds 0 x.ms = true:=by
    have:=h.1
    simp only [qxb,AV.bd,AV.bds,Bool.and_eq_true,Bool.and_true] at this
    exact this.2.2
   exact ⟨⟨x.name,x.sup,x.ms,h1⟩ :: l',by rw [List.map_cons,hl];rfl⟩
theorem qbad {f:Nat} {ds:List AV} (h:TC Tryz.prog f 59 ds):∃ x:ClsR,elA Tryz.prog 59 ds = qxb x:=by
 obtain ⟨f',rfl,hl,h⟩:=q1d Tryz.underlying59 h
 rw [show Tryz.prog.cellsOf 59 = 3 by kernel_rfl] at hl
 match ds,hl with
 | [a, b, c], _ =>
   have h0:=h (9,0) (by decide)
   have h1:=h (56,1) (by decide)
   have h2:=h (57,2) (by decide)
   simp only [show Tryz.prog.cellsOf 56 = 1 by kernel_rfl,show Tryz.prog.cellsOf 9 = 1 by kernel_rfl,show Tryz.prog.cellsOf 57 = 1 by kernel_rfl,List.drop_zero,List.drop_succ_cons,List.take_succ_cons,List.take_zero] at h0 h1 h2
   obtain ⟨n0,e0⟩:=qma Tryz.underlying9 h0
   obtain ⟨f1,es,hf1,e1,he⟩:=qok Tryz.underlying56 h1
   obtain ⟨f2,ms,hf2,e2,_⟩:=qok Tryz.underlying57 h2
   obtain ⟨l,rfl⟩:=qgp (enc:=AV.str) he fun ds hd=>by
    obtain ⟨s,rfl⟩:=qma Tryz.underlying9 hd
    exact ⟨s,qbon Tryz.underlying9 _⟩
   rw [show Tryz.prog.cellsOf 9 = 1 by kernel_rfl] at e1
   rw [show Tryz.prog.cellsOf 231 = 5 by kernel_rfl] at e2
   cases e0;cases e1;cases e2
   exact ⟨⟨n0,l,ms⟩,qpl Tryz.underlying59 _⟩
section
variable {H:Type} {enc':TypeId×Value->H} {W W':World} {base:Nat} {v:Value} {d:DataW H} {p:List MemPlace} {sp:Nat->Bool}
theorem qbf1 (hok:Value.okWide Tryz.prog W .any base 26 v) (h:DataW.Trod enc' Tryz.prog W 0 (fun _=>true) true 26 v d p):∃ e:Env,VR W (MM W) [] (encV e) v:=by
 obtain ⟨f,cs,hc,h2⟩:=q4d hLTe (by decide) hok h
 have hb:=q3r _ _ h2
 obtain ⟨f',rfl,hl,hc⟩:=q1d Tryz.underlying26 hc
 rw [show Tryz.prog.cellsOf 26 = 3 by kernel_rfl] at hl
 rw [qpl Tryz.underlying26] at h2 hb
 match cs,hl with
 | [a, b, c], _ =>
   have h0:=hc (22,0) (by decide)
   have h1:=hc (23,1) (by decide)
   have h3:=hc (24,2) (by decide)
   simp only [show Tryz.prog.cellsOf 22 = 1 by kernel_rfl,show Tryz.prog.cellsOf 23 = 1 by kernel_rfl,show Tryz.prog.cellsOf 24 = 1 by kernel_rfl,List.drop_zero,List.drop_succ_cons,List.take_succ_cons,List.take_zero] at h0 h1 h3
   obtain ⟨f0,e0,hf0,q0,_⟩:=qok Tryz.underlying22 h0
   obtain ⟨f1,e1,hf1,q1,he1⟩:=qok Tryz.underlying23 h1
   obtain ⟨f3,e3,hf3,q3,he3⟩:=qok Tryz.underlying24 h3
   obtain ⟨l1,rfl⟩:=qgp he1 fun ds hd=>qbad hd
   obtain ⟨l3,rfl⟩:=qgp he3 fun ds hd=>qbd4 hd
   rw [show Tryz.prog.cellsOf 229 = 3 by kernel_rfl] at q0
   rw [show Tryz.prog.cellsOf 59 = 3 by kernel_rfl] at q1
   rw [show Tryz.prog.cellsOf 61 = 4 by kernel_rfl] at q3
   cases q0;cases q1;cases q3
   simp only [AV.bd,AV.bds,Bool.and_eq_true,Bool.and_true] at hb
   obtain ⟨b0,b1,_⟩:=hb
   obtain ⟨l,hl⟩:=qu8 l1 b1
   rw [hl] at h2
   exact ⟨⟨e0,b0,l,l3⟩,h2⟩
theorem q7l (hok:Value.okWide Tryz.prog W .any base 28 v) (h:DataW.Trod enc' Tryz.prog W 0 (fun _=>true) true 28 v d p):∃ x:List Pd×List Pd,VR W (MM W) [] (.agg [.sl 4 (qn x.1),.sl 4 (qn x.2)]) v:=by
 obtain ⟨f,cs,h1,h2⟩:=q4d hLTd (by decide) hok h
 obtain ⟨f',rfl,hl,h3⟩:=qbv7 Tryz.underlying28 h1
 rw [show Tryz.prog.cellsOf 28 = 2 by kernel_rfl] at hl
 have hpl:qhq Tryz.prog 2 27 = [(27,0),(27,1)]:=by kernel_rfl
 rw [hpl] at h3
 match cs,hl with
 | [a, b], _ =>
   have q0:=h3 (27,0) (by simp)
   have q1:=h3 (27,1) (by simp)
   simp only [show Tryz.prog.cellsOf 27 = 1 by kernel_rfl,List.drop_zero,List.drop_succ_cons,List.take_succ_cons,List.take_zero] at q0 q1
   obtain ⟨f0,e0,hf0,q0,he0⟩:=qok Tryz.underlying27 q0
   obtain ⟨f1,e1,hf1,q1,he1⟩:=qok Tryz.underlying27 q1
   obtain ⟨l0,rfl⟩:=qgp he0 fun ds hd=>qno hd
   obtain ⟨l1,rfl⟩:=qgp he1 fun ds hd=>qno hd
   rw [show Tryz.prog.cellsOf 33 = 4 by kernel_rfl] at q0 q1
   cases q0;cases q1
   rw [qbrw Tryz.underlying28] at h2
   exact ⟨(l0,l1),h2⟩
theorem q9w (h:DataW.Trod enc' Tryz.prog W 0 (fun _=>true) true 26 v d p) (hlt:∀ x∈p,x.block < W.heap.size) (hb:Below W.heap.size W W') (hsp:∀ x∈p,sp x.block = true):DataW.Trod enc' Tryz.prog W' 0 sp true 26 v d p :=
 WideElems.Trod_stays qta (show Tryz.prog.readableRec 26 = true by kernel_rfl) (of_decide_eq_true (by kernel_rfl)) h (fun x hx=>hb.same (hlt x hx)) hsp
theorem qzs (h:DataW.Trod enc' Tryz.prog W 0 (fun _=>true) true 28 v d p) (hlt:∀ x∈p,x.block < W.heap.size) (hb:Below W.heap.size W W') (hsp:∀ x∈p,sp x.block = true):DataW.Trod enc' Tryz.prog W' 0 sp true 28 v d p :=
 WideElems.Trod_stays qta (show Tryz.prog.readableRec 28 = true by kernel_rfl) (of_decide_eq_true (by kernel_rfl)) h (fun x hx=>hb.same (hlt x hx)) hsp
end
end Go.Proofs.YtgglaabljlhliaaGreat
