/- A text of this proof. -/
import Derived.Test.YtgglaabljlhliaaGreatLao
import Derived.Test.YtgglaabljlhliaaGreatLbm
set_option linter.unusedVariables false
set_option linter.unusedSimpArgs false

/- arguments of the statements: classes, all that is declared; two rows of predicates -/
set_option maxRecDepth 100000
namespace Go.V
open Go Go.RowKit
mutual
theorem q3c {w:World} {M:Nat->Nat->Prop}:∀ (v:AV) (x:Value),VR w M [] v x->v.bd 0 = true
 | .agg cs,x,h=>by obtain ⟨vs,_,h⟩:=h;exact qga cs vs h
 | .tup cs,x,h=>by obtain ⟨vs,_,h⟩:=h;exact qga cs vs h
 | .sl n es,x,h=>by obtain ⟨_,_,us,h,_⟩:=h;exact qga es us h
 | .lit n es,x,h=>by obtain ⟨_,us,h,_⟩:=h;exact qga es us h
 | .ptr i off,x,h=>by obtain ⟨g,h,_⟩:=h;simp at h
 | .row i len,x,h=>by obtain ⟨g,h,_⟩:=h;simp at h
 | .eptr n es k off,x,h=>by obtain ⟨_,_,us,h,_⟩:=h;exact qga es us h
 | .rptr i n k off,x,h=>by obtain ⟨g,h,_⟩:=h;simp at h
 | .vw i off len cap,x,h=>by obtain ⟨g,h,_⟩:=h;simp at h
 | .fn f first caps, x, h => by
   obtain ⟨xs,ys,h1,h2,_⟩:=h
   have a:=qga first xs h1
   have b:=qga caps ys h2
   show (AV.bds 0 first && AV.bds 0 caps) = true
   rw [a,b];rfl
 | .opq i,x,h=>by obtain ⟨g,h,_⟩:=h;simp at h
 | .iface t v,x,h=>by obtain ⟨y,h,_⟩:=h;exact q3c v y h
 | .bool b,x,h=>rfl
 | .int k n,x,h=>rfl
 | .str l,x,h=>rfl
 | .nilp,x,h=>rfl
 | .nilf,x,h=>rfl
 | .nili,x,h=>rfl
 | .nils,x,h=>rfl
 | .nilm,x,h=>rfl
 | .junk,x,h=>rfl
theorem qga {w:World} {M:Nat->Nat->Prop}:∀ (vs:List AV) (xs:List Value),VRs w M [] vs xs->AV.bds 0 vs = true
 | [],xs,h=>rfl
 | c :: cs, xs, h => by
   obtain ⟨v,r,_,h1,h2⟩:=h
   have a:=q3c c v h1
   have b:=qga cs r h2
   show (AV.bd 0 c && AV.bds 0 cs) = true
   rw [a,b];rfl
end
end Go.V
namespace Go.Proofs.YtgglaabljlhliaaGreat
open Go Go.RowKit Go.V Go.ChangeShapes Go.WideShapes Go.ChangeAt

def LTe:List TypeId:=[9,3,56,31,29,33,27,61,24,233,227,229,22,231,57,59,23,26]
theorem hLTe:LTe.all (qla Tryz.prog LTe) = true:=by kernel_rfl
structure ClsR where
 name:List UInt8
 sup:List (List UInt8)
 ms:List AV
instance:Inhabited ClsR:=⟨⟨[],[],[]⟩⟩
def qzn (x:ClsR):AV:=.agg [.str x.name,.sl 1 (x.sup.map AV.str),.sl 5 x.ms]
theorem qxr:∀ (l:List ClsR),AV.bds 0 (l.map qzn) = true->∃ l':List Cls,l.map qzn = qbs l'
 | [],_=>⟨[],rfl⟩
 | x :: r, h => by
   rw [List.map_cons] at h
   have h:(AV.bd 0 (qzn x) && AV.bds 0 (r.map qzn)) = true:=h
   rw [Bool.and_eq_true] at h
   obtain ⟨l',hl⟩:=qxr r h.2
   have h1:AV.bds 0 x.ms = true:=by
    have:=h.1
    simp only [qzn,AV.bd,AV.bds,Bool.and_eq_true,Bool.and_true] at this
    exact this.2.2
   exact ⟨⟨x.name,x.sup,x.ms,h1⟩ :: l',by rw [List.map_cons,hl];rfl⟩
theorem q9k {f:Nat} {ds:List AV} (h:TC Tryz.prog f 59 ds):∃ x:ClsR,elA Tryz.prog 59 ds = qzn x:=by
 obtain ⟨f',rfl,hl,h⟩:=q3o Tryz.underlying59 h
 rw [show Tryz.prog.cellsOf 59 = 3 by kernel_rfl] at hl
 match ds,hl with
 | [a, b, c], _ =>
   have h0:=h (9,0) (by decide)
   have h1:=h (56,1) (by decide)
   have h2:=h (57,2) (by decide)
   simp only [show Tryz.prog.cellsOf 56 = 1 by kernel_rfl,show Tryz.prog.cellsOf 9 = 1 by kernel_rfl,show Tryz.prog.cellsOf 57 = 1 by kernel_rfl,List.drop_zero,List.drop_succ_cons,List.take_succ_cons,List.take_zero] at h0 h1 h2
   obtain ⟨n0,e0⟩:=qne Tryz.underlying9 h0
   obtain ⟨f1,es,hf1,e1,he⟩:=qrn Tryz.underlying56 h1
   obtain ⟨f2,ms,hf2,e2,_⟩:=qrn Tryz.underlying57 h2
   obtain ⟨l,rfl⟩:=qi8 (enc:=AV.str) he fun ds hd=>by
    obtain ⟨s,rfl⟩:=qne Tryz.underlying9 hd
    exact ⟨s,qbrh Tryz.underlying9 _⟩
   rw [show Tryz.prog.cellsOf 9 = 1 by kernel_rfl] at e1
   rw [show Tryz.prog.cellsOf 231 = 5 by kernel_rfl] at e2
   cases e0;cases e1;cases e2
   exact ⟨⟨n0,l,ms⟩,qqd Tryz.underlying59 _⟩
section
variable {H:Type} {enc':TypeId×Value->H} {W W':World} {base:Nat} {v:Value} {d:DataW H} {p:List MemPlace} {sp:Nat->Bool}
theorem qbtv (hok:Value.okWide Tryz.prog W .any base 26 v) (h:DataW.Trod enc' Tryz.prog W 0 (fun _=>true) true 26 v d p):∃ e:Env,VR W (MM W) [] (encV e) v:=by
 obtain ⟨f,cs,hc,h2⟩:=qbdl hLTe (by decide) hok h
 have hb:=q3c _ _ h2
 obtain ⟨f',rfl,hl,hc⟩:=q3o Tryz.underlying26 hc
 rw [show Tryz.prog.cellsOf 26 = 3 by kernel_rfl] at hl
 rw [qqd Tryz.underlying26] at h2 hb
 match cs,hl with
 | [a, b, c], _ =>
   have h0:=hc (22,0) (by decide)
   have h1:=hc (23,1) (by decide)
   have h3:=hc (24,2) (by decide)
   simp only [show Tryz.prog.cellsOf 22 = 1 by kernel_rfl,show Tryz.prog.cellsOf 23 = 1 by kernel_rfl,show Tryz.prog.cellsOf 24 = 1 by kernel_rfl,List.drop_zero,List.drop_succ_cons,List.take_succ_cons,List.take_zero] at h0 h1 h3
   obtain ⟨f0,e0,hf0,q0,_⟩:=qrn Tryz.underlying22 h0
   obtain ⟨f1,e1,hf1,q1,he1⟩:=qrn Tryz.underlying23 h1
   obtain ⟨f3,e3,hf3,q3,he3⟩:=qrn Tryz.underlying24 h3
   obtain ⟨l1,rfl⟩:=qi8 he1 fun ds hd=>q9k hd
   obtain ⟨l3,rfl⟩:=qi8 he3 fun ds hd=>qbiz hd
   rw [show Tryz.prog.cellsOf 229 = 3 by kernel_rfl] at q0
   rw [show Tryz.prog.cellsOf 59 = 3 by kernel_rfl] at q1
   rw [show Tryz.prog.cellsOf 61 = 4 by kernel_rfl] at q3
   cases q0;cases q1;cases q3
   simp only [AV.bd,AV.bds,Bool.and_eq_true,Bool.and_true] at hb
   obtain ⟨b0,b1,_⟩:=hb
   obtain ⟨l,hl⟩:=qxr l1 b1
   rw [hl] at h2
   exact ⟨⟨e0,b0,l,l3⟩,h2⟩
theorem qbat (h:DataW.Trod enc' Tryz.prog W 0 (fun _=>true) true 26 v d p) (hlt:∀ x∈p,x.block < W.heap.size) (hb:Below W.heap.size W W') (hsp:∀ x∈p,sp x.block = true):DataW.Trod enc' Tryz.prog W' 0 sp true 26 v d p :=
 WideElems.Trod_stays q3e (show Tryz.prog.readableRec 26 = true by kernel_rfl) (of_decide_eq_true (by kernel_rfl)) h (fun x hx=>hb.same (hlt x hx)) hsp
end
end Go.Proofs.YtgglaabljlhliaaGreat
