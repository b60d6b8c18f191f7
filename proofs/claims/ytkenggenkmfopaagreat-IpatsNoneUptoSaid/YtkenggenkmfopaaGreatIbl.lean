/- A text of this proof. -/
import Derived.Test.YtkenggenkmfopaaGreatIak
import Derived.Test.YtkenggenkmfopaaGreatIal
import Derived.Test.YtkenggenkmfopaaGreatIbj
import Derived.Test.YtkenggenkmfopaaGreatIbk
set_option linter.unusedVariables false
set_option linter.unusedSimpArgs false

/- arguments of the statements that are not too great: all that is declared, trees -/
set_option maxRecDepth 100000
namespace Go.Proofs.YtkenggenkmfopaaGreat
open Go Go.RowKit Go.V Go.ChangeShapes Go.WideShapes Go.ChangeAt

theorem qblt(H:Type):BulkOK (Rows.uptoBulk (H:=H)) Rows.uptoBulkAll where
 one:=fun d=>by
  cases d with
  | lit l=>cases l<;>simp[Rows.uptoBulk]
  | nil=>simp[Rows.uptoBulk]
  | ptr d=>simp[Rows.uptoBulk]
  | slice elems spare=>simp[Rows.uptoBulk]
  | agg parts=>simp[Rows.uptoBulk]
  | iface t d=>simp[Rows.uptoBulk]
  | map entries=>simp[Rows.uptoBulk]
  | held h=>simp[Rows.uptoBulk]
 str:=fun s=>by simp[Rows.uptoBulk]
 slice:=fun es sp=>by simp only[Rows.uptoBulk];omega
 agg:=fun l=>by simp only[Rows.uptoBulk];omega
 cons:=fun d l=>by simp only[Rows.uptoBulkAll]
instance:Inhabited N:=⟨N0⟩
theorem qb63:∀(f:Nat) (ds:List AV),TC Tryz.prog f 79 ds->∃n:N,ds=(enc n).cells:=by
 intro f
 induction f using Nat.strongRecOn with
 | ind f ih =>
   intro ds h
   obtain⟨f',rfl,hl,h⟩:=qr5 Tryz.underlying79 h
   rw[show Tryz.prog.cellsOf 79=5 by kernel_rfl] at hl
   match ds,hl with
   | [a, b, c, e, g], _ =>
     have h0:=h (3,0) (by decide)
     have h1:=h (3,1) (by decide)
     have h2:=h (3,2) (by decide)
     have h3:=h (9,3) (by decide)
     have h4:=h (77,4) (by decide)
     simp only[show Tryz.prog.cellsOf 3=1 by kernel_rfl,show Tryz.prog.cellsOf 9=1 by kernel_rfl,show Tryz.prog.cellsOf 77=1 by kernel_rfl,List.drop_zero,List.drop_succ_cons,List.take_succ_cons,List.take_zero] at h0 h1 h2 h3 h4
     obtain⟨n0,e0⟩:=qoc Tryz.underlying3 h0
     obtain⟨n1,e1⟩:=qoc Tryz.underlying3 h1
     obtain⟨n2,e2⟩:=qoc Tryz.underlying3 h2
     obtain⟨n3,e3⟩:=qif Tryz.underlying9 h3
     obtain⟨f'',es,rfl,e4,he⟩:=qpa Tryz.underlying77 h4
     obtain⟨l,rfl⟩:=qfo (enc:=enc) he fun ds hd=>by
      obtain⟨t,rfl⟩:=ih f'' (by omega) ds hd
      exact⟨t,by rw[qhq Tryz.underlying79,qj4];exact qd2 t⟩
     rw[show Tryz.prog.cellsOf 79=5 by kernel_rfl,←qdd] at e4
     cases e0;cases e1;cases e2;cases e3;cases e4
     exact⟨.mk n0 n1 n2 n3 l,by rw[qj4];rfl⟩
def LTv:List TypeId:=[9,3,131,25,23,65,192,228,74,130,126,128,72,136,132,134,73,76,79,77]
theorem hLTv:LTv.all (qp5 Tryz.prog LTv)=true:=by kernel_rfl
instance:Inhabited Cn:=⟨Cn0⟩
instance:Inhabited Da:=⟨Da0⟩
instance:Inhabited Me:=⟨Me0⟩
instance:Inhabited ClT:=⟨⟨[],[],[]⟩⟩
theorem qcen{f:Nat}{ds:List AV}(h:TC Tryz.prog f 130 ds):∃x:Cn,elA Tryz.prog 130 ds=qhr x:=by
 obtain⟨f',rfl,hl,h⟩:=qr5 Tryz.underlying130 h
 rw[show Tryz.prog.cellsOf 130=2 by kernel_rfl] at hl
 match ds,hl with
 | [a, b], _ =>
   have h0:=h (9,0) (by decide)
   have h1:=h (23,1) (by decide)
   simp only[show Tryz.prog.cellsOf 9=1 by kernel_rfl,show Tryz.prog.cellsOf 23=1 by kernel_rfl,List.drop_zero,List.drop_succ_cons,List.take_succ_cons,List.take_zero] at h0 h1
   obtain⟨n0,e0⟩:=qif Tryz.underlying9 h0
   obtain⟨f1,es,hf1,e1,he⟩:=qpa Tryz.underlying23 h1
   obtain⟨l,rfl⟩:=qfo (enc:=encY) he fun ds hd=>by
    obtain⟨t,rfl⟩:=qxx f1 ds hd
    exact⟨t,by rw[qhq Tryz.underlying25];exact qb4 t⟩
   rw[show Tryz.prog.cellsOf 25=3 by kernel_rfl,←qcy] at e1
   cases e0;cases e1
   exact⟨⟨n0,l⟩,qhq Tryz.underlying130 _⟩
theorem qb0k{f:Nat}{ds:List AV}(h:TC Tryz.prog f 128 ds):∃x:Da,elA Tryz.prog 128 ds=qe9 x:=by
 obtain⟨f',rfl,hl,h⟩:=qr5 Tryz.underlying128 h
 rw[show Tryz.prog.cellsOf 128=3 by kernel_rfl] at hl
 match ds,hl with
 | [a, b, c], _ =>
   have h0:=h (9,0) (by decide)
   have h1:=h (3,1) (by decide)
   have h2:=h (126,2) (by decide)
   simp only[show Tryz.prog.cellsOf 9=1 by kernel_rfl,show Tryz.prog.cellsOf 3=1 by kernel_rfl,show Tryz.prog.cellsOf 126=1 by kernel_rfl,List.drop_zero,List.drop_succ_cons,List.take_succ_cons,List.take_zero] at h0 h1 h2
   obtain⟨n0,e0⟩:=qif Tryz.underlying9 h0
   obtain⟨n1,e1⟩:=qoc Tryz.underlying3 h1
   obtain⟨f1,es,hf1,e2,he⟩:=qpa Tryz.underlying126 h2
   obtain⟨l,rfl⟩:=qfo (enc:=qhr) he fun ds hd=>qcen hd
   rw[show Tryz.prog.cellsOf 130=2 by kernel_rfl] at e2
   cases e0;cases e1;cases e2
   exact⟨⟨n0,n1,l⟩,qhq Tryz.underlying128 _⟩
theorem q6y{f:Nat}{ds:List AV}(h:TC Tryz.prog f 136 ds):∃x:Me,elA Tryz.prog 136 ds=qlv x:=by
 obtain⟨f',rfl,hl,h⟩:=qr5 Tryz.underlying136 h
 rw[show Tryz.prog.cellsOf 136=5 by kernel_rfl] at hl
 match ds,hl with
 | [a, b, c, d, e], _ =>
   have h0:=h (9,0) (by decide)
   have h1:=h (3,1) (by decide)
   have h2:=h (25,2) (by decide)
   simp only[show Tryz.prog.cellsOf 9=1 by kernel_rfl,show Tryz.prog.cellsOf 3=1 by kernel_rfl,show Tryz.prog.cellsOf 25=3 by kernel_rfl,List.drop_zero,List.drop_succ_cons,List.take_succ_cons,List.take_zero] at h0 h1 h2
   obtain⟨n0,e0⟩:=qif Tryz.underlying9 h0
   obtain⟨n1,e1⟩:=qoc Tryz.underlying3 h1
   obtain⟨t,e2⟩:=qxx f' _ h2
   cases e0;cases e1;cases e2
   exact⟨⟨n0,n1,t⟩,qhq Tryz.underlying136 _⟩
def qbly(c:ClT):AV:=encC (toC c)
theorem q1e(l:List ClT):l.map qbly=qfa (l.map toC):=by rw[qfa,List.map_map];rfl
theorem qbbk{f:Nat}{ds:List AV}(h:TC Tryz.prog f 134 ds):∃x:ClT,elA Tryz.prog 134 ds=qbly x:=by
 obtain⟨f',rfl,hl,h⟩:=qr5 Tryz.underlying134 h
 rw[show Tryz.prog.cellsOf 134=3 by kernel_rfl] at hl
 match ds,hl with
 | [a, b, c], _ =>
   have h0:=h (9,0) (by decide)
   have h1:=h (131,1) (by decide)
   have h2:=h (132,2) (by decide)
   simp only[show Tryz.prog.cellsOf 131=1 by kernel_rfl,show Tryz.prog.cellsOf 9=1 by kernel_rfl,show Tryz.prog.cellsOf 132=1 by kernel_rfl,List.drop_zero,List.drop_succ_cons,List.take_succ_cons,List.take_zero] at h0 h1 h2
   obtain⟨n0,e0⟩:=qif Tryz.underlying9 h0
   obtain⟨f1,es,hf1,e1,he⟩:=qpa Tryz.underlying131 h1
   obtain⟨f2,ms,hf2,e2,hm⟩:=qpa Tryz.underlying132 h2
   obtain⟨l,rfl⟩:=qfo (enc:=AV.str) he fun ds hd=>by
    obtain⟨s,rfl⟩:=qif Tryz.underlying9 hd
    exact⟨s,qbqf Tryz.underlying9 _⟩
   obtain⟨m,rfl⟩:=qfo (enc:=qlv) hm fun ds hd=>q6y hd
   rw[show Tryz.prog.cellsOf 9=1 by kernel_rfl] at e1
   rw[show Tryz.prog.cellsOf 136=5 by kernel_rfl] at e2
   cases e0;cases e1;cases e2
   exact⟨⟨n0,l,m⟩,qhq Tryz.underlying134 _⟩
theorem qbpl{l:List AV}{v:AV}(h:v∈l):Go.V.szA v≤Go.V.szAs l:=by
 induction l with
 | nil=>cases h
 | cons x r ih =>
   rw[Go.V.szAs]
   rcases List.mem_cons.1 h with rfl | h
   ·omega
   ·have:=ih h;omega
theorem qcdx(l:List Me):l.length≤Go.V.szAs (qc4 l):=by
 induction l with
 | nil=>simp
 | cons x r ih =>
   have e:qc4 (x::r)=qlv x::qc4 r:=rfl
   rw[e,Go.V.szAs,List.length_cons]
   have:1≤Go.V.szA (qlv x):=by simp only[qlv,Go.V.szA,Go.V.szAs];omega
   omega
theorem q7j{e:EnvT}{K:Nat}(h:Go.V.szA (qfc e)≤K):∀c∈e.cs,c.ms.length≤K:=fun c hc=>by
 have h1:Go.V.szA (encC (toC c))≤Go.V.szAs (qfa (e.cs.map toC)):=qbpl (by rw[qfa];exact List.mem_map.2 ⟨_,List.mem_map.2 ⟨c,hc,rfl⟩,rfl⟩)
 have h2:=qcdx c.ms
 simp only[qfc,Go.V.szA,Go.V.szAs] at h
 have h3:Go.V.szAs (qc4 c.ms)≤Go.V.szA (encC (toC c)):=by
  have e:toC c=⟨c.name,c.sup,qc4 c.ms,qj8 0 _⟩:=rfl
  rw[e]
  simp only[encC,Go.V.szA,Go.V.szAs];omega
 omega
section
variable {H:Type} {enc':TypeId×Value->H} {W W':World} {base:Nat} {v:Value} {d:DataW H} {p:List MemPlace} {sp:Nat->Bool}
theorem qbla(hok:Value.okWide Tryz.prog W .any base 76 v)(h:DataW.Trod enc' Tryz.prog W 0 (fun _=>true) true 76 v d p):∃e:EnvT,VR W (MM W) [] (qfc e) v∧Go.V.szA (qfc e)≤Rows.uptoBulk d:=by
 obtain⟨f,cs,hc,h2,h5⟩:=qbat (qblt H) hLTv (by decide) hok h
 obtain⟨f',rfl,hl,hc⟩:=qr5 Tryz.underlying76 hc
 rw[show Tryz.prog.cellsOf 76=3 by kernel_rfl] at hl
 rw[qhq Tryz.underlying76] at h2 h5
 match cs,hl with
 | [a, b, c], _ =>
   have h0:=hc (72,0) (by decide)
   have h1:=hc (73,1) (by decide)
   have h3:=hc (74,2) (by decide)
   simp only[show Tryz.prog.cellsOf 72=1 by kernel_rfl,show Tryz.prog.cellsOf 73=1 by kernel_rfl,show Tryz.prog.cellsOf 74=1 by kernel_rfl,List.drop_zero,List.drop_succ_cons,List.take_succ_cons,List.take_zero] at h0 h1 h3
   obtain⟨f0,e0,hf0,q0,he0⟩:=qpa Tryz.underlying72 h0
   obtain⟨f1,e1,hf1,q1,he1⟩:=qpa Tryz.underlying73 h1
   obtain⟨f3,e3,hf3,q3,he3⟩:=qpa Tryz.underlying74 h3
   obtain⟨l0,rfl⟩:=qfo he0 fun ds hd=>qb0k hd
   obtain⟨l1,rfl⟩:=qfo he1 fun ds hd=>qbbk hd
   obtain⟨l3,rfl⟩:=qfo he3 fun ds hd=>qb5i hd
   rw[show Tryz.prog.cellsOf 128=3 by kernel_rfl] at q0
   rw[show Tryz.prog.cellsOf 134=3 by kernel_rfl,q1e] at q1
   rw[show Tryz.prog.cellsOf 228=4 by kernel_rfl] at q3
   cases q0;cases q1;cases q3
   exact⟨⟨l0,l1,l3⟩,h2,h5⟩
theorem qbbb(hok:Value.okWide Tryz.prog W .any base 79 v)(h:DataW.Trod enc' Tryz.prog W 0 (fun _=>true) true 79 v d p):∃n,VR W (MM W) [] (enc n) v∧Go.V.szA (enc n)≤Rows.uptoBulk d:=by
 obtain⟨f,cs,h1,h2,h3⟩:=qbat (qblt H) hLTv (by decide) hok h
 obtain⟨l,rfl⟩:=qb63 f _ h1
 rw[qhq Tryz.underlying79,qj4,qd2] at h2 h3
 exact⟨l,h2,h3⟩
theorem q88(h:DataW.Trod enc' Tryz.prog W 0 (fun _=>true) true 76 v d p)(hlt:∀x∈p,x.block<W.heap.size)(hb:Below W.heap.size W W')(hsp:∀x∈p,sp x.block=true):DataW.Trod enc' Tryz.prog W' 0 sp true 76 v d p :=
 WideElems.Trod_stays q4x (show Tryz.prog.readableRec 76=true by kernel_rfl) (of_decide_eq_true (by kernel_rfl)) h (fun x hx=>hb.same (hlt x hx)) hsp
theorem q07(h:DataW.Trod enc' Tryz.prog W 0 (fun _=>true) true 79 v d p)(hlt:∀x∈p,x.block<W.heap.size)(hb:Below W.heap.size W W')(hsp:∀x∈p,sp x.block=true):DataW.Trod enc' Tryz.prog W' 0 sp true 79 v d p :=
 WideElems.Trod_stays q4x (show Tryz.prog.readableRec 79=true by kernel_rfl) (of_decide_eq_true (by kernel_rfl)) h (fun x hx=>hb.same (hlt x hx)) hsp
end
end Go.Proofs.YtkenggenkmfopaaGreat
