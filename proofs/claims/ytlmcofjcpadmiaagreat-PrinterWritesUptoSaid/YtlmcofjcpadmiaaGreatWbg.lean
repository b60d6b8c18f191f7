/- Texts of this proof, joined. -/
import Derived.Test.YtlmcofjcpadmiaaGreatWbf
set_option linter.unusedVariables false
set_option linter.unusedSimpArgs false

/- declarations of long texts -/
set_option maxRecDepth 4000
namespace Go.Proofs.YtlmcofjcpadmiaaGreat
open Go Go.RowKit Go.V

set_option maxRecDepth 4000

theorem q59 {n:N} (h:fewW n = false):qh Tryz.prog 7 [enc n] (.int .i64 0):=qkw (few7 n) (by rw [h];rfl)
theorem qwe {n:N} (h:fewW n = true):qh Tryz.prog 7 [enc n] (.int .i64 1):=qkw (few7 n) (by rw [h];rfl)
def nX:N:=.mk 21 0 0 [120] []
def nL:N:=.mk 25 0 0 [120] [.mk 24 0 0 [] [.mk 21 0 0 [102] [],nX]]
def nA:N:=.mk 1 0 0 [97] []
def nF:N:=.mk 2 0 0 [45,62] [.mk 2 0 0 [45,62] [nA,nA],nA]
def nB:N:=.mk 31 0 0 [120] [nL]
def nG:N:=.mk 37 0 0 [] []
def nP:N:=.mk 12 0 0 [] []
def nQ:N:=.mk 4 0 0 [] [nA]
theorem bigT {s:List UInt8} (h:s.length≤1000):s.length + 4≤Big:=by unfold Big;omega
theorem z1:qh Tryz.prog 15 [enc nL] (.str [92,32,120,32,45,62,32,102,32,120]):=qkw (qe5 (n:=nL) (by decide) (bigT (by decide))) (by rw [show outE nL = [92,32,120,32,45,62,32,102,32,120] by rfl])
theorem z2:qh Tryz.prog 9 [enc nF] (.str [40,97,32,45,62,32,97,41,32,45,62,32,97]):=qkw (qgv (n:=nF) (by decide) (bigT (by decide))) (by rw [show outT nF = [40,97,32,45,62,32,97,41,32,45,62,32,97] by rfl])
theorem z3:qh Tryz.prog 15 [enc nF] (.str []):=qkw (qe5 (n:=nF) (by decide) (bigT (by decide))) (by rw [show outE nF = [] by rfl])
theorem z4:qh Tryz.prog 19 [enc nG] (.str []):=qkw (qec (n:=nG) (by decide) (bigT (by decide))) (by rw [show outG nG = [] by rfl])
theorem z5:qh Tryz.prog 17 [enc nB] (.str [120,32,61,32,92,32,120,32,45,62,32,102,32,120]):=qkw (qgl (n:=nB) (by decide) (bigT (by decide))) (by rw [show outD nB = [120,32,61,32,92,32,120,32,45,62,32,102,32,120] by rfl])
theorem z6:qh Tryz.prog 13 [enc nP] (.str [95]):=qkw (qhi (n:=nP) (by decide) (bigT (by decide))) (by rw [show outP nP = [95] by rfl])
theorem z7:qh Tryz.prog 11 [enc nQ] (.str [97]):=qkw (qgu (n:=nQ) (by decide) (bigT (by decide))) (by rw [show outQ nQ = [97] by rfl])
theorem qkr:qh Tryz.prog 8 [] (.bool true):=by
 refine qe c0a (by simp) (by simp only [go_sem]) rfl fun hw=>?_
 repeat' (first | refine vs_ ?_ | ((first | refine vr_ ?_ | refine qa z1 fun _=>?_ | refine qa z2 fun _=>?_ | refine qa z3 fun _=>?_ | refine qa z4 fun _=>?_ | refine qa z5 fun _=>?_ | refine qa z6 fun _=>?_ | refine qa z7 fun _=>?_ | (refine cs_ ?_ ?_<;>intro hc) | refine cj_ ?_ | fail)<;>(try refine ev_ ?_)) | with_reducible exact ti_)

inductive TxB (B:Nat):N->Prop
 | mk {n:N} (h:n.text.length≤B) (hk:∀ x∈n.kids,TxB B x):TxB B n
theorem TxB.t {B:Nat} {n:N} (h:TxB B n):n.text.length≤B:=by cases h;assumption
theorem TxB.k {B:Nat} {n:N} (h:TxB B n):∀ x∈n.kids,TxB B x:=by cases h;assumption
section
variable {B D:Nat} (hD:D = B + 64)
include hD
omit hD in
theorem qed {f:N->List UInt8} {m:List UInt8} (hm:m.length≤3):∀ (l:List N),(∀ x∈l,(f x).length + 3≤sz x * D)->(Lib.join (l.map f) m).length≤szs l * D
 | [],_=>by simp [Lib.join,List.intercalate]
 | [x], h => by
   rw [List.map_singleton,qc7,szs,szs,Nat.add_zero]
   have:=h x (by simp);omega
 | x :: y :: l, h => by
   rw [List.map_cons,List.map_cons,qbr,szs,Nat.add_mul,List.length_append,List.length_append]
   have h1:=h x (by simp)
   have h2:=qed hm (y :: l) fun z hz=>h z (by simp at hz ⊢;exact .inr hz)
   rw [List.map_cons] at h2
   omega
omit hD in
theorem szD (n:N):sz n * D = szs n.kids * D + D:=by rw [qfa,Nat.add_mul,Nat.one_mul]
omit hD in
theorem qmw {l:List N} (h:l.length = 2):szs l = sz (l.getD 0 N0) + sz (l.getD 1 N0):=by
 rw [qpk h];simp [szs]
omit hD in
theorem qkh {l:List N} {x:N} (h:x∈l):sz x * D≤szs l * D:=Nat.mul_le_mul_right D (qm3 h)
omit hD in
theorem qky {f:N->List UInt8} {l:List N} (h:∀ x∈l,(f x).length + 8≤sz x * D):((l.map fun x=>32 :: cloW (qn x) (f x)).flatten).length≤szs l * D:=by
 have:=qed (D:=D) (f:=fun x=>32 :: cloW (qn x) (f x)) (m:=[]) (by simp) l fun x hx=>by
  have h1:=h x hx
  have h2:=(qp (qn x) (f x)).2
  simp only [List.length_cons];omega
 rwa [qch] at this
theorem lenT:∀ n,TxB B n->tyW n = true->(ptT n).length + 8≤sz n * D:=N.ind fun n ih hb ht=>by
 rw [szD]
 have hk:=fun x hx=>ih x hx (hb.k x hx) (qm4 ht x hx)
 have h1:=hb.t
 by_cases ha:n.kind≠1∧n.text = arW
 ·have h2:=qmm ht ha.1 ha.2
  rw [qeh,if_pos ha,qmw h2,Nat.add_mul]
  have k0:=hk _ (qg (i:=0) (by omega))
  have k1:=hk _ (qg (i:=1) (by omega))
  have k2:=(qp (!decide ((n.kids.getD 0 N0).text = arW)) (ptT (n.kids.getD 0 N0))).2
  simp only [List.length_append,List.length_cons,List.length_nil]
  omega
 ·rw [qeh,if_neg ha,List.length_append]
  have:=qky hk
  have e:n.kids.map atT = n.kids.map fun x=>32 :: cloW (qn x) (ptT x):=rfl
  rw [e];omega
theorem lenC {n:N} (hb:TxB B n) (ht:cnW n = true):(ptT n).length + 8≤sz n * D:=by
 obtain ⟨_,_,h3,h4⟩:=qkl ht
 rw [szD,qeh,if_neg (fun e=>by have:=e.2;rw [this] at h3;exact absurd h3 (by decide)),List.length_append]
 have h1:=hb.t
 have:=qky fun x hx=>lenT hD x (hb.k x hx) (h4 x hx)
 have e:n.kids.map atT = n.kids.map fun x=>32 :: cloW (qn x) (ptT x):=rfl
 rw [e];omega
theorem lenP:∀ n,TxB B n->paW n = true->(enc n).wf->(ptP n).length + 8≤sz n * D:=N.ind fun n ih hb ht hw=>by
 rw [szD]
 have h1:=hb.t
 have hd:=qoh (n:=n.num) ((qb9 n).1 hw).2.2.2.2.1
 have:=qky fun x hx=>ih x hx (hb.k x hx) (qf2 ht x hx).1 (qhp hw hx)
 have e:n.kids.map atP = n.kids.map fun x=>32 :: cloW (qn x) (ptP x):=rfl
 rw [qgr]
 split
 ·simp only [List.length_cons,List.length_nil];omega
 ·split
  ·omega
  ·rw [List.length_append,e];omega
theorem qble {n:N} (hb:TxB B n) (h:prW n = true):(prT n).length + 8≤sz n * D:=by
 obtain ⟨p1,p2,p3,p4,p5⟩:=qka h
 have m0:n.kids.getD 0 N0∈n.kids:=qg (by omega)
 have h1:=hb.t
 have h2:=lenT hD _ (hb.k _ m0) p5
 have h3:=(qp (qn (n.kids.getD 0 N0)) (ptT (n.kids.getD 0 N0))).2
 have h4:(atT (n.kids.getD 0 N0)).length = (cloW (qn (n.kids.getD 0 N0)) (ptT (n.kids.getD 0 N0))).length + 1:=rfl
 have h5:=qkh (D:=D) m0
 rw [szD,prT,List.length_append]
 omega
theorem qbj1 {l:List N} (h:∀ x∈l,TxB B x∧prW x = true):(ctT l).length≤szs l * D + 6:=by
 have:=qed (D:=D) (f:=prT) (m:=cmW) (by decide) l fun x hx=>by have:=qble hD (h x hx).1 (h x hx).2;omega
 have h2:=(qp (decide (l.length = 1)) (Lib.join (l.map prT) cmW)).2
 rw [ctT]
 split
 ·simp
 ·simp only [List.length_append,List.length_cons,List.length_nil];omega
theorem lenQ {n:N} (hb:TxB B n) (h:quW n = true):(quT n).length + 8≤sz n * D:=by
 obtain ⟨q1,q2,q3,q4,q5,q6⟩:=qj7 h
 have hmt:qew n∈n.kids:=by rw [q4];simp
 have hma:∀ x∈qcg n,x∈n.kids:=fun x hx=>by rw [q4];simp [hx]
 have h1:=qbj1 hD (l:=qcg n) fun x hx=>⟨hb.k x (hma x hx),q5 x hx⟩
 have h2:=lenT hD _ (hb.k _ hmt) q6
 have e:quT n = ctT (qcg n) ++ ptT (qew n):=rfl
 have h3:szs n.kids = szs (qcg n) + sz (qew n):=by
  have:=congrArg szs q4
  rw [qgc] at this
  simpa [szs] using this
 rw [szD,e,List.length_append,h3,Nat.add_mul]
 omega
set_option maxHeartbeats 1000000 in
theorem lenE:∀ n,TxB B n->(enc n).wf->(exW n = true->(ptE n).length + 8≤sz n * D)∧((biW n = true∨sgW n = true)->(ptB n).length + 8≤sz n * D)∧(alW n = true->(ptL n).length + 8≤sz n * D):=N.ind fun n ih hb hw=>by
 have h1:=hb.t
 have hE:∀ x∈n.kids,exW x = true->(ptE x).length + 8≤sz x * D:=fun x hx=>(ih x hx (hb.k x hx) (qhp hw hx)).1
 have hB:∀ x∈n.kids,(biW x = true∨sgW x = true)->(ptB x).length + 8≤sz x * D:=fun x hx=>(ih x hx (hb.k x hx) (qhp hw hx)).2.1
 have hL:∀ x∈n.kids,alW x = true->(ptL x).length + 8≤sz x * D:=fun x hx=>(ih x hx (hb.k x hx) (qhp hw hx)).2.2
 refine ⟨fun h=>?_,fun h=>?_,fun h=>?_⟩
 ·rw [szD]
  have hEq:=qrr n
  have hdg:=qoh (n:=n.num) ((qb9 n).1 hw).2.2.2.2.1
  rcases qg8 h with ⟨h0,a1,a2,a3⟩ | ⟨h0,a1,a2,a3⟩ | ⟨h0,a1,a2,a3⟩ | ⟨h0,a1,a2,a3,a4,a5⟩ | ⟨h0,a1,a2,a3,a4⟩ | ⟨h0,a1,a2,a3,a4,a5,a6⟩ | ⟨h0,a1,a2,a3,a4,a5,a6⟩ | ⟨h0,a1,a2,a3,a4,a5,a6⟩
  ·simp only [h0,Int.reduceEq,if_false,if_true] at hEq
   rw [hEq];omega
  ·simp only [h0,Int.reduceEq,if_false,if_true] at hEq
   rw [hEq];omega
  ·simp only [h0,Int.reduceEq,if_false,if_true] at hEq
   rw [hEq];omega
  ·have hl:n.kids.length = 2:=by rw [a2];rfl
   simp only [h0,Int.reduceEq,if_false,if_true,hl,show (0 < 2) = True by simp,show (1 < 2) = True by simp] at hEq
   have k0:=hE (n.kids.getD 0 N0) (qg (by omega)) a4
   have k1:=hE (n.kids.getD 1 N0) (qg (by omega)) a5
   have c0:=(qp (qn (n.kids.getD 0 N0) || decide ((n.kids.getD 0 N0).kind = 24)) (ptE (n.kids.getD 0 N0))).2
   have c1:=(qp (qn (n.kids.getD 1 N0)) (ptE (n.kids.getD 1 N0))).2
   rw [hEq,qmw hl,Nat.add_mul]
   simp only [List.length_append,List.length_cons,List.length_nil]
   omega
  ·have hl:n.kids.length = 1:=by rw [a2];rfl
   simp only [h0,Int.reduceEq,if_false,if_true,hl,show (0 < 1) = True by simp] at hEq
   have m0:n.kids.getD 0 N0∈n.kids:=qg (by omega)
   have k0:=hE _ m0 a4
   have c0:=qkh (D:=D) m0
   rw [hEq]
   simp only [List.length_append,List.length_cons,List.length_nil]
   omega
  ·have hpos:0 < n.kids.length:=by rw [a2];simp
   simp only [h0,Int.reduceEq,if_false,if_true,hpos] at hEq
   have m1:ekN n (n.kids.length - 1)∈n.kids:=qg (by omega)
   have k1:=hE _ m1 a6
   have k2:=qed (D:=D) (f:=ptB) (m:=smW) (by decide) (eitN n) fun x hx=>by have:=hB x (List.mem_of_mem_take hx) (a4 x hx);omega
   have k3:szs n.kids = szs (eitN n) + sz (ekN n (n.kids.length - 1)):=by
    have:=congrArg szs a2
    rw [qgc] at this
    simpa [szs] using this
   have k4:(brW (Lib.join ((eitN n).map ptB) smW)).length≤(Lib.join ((eitN n).map ptB) smW).length + 4:=by
    unfold brW;split<;>simp
   change ptE n = [108,101,116,32] ++ (brW (Lib.join ((eitN n).map ptB) smW) ++ ([32,105,110,32] ++ ptE (ekN n (n.kids.length - 1)))) at hEq
   rw [hEq,k3,Nat.add_mul]
   simp only [List.length_append,List.length_cons,List.length_nil]
   omega
  ·have hpos:0 < n.kids.length:=by rw [a2];simp
   simp only [h0,Int.reduceEq,if_false,if_true,hpos] at hEq
   have m0:ekN n 0∈n.kids:=qg (by omega)
   have k1:=hE _ m0 a4
   have k2:=qed (D:=D) (f:=ptL) (m:=smW) (by decide) (n.kids.drop 1) fun x hx=>by have:=hL x (List.mem_of_mem_drop hx) (a5 x hx);omega
   have k3:szs n.kids = sz (ekN n 0) + szs (n.kids.drop 1):=by
    have:=congrArg szs a2
    rwa [szs] at this
   have k4:(brW (Lib.join ((n.kids.drop 1).map ptL) smW)).length≤(Lib.join ((n.kids.drop 1).map ptL) smW).length + 4:=by
    unfold brW;split<;>simp
   change ptE n = [99,97,115,101,32] ++ (ptE (ekN n 0) ++ ([32,111,102,32] ++ brW (Lib.join ((n.kids.drop 1).map ptL) smW))) at hEq
   rw [hEq,k3,Nat.add_mul]
   simp only [List.length_append,List.length_cons,List.length_nil]
   omega
  ·have hl:n.kids.length = 3:=by rw [a2];rfl
   simp only [h0,Int.reduceEq,if_false,if_true,hl,show (0 < 3) = True by simp,show (1 < 3) = True by simp,show (2 < 3) = True by simp] at hEq
   have k0:=hE (n.kids.getD 0 N0) (qg (by omega)) a4
   have k1:=hE (n.kids.getD 1 N0) (qg (by omega)) a5
   have k2:=hE (n.kids.getD 2 N0) (qg (by omega)) a6
   have k3:szs n.kids = sz (n.kids.getD 0 N0) + (sz (n.kids.getD 1 N0) + sz (n.kids.getD 2 N0)):=by
    have:=congrArg szs (qbi6 hl)
    rw [this];simp [szs]
   rw [hEq,k3,Nat.add_mul,Nat.add_mul]
   simp only [List.length_append,List.length_cons,List.length_nil]
   omega
 ·rw [szD]
  rcases h with h | h
  ·obtain ⟨b1,b2,b3,b4,b5⟩:=qds h
   have hl:n.kids.length = 1:=by rw [b4];rfl
   have m0:n.kids.getD 0 N0∈n.kids:=qg (by omega)
   have k0:=hE _ m0 b5
   have c0:=qkh (D:=D) m0
   rw [qft,if_pos b1,if_pos (by omega)]
   simp only [List.length_append,List.length_cons,List.length_nil]
   omega
  ·obtain ⟨b1,b2,b3,b4,b5⟩:=qeu h
   have hl:n.kids.length = 1:=by rw [b4];rfl
   have m0:n.kids.getD 0 N0∈n.kids:=qg (by omega)
   have k0:=lenQ hD (hb.k _ m0) b5
   have c0:=qkh (D:=D) m0
   have k0:(quT (n.kids.getD 0 N0)).length + 8≤sz (n.kids.getD 0 N0) * D:=k0
   rw [qft,if_neg (by omega),sgT]
   simp only [List.length_append,List.length_cons,List.length_nil]
   omega
 ·rw [szD]
  obtain ⟨b1,b2,b3,b4,b5,b6⟩:=qfs h
  have hl:n.kids.length = 2:=by rw [b4];rfl
  have m0:n.kids.getD 0 N0∈n.kids:=qg (by omega)
  have k0:(ptP (n.kids.getD 0 N0)).length + 8≤sz (n.kids.getD 0 N0) * D:=lenP hD _ (hb.k _ m0) b5 (qhp hw m0)
  have k1:=hE (n.kids.getD 1 N0) (qg (by omega)) b6
  rw [qjd,if_pos (by omega),qmw hl,Nat.add_mul]
  simp only [List.length_append,List.length_cons,List.length_nil]
  omega
theorem lenD {n:N} (hb:TxB B n) (hw:(enc n).wf) (h:deW n = true):(ptD n).length + 8≤sz n * D:=by
 have h1:=hb.t
 have hhead:∀ (q:n.kids = ahN n ++ (beN n).getD 0 N0 :: (beN n).drop 1),(∀ x∈ahN n,prW x = true)->tyW ((beN n).getD 0 N0) = true->(∀ x∈(beN n).drop 1,biW x = true∨sgW x = true)->(hdT n).length + 24≤sz n * D:=fun q h5 h6 h7=>by
  have hma:∀ x∈ahN n,x∈n.kids:=fun x hx=>by rw [q];simp [hx]
  have hm0:(beN n).getD 0 N0∈n.kids:=by rw [q];simp
  have hmb:∀ x∈(beN n).drop 1,x∈n.kids:=fun x hx=>by rw [q];simp only [List.mem_append,List.mem_cons];exact .inr (.inr hx)
  have k1:=qbj1 hD (l:=ahN n) fun x hx=>⟨hb.k x (hma x hx),h5 x hx⟩
  have k2:=lenT hD _ (hb.k _ hm0) h6
  have k3:=(qp (qn ((beN n).getD 0 N0)) (ptT ((beN n).getD 0 N0))).2
  have k4:(atT ((beN n).getD 0 N0)).length = (cloW (qn ((beN n).getD 0 N0)) (ptT ((beN n).getD 0 N0))).length + 1:=rfl
  have k5:=qed (D:=D) (f:=ptB) (m:=smW) (by decide) ((beN n).drop 1) fun x hx=>by have:=(lenE hD x (hb.k x (hmb x hx)) (qhp hw (hmb x hx))).2.1 (h7 x hx);omega
  have k6:(brB ((beN n).drop 1)).length≤(Lib.join (((beN n).drop 1).map ptB) smW).length + 4:=by
   unfold brB brW;split<;>simp
  have k7:szs n.kids = szs (ahN n) + (sz ((beN n).getD 0 N0) + szs ((beN n).drop 1)):=by
   have:=congrArg szs q
   rw [qgc,szs] at this
   exact this
  rw [szD,k7,Nat.add_mul,Nat.add_mul,hdT]
  simp only [List.length_append,List.length_cons,List.length_nil]
  omega
 rcases qkx h with ⟨h0,h1⟩ | ⟨h0,h1⟩ | ⟨h0,a1,h2,h3,h4,h5,h6⟩ | ⟨h0,a1,h2,h3,h5,h6,h7⟩ | ⟨h0,a1,h2,h3,h5,h6,h7⟩
 ·rw [qfj (.inl h0)];exact (lenE hD n hb hw).2.1 (.inl h1)
 ·rw [qfj (.inr h0)];exact (lenE hD n hb hw).2.1 (.inr h1)
 ·have hma:∀ x∈ahN n,x∈n.kids:=fun x hx=>List.mem_of_mem_take hx
  have hmb:∀ x∈beN n,x∈n.kids:=fun x hx=>List.mem_of_mem_drop hx
  have k1:=qky (l:=ahN n) (f:=ptT) fun x hx=>lenT hD x (hb.k x (hma x hx)) (qsj (h5 x hx)).2
  have k2:=qed (D:=D) (f:=ptT) (m:=[32,124,32]) (by decide) (beN n) fun x hx=>by have:=lenC hD (hb.k x (hmb x hx)) (h6 x hx);omega
  have k3:szs n.kids = szs (ahN n) + szs (beN n):=by
   have:=congrArg szs h2
   rwa [qgc] at this
  have e:(ahN n).map atT = (ahN n).map fun x=>32 :: cloW (qn x) (ptT x):=rfl
  simp only [ptD,h0,Int.reduceEq,or_self,if_false,if_true]
  rw [szD,k3,Nat.add_mul,e]
  simp only [List.length_append,List.length_cons,List.length_nil]
  omega
 ·have:=hhead h2 h5 (qsj h6).2 fun x hx=>.inr (h7 x hx)
  simp only [ptD,h0,Int.reduceEq,or_self,if_false,if_true,List.length_append,List.length_cons,List.length_nil]
  omega
 ·have:=hhead h2 h5 h6 fun x hx=>.inl (h7 x hx)
  simp only [ptD,h0,Int.reduceEq,or_self,if_false,if_true,List.length_append,List.length_cons,List.length_nil]
  omega
theorem lenG {n:N} (hb:TxB B n) (hw:(enc n).wf) (h:∀ x∈n.kids,deW x = true):(ptG n).length + 8≤sz n * D:=by
 have:=qed (D:=D) (f:=fun x=>ptD x ++ [59,10]) (m:=[]) (by decide) n.kids fun x hx=>by
  have:=lenD hD (hb.k x hx) (qhp hw hx) (h x hx)
  simp only [List.length_append,List.length_cons,List.length_nil];omega
 rw [qch] at this
 rw [szD]
 have e:ptG n = (n.kids.map fun x=>ptD x ++ [59,10]).flatten:=rfl
 rw [e];omega
end
end Go.Proofs.YtlmcofjcpadmiaaGreat
