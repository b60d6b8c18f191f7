/- A text of this proof. -/
import Derived.Test.YtlmcofjcpadmiaaGreatNbo
import Derived.Test.YtlmcofjcpadmiaaGreatNbp
set_option linter.unusedVariables false
set_option linter.unusedSimpArgs false

/- trees that are written: how long the texts are, by their names' lengths -/
namespace Go.Proofs.YtlmcofjcpadmiaaGreat
open Go Go.RowKit Go.V

def uz (n:N):Nat:=tw n + 64 * sz n
def uzs (l:List N):Nat:=tws l + 64 * szs l
theorem qsb:uzs [] = 0:=by rw [uzs,qfs,szs]
theorem qgy (x:N) (r:List N):uzs (x :: r) = uz x + uzs r:=by rw [uzs,uzs,uz,tws,szs];omega
theorem qwu (l m:List N):uzs (l ++ m) = uzs l + uzs m:=by rw [uzs,uzs,uzs,qbgj,qfv];omega
theorem uzD (n:N):uz n = uzs n.kids + (n.text.length + 64):=by rw [uz,uzs,qck0,qg1];omega
theorem qw2 {l:List N} {x:N} (h:x∈l):uz x≤uzs l:=by
 induction l with
 | nil=>cases h
 | cons y r ih =>
   rw [qgy]
   rcases List.mem_cons.1 h with rfl | h
   ·omega
   ·have:=ih h;omega
def TxU (n:N):Prop:=True
theorem TxU.t {n:N} (h:TxU n):n.text.length≤n.text.length:=Nat.le_refl _
theorem TxU.k {n:N} (h:TxU n):∀ x∈n.kids,TxU x:=fun _ _=>trivial
theorem qlc {f:N->List UInt8} {m:List UInt8} (hm:m.length≤3):∀ (l:List N),(∀ x∈l,(f x).length + 3≤uz x)->(Lib.join (l.map f) m).length≤uzs l
 | [],_=>by simp [Lib.join,List.intercalate]
 | [x], h => by
   rw [List.map_singleton,qm6,qgy,qsb,Nat.add_zero]
   have:=h x (by simp);omega
 | x :: y :: l, h => by
   rw [List.map_cons,List.map_cons,qkw,qgy,List.length_append,List.length_append]
   have h1:=h x (by simp)
   have h2:=qlc hm (y :: l) fun z hz=>h z (by simp at hz ⊢;exact .inr hz)
   rw [List.map_cons] at h2
   omega
theorem q21 {l:List N} (h:l.length = 2):uzs l = uz (l.getD 0 N0) + uz (l.getD 1 N0):=by
 rw [q79 h];simp [qgy,qsb]
theorem qw4 {f:N->List UInt8} {l:List N} (h:∀ x∈l,(f x).length + 8≤uz x):((l.map fun x=>32 :: cloW (qbi x) (f x)).flatten).length≤uzs l:=by
 have:=qlc (f:=fun x=>32 :: cloW (qbi x) (f x)) (m:=[]) (by simp) l fun x hx=>by
  have h1:=h x hx
  have h2:=(qc5 (qbi x) (f x)).2
  simp only [List.length_cons];omega
 rwa [qgd] at this
theorem ulT:∀ n,TxU n->tyW n = true->(ptT n).length + 8≤uz n:=N.ind fun n ih hb ht=>by
 rw [uzD]
 have hk:=fun x hx=>ih x hx (hb.k x hx) (qbbi ht x hx)
 have h1:=hb.t
 by_cases ha:n.kind≠1∧n.text = arW
 ·have h2:=qbb0 ht ha.1 ha.2
  rw [qkf,if_pos ha,q21 h2]
  have k0:=hk _ (qi (i:=0) (by omega))
  have k1:=hk _ (qi (i:=1) (by omega))
  have k2:=(qc5 (!decide ((n.kids.getD 0 N0).text = arW)) (ptT (n.kids.getD 0 N0))).2
  simp only [List.length_append,List.length_cons,List.length_nil]
  omega
 ·rw [qkf,if_neg ha,List.length_append]
  have:=qw4 hk
  have e:n.kids.map atT = n.kids.map fun x=>32 :: cloW (qbi x) (ptT x):=rfl
  rw [e];omega
theorem ulC {n:N} (hb:TxU n) (ht:cnW n = true):(ptT n).length + 8≤uz n:=by
 obtain ⟨_,_,h3,h4⟩:=qqw ht
 rw [uzD,qkf,if_neg (fun e=>by have:=e.2;rw [this] at h3;exact absurd h3 (by decide)),List.length_append]
 have h1:=hb.t
 have:=qw4 fun x hx=>ulT x (hb.k x hx) (h4 x hx)
 have e:n.kids.map atT = n.kids.map fun x=>32 :: cloW (qbi x) (ptT x):=rfl
 rw [e];omega
theorem ulP:∀ n,TxU n->paW n = true->(enc n).wf->(ptP n).length + 8≤uz n:=N.ind fun n ih hb ht hw=>by
 rw [uzD]
 have h1:=hb.t
 have hd:=q5y (n:=n.num) ((qmg n).1 hw).2.2.2.2.1
 have:=qw4 fun x hx=>ih x hx (hb.k x hx) (qxn ht x hx).1 (qcf hw hx)
 have e:n.kids.map atP = n.kids.map fun x=>32 :: cloW (qbi x) (ptP x):=rfl
 rw [qo7]
 split
 ·simp only [List.length_cons,List.length_nil];omega
 ·split
  ·omega
  ·rw [List.length_append,e];omega
theorem ulPr {n:N} (hb:TxU n) (h:prW n = true):(prT n).length + 8≤uz n:=by
 obtain ⟨p1,p2,p3,p4,p5⟩:=qjl h
 have m0:n.kids.getD 0 N0∈n.kids:=qi (by omega)
 have h1:=hb.t
 have h2:=ulT _ (hb.k _ m0) p5
 have h3:=(qc5 (qbi (n.kids.getD 0 N0)) (ptT (n.kids.getD 0 N0))).2
 have h4:(atT (n.kids.getD 0 N0)).length = (cloW (qbi (n.kids.getD 0 N0)) (ptT (n.kids.getD 0 N0))).length + 1:=rfl
 have h5:=qw2 m0
 rw [uzD,prT,List.length_append]
 omega
theorem ulCt {l:List N} (h:∀ x∈l,TxU x∧prW x = true):(ctT l).length≤uzs l + 6:=by
 have:=qlc (f:=prT) (m:=cmW) (by decide) l fun x hx=>by have:=ulPr (h x hx).1 (h x hx).2;omega
 have h2:=(qc5 (decide (l.length = 1)) (Lib.join (l.map prT) cmW)).2
 rw [ctT]
 split
 ·simp
 ·simp only [List.length_append,List.length_cons,List.length_nil];omega
theorem ulQ {n:N} (hb:TxU n) (h:quW n = true):(quT n).length + 8≤uz n:=by
 obtain ⟨q1,q2,q3,q4,q5,q6⟩:=qnx h
 have hmt:qnf n∈n.kids:=by rw [q4];simp
 have hma:∀ x∈qgw n,x∈n.kids:=fun x hx=>by rw [q4];simp [hx]
 have h1:=ulCt (l:=qgw n) fun x hx=>⟨hb.k x (hma x hx),q5 x hx⟩
 have h2:=ulT _ (hb.k _ hmt) q6
 have e:quT n = ctT (qgw n) ++ ptT (qnf n):=rfl
 have h3:uzs n.kids = uzs (qgw n) + uz (qnf n):=by
  have:=congrArg uzs q4
  rw [qwu] at this
  simpa [qgy,qsb] using this
 rw [uzD,e,List.length_append,h3]
 omega
set_option maxHeartbeats 1000000 in
theorem ulE:∀ n,TxU n->(enc n).wf->(exW n = true->(ptE n).length + 8≤uz n)∧((biW n = true∨sgW n = true)->(ptB n).length + 8≤uz n)∧(alW n = true->(ptL n).length + 8≤uz n):=N.ind fun n ih hb hw=>by
 have h1:=hb.t
 have hE:∀ x∈n.kids,exW x = true->(ptE x).length + 8≤uz x:=fun x hx=>(ih x hx (hb.k x hx) (qcf hw hx)).1
 have hB:∀ x∈n.kids,(biW x = true∨sgW x = true)->(ptB x).length + 8≤uz x:=fun x hx=>(ih x hx (hb.k x hx) (qcf hw hx)).2.1
 have hL:∀ x∈n.kids,alW x = true->(ptL x).length + 8≤uz x:=fun x hx=>(ih x hx (hb.k x hx) (qcf hw hx)).2.2
 refine ⟨fun h=>?_,fun h=>?_,fun h=>?_⟩
 ·rw [uzD]
  have hEq:=q1h n
  have hdg:=q5y (n:=n.num) ((qmg n).1 hw).2.2.2.2.1
  rcases qii h with ⟨h0,a1,a2,a3⟩ | ⟨h0,a1,a2,a3⟩ | ⟨h0,a1,a2,a3⟩ | ⟨h0,a1,a2,a3,a4,a5⟩ | ⟨h0,a1,a2,a3,a4⟩ | ⟨h0,a1,a2,a3,a4,a5,a6⟩ | ⟨h0,a1,a2,a3,a4,a5,a6⟩ | ⟨h0,a1,a2,a3,a4,a5,a6⟩
  ·simp only [h0,Int.reduceEq,if_false,if_true] at hEq
   rw [hEq];omega
  ·simp only [h0,Int.reduceEq,if_false,if_true] at hEq
   rw [hEq];omega
  ·simp only [h0,Int.reduceEq,if_false,if_true] at hEq
   rw [hEq];omega
  ·have hl:n.kids.length = 2:=by rw [a2];rfl
   simp only [h0,Int.reduceEq,if_false,if_true,hl,show (0 < 2) = True by simp,show (1 < 2) = True by simp] at hEq
   have k0:=hE (n.kids.getD 0 N0) (qi (by omega)) a4
   have k1:=hE (n.kids.getD 1 N0) (qi (by omega)) a5
   have c0:=(qc5 (qbi (n.kids.getD 0 N0) || decide ((n.kids.getD 0 N0).kind = 24)) (ptE (n.kids.getD 0 N0))).2
   have c1:=(qc5 (qbi (n.kids.getD 1 N0)) (ptE (n.kids.getD 1 N0))).2
   rw [hEq,q21 hl]
   simp only [List.length_append,List.length_cons,List.length_nil]
   omega
  ·have hl:n.kids.length = 1:=by rw [a2];rfl
   simp only [h0,Int.reduceEq,if_false,if_true,hl,show (0 < 1) = True by simp] at hEq
   have m0:n.kids.getD 0 N0∈n.kids:=qi (by omega)
   have k0:=hE _ m0 a4
   have c0:=qw2 m0
   rw [hEq]
   simp only [List.length_append,List.length_cons,List.length_nil]
   omega
  ·have hpos:0 < n.kids.length:=by rw [a2];simp
   simp only [h0,Int.reduceEq,if_false,if_true,hpos] at hEq
   have m1:ekN n (n.kids.length - 1)∈n.kids:=qi (by omega)
   have k1:=hE _ m1 a6
   have k2:=qlc (f:=ptB) (m:=smW) (by decide) (eitN n) fun x hx=>by have:=hB x (List.mem_of_mem_take hx) (a4 x hx);omega
   have k3:uzs n.kids = uzs (eitN n) + uz (ekN n (n.kids.length - 1)):=by
    have:=congrArg uzs a2
    rw [qwu] at this
    simpa [qgy,qsb] using this
   have k4:(brW (Lib.join ((eitN n).map ptB) smW)).length≤(Lib.join ((eitN n).map ptB) smW).length + 4:=by
    unfold brW;split<;>simp
   change ptE n = [108,101,116,32] ++ (brW (Lib.join ((eitN n).map ptB) smW) ++ ([32,105,110,32] ++ ptE (ekN n (n.kids.length - 1)))) at hEq
   rw [hEq,k3]
   simp only [List.length_append,List.length_cons,List.length_nil]
   omega
  ·have hpos:0 < n.kids.length:=by rw [a2];simp
   simp only [h0,Int.reduceEq,if_false,if_true,hpos] at hEq
   have m0:ekN n 0∈n.kids:=qi (by omega)
   have k1:=hE _ m0 a4
   have k2:=qlc (f:=ptL) (m:=smW) (by decide) (n.kids.drop 1) fun x hx=>by have:=hL x (List.mem_of_mem_drop hx) (a5 x hx);omega
   have k3:uzs n.kids = uz (ekN n 0) + uzs (n.kids.drop 1):=by
    have:=congrArg uzs a2
    rwa [qgy] at this
   have k4:(brW (Lib.join ((n.kids.drop 1).map ptL) smW)).length≤(Lib.join ((n.kids.drop 1).map ptL) smW).length + 4:=by
    unfold brW;split<;>simp
   change ptE n = [99,97,115,101,32] ++ (ptE (ekN n 0) ++ ([32,111,102,32] ++ brW (Lib.join ((n.kids.drop 1).map ptL) smW))) at hEq
   rw [hEq,k3]
   simp only [List.length_append,List.length_cons,List.length_nil]
   omega
  ·have hl:n.kids.length = 3:=by rw [a2];rfl
   simp only [h0,Int.reduceEq,if_false,if_true,hl,show (0 < 3) = True by simp,show (1 < 3) = True by simp,show (2 < 3) = True by simp] at hEq
   have k0:=hE (n.kids.getD 0 N0) (qi (by omega)) a4
   have k1:=hE (n.kids.getD 1 N0) (qi (by omega)) a5
   have k2:=hE (n.kids.getD 2 N0) (qi (by omega)) a6
   have k3:uzs n.kids = uz (n.kids.getD 0 N0) + (uz (n.kids.getD 1 N0) + uz (n.kids.getD 2 N0)):=by
    have:=congrArg uzs (qcff hl)
    rw [this];simp [qgy,qsb]
   rw [hEq,k3]
   simp only [List.length_append,List.length_cons,List.length_nil]
   omega
 ·rw [uzD]
  rcases h with h | h
  ·obtain ⟨b1,b2,b3,b4,b5⟩:=qg3 h
   have hl:n.kids.length = 1:=by rw [b4];rfl
   have m0:n.kids.getD 0 N0∈n.kids:=qi (by omega)
   have k0:=hE _ m0 b5
   have c0:=qw2 m0
   rw [qmb,if_pos b1,if_pos (by omega)]
   simp only [List.length_append,List.length_cons,List.length_nil]
   omega
  ·obtain ⟨b1,b2,b3,b4,b5⟩:=qg4 h
   have hl:n.kids.length = 1:=by rw [b4];rfl
   have m0:n.kids.getD 0 N0∈n.kids:=qi (by omega)
   have k0:=ulQ (hb.k _ m0) b5
   have c0:=qw2 m0
   have k0:(quT (n.kids.getD 0 N0)).length + 8≤uz (n.kids.getD 0 N0):=k0
   rw [qmb,if_neg (by omega),sgT]
   simp only [List.length_append,List.length_cons,List.length_nil]
   omega
 ·rw [uzD]
  obtain ⟨b1,b2,b3,b4,b5,b6⟩:=qjv h
  have hl:n.kids.length = 2:=by rw [b4];rfl
  have m0:n.kids.getD 0 N0∈n.kids:=qi (by omega)
  have k0:(ptP (n.kids.getD 0 N0)).length + 8≤uz (n.kids.getD 0 N0):=ulP _ (hb.k _ m0) b5 (qcf hw m0)
  have k1:=hE (n.kids.getD 1 N0) (qi (by omega)) b6
  rw [qti,if_pos (by omega),q21 hl]
  simp only [List.length_append,List.length_cons,List.length_nil]
  omega
theorem ulD {n:N} (hb:TxU n) (hw:(enc n).wf) (h:deW n = true):(ptD n).length + 8≤uz n:=by
 have h1:=hb.t
 have hhead:∀ (q:n.kids = ahN n ++ (beN n).getD 0 N0 :: (beN n).drop 1),(∀ x∈ahN n,prW x = true)->tyW ((beN n).getD 0 N0) = true->(∀ x∈(beN n).drop 1,biW x = true∨sgW x = true)->(hdT n).length + 24≤uz n:=fun q h5 h6 h7=>by
  have hma:∀ x∈ahN n,x∈n.kids:=fun x hx=>by rw [q];simp [hx]
  have hm0:(beN n).getD 0 N0∈n.kids:=by rw [q];simp
  have hmb:∀ x∈(beN n).drop 1,x∈n.kids:=fun x hx=>by rw [q];simp only [List.mem_append,List.mem_cons];exact .inr (.inr hx)
  have k1:=ulCt (l:=ahN n) fun x hx=>⟨hb.k x (hma x hx),h5 x hx⟩
  have k2:=ulT _ (hb.k _ hm0) h6
  have k3:=(qc5 (qbi ((beN n).getD 0 N0)) (ptT ((beN n).getD 0 N0))).2
  have k4:(atT ((beN n).getD 0 N0)).length = (cloW (qbi ((beN n).getD 0 N0)) (ptT ((beN n).getD 0 N0))).length + 1:=rfl
  have k5:=qlc (f:=ptB) (m:=smW) (by decide) ((beN n).drop 1) fun x hx=>by have:=(ulE x (hb.k x (hmb x hx)) (qcf hw (hmb x hx))).2.1 (h7 x hx);omega
  have k6:(brB ((beN n).drop 1)).length≤(Lib.join (((beN n).drop 1).map ptB) smW).length + 4:=by
   unfold brB brW;split<;>simp
  have k7:uzs n.kids = uzs (ahN n) + (uz ((beN n).getD 0 N0) + uzs ((beN n).drop 1)):=by
   have:=congrArg uzs q
   rw [qwu,qgy] at this
   exact this
  rw [uzD,k7,hdT]
  simp only [List.length_append,List.length_cons,List.length_nil]
  omega
 rcases qn1 h with ⟨h0,h1⟩ | ⟨h0,h1⟩ | ⟨h0,a1,h2,h3,h4,h5,h6⟩ | ⟨h0,a1,h2,h3,h5,h6,h7⟩ | ⟨h0,a1,h2,h3,h5,h6,h7⟩
 ·rw [qui (.inl h0)];exact (ulE n hb hw).2.1 (.inl h1)
 ·rw [qui (.inr h0)];exact (ulE n hb hw).2.1 (.inr h1)
 ·have hma:∀ x∈ahN n,x∈n.kids:=fun x hx=>List.mem_of_mem_take hx
  have hmb:∀ x∈beN n,x∈n.kids:=fun x hx=>List.mem_of_mem_drop hx
  have k1:=qw4 (l:=ahN n) (f:=ptT) fun x hx=>ulT x (hb.k x (hma x hx)) (qub (h5 x hx)).2
  have k2:=qlc (f:=ptT) (m:=[32,124,32]) (by decide) (beN n) fun x hx=>by have:=ulC (hb.k x (hmb x hx)) (h6 x hx);omega
  have k3:uzs n.kids = uzs (ahN n) + uzs (beN n):=by
   have:=congrArg uzs h2
   rwa [qwu] at this
  have e:(ahN n).map atT = (ahN n).map fun x=>32 :: cloW (qbi x) (ptT x):=rfl
  simp only [ptD,h0,Int.reduceEq,or_self,if_false,if_true]
  rw [uzD,k3,e]
  simp only [List.length_append,List.length_cons,List.length_nil]
  omega
 ·have:=hhead h2 h5 (qub h6).2 fun x hx=>.inr (h7 x hx)
  simp only [ptD,h0,Int.reduceEq,or_self,if_false,if_true,List.length_append,List.length_cons,List.length_nil]
  omega
 ·have:=hhead h2 h5 h6 fun x hx=>.inl (h7 x hx)
  simp only [ptD,h0,Int.reduceEq,or_self,if_false,if_true,List.length_append,List.length_cons,List.length_nil]
  omega
theorem ulG {n:N} (hb:TxU n) (hw:(enc n).wf) (h:∀ x∈n.kids,deW x = true):(ptG n).length + 8≤uz n:=by
 have:=qlc (f:=fun x=>ptD x ++ [59,10]) (m:=[]) (by decide) n.kids fun x hx=>by
  have:=ulD (hb.k x hx) (qcf hw hx) (h x hx)
  simp only [List.length_append,List.length_cons,List.length_nil];omega
 rw [qgd] at this
 rw [uzD]
 have e:ptG n = (n.kids.map fun x=>ptD x ++ [59,10]).flatten:=rfl
 rw [e];omega
end Go.Proofs.YtlmcofjcpadmiaaGreat
