/- Texts of this proof, joined. -/
import Derived.Test.YtlmcofjcpadmiaaGreatDbm
import Derived.Test.YtlmcofjcpadmiaaGreatDbn
set_option linter.unusedVariables false
set_option linter.unusedSimpArgs false

/- declarations of long texts -/
set_option maxRecDepth 4000
namespace Go.Proofs.YtlmcofjcpadmiaaGreat
open Go Go.RowKit Go.V

theorem qbco:∀ n,sz n≤10000000->depR n = dp n:=N.ind fun n ih h=>by
 rw [q5s,qks]
 rw [qeh] at h
 have key:∀ (l:List N),(∀ x∈l,sz x≤10000000->depR x = dp x)->szs l≤10000000->∀ a:Int,0≤a->qts a l = max a (dps l):=by
  intro l
  induction l with
  | nil=>intro _ _ a h0;simp [qts,dps];omega
  | cons x r ihr =>
    intro hx hs a h0
    simp only [szs] at hs
    simp only [qts,dps]
    rw [hx x (by simp) (by omega)]
    have:=ihr (fun y hy=>hx y (by simp [hy])) (by omega)
    split
    ·rw [this _ (by omega)];omega
    ·rw [this _ (by omega)];omega
 have hd:=qsh (l:=n.kids) fun x _=>qcb1 x
 rw [key n.kids ih (by omega) 0 (by omega),qh4 (by omega) (by omega)]
 omega
theorem qbc2:∀ n (l s:Int),0≤l->l + sz n≤20000000->qc7 dpF n l s = (max s (l + dp n - 1),true):=N.ind fun n ih l s h0 h1=>by
 rw [qgw,qks]
 rw [qeh] at h1
 simp only [dpF,if_true]
 have key:∀ (r:List N),(∀ x∈r,∀ (l s:Int),0≤l->l + sz x≤20000000->qc7 dpF x l s = (max s (l + dp x - 1),true))->∀ (l s:Int),0≤l->l + szs r≤20000000->l - 1≤s->qdr dpF l r s = (max s (l + dps r - 1),true):=by
  intro r
  induction r with
  | nil=>intro _ l s _ _ h;simp only [qdr,dps,Prod.mk.injEq,and_true];omega
  | cons x r ihr =>
    intro hx l s h0 h1 h2
    simp only [szs] at h1
    simp only [qdr,dps]
    rw [hx x (by simp) _ _ h0 (by omega),if_pos rfl,ihr (fun y hy=>hx y (by simp [hy])) _ _ (by omega) (by omega) (by omega)]
    simp only [Prod.mk.injEq,and_true];omega
 have:=key n.kids ih (IntKind.i64.wrap (l + 1)) (if l > s then l else s) (by rw [qh4 (by omega) (by omega)];omega) (by rw [qh4 (by omega) (by omega)];omega) (by rw [qh4 (by omega) (by omega)];split<;>omega)
 rw [this,qh4 (by omega) (by omega)]
 simp only [Prod.mk.injEq,and_true]
 split<;>omega
theorem q14 {n:N} (h:sz n≤10000000):(qc7 (fun (k:Int) l _=>(if l > k then l else k,true)) n 1 0).1 = depR n:=by
 show (qc7 dpF n 1 0).1 = depR n
 rw [qbc2 n 1 0 (by omega) (by omega),qbco n (by omega)]
 have:=qks n
 simp only;omega
theorem quj {so:FuncId} {rd:K->K×Option N} {s:List UInt8} (hrd:∀ c:K,c.good->qbt Tryz.prog so (curE c) (curE (rd c).1) [.ptr 0 0] (enc ((rd c).2.getD N0)))
 (hm:∀ c,Mon c (rd c).1) (hsz:∀ c,sz ((rd c).2.getD N0)≤2 * rest c + 1):qq Tryz.prog 59 [.str s,.fn so [] []] (resV (qjt rd s)):=by
 have g:=qkn (qeg s).1
 have g2:(rd (newK (lexV s).1)).1.good:=(hm _).1 g
 have hsz':sz ((rd (newK (lexV s).1)).2.getD N0)≤10000000:=by
  have h1:=hsz (newK (lexV s).1)
  have h2:=qhh (lexV s).1
  have h3:=(qeg s).1
  have h4:rest (newK (lexV s).1) = (qfm (lexV s).1).length:=rfl
  omega
 have hdp:=q14 hsz'
 refine qg c0b (by simp) (by simp only [go_sem]) (by simp only [go_sem]) fun hw=>?_
 repeat' (first | refine vs_ ?_ | ((first | refine vr_ ?_ | refine qa (qfb s) fun _=>?_ | refine qns (qnl _ (qeg s).1) (qp _ _) (by simp only [go_sem]) ?_ | refine qh7 1 (hrd _ g) (by rfl) (qp _ _) (qp _ _) (by rfl) (qj2 _ _) (by rfl) fun _=>?_ | refine qh7 1 (qla _ g2.ok) (by rfl) (qp _ _) (qp _ _) (by rfl) (by rfl) (by rfl) fun _=>?_ | refine qa (qio (qi0 _) (by rw [hdp])) fun _=>?_ | refine qe (qfb s) ?_ | refine qe (qio (qi0 _) (by rw [hdp])) ?_ | (refine cs_ ?_ ?_<;>intro hc) | refine cj_ ?_ | fail)<;>(try refine ev_ ?_)) | with_reducible exact ti_)
 all_goals (try rw [qdf])
 all_goals unfold qjt qqz
 all_goals (repeat' split)
 all_goals first | omega | rfl | (exfalso;omega) | simp_all [go_sem]
theorem qir (s:List UInt8):qq Tryz.prog 28 [.str s] (resV (qbyv s)):=by
 refine qg c0c (by simp) (by simp only [go_sem]) (by simp only [go_sem]) fun hw=>?_
 repeat' (first | refine vs_ ?_ | ((first | refine vr_ ?_ | refine qa (quj qb4l q4r qbep) fun _=>?_ | (refine cs_ ?_ ?_<;>intro hc) | refine cj_ ?_ | fail)<;>(try refine ev_ ?_)) | with_reducible exact ti_)
 all_goals rfl
theorem qmi (s:List UInt8):qq Tryz.prog 31 [.str s] (resV (qb2v s)):=by
 refine qg c0d (by simp) (by simp only [go_sem]) (by simp only [go_sem]) fun hw=>?_
 repeat' (first | refine vs_ ?_ | ((first | refine vr_ ?_ | refine qa (quj qbhk qbcd qb3r) fun _=>?_ | (refine cs_ ?_ ?_<;>intro hc) | refine cj_ ?_ | fail)<;>(try refine ev_ ?_)) | with_reducible exact ti_)
 all_goals rfl
set_option maxRecDepth 4000

theorem q7u {n:N} (h:fewW n = false):qq Tryz.prog 7 [enc n] (.int .i64 0):=qio (few7 n) (by rw [h];rfl)
theorem qz7 {n:N} (h:fewW n = true):qq Tryz.prog 7 [enc n] (.int .i64 1):=qio (few7 n) (by rw [h];rfl)
def nX:N:=.mk 21 0 0 [120] []
def nL:N:=.mk 25 0 0 [120] [.mk 24 0 0 [] [.mk 21 0 0 [102] [],nX]]
def nA:N:=.mk 1 0 0 [97] []
def nF:N:=.mk 2 0 0 [45,62] [.mk 2 0 0 [45,62] [nA,nA],nA]
def nB:N:=.mk 31 0 0 [120] [nL]
def nG:N:=.mk 37 0 0 [] []
def nP:N:=.mk 12 0 0 [] []
def nQ:N:=.mk 4 0 0 [] [nA]
theorem bigT {s:List UInt8} (h:s.length≤1000):s.length + 4≤Big:=by unfold Big;omega
theorem z1:qq Tryz.prog 15 [enc nL] (.str [92,32,120,32,45,62,32,102,32,120]):=qio (qkg (n:=nL) (by decide) (bigT (by decide))) (by rw [show outE nL = [92,32,120,32,45,62,32,102,32,120] by rfl])
theorem z2:qq Tryz.prog 9 [enc nF] (.str [40,97,32,45,62,32,97,41,32,45,62,32,97]):=qio (qmh (n:=nF) (by decide) (bigT (by decide))) (by rw [show outT nF = [40,97,32,45,62,32,97,41,32,45,62,32,97] by rfl])
theorem z3:qq Tryz.prog 15 [enc nF] (.str []):=qio (qkg (n:=nF) (by decide) (bigT (by decide))) (by rw [show outE nF = [] by rfl])
theorem z4:qq Tryz.prog 19 [enc nG] (.str []):=qio (qis (n:=nG) (by decide) (bigT (by decide))) (by rw [show outG nG = [] by rfl])
theorem z5:qq Tryz.prog 17 [enc nB] (.str [120,32,61,32,92,32,120,32,45,62,32,102,32,120]):=qio (qmv (n:=nB) (by decide) (bigT (by decide))) (by rw [show outD nB = [120,32,61,32,92,32,120,32,45,62,32,102,32,120] by rfl])
theorem z6:qq Tryz.prog 13 [enc nP] (.str [95]):=qio (qqa (n:=nP) (by decide) (bigT (by decide))) (by rw [show outP nP = [95] by rfl])
theorem z7:qq Tryz.prog 11 [enc nQ] (.str [97]):=qio (qui (n:=nQ) (by decide) (bigT (by decide))) (by rw [show outQ nQ = [97] by rfl])
theorem qgy:qq Tryz.prog 8 [] (.bool true):=by
 refine qg c0a (by simp) (by simp only [go_sem]) rfl fun hw=>?_
 repeat' (first | refine vs_ ?_ | ((first | refine vr_ ?_ | refine qa z1 fun _=>?_ | refine qa z2 fun _=>?_ | refine qa z3 fun _=>?_ | refine qa z4 fun _=>?_ | refine qa z5 fun _=>?_ | refine qa z6 fun _=>?_ | refine qa z7 fun _=>?_ | (refine cs_ ?_ ?_<;>intro hc) | refine cj_ ?_ | fail)<;>(try refine ev_ ?_)) | with_reducible exact ti_)

inductive TxB (B:Nat):N->Prop
 | mk {n:N} (h:n.text.length≤B) (hk:∀ x∈n.kids,TxB B x):TxB B n
theorem TxB.t {B:Nat} {n:N} (h:TxB B n):n.text.length≤B:=by cases h;assumption
theorem TxB.k {B:Nat} {n:N} (h:TxB B n):∀ x∈n.kids,TxB B x:=by cases h;assumption
section
variable {B D:Nat} (hD:D = B + 64)
include hD
omit hD in
theorem qix {f:N->List UInt8} {m:List UInt8} (hm:m.length≤3):∀ (l:List N),(∀ x∈l,(f x).length + 3≤sz x * D)->(Lib.join (l.map f) m).length≤szs l * D
 | [],_=>by simp [Lib.join,List.intercalate]
 | [x], h => by
   rw [List.map_singleton,qln,szs,szs,Nat.add_zero]
   have:=h x (by simp);omega
 | x :: y :: l, h => by
   rw [List.map_cons,List.map_cons,qiu,szs,Nat.add_mul,List.length_append,List.length_append]
   have h1:=h x (by simp)
   have h2:=qix hm (y :: l) fun z hz=>h z (by simp at hz ⊢;exact .inr hz)
   rw [List.map_cons] at h2
   omega
omit hD in
theorem szD (n:N):sz n * D = szs n.kids * D + D:=by rw [qeh,Nat.add_mul,Nat.one_mul]
omit hD in
theorem qx9 {l:List N} (h:l.length = 2):szs l = sz (l.getD 0 N0) + sz (l.getD 1 N0):=by
 rw [q2j h];simp [szs]
omit hD in
theorem qr7 {l:List N} {x:N} (h:x∈l):sz x * D≤szs l * D:=Nat.mul_le_mul_right D (qya h)
omit hD in
theorem qse {f:N->List UInt8} {l:List N} (h:∀ x∈l,(f x).length + 8≤sz x * D):((l.map fun x=>32 :: cloW (qba x) (f x)).flatten).length≤szs l * D:=by
 have:=qix (D:=D) (f:=fun x=>32 :: cloW (qba x) (f x)) (m:=[]) (by simp) l fun x hx=>by
  have h1:=h x hx
  have h2:=(qct (qba x) (f x)).2
  simp only [List.length_cons];omega
 rwa [qfd] at this
theorem lenT:∀ n,TxB B n->tyW n = true->(ptT n).length + 8≤sz n * D:=N.ind fun n ih hb ht=>by
 rw [szD]
 have hk:=fun x hx=>ih x hx (hb.k x hx) (q3y ht x hx)
 have h1:=hb.t
 by_cases ha:n.kind≠1∧n.text = arW
 ·have h2:=q8g ht ha.1 ha.2
  rw [qj1,if_pos ha,qx9 h2,Nat.add_mul]
  have k0:=hk _ (qf (i:=0) (by omega))
  have k1:=hk _ (qf (i:=1) (by omega))
  have k2:=(qct (!decide ((n.kids.getD 0 N0).text = arW)) (ptT (n.kids.getD 0 N0))).2
  simp only [List.length_append,List.length_cons,List.length_nil]
  omega
 ·rw [qj1,if_neg ha,List.length_append]
  have:=qse hk
  have e:n.kids.map atT = n.kids.map fun x=>32 :: cloW (qba x) (ptT x):=rfl
  rw [e];omega
theorem lenC {n:N} (hb:TxB B n) (ht:cnW n = true):(ptT n).length + 8≤sz n * D:=by
 obtain ⟨_,_,h3,h4⟩:=qng ht
 rw [szD,qj1,if_neg (fun e=>by have:=e.2;rw [this] at h3;exact absurd h3 (by decide)),List.length_append]
 have h1:=hb.t
 have:=qse fun x hx=>lenT hD x (hb.k x hx) (h4 x hx)
 have e:n.kids.map atT = n.kids.map fun x=>32 :: cloW (qba x) (ptT x):=rfl
 rw [e];omega
theorem lenP:∀ n,TxB B n->paW n = true->(enc n).wf->(ptP n).length + 8≤sz n * D:=N.ind fun n ih hb ht hw=>by
 rw [szD]
 have h1:=hb.t
 have hd:=qzx (n:=n.num) ((qjv n).1 hw).2.2.2.2.1
 have:=qse fun x hx=>ih x hx (hb.k x hx) (qr9 ht x hx).1 (qb2 hw hx)
 have e:n.kids.map atP = n.kids.map fun x=>32 :: cloW (qba x) (ptP x):=rfl
 rw [qqt]
 split
 ·simp only [List.length_cons,List.length_nil];omega
 ·split
  ·omega
  ·rw [List.length_append,e];omega
theorem qcdv {n:N} (hb:TxB B n) (h:prW n = true):(prT n).length + 8≤sz n * D:=by
 obtain ⟨p1,p2,p3,p4,p5⟩:=qh5 h
 have m0:n.kids.getD 0 N0∈n.kids:=qf (by omega)
 have h1:=hb.t
 have h2:=lenT hD _ (hb.k _ m0) p5
 have h3:=(qct (qba (n.kids.getD 0 N0)) (ptT (n.kids.getD 0 N0))).2
 have h4:(atT (n.kids.getD 0 N0)).length = (cloW (qba (n.kids.getD 0 N0)) (ptT (n.kids.getD 0 N0))).length + 1:=rfl
 have h5:=qr7 (D:=D) m0
 rw [szD,prT,List.length_append]
 omega
theorem qb82 {l:List N} (h:∀ x∈l,TxB B x∧prW x = true):(ctT l).length≤szs l * D + 6:=by
 have:=qix (D:=D) (f:=prT) (m:=cmW) (by decide) l fun x hx=>by have:=qcdv hD (h x hx).1 (h x hx).2;omega
 have h2:=(qct (decide (l.length = 1)) (Lib.join (l.map prT) cmW)).2
 rw [ctT]
 split
 ·simp
 ·simp only [List.length_append,List.length_cons,List.length_nil];omega
theorem lenQ {n:N} (hb:TxB B n) (h:quW n = true):(quT n).length + 8≤sz n * D:=by
 obtain ⟨q1,q2,q3,q4,q5,q6⟩:=qll h
 have hmt:qk4 n∈n.kids:=by rw [q4];simp
 have hma:∀ x∈qfn n,x∈n.kids:=fun x hx=>by rw [q4];simp [hx]
 have h1:=qb82 hD (l:=qfn n) fun x hx=>⟨hb.k x (hma x hx),q5 x hx⟩
 have h2:=lenT hD _ (hb.k _ hmt) q6
 have e:quT n = ctT (qfn n) ++ ptT (qk4 n):=rfl
 have h3:szs n.kids = szs (qfn n) + sz (qk4 n):=by
  have:=congrArg szs q4
  rw [qd2] at this
  simpa [szs] using this
 rw [szD,e,List.length_append,h3,Nat.add_mul]
 omega
set_option maxHeartbeats 1000000 in
theorem lenE:∀ n,TxB B n->(enc n).wf->(exW n = true->(ptE n).length + 8≤sz n * D)∧((biW n = true∨sgW n = true)->(ptB n).length + 8≤sz n * D)∧(alW n = true->(ptL n).length + 8≤sz n * D):=N.ind fun n ih hb hw=>by
 have h1:=hb.t
 have hE:∀ x∈n.kids,exW x = true->(ptE x).length + 8≤sz x * D:=fun x hx=>(ih x hx (hb.k x hx) (qb2 hw hx)).1
 have hB:∀ x∈n.kids,(biW x = true∨sgW x = true)->(ptB x).length + 8≤sz x * D:=fun x hx=>(ih x hx (hb.k x hx) (qb2 hw hx)).2.1
 have hL:∀ x∈n.kids,alW x = true->(ptL x).length + 8≤sz x * D:=fun x hx=>(ih x hx (hb.k x hx) (qb2 hw hx)).2.2
 refine ⟨fun h=>?_,fun h=>?_,fun h=>?_⟩
 ·rw [szD]
  have hEq:=q4m n
  have hdg:=qzx (n:=n.num) ((qjv n).1 hw).2.2.2.2.1
  rcases qgs h with ⟨h0,a1,a2,a3⟩ | ⟨h0,a1,a2,a3⟩ | ⟨h0,a1,a2,a3⟩ | ⟨h0,a1,a2,a3,a4,a5⟩ | ⟨h0,a1,a2,a3,a4⟩ | ⟨h0,a1,a2,a3,a4,a5,a6⟩ | ⟨h0,a1,a2,a3,a4,a5,a6⟩ | ⟨h0,a1,a2,a3,a4,a5,a6⟩
  ·simp only [h0,Int.reduceEq,if_false,if_true] at hEq
   rw [hEq];omega
  ·simp only [h0,Int.reduceEq,if_false,if_true] at hEq
   rw [hEq];omega
  ·simp only [h0,Int.reduceEq,if_false,if_true] at hEq
   rw [hEq];omega
  ·have hl:n.kids.length = 2:=by rw [a2];rfl
   simp only [h0,Int.reduceEq,if_false,if_true,hl,show (0 < 2) = True by simp,show (1 < 2) = True by simp] at hEq
   have k0:=hE (n.kids.getD 0 N0) (qf (by omega)) a4
   have k1:=hE (n.kids.getD 1 N0) (qf (by omega)) a5
   have c0:=(qct (qba (n.kids.getD 0 N0) || decide ((n.kids.getD 0 N0).kind = 24)) (ptE (n.kids.getD 0 N0))).2
   have c1:=(qct (qba (n.kids.getD 1 N0)) (ptE (n.kids.getD 1 N0))).2
   rw [hEq,qx9 hl,Nat.add_mul]
   simp only [List.length_append,List.length_cons,List.length_nil]
   omega
  ·have hl:n.kids.length = 1:=by rw [a2];rfl
   simp only [h0,Int.reduceEq,if_false,if_true,hl,show (0 < 1) = True by simp] at hEq
   have m0:n.kids.getD 0 N0∈n.kids:=qf (by omega)
   have k0:=hE _ m0 a4
   have c0:=qr7 (D:=D) m0
   rw [hEq]
   simp only [List.length_append,List.length_cons,List.length_nil]
   omega
  ·have hpos:0 < n.kids.length:=by rw [a2];simp
   simp only [h0,Int.reduceEq,if_false,if_true,hpos] at hEq
   have m1:ekN n (n.kids.length - 1)∈n.kids:=qf (by omega)
   have k1:=hE _ m1 a6
   have k2:=qix (D:=D) (f:=ptB) (m:=smW) (by decide) (eitN n) fun x hx=>by have:=hB x (List.mem_of_mem_take hx) (a4 x hx);omega
   have k3:szs n.kids = szs (eitN n) + sz (ekN n (n.kids.length - 1)):=by
    have:=congrArg szs a2
    rw [qd2] at this
    simpa [szs] using this
   have k4:(brW (Lib.join ((eitN n).map ptB) smW)).length≤(Lib.join ((eitN n).map ptB) smW).length + 4:=by
    unfold brW;split<;>simp
   change ptE n = [108,101,116,32] ++ (brW (Lib.join ((eitN n).map ptB) smW) ++ ([32,105,110,32] ++ ptE (ekN n (n.kids.length - 1)))) at hEq
   rw [hEq,k3,Nat.add_mul]
   simp only [List.length_append,List.length_cons,List.length_nil]
   omega
  ·have hpos:0 < n.kids.length:=by rw [a2];simp
   simp only [h0,Int.reduceEq,if_false,if_true,hpos] at hEq
   have m0:ekN n 0∈n.kids:=qf (by omega)
   have k1:=hE _ m0 a4
   have k2:=qix (D:=D) (f:=ptL) (m:=smW) (by decide) (n.kids.drop 1) fun x hx=>by have:=hL x (List.mem_of_mem_drop hx) (a5 x hx);omega
   have k3:szs n.kids = sz (ekN n 0) + szs (n.kids.drop 1):=by
    have:=congrArg szs a2
    rwa [szs] at this
   have k4:(brW (Lib.join ((n.kids.drop 1).map ptL) smW)).length≤(Lib.join ((n.kids.drop 1).map ptL) smW).length + 4:=by
    unfold brW;split<;>simp
   change ptE n = [99,97,115,101,32] ++ (ptE (ekN n 0) ++ ([32,111,102,32] ++ brW (Lib.join ((n.kids.drop 1).map ptL) smW))) at hEq
   rw [hEq,k3,Nat.add_mul]
   simp only [List.length_append,List.length_cons,List.length_nil]
   omega
  ·have hl:n.kids.length = 3:=by rw [a2];rfl
   simp only [h0,Int.reduceEq,if_false,if_true,hl,show (0 < 3) = True by simp,show (1 < 3) = True by simp,show (2 < 3) = True by simp] at hEq
   have k0:=hE (n.kids.getD 0 N0) (qf (by omega)) a4
   have k1:=hE (n.kids.getD 1 N0) (qf (by omega)) a5
   have k2:=hE (n.kids.getD 2 N0) (qf (by omega)) a6
   have k3:szs n.kids = sz (n.kids.getD 0 N0) + (sz (n.kids.getD 1 N0) + sz (n.kids.getD 2 N0)):=by
    have:=congrArg szs (qb71 hl)
    rw [this];simp [szs]
   rw [hEq,k3,Nat.add_mul,Nat.add_mul]
   simp only [List.length_append,List.length_cons,List.length_nil]
   omega
 ·rw [szD]
  rcases h with h | h
  ·obtain ⟨b1,b2,b3,b4,b5⟩:=qfu h
   have hl:n.kids.length = 1:=by rw [b4];rfl
   have m0:n.kids.getD 0 N0∈n.kids:=qf (by omega)
   have k0:=hE _ m0 b5
   have c0:=qr7 (D:=D) m0
   rw [qml,if_pos b1,if_pos (by omega)]
   simp only [List.length_append,List.length_cons,List.length_nil]
   omega
  ·obtain ⟨b1,b2,b3,b4,b5⟩:=qfs h
   have hl:n.kids.length = 1:=by rw [b4];rfl
   have m0:n.kids.getD 0 N0∈n.kids:=qf (by omega)
   have k0:=lenQ hD (hb.k _ m0) b5
   have c0:=qr7 (D:=D) m0
   have k0:(quT (n.kids.getD 0 N0)).length + 8≤sz (n.kids.getD 0 N0) * D:=k0
   rw [qml,if_neg (by omega),sgT]
   simp only [List.length_append,List.length_cons,List.length_nil]
   omega
 ·rw [szD]
  obtain ⟨b1,b2,b3,b4,b5,b6⟩:=qh2 h
  have hl:n.kids.length = 2:=by rw [b4];rfl
  have m0:n.kids.getD 0 N0∈n.kids:=qf (by omega)
  have k0:(ptP (n.kids.getD 0 N0)).length + 8≤sz (n.kids.getD 0 N0) * D:=lenP hD _ (hb.k _ m0) b5 (qb2 hw m0)
  have k1:=hE (n.kids.getD 1 N0) (qf (by omega)) b6
  rw [quc,if_pos (by omega),qx9 hl,Nat.add_mul]
  simp only [List.length_append,List.length_cons,List.length_nil]
  omega
theorem lenD {n:N} (hb:TxB B n) (hw:(enc n).wf) (h:deW n = true):(ptD n).length + 8≤sz n * D:=by
 have h1:=hb.t
 have hhead:∀ (q:n.kids = ahN n ++ (beN n).getD 0 N0 :: (beN n).drop 1),(∀ x∈ahN n,prW x = true)->tyW ((beN n).getD 0 N0) = true->(∀ x∈(beN n).drop 1,biW x = true∨sgW x = true)->(hdT n).length + 24≤sz n * D:=fun q h5 h6 h7=>by
  have hma:∀ x∈ahN n,x∈n.kids:=fun x hx=>by rw [q];simp [hx]
  have hm0:(beN n).getD 0 N0∈n.kids:=by rw [q];simp
  have hmb:∀ x∈(beN n).drop 1,x∈n.kids:=fun x hx=>by rw [q];simp only [List.mem_append,List.mem_cons];exact .inr (.inr hx)
  have k1:=qb82 hD (l:=ahN n) fun x hx=>⟨hb.k x (hma x hx),h5 x hx⟩
  have k2:=lenT hD _ (hb.k _ hm0) h6
  have k3:=(qct (qba ((beN n).getD 0 N0)) (ptT ((beN n).getD 0 N0))).2
  have k4:(atT ((beN n).getD 0 N0)).length = (cloW (qba ((beN n).getD 0 N0)) (ptT ((beN n).getD 0 N0))).length + 1:=rfl
  have k5:=qix (D:=D) (f:=ptB) (m:=smW) (by decide) ((beN n).drop 1) fun x hx=>by have:=(lenE hD x (hb.k x (hmb x hx)) (qb2 hw (hmb x hx))).2.1 (h7 x hx);omega
  have k6:(brB ((beN n).drop 1)).length≤(Lib.join (((beN n).drop 1).map ptB) smW).length + 4:=by
   unfold brB brW;split<;>simp
  have k7:szs n.kids = szs (ahN n) + (sz ((beN n).getD 0 N0) + szs ((beN n).drop 1)):=by
   have:=congrArg szs q
   rw [qd2,szs] at this
   exact this
  rw [szD,k7,Nat.add_mul,Nat.add_mul,hdT]
  simp only [List.length_append,List.length_cons,List.length_nil]
  omega
 rcases qkx h with ⟨h0,h1⟩ | ⟨h0,h1⟩ | ⟨h0,a1,h2,h3,h4,h5,h6⟩ | ⟨h0,a1,h2,h3,h5,h6,h7⟩ | ⟨h0,a1,h2,h3,h5,h6,h7⟩
 ·rw [qqg (.inl h0)];exact (lenE hD n hb hw).2.1 (.inl h1)
 ·rw [qqg (.inr h0)];exact (lenE hD n hb hw).2.1 (.inr h1)
 ·have hma:∀ x∈ahN n,x∈n.kids:=fun x hx=>List.mem_of_mem_take hx
  have hmb:∀ x∈beN n,x∈n.kids:=fun x hx=>List.mem_of_mem_drop hx
  have k1:=qse (l:=ahN n) (f:=ptT) fun x hx=>lenT hD x (hb.k x (hma x hx)) (qql (h5 x hx)).2
  have k2:=qix (D:=D) (f:=ptT) (m:=[32,124,32]) (by decide) (beN n) fun x hx=>by have:=lenC hD (hb.k x (hmb x hx)) (h6 x hx);omega
  have k3:szs n.kids = szs (ahN n) + szs (beN n):=by
   have:=congrArg szs h2
   rwa [qd2] at this
  have e:(ahN n).map atT = (ahN n).map fun x=>32 :: cloW (qba x) (ptT x):=rfl
  simp only [ptD,h0,Int.reduceEq,or_self,if_false,if_true]
  rw [szD,k3,Nat.add_mul,e]
  simp only [List.length_append,List.length_cons,List.length_nil]
  omega
 ·have:=hhead h2 h5 (qql h6).2 fun x hx=>.inr (h7 x hx)
  simp only [ptD,h0,Int.reduceEq,or_self,if_false,if_true,List.length_append,List.length_cons,List.length_nil]
  omega
 ·have:=hhead h2 h5 h6 fun x hx=>.inl (h7 x hx)
  simp only [ptD,h0,Int.reduceEq,or_self,if_false,if_true,List.length_append,List.length_cons,List.length_nil]
  omega
theorem lenG {n:N} (hb:TxB B n) (hw:(enc n).wf) (h:∀ x∈n.kids,deW x = true):(ptG n).length + 8≤sz n * D:=by
 have:=qix (D:=D) (f:=fun x=>ptD x ++ [59,10]) (m:=[]) (by decide) n.kids fun x hx=>by
  have:=lenD hD (hb.k x hx) (qb2 hw hx) (h x hx)
  simp only [List.length_append,List.length_cons,List.length_nil];omega
 rw [qfd] at this
 rw [szD]
 have e:ptG n = (n.kids.map fun x=>ptD x ++ [59,10]).flatten:=rfl
 rw [e];omega
end
end Go.Proofs.YtlmcofjcpadmiaaGreat
