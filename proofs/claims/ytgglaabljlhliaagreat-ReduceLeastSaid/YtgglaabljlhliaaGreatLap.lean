/- Texts of this proof, joined. -/
import Derived.Test.YtgglaabljlhliaaGreatLan
import Derived.Test.YtgglaabljlhliaaGreatLal
set_option linter.unusedVariables false
set_option linter.unusedSimpArgs false

/- classes as data -/
namespace Go.V
open Go Go.RowKit

structure Cls where
 name:List UInt8
 sup:List (List UInt8)
 ms:List AV
 hb:AV.bds 0 ms = true
def encC (x:Cls):AV:=.agg [.str x.name,.sl 1 (x.sup.map AV.str),.sl 5 x.ms]
def qbs (l:List Cls):List AV:=l.map encC
def C0:Cls:=⟨[],[],[],rfl⟩
abbrev cdc (x:Cls):List AV:=[.str x.name,.sl 1 (x.sup.map AV.str),.sl 5 x.ms]
theorem q0t {l:List AV} (h:AV.bds 0 l = true) (k:Nat):AV.bds k l = true:=qcs (Nat.zero_le k) _ h
theorem qxa (k:Nat) (l:List (List UInt8)):AV.bds k (l.map AV.str) = true:=by rw [qb9,List.all_map,List.all_eq_true];exact fun x _=>rfl
theorem q3w (x:Cls):AV.agg [.str x.name,.sl 1 (x.sup.map AV.str),.sl 5 x.ms] = encC x:=rfl
theorem qz3 (x:Cls):(encC x).cells = cdc x:=rfl
theorem qtb (k:Nat) (x:Cls):(encC x).bd k = true:=by simp only [encC,AV.bd,AV.bds,qxa,q0t x.hb,Bool.and_true]
theorem qgx (k:Nat) (l:List Cls):AV.bds k (qbs l) = true:=by rw [qbs,qb9,List.all_map,List.all_eq_true];exact fun x _=>qtb k x
theorem q80 (σ:Nat->Nat) (x:Cls):(encC x).ren σ = encC x:=ren_same (m:=0) (fun i hi=>by omega) _ (qtb 0 x)
theorem qc5 (σ:Nat->Nat) (l:List Cls):AV.rens σ (qbs l) = qbs l:=ql (m:=0) (fun i hi=>by omega) _ (qgx 0 l)
theorem qbpk (H:List Ent) (x:Cls):co H (.agg [.id,.sl 1,.sl 5]) (encC x) = encC x:=by
 simp only [encC,qh9,qdz,qfh,ql2,qd1]
theorem q1n (x:Cls):rdCo (.agg [.id,.sl 1,.sl 5]) (encC x) = []:=by
 simp only [encC,qek,qcx,qdn,qhf,qcw,List.append_nil]
theorem qba9 (x:Cls):(encC x).isAgg = true:=rfl
theorem qp4 (x:Cls):(encC x).leaf = false:=rfl
theorem qrr (l:List Cls):(qbs l).length = l.length:=by simp [qbs]
theorem qd7 {l:List Cls} {i:Nat} (h:i < l.length):(qbs l).getD i .junk = encC (l.getD i C0):=by
 rw [qbs,List.getD_eq_getElem?_getD,List.getElem?_map,List.getElem?_eq_getElem h,List.getD_eq_getElem?_getD,List.getElem?_eq_getElem h];rfl
theorem qj2 {l:List Cls} {i:Nat} (h:i < l.length):l.getD i C0∈l:=by
 rw [List.getD_eq_getElem?_getD,List.getElem?_eq_getElem h];exact List.getElem_mem h
theorem q2s {l:List Cls} {i:Nat} (h:i < l.length):l.drop i = l.getD i C0 :: l.drop (i + 1):=by
 rw [List.drop_eq_getElem_cons h,List.getD_eq_getElem?_getD,List.getElem?_eq_getElem h];rfl
theorem qbak (b:Bool) (n off:Nat) (x:Cls):fldv b n off (encC x) = ldc b n off (cdc x):=rfl
theorem qbtn {x:Cls} (h:(encC x).wf):x.name.length≤maxLen∧(AV.sl 1 (x.sup.map AV.str)).wf∧x.sup.length≤maxLen:=by
 obtain ⟨h1,h2,_⟩:=h
 exact ⟨h1,h2,by have:=h2.1;simpa using this⟩
theorem qgu {l:List Cls} {n:Nat} (h:(AV.sl n (qbs l)).wf):l.length≤maxLen∧∀ p∈l,(encC p).wf:=by
 refine ⟨by have:=h.1;rwa [qrr] at this,fun p hp=>(qou _).1 h.2 _ ?_⟩
 rw [qbs];exact List.mem_map_of_mem hp
theorem qb7f (k:Nat) (x:Cls):AV.bds k x.ms = true:=q0t x.hb k
theorem qb6b (σ:Nat->Nat) (x:Cls):AV.rens σ x.ms = x.ms:=ql (m:=0) (fun i hi=>by omega) _ x.hb
attribute [go_sem] qb7f qb6b cdc qbak q1n qtb qgx q80 qc5 qbpk qba9 qz3 q3w qp4 qrr qxa
def atC (s:List UInt8):List Cls->Nat->Int
 | [],_=>-1
 | c :: r,i=>if c.name = s then (i:Int) else atC s r (i + 1)
theorem q9e {l:List Cls} {i:Nat} (h:i < l.length) (s:List UInt8):atC s (l.drop i) i = if (l.getD i C0).name = s then (i:Int) else atC s (l.drop (i + 1)) (i + 1):=by
 rw [q2s h,atC]
theorem qbkp {l:List Cls} {i:Nat} (h:l.length≤i) (s:List UInt8):atC s (l.drop i) i = -1:=by
 rw [List.drop_of_length_le h,atC]
theorem qbdx (s:List UInt8):∀ (l:List Cls) (i:Nat),atC s l i = -1∨∃ k:Nat,k < l.length∧atC s l i = (i + k:Nat)∧(l.getD k C0).name = s
 | [],i=>.inl rfl
 | c :: r, i => by
   rw [atC]
   by_cases h:c.name = s
   ·rw [if_pos h];exact .inr ⟨0,by simp,by simp,h⟩
   ·rw [if_neg h]
    rcases qbdx s r (i + 1) with h1 | ⟨k,h1,h2,h3⟩
    ·exact .inl h1
    ·exact .inr ⟨k + 1,by simp;omega,by rw [h2];omega,h3⟩
def knC (l:List Cls):List (List UInt8)->List (List UInt8)->Bool
 | _,[]=>true
 | pre,s :: r=>if atC s l 0 < 0 then false else if pre.contains s then false else knC l (pre ++ [s]) r
def edC (l:List Cls):List Cls->Nat->List (Int×Int)
 | [],_=>[]
 | c :: r,i=>c.sup.map (fun s=>((i:Int),atC s l 0)) ++ edC l r (i + 1)

structure Pr where
 v:Int
 ty:Ty
def encR (p:Pr):AV:=.agg [.int .i64 p.v,.str p.ty.con,.int .i64 p.ty.var,.sl 3 (qx p.ty.args)]
def qdi (l:List Pr):List AV:=l.map encR
def R0:Pr:=⟨0,Y0⟩
abbrev prc (p:Pr):List AV:=[.int .i64 p.v,.str p.ty.con,.int .i64 p.ty.var,.sl 3 (qx p.ty.args)]
theorem q45 (p:Pr):AV.agg [.int .i64 p.v,.str p.ty.con,.int .i64 p.ty.var,.sl 3 (qx p.ty.args)] = encR p:=rfl
theorem q0c (p:Pr):(encR p).cells = prc p:=rfl
theorem qjd (k:Nat) (p:Pr):(encR p).bd k = true:=by simp only [encR,AV.bd,AV.bds,qcm,Bool.and_true]
theorem qfe (k:Nat) (l:List Pr):AV.bds k (qdi l) = true:=by rw [qdi,qb9,List.all_map,List.all_eq_true];exact fun x _=>qjd k x
theorem qpn (σ:Nat->Nat) (p:Pr):(encR p).ren σ = encR p:=ren_same (m:=0) (fun i hi=>by omega) _ (qjd 0 p)
theorem qlh (σ:Nat->Nat) (l:List Pr):AV.rens σ (qdi l) = qdi l:=ql (m:=0) (fun i hi=>by omega) _ (qfe 0 l)
theorem qbof (H:List Ent) (p:Pr):co H (.agg [.id,.id,.id,.sl 3]) (encR p) = encR p:=by
 simp only [encR,qh9,qdz,qfh,ql2,qd1]
theorem q5u (p:Pr):rdCo (.agg [.id,.id,.id,.sl 3]) (encR p) = []:=by
 simp only [encR,qek,qcx,qdn,qhf,qcw,List.append_nil]
theorem qba6 (p:Pr):(encR p).isAgg = true:=rfl
theorem qqv (p:Pr):(encR p).leaf = false:=rfl
theorem qhr (l:List Pr):(qdi l).length = l.length:=by simp [qdi]
theorem qgt {l:List Pr} {i:Nat} (h:i < l.length):(qdi l).getD i .junk = encR (l.getD i R0):=by
 rw [qdi,List.getD_eq_getElem?_getD,List.getElem?_map,List.getElem?_eq_getElem h,List.getD_eq_getElem?_getD,List.getElem?_eq_getElem h];rfl
theorem qve {l:List Pr} {i:Nat} (h:i < l.length):l.getD i R0∈l:=by
 rw [List.getD_eq_getElem?_getD,List.getElem?_eq_getElem h];exact List.getElem_mem h
theorem qzl (n:Nat) (l:List Pr):(qdi l).take n = qdi (l.take n):=by simp [qdi]
theorem qza (n:Nat) (l:List Pr):(qdi l).drop n = qdi (l.drop n):=by simp [qdi]
theorem qbcs (b:Bool) (n off:Nat) (p:Pr):fldv b n off (encR p) = ldc b n off (prc p):=rfl
attribute [go_sem] prc qbcs q5u qjd qfe qpn qlh qbof qba6 q0c q45 qqv qhr qzl qza
end Go.V

/-
 Types: how great they are, their variables, whether two are the same; texts of numbers.
-/
namespace Go.V
open Go Go.RowKit

mutual
def szY:Ty->Nat
 | .mk _ _ l=>1 + szYs l
def szYs:List Ty->Nat
 | []=>0
 | x :: r=>szY x + szYs r
end
mutual
def dpY:Ty->Nat
 | .mk _ _ l=>1 + dpYs l
def dpYs:List Ty->Nat
 | []=>0
 | x :: r=>max (dpY x) (dpYs r)
end
mutual
def varY:Ty->List Int
 | .mk c v l=>(if c = [] then [v] else []) ++ q5l l
def q5l:List Ty->List Int
 | []=>[]
 | x :: r=>varY x ++ q5l r
end
theorem qin (t:Ty):szY t = 1 + szYs t.args:=by cases t;rw [szY];rfl
theorem qsj (t:Ty):dpY t = 1 + dpYs t.args:=by cases t;rw [dpY];rfl
theorem qbqq (t:Ty):1≤szY t:=by rw [qin];omega
theorem qbfi (t:Ty):1≤dpY t:=by rw [qsj];omega

mutual
def qe8:Ty->Ty->Bool
 | .mk c v l,.mk c' v' l'=>decide (c = c') && decide (v = v') && qbx l l'
def qbx:List Ty->List Ty->Bool
 | [],[]=>true
 | x :: r,y :: r'=>qe8 x y && qbx r r'
 | _,_=>false
end
theorem qgz (a b:Ty):qe8 a b = (decide (a.con = b.con) && decide (a.var = b.var) && qbx a.args b.args):=by cases a;cases b;rw [qe8];rfl
theorem qmu:∀ {l l':List Ty},l.length≠l'.length->qbx l l' = false
 | [],[],h=>absurd rfl h
 | [],y :: r',_=>by rw [qbx]<;>simp
 | x :: r,[],_=>by rw [qbx]<;>simp
 | x :: r,y :: r',h=>by rw [qbx,qmu (l:=r) (l':=r') (by simpa using h)];simp
theorem qfc {l l':List Ty} {i:Nat} (h:i < l.length) (h':i < l'.length):qbx (l.drop i) (l'.drop i) = (qe8 (l.getD i Y0) (l'.getD i Y0) && qbx (l.drop (i + 1)) (l'.drop (i + 1))):=by
 rw [qqy h,qqy h',qbx]
theorem qnz {l l':List Ty} {i:Nat} (h:l.length≤i) (h':l'.length≤i):qbx (l.drop i) (l'.drop i) = true:=by
 rw [List.drop_of_length_le h,List.drop_of_length_le h',qbx]
theorem qrv {y:Ty} {r:List Ty}:qbx [] (y :: r) = false:=by rw [qbx]<;>simp
theorem qp9 {y:Ty} {r:List Ty}:qbx (y :: r) [] = false:=by rw [qbx]<;>simp
theorem q06 {l:List Ty} (h:∀ x∈l,∀ b,qe8 x b = true ↔ x = b):∀ l',qbx l l' = true ↔ l = l':=by
 induction l with
 | nil => intro l'; cases l' with
   | nil=>simp [qbx]
   | cons y r=>rw [qrv];simp
 | cons x r ih => intro l'; cases l' with
   | nil=>rw [qp9];simp
   | cons y r' =>
     rw [qbx,Bool.and_eq_true,h x (by simp),ih (fun z hz=>h z (by simp [hz]))]
     simp
theorem ty_eq {a b:Ty}:a = b ↔ (a.con = b.con∧a.var = b.var)∧a.args = b.args:=by
 cases a;cases b;simp [Ty.con,Ty.var,Ty.args,and_assoc]
theorem qh6:∀ a b,qe8 a b = true ↔ a = b:=Ty.ind fun a ih b=>by
 rw [qgz,Bool.and_eq_true,Bool.and_eq_true,q06 ih,ty_eq,decide_eq_true_eq,decide_eq_true_eq]
mutual
theorem q7y:∀ t,(varY t).length≤szY t
 | .mk c v l => by
   rw [varY,szY,List.length_append]
   have:=qr0 l
   split<;>simp<;>omega
theorem qr0:∀ l,(q5l l).length≤szYs l
 | []=>by simp [q5l]
 | x :: r => by
   rw [q5l,szYs,List.length_append]
   have:=q7y x
   have:=qr0 r
   omega
end
theorem qkb:∀ l:List Ty,l.length≤szYs l
 | []=>by simp [szYs]
 | x :: r=>by rw [szYs,List.length_cons];have:=qbqq x;have:=qkb r;omega
theorem qiv {l:List Ty} {x:Ty} (h:x∈l):szY x≤szYs l:=by
 induction l with
 | nil=>cases h
 | cons y r ih =>
   rw [szYs]
   rcases List.mem_cons.1 h with rfl | h
   ·omega
   ·have:=ih h;omega
theorem qkh {l:List Ty} {x:Ty} (h:x∈l):dpY x≤dpYs l:=by
 induction l with
 | nil=>cases h
 | cons y r ih =>
   rw [dpYs]
   rcases List.mem_cons.1 h with rfl | h
   ·omega
   ·have:=ih h;omega

def digN (u:Nat):List UInt8:=if h:u < 10 then [UInt8.ofNat (48 + u)] else digN (u / 10) ++ [UInt8.ofNat (48 + u % 10)]
termination_by u
decreasing_by omega
theorem qhc {u:Nat} (h:u < 10):digN u = [UInt8.ofNat (48 + u)]:=by rw [digN,dif_pos h]
theorem qto {u:Nat} (h:¬ u < 10):digN u = digN (u / 10) ++ [UInt8.ofNat (48 + u % 10)]:=by rw [digN,dif_neg h]
theorem qws:∀ (k u:Nat),u < 10 ^ (k + 1)->(digN u).length≤k + 1
 | 0,u,h=>by rw [qhc (by simpa using h)];simp
 | k + 1, u, h => by
   by_cases h10:u < 10
   ·rw [qhc h10];simp
   ·rw [qto h10,List.length_append]
    have:=qws k (u / 10) (by rw [Nat.div_lt_iff_lt_mul (by omega)];rw [Nat.pow_succ] at h;exact h)
    simp;exact this
theorem qbba (u:Nat):0 < (digN u).length:=by
 by_cases h:u < 10
 ·rw [qhc h];simp
 ·rw [qto h];simp
def digI (n:Int):List UInt8:=if n < 0 then 45 :: digN n.natAbs else digN n.natAbs
def ltrI (n:Int):List UInt8:=if n < 0 then [] else if n < 26 then [UInt8.ofNat (97 + n.toNat)] else UInt8.ofNat (97 + n.toNat % 26) :: digN (n.toNat / 26)
def qir (t:Ty):List UInt8:=if t.con = [] then (if 0≤t.var then ltrI t.var else 63 :: digI (-1 - t.var)) else t.con
def arrW:List UInt8:=[45,62]
def parW (b:Bool) (s:List UInt8):List UInt8:=if b = true then 40 :: (s ++ [41]) else s
mutual
def txtY:Ty->List UInt8
 | .mk c v l=>if c = arrW then (match l with | [a,b]=>parW (decide (a.con = arrW)) (txtY a) ++ ([32,45,62,32] ++ txtY b) | _=>[]) else qir (.mk c v l) ++ argY l
def argY:List Ty->List UInt8
 | []=>[]
 | a :: r=>(32 :: parW (decide (a.args≠[])) (txtY a)) ++ argY r
end
end Go.V
