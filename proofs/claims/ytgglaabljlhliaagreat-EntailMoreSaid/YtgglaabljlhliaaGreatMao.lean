/- Texts of this proof, joined. -/
import Derived.Test.YtgglaabljlhliaaGreatMam
import Derived.Test.YtgglaabljlhliaaGreatMak
set_option linter.unusedVariables false
set_option linter.unusedSimpArgs false

/- classes as data -/
namespace Go.V
open Go Go.RowKit

structure Cls where
 name:List UInt8
 sup:List (List UInt8)
 ms:List AV
 hb:AV.bds 0 ms = true
def encC (x:Cls):AV:=.agg [.str x.name,.sl 1 (x.sup.map AV.str),.sl 5 x.ms]
def qci (l:List Cls):List AV:=l.map encC
def C0:Cls:=⟨[],[],[],rfl⟩
abbrev cdc (x:Cls):List AV:=[.str x.name,.sl 1 (x.sup.map AV.str),.sl 5 x.ms]
theorem q0y {l:List AV} (h:AV.bds 0 l = true) (k:Nat):AV.bds k l = true:=qcj (Nat.zero_le k) _ h
theorem qu3 (k:Nat) (l:List (List UInt8)):AV.bds k (l.map AV.str) = true:=by rw [qb2,List.all_map,List.all_eq_true];exact fun x _=>rfl
theorem q2m (x:Cls):AV.agg [.str x.name,.sl 1 (x.sup.map AV.str),.sl 5 x.ms] = encC x:=rfl
theorem qyc (x:Cls):(encC x).cells = cdc x:=rfl
theorem qte (k:Nat) (x:Cls):(encC x).bd k = true:=by simp only [encC,AV.bd,AV.bds,qu3,q0y x.hb,Bool.and_true]
theorem qng (k:Nat) (l:List Cls):AV.bds k (qci l) = true:=by rw [qci,qb2,List.all_map,List.all_eq_true];exact fun x _=>qte k x
theorem q54 (σ:Nat->Nat) (x:Cls):(encC x).ren σ = encC x:=ren_same (m:=0) (fun i hi=>by omega) _ (qte 0 x)
theorem q0l (σ:Nat->Nat) (l:List Cls):AV.rens σ (qci l) = qci l:=qj (m:=0) (fun i hi=>by omega) _ (qng 0 l)
theorem qbo6 (H:List Ent) (x:Cls):co H (.agg [.id,.sl 1,.sl 5]) (encC x) = encC x:=by
 simp only [encC,qg4,qdk,qet,qka,qdo]
theorem q2o (x:Cls):rdCo (.agg [.id,.sl 1,.sl 5]) (encC x) = []:=by
 simp only [encC,qd5,qcm,qc7,qgt,qcn,List.append_nil]
theorem qbbg (x:Cls):(encC x).isAgg = true:=rfl
theorem qrn (x:Cls):(encC x).leaf = false:=rfl
theorem qpy (l:List Cls):(qci l).length = l.length:=by simp [qci]
theorem qdq {l:List Cls} {i:Nat} (h:i < l.length):(qci l).getD i .junk = encC (l.getD i C0):=by
 rw [qci,List.getD_eq_getElem?_getD,List.getElem?_map,List.getElem?_eq_getElem h,List.getD_eq_getElem?_getD,List.getElem?_eq_getElem h];rfl
theorem qjq {l:List Cls} {i:Nat} (h:i < l.length):l.getD i C0∈l:=by
 rw [List.getD_eq_getElem?_getD,List.getElem?_eq_getElem h];exact List.getElem_mem h
theorem q01 {l:List Cls} {i:Nat} (h:i < l.length):l.drop i = l.getD i C0 :: l.drop (i + 1):=by
 rw [List.drop_eq_getElem_cons h,List.getD_eq_getElem?_getD,List.getElem?_eq_getElem h];rfl
theorem q7p (b:Bool) (n off:Nat) (x:Cls):fldv b n off (encC x) = ldc b n off (cdc x):=rfl
theorem qbd9 {x:Cls} (h:(encC x).wf):x.name.length≤maxLen∧(AV.sl 1 (x.sup.map AV.str)).wf∧x.sup.length≤maxLen:=by
 obtain ⟨h1,h2,_⟩:=h
 exact ⟨h1,h2,by have:=h2.1;simpa using this⟩
theorem qga {l:List Cls} {n:Nat} (h:(AV.sl n (qci l)).wf):l.length≤maxLen∧∀ p∈l,(encC p).wf:=by
 refine ⟨by have:=h.1;rwa [qpy] at this,fun p hp=>(qn7 _).1 h.2 _ ?_⟩
 rw [qci];exact List.mem_map_of_mem hp
theorem qb4e (k:Nat) (x:Cls):AV.bds k x.ms = true:=q0y x.hb k
theorem qb0v (σ:Nat->Nat) (x:Cls):AV.rens σ x.ms = x.ms:=qj (m:=0) (fun i hi=>by omega) _ x.hb
attribute [go_sem] qb4e qb0v cdc q7p q2o qte qng q54 q0l qbo6 qbbg qyc q2m qrn qpy qu3
def atC (s:List UInt8):List Cls->Nat->Int
 | [],_=>-1
 | c :: r,i=>if c.name = s then (i:Int) else atC s r (i + 1)
theorem q60 {l:List Cls} {i:Nat} (h:i < l.length) (s:List UInt8):atC s (l.drop i) i = if (l.getD i C0).name = s then (i:Int) else atC s (l.drop (i + 1)) (i + 1):=by
 rw [q01 h,atC]
theorem qbdp {l:List Cls} {i:Nat} (h:l.length≤i) (s:List UInt8):atC s (l.drop i) i = -1:=by
 rw [List.drop_of_length_le h,atC]
theorem qbbp (s:List UInt8):∀ (l:List Cls) (i:Nat),atC s l i = -1∨∃ k:Nat,k < l.length∧atC s l i = (i + k:Nat)∧(l.getD k C0).name = s
 | [],i=>.inl rfl
 | c :: r, i => by
   rw [atC]
   by_cases h:c.name = s
   ·rw [if_pos h];exact .inr ⟨0,by simp,by simp,h⟩
   ·rw [if_neg h]
    rcases qbbp s r (i + 1) with h1 | ⟨k,h1,h2,h3⟩
    ·exact .inl h1
    ·exact .inr ⟨k + 1,by simp;omega,by rw [h2];omega,h3⟩
def knC (l:List Cls):List (List UInt8)->List (List UInt8)->Bool
 | _,[]=>true
 | pre,s :: r=>if atC s l 0 < 0 then false else if pre.contains s then false else knC l (pre ++ [s]) r
def edC (l:List Cls):List Cls->Nat->List (Int×Int)
 | [],_=>[]
 | c :: r,i=>c.sup.map (fun s=>((i:Int),atC s l 0)) ++ edC l r (i + 1)

structure Pr where
 v:Int
 ty:Ty
def encR (p:Pr):AV:=.agg [.int .i64 p.v,.str p.ty.con,.int .i64 p.ty.var,.sl 3 (qt p.ty.args)]
def qde (l:List Pr):List AV:=l.map encR
def R0:Pr:=⟨0,Y0⟩
abbrev prc (p:Pr):List AV:=[.int .i64 p.v,.str p.ty.con,.int .i64 p.ty.var,.sl 3 (qt p.ty.args)]
theorem q1x (p:Pr):AV.agg [.int .i64 p.v,.str p.ty.con,.int .i64 p.ty.var,.sl 3 (qt p.ty.args)] = encR p:=rfl
theorem qwx (p:Pr):(encR p).cells = prc p:=rfl
theorem qib (k:Nat) (p:Pr):(encR p).bd k = true:=by simp only [encR,AV.bd,AV.bds,qck,Bool.and_true]
theorem qek (k:Nat) (l:List Pr):AV.bds k (qde l) = true:=by rw [qde,qb2,List.all_map,List.all_eq_true];exact fun x _=>qib k x
theorem qo6 (σ:Nat->Nat) (p:Pr):(encR p).ren σ = encR p:=ren_same (m:=0) (fun i hi=>by omega) _ (qib 0 p)
theorem qku (σ:Nat->Nat) (l:List Pr):AV.rens σ (qde l) = qde l:=qj (m:=0) (fun i hi=>by omega) _ (qek 0 l)
theorem qbke (H:List Ent) (p:Pr):co H (.agg [.id,.id,.id,.sl 3]) (encR p) = encR p:=by
 simp only [encR,qg4,qdk,qet,qka,qdo]
theorem q27 (p:Pr):rdCo (.agg [.id,.id,.id,.sl 3]) (encR p) = []:=by
 simp only [encR,qd5,qcm,qc7,qgt,qcn,List.append_nil]
theorem q88 (p:Pr):(encR p).isAgg = true:=rfl
theorem qpn (p:Pr):(encR p).leaf = false:=rfl
theorem qgy (l:List Pr):(qde l).length = l.length:=by simp [qde]
theorem qf3 {l:List Pr} {i:Nat} (h:i < l.length):(qde l).getD i .junk = encR (l.getD i R0):=by
 rw [qde,List.getD_eq_getElem?_getD,List.getElem?_map,List.getElem?_eq_getElem h,List.getD_eq_getElem?_getD,List.getElem?_eq_getElem h];rfl
theorem qvp {l:List Pr} {i:Nat} (h:i < l.length):l.getD i R0∈l:=by
 rw [List.getD_eq_getElem?_getD,List.getElem?_eq_getElem h];exact List.getElem_mem h
theorem qxt (n:Nat) (l:List Pr):(qde l).take n = qde (l.take n):=by simp [qde]
theorem qya (n:Nat) (l:List Pr):(qde l).drop n = qde (l.drop n):=by simp [qde]
theorem q67 (b:Bool) (n off:Nat) (p:Pr):fldv b n off (encR p) = ldc b n off (prc p):=rfl
attribute [go_sem] prc q67 q27 qib qek qo6 qku qbke q88 qwx q1x qpn qgy qxt qya
end Go.V

/-
 Types: how great they are, their variables, whether two are the same; texts of numbers.
-/
namespace Go.V
open Go Go.RowKit

mutual
def szY:Ty->Nat
 | .mk _ _ l=>1 + szYs l
def szYs:List Ty->Nat
 | []=>0
 | x :: r=>szY x + szYs r
end
mutual
def dpY:Ty->Nat
 | .mk _ _ l=>1 + dpYs l
def dpYs:List Ty->Nat
 | []=>0
 | x :: r=>max (dpY x) (dpYs r)
end
mutual
def varY:Ty->List Int
 | .mk c v l=>(if c = [] then [v] else []) ++ q4r l
def q4r:List Ty->List Int
 | []=>[]
 | x :: r=>varY x ++ q4r r
end
theorem qhz (t:Ty):szY t = 1 + szYs t.args:=by cases t;rw [szY];rfl
theorem qpp (t:Ty):dpY t = 1 + dpYs t.args:=by cases t;rw [dpY];rfl
theorem qbc1 (t:Ty):1≤szY t:=by rw [qhz];omega
theorem qbqt (t:Ty):1≤dpY t:=by rw [qpp];omega

mutual
def qgg:Ty->Ty->Bool
 | .mk c v l,.mk c' v' l'=>decide (c = c') && decide (v = v') && qbr l l'
def qbr:List Ty->List Ty->Bool
 | [],[]=>true
 | x :: r,y :: r'=>qgg x y && qbr r r'
 | _,_=>false
end
theorem qf9 (a b:Ty):qgg a b = (decide (a.con = b.con) && decide (a.var = b.var) && qbr a.args b.args):=by cases a;cases b;rw [qgg];rfl
theorem qnb:∀ {l l':List Ty},l.length≠l'.length->qbr l l' = false
 | [],[],h=>absurd rfl h
 | [],y :: r',_=>by rw [qbr]<;>simp
 | x :: r,[],_=>by rw [qbr]<;>simp
 | x :: r,y :: r',h=>by rw [qbr,qnb (l:=r) (l':=r') (by simpa using h)];simp
theorem qer {l l':List Ty} {i:Nat} (h:i < l.length) (h':i < l'.length):qbr (l.drop i) (l'.drop i) = (qgg (l.getD i Y0) (l'.getD i Y0) && qbr (l.drop (i + 1)) (l'.drop (i + 1))):=by
 rw [qn9 h,qn9 h',qbr]
theorem qmc {l l':List Ty} {i:Nat} (h:l.length≤i) (h':l'.length≤i):qbr (l.drop i) (l'.drop i) = true:=by
 rw [List.drop_of_length_le h,List.drop_of_length_le h',qbr]
theorem qru {y:Ty} {r:List Ty}:qbr [] (y :: r) = false:=by rw [qbr]<;>simp
theorem qpr {y:Ty} {r:List Ty}:qbr (y :: r) [] = false:=by rw [qbr]<;>simp
theorem q2u {l:List Ty} (h:∀ x∈l,∀ b,qgg x b = true ↔ x = b):∀ l',qbr l l' = true ↔ l = l':=by
 induction l with
 | nil => intro l'; cases l' with
   | nil=>simp [qbr]
   | cons y r=>rw [qru];simp
 | cons x r ih => intro l'; cases l' with
   | nil=>rw [qpr];simp
   | cons y r' =>
     rw [qbr,Bool.and_eq_true,h x (by simp),ih (fun z hz=>h z (by simp [hz]))]
     simp
theorem ty_eq {a b:Ty}:a = b ↔ (a.con = b.con∧a.var = b.var)∧a.args = b.args:=by
 cases a;cases b;simp [Ty.con,Ty.var,Ty.args,and_assoc]
theorem qjx:∀ a b,qgg a b = true ↔ a = b:=Ty.ind fun a ih b=>by
 rw [qf9,Bool.and_eq_true,Bool.and_eq_true,q2u ih,ty_eq,decide_eq_true_eq,decide_eq_true_eq]
mutual
theorem q42:∀ t,(varY t).length≤szY t
 | .mk c v l => by
   rw [varY,szY,List.length_append]
   have:=qr4 l
   split<;>simp<;>omega
theorem qr4:∀ l,(q4r l).length≤szYs l
 | []=>by simp [q4r]
 | x :: r => by
   rw [q4r,szYs,List.length_append]
   have:=q42 x
   have:=qr4 r
   omega
end
theorem qjl:∀ l:List Ty,l.length≤szYs l
 | []=>by simp [szYs]
 | x :: r=>by rw [szYs,List.length_cons];have:=qbc1 x;have:=qjl r;omega
theorem qij {l:List Ty} {x:Ty} (h:x∈l):szY x≤szYs l:=by
 induction l with
 | nil=>cases h
 | cons y r ih =>
   rw [szYs]
   rcases List.mem_cons.1 h with rfl | h
   ·omega
   ·have:=ih h;omega
theorem qls {l:List Ty} {x:Ty} (h:x∈l):dpY x≤dpYs l:=by
 induction l with
 | nil=>cases h
 | cons y r ih =>
   rw [dpYs]
   rcases List.mem_cons.1 h with rfl | h
   ·omega
   ·have:=ih h;omega

def digN (u:Nat):List UInt8:=if h:u < 10 then [UInt8.ofNat (48 + u)] else digN (u / 10) ++ [UInt8.ofNat (48 + u % 10)]
termination_by u
decreasing_by omega
theorem qgr {u:Nat} (h:u < 10):digN u = [UInt8.ofNat (48 + u)]:=by rw [digN,dif_pos h]
theorem qs8 {u:Nat} (h:¬ u < 10):digN u = digN (u / 10) ++ [UInt8.ofNat (48 + u % 10)]:=by rw [digN,dif_neg h]
theorem qvn:∀ (k u:Nat),u < 10 ^ (k + 1)->(digN u).length≤k + 1
 | 0,u,h=>by rw [qgr (by simpa using h)];simp
 | k + 1, u, h => by
   by_cases h10:u < 10
   ·rw [qgr h10];simp
   ·rw [qs8 h10,List.length_append]
    have:=qvn k (u / 10) (by rw [Nat.div_lt_iff_lt_mul (by omega)];rw [Nat.pow_succ] at h;exact h)
    simp;exact this
theorem q8d (u:Nat):0 < (digN u).length:=by
 by_cases h:u < 10
 ·rw [qgr h];simp
 ·rw [qs8 h];simp
def digI (n:Int):List UInt8:=if n < 0 then 45 :: digN n.natAbs else digN n.natAbs
def ltrI (n:Int):List UInt8:=if n < 0 then [] else if n < 26 then [UInt8.ofNat (97 + n.toNat)] else UInt8.ofNat (97 + n.toNat % 26) :: digN (n.toNat / 26)
def qh9 (t:Ty):List UInt8:=if t.con = [] then (if 0≤t.var then ltrI t.var else 63 :: digI (-1 - t.var)) else t.con
def arrW:List UInt8:=[45,62]
def parW (b:Bool) (s:List UInt8):List UInt8:=if b = true then 40 :: (s ++ [41]) else s
mutual
def txtY:Ty->List UInt8
 | .mk c v l=>if c = arrW then (match l with | [a,b]=>parW (decide (a.con = arrW)) (txtY a) ++ ([32,45,62,32] ++ txtY b) | _=>[]) else qh9 (.mk c v l) ++ argY l
def argY:List Ty->List UInt8
 | []=>[]
 | a :: r=>(32 :: parW (decide (a.args≠[])) (txtY a)) ++ argY r
end
end Go.V
