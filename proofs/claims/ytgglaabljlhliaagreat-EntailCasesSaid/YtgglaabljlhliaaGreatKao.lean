/- Texts of this proof, joined. -/
import Derived.Test.YtgglaabljlhliaaGreatKam
import Derived.Test.YtgglaabljlhliaaGreatKak
set_option linter.unusedVariables false
set_option linter.unusedSimpArgs false

/- classes as data -/
namespace Go.V
open Go Go.RowKit

structure Cls where
 name:List UInt8
 sup:List (List UInt8)
 ms:List AV
 hb:AV.bds 0 ms = true
def encC (x:Cls):AV:=.agg [.str x.name,.sl 1 (x.sup.map AV.str),.sl 5 x.ms]
def qcj (l:List Cls):List AV:=l.map encC
def C0:Cls:=⟨[],[],[],rfl⟩
abbrev cdc (x:Cls):List AV:=[.str x.name,.sl 1 (x.sup.map AV.str),.sl 5 x.ms]
theorem q3n {l:List AV} (h:AV.bds 0 l = true) (k:Nat):AV.bds k l = true:=qck (Nat.zero_le k) _ h
theorem quq (k:Nat) (l:List (List UInt8)):AV.bds k (l.map AV.str) = true:=by rw [qb2,List.all_map,List.all_eq_true];exact fun x _=>rfl
theorem q2p (x:Cls):AV.agg [.str x.name,.sl 1 (x.sup.map AV.str),.sl 5 x.ms] = encC x:=rfl
theorem qxv (x:Cls):(encC x).cells = cdc x:=rfl
theorem qtm (k:Nat) (x:Cls):(encC x).bd k = true:=by simp only [encC,AV.bd,AV.bds,quq,q3n x.hb,Bool.and_true]
theorem qn6 (k:Nat) (l:List Cls):AV.bds k (qcj l) = true:=by rw [qcj,qb2,List.all_map,List.all_eq_true];exact fun x _=>qtm k x
theorem qbai (σ:Nat->Nat) (x:Cls):(encC x).ren σ = encC x:=ren_same (m:=0) (fun i hi=>by omega) _ (qtm 0 x)
theorem q1l (σ:Nat->Nat) (l:List Cls):AV.rens σ (qcj l) = qcj l:=qj (m:=0) (fun i hi=>by omega) _ (qn6 0 l)
theorem qbnb (H:List Ent) (x:Cls):co H (.agg [.id,.sl 1,.sl 5]) (encC x) = encC x:=by
 simp only [encC,qh7,qdo,qer,qlc,qds]
theorem qzz (x:Cls):rdCo (.agg [.id,.sl 1,.sl 5]) (encC x) = []:=by
 simp only [encC,qd7,qcm,qda,qgz,qco,List.append_nil]
theorem q85 (x:Cls):(encC x).isAgg = true:=rfl
theorem qrc (x:Cls):(encC x).leaf = false:=rfl
theorem qsb (l:List Cls):(qcj l).length = l.length:=by simp [qcj]
theorem qdu {l:List Cls} {i:Nat} (h:i < l.length):(qcj l).getD i .junk = encC (l.getD i C0):=by
 rw [qcj,List.getD_eq_getElem?_getD,List.getElem?_map,List.getElem?_eq_getElem h,List.getD_eq_getElem?_getD,List.getElem?_eq_getElem h];rfl
theorem qj3 {l:List Cls} {i:Nat} (h:i < l.length):l.getD i C0∈l:=by
 rw [List.getD_eq_getElem?_getD,List.getElem?_eq_getElem h];exact List.getElem_mem h
theorem q4b {l:List Cls} {i:Nat} (h:i < l.length):l.drop i = l.getD i C0 :: l.drop (i + 1):=by
 rw [List.drop_eq_getElem_cons h,List.getD_eq_getElem?_getD,List.getElem?_eq_getElem h];rfl
theorem q84 (b:Bool) (n off:Nat) (x:Cls):fldv b n off (encC x) = ldc b n off (cdc x):=rfl
theorem qbs7 {x:Cls} (h:(encC x).wf):x.name.length≤maxLen∧(AV.sl 1 (x.sup.map AV.str)).wf∧x.sup.length≤maxLen:=by
 obtain ⟨h1,h2,_⟩:=h
 exact ⟨h1,h2,by have:=h2.1;simpa using this⟩
theorem qgc {l:List Cls} {n:Nat} (h:(AV.sl n (qcj l)).wf):l.length≤maxLen∧∀ p∈l,(encC p).wf:=by
 refine ⟨by have:=h.1;rwa [qsb] at this,fun p hp=>(qo0 _).1 h.2 _ ?_⟩
 rw [qcj];exact List.mem_map_of_mem hp
theorem qb40 (k:Nat) (x:Cls):AV.bds k x.ms = true:=q3n x.hb k
theorem qb0t (σ:Nat->Nat) (x:Cls):AV.rens σ x.ms = x.ms:=qj (m:=0) (fun i hi=>by omega) _ x.hb
attribute [go_sem] qb40 qb0t cdc q84 qzz qtm qn6 qbai q1l qbnb q85 qxv q2p qrc qsb quq
def atC (s:List UInt8):List Cls->Nat->Int
 | [],_=>-1
 | c :: r,i=>if c.name = s then (i:Int) else atC s r (i + 1)
theorem q88 {l:List Cls} {i:Nat} (h:i < l.length) (s:List UInt8):atC s (l.drop i) i = if (l.getD i C0).name = s then (i:Int) else atC s (l.drop (i + 1)) (i + 1):=by
 rw [q4b h,atC]
theorem qbqq {l:List Cls} {i:Nat} (h:l.length≤i) (s:List UInt8):atC s (l.drop i) i = -1:=by
 rw [List.drop_of_length_le h,atC]
theorem qbcd (s:List UInt8):∀ (l:List Cls) (i:Nat),atC s l i = -1∨∃ k:Nat,k < l.length∧atC s l i = (i + k:Nat)∧(l.getD k C0).name = s
 | [],i=>.inl rfl
 | c :: r, i => by
   rw [atC]
   by_cases h:c.name = s
   ·rw [if_pos h];exact .inr ⟨0,by simp,by simp,h⟩
   ·rw [if_neg h]
    rcases qbcd s r (i + 1) with h1 | ⟨k,h1,h2,h3⟩
    ·exact .inl h1
    ·exact .inr ⟨k + 1,by simp;omega,by rw [h2];omega,h3⟩
def knC (l:List Cls):List (List UInt8)->List (List UInt8)->Bool
 | _,[]=>true
 | pre,s :: r=>if atC s l 0 < 0 then false else if pre.contains s then false else knC l (pre ++ [s]) r
def edC (l:List Cls):List Cls->Nat->List (Int×Int)
 | [],_=>[]
 | c :: r,i=>c.sup.map (fun s=>((i:Int),atC s l 0)) ++ edC l r (i + 1)

structure Pr where
 v:Int
 ty:Ty
def encR (p:Pr):AV:=.agg [.int .i64 p.v,.str p.ty.con,.int .i64 p.ty.var,.sl 3 (qq p.ty.args)]
def qdb (l:List Pr):List AV:=l.map encR
def R0:Pr:=⟨0,Y0⟩
abbrev prc (p:Pr):List AV:=[.int .i64 p.v,.str p.ty.con,.int .i64 p.ty.var,.sl 3 (qq p.ty.args)]
theorem q18 (p:Pr):AV.agg [.int .i64 p.v,.str p.ty.con,.int .i64 p.ty.var,.sl 3 (qq p.ty.args)] = encR p:=rfl
theorem qxp (p:Pr):(encR p).cells = prc p:=rfl
theorem qij (k:Nat) (p:Pr):(encR p).bd k = true:=by simp only [encR,AV.bd,AV.bds,qb8,Bool.and_true]
theorem qeu (k:Nat) (l:List Pr):AV.bds k (qdb l) = true:=by rw [qdb,qb2,List.all_map,List.all_eq_true];exact fun x _=>qij k x
theorem qot (σ:Nat->Nat) (p:Pr):(encR p).ren σ = encR p:=ren_same (m:=0) (fun i hi=>by omega) _ (qij 0 p)
theorem qkp (σ:Nat->Nat) (l:List Pr):AV.rens σ (qdb l) = qdb l:=qj (m:=0) (fun i hi=>by omega) _ (qeu 0 l)
theorem qbh5 (H:List Ent) (p:Pr):co H (.agg [.id,.id,.id,.sl 3]) (encR p) = encR p:=by
 simp only [encR,qh7,qdo,qer,qlc,qds]
theorem q00 (p:Pr):rdCo (.agg [.id,.id,.id,.sl 3]) (encR p) = []:=by
 simp only [encR,qd7,qcm,qda,qgz,qco,List.append_nil]
theorem q9s (p:Pr):(encR p).isAgg = true:=rfl
theorem qqz (p:Pr):(encR p).leaf = false:=rfl
theorem qhh (l:List Pr):(qdb l).length = l.length:=by simp [qdb]
theorem qgd {l:List Pr} {i:Nat} (h:i < l.length):(qdb l).getD i .junk = encR (l.getD i R0):=by
 rw [qdb,List.getD_eq_getElem?_getD,List.getElem?_map,List.getElem?_eq_getElem h,List.getD_eq_getElem?_getD,List.getElem?_eq_getElem h];rfl
theorem quv {l:List Pr} {i:Nat} (h:i < l.length):l.getD i R0∈l:=by
 rw [List.getD_eq_getElem?_getD,List.getElem?_eq_getElem h];exact List.getElem_mem h
theorem qxx (n:Nat) (l:List Pr):(qdb l).take n = qdb (l.take n):=by simp [qdb]
theorem qwv (n:Nat) (l:List Pr):(qdb l).drop n = qdb (l.drop n):=by simp [qdb]
theorem qbbf (b:Bool) (n off:Nat) (p:Pr):fldv b n off (encR p) = ldc b n off (prc p):=rfl
attribute [go_sem] prc qbbf q00 qij qeu qot qkp qbh5 q9s qxp q18 qqz qhh qxx qwv
end Go.V

/-
 Types: how great they are, their variables, whether two are the same; texts of numbers.
-/
namespace Go.V
open Go Go.RowKit

mutual
def szY:Ty->Nat
 | .mk _ _ l=>1 + szYs l
def szYs:List Ty->Nat
 | []=>0
 | x :: r=>szY x + szYs r
end
mutual
def dpY:Ty->Nat
 | .mk _ _ l=>1 + dpYs l
def dpYs:List Ty->Nat
 | []=>0
 | x :: r=>max (dpY x) (dpYs r)
end
mutual
def varY:Ty->List Int
 | .mk c v l=>(if c = [] then [v] else []) ++ q19 l
def q19:List Ty->List Int
 | []=>[]
 | x :: r=>varY x ++ q19 r
end
theorem qfh (t:Ty):szY t = 1 + szYs t.args:=by cases t;rw [szY];rfl
theorem qnf (t:Ty):dpY t = 1 + dpYs t.args:=by cases t;rw [dpY];rfl
theorem q39 (t:Ty):1≤szY t:=by rw [qfh];omega
theorem qblw (t:Ty):1≤dpY t:=by rw [qnf];omega

mutual
def qgj:Ty->Ty->Bool
 | .mk c v l,.mk c' v' l'=>decide (c = c') && decide (v = v') && qbw l l'
def qbw:List Ty->List Ty->Bool
 | [],[]=>true
 | x :: r,y :: r'=>qgj x y && qbw r r'
 | _,_=>false
end
theorem qgh (a b:Ty):qgj a b = (decide (a.con = b.con) && decide (a.var = b.var) && qbw a.args b.args):=by cases a;cases b;rw [qgj];rfl
theorem qnb:∀ {l l':List Ty},l.length≠l'.length->qbw l l' = false
 | [],[],h=>absurd rfl h
 | [],y :: r',_=>by rw [qbw]<;>simp
 | x :: r,[],_=>by rw [qbw]<;>simp
 | x :: r,y :: r',h=>by rw [qbw,qnb (l:=r) (l':=r') (by simpa using h)];simp
theorem qev {l l':List Ty} {i:Nat} (h:i < l.length) (h':i < l'.length):qbw (l.drop i) (l'.drop i) = (qgj (l.getD i Y0) (l'.getD i Y0) && qbw (l.drop (i + 1)) (l'.drop (i + 1))):=by
 rw [qnr h,qnr h',qbw]
theorem qmd {l l':List Ty} {i:Nat} (h:l.length≤i) (h':l'.length≤i):qbw (l.drop i) (l'.drop i) = true:=by
 rw [List.drop_of_length_le h,List.drop_of_length_le h',qbw]
theorem qrd {y:Ty} {r:List Ty}:qbw [] (y :: r) = false:=by rw [qbw]<;>simp
theorem qp8 {y:Ty} {r:List Ty}:qbw (y :: r) [] = false:=by rw [qbw]<;>simp
theorem qy4 {l:List Ty} (h:∀ x∈l,∀ b,qgj x b = true ↔ x = b):∀ l',qbw l l' = true ↔ l = l':=by
 induction l with
 | nil => intro l'; cases l' with
   | nil=>simp [qbw]
   | cons y r=>rw [qrd];simp
 | cons x r ih => intro l'; cases l' with
   | nil=>rw [qp8];simp
   | cons y r' =>
     rw [qbw,Bool.and_eq_true,h x (by simp),ih (fun z hz=>h z (by simp [hz]))]
     simp
theorem ty_eq {a b:Ty}:a = b ↔ (a.con = b.con∧a.var = b.var)∧a.args = b.args:=by
 cases a;cases b;simp [Ty.con,Ty.var,Ty.args,and_assoc]
theorem qj2:∀ a b,qgj a b = true ↔ a = b:=Ty.ind fun a ih b=>by
 rw [qgh,Bool.and_eq_true,Bool.and_eq_true,qy4 ih,ty_eq,decide_eq_true_eq,decide_eq_true_eq]
mutual
theorem q9o:∀ t,(varY t).length≤szY t
 | .mk c v l => by
   rw [varY,szY,List.length_append]
   have:=qqc l
   split<;>simp<;>omega
theorem qqc:∀ l,(q19 l).length≤szYs l
 | []=>by simp [q19]
 | x :: r => by
   rw [q19,szYs,List.length_append]
   have:=q9o x
   have:=qqc r
   omega
end
theorem qhx:∀ l:List Ty,l.length≤szYs l
 | []=>by simp [szYs]
 | x :: r=>by rw [szYs,List.length_cons];have:=q39 x;have:=qhx r;omega
theorem qgt {l:List Ty} {x:Ty} (h:x∈l):szY x≤szYs l:=by
 induction l with
 | nil=>cases h
 | cons y r ih =>
   rw [szYs]
   rcases List.mem_cons.1 h with rfl | h
   ·omega
   ·have:=ih h;omega
theorem qkh {l:List Ty} {x:Ty} (h:x∈l):dpY x≤dpYs l:=by
 induction l with
 | nil=>cases h
 | cons y r ih =>
   rw [dpYs]
   rcases List.mem_cons.1 h with rfl | h
   ·omega
   ·have:=ih h;omega

def digN (u:Nat):List UInt8:=if h:u < 10 then [UInt8.ofNat (48 + u)] else digN (u / 10) ++ [UInt8.ofNat (48 + u % 10)]
termination_by u
decreasing_by omega
theorem qgu {u:Nat} (h:u < 10):digN u = [UInt8.ofNat (48 + u)]:=by rw [digN,dif_pos h]
theorem qt5 {u:Nat} (h:¬ u < 10):digN u = digN (u / 10) ++ [UInt8.ofNat (48 + u % 10)]:=by rw [digN,dif_neg h]
theorem qus:∀ (k u:Nat),u < 10 ^ (k + 1)->(digN u).length≤k + 1
 | 0,u,h=>by rw [qgu (by simpa using h)];simp
 | k + 1, u, h => by
   by_cases h10:u < 10
   ·rw [qgu h10];simp
   ·rw [qt5 h10,List.length_append]
    have:=qus k (u / 10) (by rw [Nat.div_lt_iff_lt_mul (by omega)];rw [Nat.pow_succ] at h;exact h)
    simp;exact this
theorem q9j (u:Nat):0 < (digN u).length:=by
 by_cases h:u < 10
 ·rw [qgu h];simp
 ·rw [qt5 h];simp
def digI (n:Int):List UInt8:=if n < 0 then 45 :: digN n.natAbs else digN n.natAbs
def ltrI (n:Int):List UInt8:=if n < 0 then [] else if n < 26 then [UInt8.ofNat (97 + n.toNat)] else UInt8.ofNat (97 + n.toNat % 26) :: digN (n.toNat / 26)
def qih (t:Ty):List UInt8:=if t.con = [] then (if 0≤t.var then ltrI t.var else 63 :: digI (-1 - t.var)) else t.con
def arrW:List UInt8:=[45,62]
def parW (b:Bool) (s:List UInt8):List UInt8:=if b = true then 40 :: (s ++ [41]) else s
mutual
def txtY:Ty->List UInt8
 | .mk c v l=>if c = arrW then (match l with | [a,b]=>parW (decide (a.con = arrW)) (txtY a) ++ ([32,45,62,32] ++ txtY b) | _=>[]) else qih (.mk c v l) ++ argY l
def argY:List Ty->List UInt8
 | []=>[]
 | a :: r=>(32 :: parW (decide (a.args≠[])) (txtY a)) ++ argY r
end
end Go.V
