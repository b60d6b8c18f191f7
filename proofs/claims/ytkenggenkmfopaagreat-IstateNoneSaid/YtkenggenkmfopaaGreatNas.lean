/- Texts of this proof, joined. -/
import Derived.Test.YtkenggenkmfopaaGreatNal
import Derived.Test.YtkenggenkmfopaaGreatNao
set_option linter.unusedVariables false
set_option linter.unusedSimpArgs false

/- pairs of a variable and a type, as data -/
namespace Go.V
open Go Go.RowKit

structure Pr where
 v:Int
 ty:Ty
def encR (p:Pr):AV:=.agg [.int .i64 p.v,.str p.ty.con,.int .i64 p.ty.var,.sl 3 (qj p.ty.args)]
def qbq (l:List Pr):List AV:=l.map encR
def R0:Pr:=⟨0,Y0⟩
abbrev prc (p:Pr):List AV:=[.int .i64 p.v,.str p.ty.con,.int .i64 p.ty.var,.sl 3 (qj p.ty.args)]
theorem qx1 (p:Pr):AV.agg [.int .i64 p.v,.str p.ty.con,.int .i64 p.ty.var,.sl 3 (qj p.ty.args)] = encR p:=rfl
theorem qv7 (p:Pr):(encR p).cells = prc p:=rfl
theorem qhs (k:Nat) (p:Pr):(encR p).bd k = true:=by simp only [encR,AV.bd,AV.bds,qbn,Bool.and_true]
theorem qda (k:Nat) (l:List Pr):AV.bds k (qbq l) = true:=by rw [qbq,qcn,List.all_map,List.all_eq_true];exact fun x _=>qhs k x
theorem qm7 (σ:Nat->Nat) (p:Pr):(encR p).ren σ = encR p:=ren_same (m:=0) (fun i hi=>by omega) _ (qhs 0 p)
theorem qjo (σ:Nat->Nat) (l:List Pr):AV.rens σ (qbq l) = qbq l:=ql (m:=0) (fun i hi=>by omega) _ (qda 0 l)
theorem qbg2 (H:List Ent) (p:Pr):co H (.agg [.id,.id,.id,.sl 3]) (encR p) = encR p:=by
 simp only [encR,qkn,qet,qge,qpr,qeg]
theorem qyn (p:Pr):rdCo (.agg [.id,.id,.id,.sl 3]) (encR p) = []:=by
 simp only [encR,qeq,qct,qds,qgb,qcu,List.append_nil]
theorem q1n (p:Pr):(encR p).isAgg = true:=rfl
theorem qot (p:Pr):(encR p).leaf = false:=rfl
theorem qd4 (l:List Pr):(qbq l).length = l.length:=by simp [qbq]
theorem qb3 {l:List Pr} {i:Nat} (h:i < l.length):(qbq l).getD i .junk = encR (l.getD i R0):=by
 rw [qbq,List.getD_eq_getElem?_getD,List.getElem?_map,List.getElem?_eq_getElem h,List.getD_eq_getElem?_getD,List.getElem?_eq_getElem h];rfl
theorem qfz {l:List Pr} {i:Nat} (h:i < l.length):l.getD i R0∈l:=by
 rw [List.getD_eq_getElem?_getD,List.getElem?_eq_getElem h];exact List.getElem_mem h
theorem qbzv {l:List Pr} {i:Nat} (h:i < l.length):l.drop i = l.getD i R0 :: l.drop (i + 1):=by
 rw [List.drop_eq_getElem_cons h,List.getD_eq_getElem?_getD,List.getElem?_eq_getElem h];rfl
theorem qwd (l:List Pr) (p:Pr):qbq l ++ [encR p] = qbq (l ++ [p]):=by simp [qbq]
theorem q00:qbq [] = []:=rfl
theorem qwh (n:Nat) (l:List Pr):(qbq l).take n = qbq (l.take n):=by simp [qbq]
theorem qv9 (n:Nat) (l:List Pr):(qbq l).drop n = qbq (l.drop n):=by simp [qbq]
theorem q25 (b:Bool) (n off:Nat) (p:Pr):fldv b n off (encR p) = ldc b n off (prc p):=rfl
attribute [go_sem] prc q25 qyn qhs qda qm7 qjo qbg2 q1n qv7 qx1 qot qd4 qwh qv9
end Go.V

/-
 Rows of pairs by rising variables; types put in the place of variables.
-/
namespace Go.V
open Go Go.RowKit

def risR:List Pr->Prop
 | []=>True
 | p :: r=>(∀ q∈r,p.v < q.v)∧risR r
def qn (v:Int):List Pr->Option Ty
 | []=>none
 | p :: r=>if p.v = v then some p.ty else qn v r
def ahdR (v:Int):List Pr->Nat
 | []=>0
 | p :: r=>if p.v < v then ahdR v r + 1 else 0
def insR (v:Int) (t:Ty) (l:List Pr):List Pr:=l.take (ahdR v l) ++ ⟨v,t⟩ :: l.drop (ahdR v l)
theorem qno (v:Int):∀ l,ahdR v l≤l.length
 | []=>Nat.le_refl _
 | p :: r=>by rw [ahdR];have:=qno v r;split<;>simp<;>omega
theorem qyc (v:Int):∀ (l:List Pr) (k:Nat),k < ahdR v l->(l.getD k R0).v < v
 | [],k,h=>by simp [ahdR] at h
 | p :: r, k, h => by
   rw [ahdR] at h
   split at h
   ·rename_i hp
    cases k with
    | zero=>exact hp
    | succ k=>exact qyc v r k (by omega)
   ·omega
theorem qyq {v:Int}:∀ {l:List Pr},risR l->∀ (k:Nat),ahdR v l≤k->k < l.length->v≤(l.getD k R0).v
 | [],_,k,_,h=>by simp at h
 | p :: r, hr, k, h, hk => by
   rw [ahdR] at h
   split at h
   ·cases k with
    | zero=>omega
    | succ k=>exact qyq hr.2 k (by omega) (by simpa using hk)
   ·rename_i hp
    cases k with
    | zero=>show v≤p.v;omega
    | succ k=>have:=hr.1 _ (qfz (l:=r) (i:=k) (by simpa using hk));show v≤(r.getD k R0).v;omega
theorem qnk {v:Int}:∀ {l:List Pr},(∀ p∈l,p.v≠v)->qn v l = none
 | [],_=>rfl
 | p :: r,h=>by rw [qn,if_neg (h p (by simp)),qnk fun q hq=>h q (by simp [hq])]
theorem qed {v:Int}:∀ {l:List Pr} {t:Ty},qn v l = some t->∃ p∈l,p.v = v∧p.ty = t
 | p :: r, t, h => by
   rw [qn] at h
   split at h
   ·rename_i hp;exact ⟨p,by simp,hp,by simpa using h⟩
   ·obtain ⟨q,h1,h2⟩:=qed h;exact ⟨q,by simp [h1],h2⟩
theorem qhm {v:Int}:∀ {l:List Pr},qn v l = none->∀ p∈l,p.v≠v
 | [],_,p,hp=>by simp at hp
 | q :: r, h, p, hp => by
   rw [qn] at h
   split at h
   ·cases h
   ·rename_i hq
    rcases List.mem_cons.1 hp with rfl | hp
    ·exact hq
    ·exact qhm h p hp
theorem qis {v:Int}:∀ {l:List Pr},risR l->qn v l = if ahdR v l < l.length∧(l.getD (ahdR v l) R0).v = v then some (l.getD (ahdR v l) R0).ty else none
 | [],_=>by simp [qn,ahdR]
 | p :: r, hr => by
   rw [qn,ahdR]
   by_cases h1:p.v < v
   ·rw [if_pos h1,if_neg (by omega),qis hr.2]
    simp only [List.length_cons,List.getD_cons_succ,Nat.add_lt_add_iff_right]
   ·rw [if_neg h1]
    by_cases h2:p.v = v
    ·rw [if_pos h2,if_pos ⟨by simp,h2⟩];rfl
    ·rw [if_neg h2,if_neg (fun h=>h2 h.2)]
     exact qnk fun q hq=>by have:=hr.1 q hq;omega
theorem qgo (v:Int) (t:Ty) (p:Pr) (r:List Pr):insR v t (p :: r) = if p.v < v then p :: insR v t r else ⟨v,t⟩ :: p :: r:=by
 rw [insR,ahdR];split<;>rfl
theorem qms (v:Int) (t:Ty):insR v t [] = [⟨v,t⟩]:=rfl
theorem insR_mem {v:Int} {t:Ty} {q:Pr}:∀ {l:List Pr},q∈insR v t l ↔ q = ⟨v,t⟩∨q∈l
 | []=>by simp [qms]
 | p :: r => by
   rw [qgo]
   split
   ·simp only [List.mem_cons,insR_mem (l:=r)]
    constructor
    ·rintro (h | h | h)<;>simp [h]
    ·rintro (h | h | h)<;>simp [h]
   ·simp
theorem qsm {v:Int} {t:Ty}:∀ {l:List Pr},risR l->qn v l = none->risR (insR v t l)
 | [],_,_=>⟨fun q hq=>by simp at hq,trivial⟩
 | p :: r, hr, hn => by
   have h1:=qhm hn p (by simp)
   rw [qn,if_neg h1] at hn
   rw [qgo]
   split
   ·rename_i h
    refine ⟨fun q hq=>?_,qsm hr.2 hn⟩
    rcases insR_mem.1 hq with rfl | hq
    ·exact h
    ·exact hr.1 q hq
   ·rename_i h
    refine ⟨fun q hq=>?_,hr⟩
    rcases List.mem_cons.1 hq with rfl | hq
    ·show v < q.v;omega
    ·have:=hr.1 q hq;show v < q.v;omega
theorem qox {v x:Int} {t:Ty}:∀ {l:List Pr},qn v l = none->qn x (insR v t l) = if x = v then some t else qn x l
 | [], _ => by
   rw [qms,qn,qn]
   by_cases h:x = v
   ·rw [if_pos h.symm,if_pos h]
   ·rw [if_neg (fun h'=>h h'.symm),if_neg h];rfl
 | p :: r, hn => by
   have h1:=qhm hn p (by simp)
   have hn':=hn
   rw [qn,if_neg h1] at hn'
   rw [qgo]
   split
   ·rw [qn,qn,qox hn']
    by_cases h:p.v = x
    ·rw [if_pos h,if_pos h,if_neg (fun h'=>h1 (h.trans h'))]
    ·rw [if_neg h,if_neg h]
   ·rw [qn]
    by_cases h:x = v
    ·rw [if_pos h.symm,if_pos h]
    ·rw [if_neg (fun h'=>h h'.symm),if_neg h]
theorem qm0 (v:Int) (t:Ty) (l:List Pr):(insR v t l).length = l.length + 1:=by
 have:=qno v l
 rw [insR,List.length_append,List.length_cons,List.length_take,List.length_drop];omega
theorem qsc {v:Int} {t:Ty}:∀ {l:List Pr},(∀ p∈l,p.v < v)->insR v t l = l ++ [⟨v,t⟩]
 | [],_=>rfl
 | p :: r,h=>by rw [qgo,if_pos (h p (by simp)),qsc fun q hq=>h q (by simp [hq])];rfl

/-! types in the place of variables -/
mutual
def putY (s:List Pr):Ty->Ty
 | .mk c v l=>if c = [] then (match qn v s with | some u=>u | none=>.mk c v l) else .mk c v (qd5 s l)
def qd5 (s:List Pr):List Ty->List Ty
 | []=>[]
 | x :: r=>putY s x :: qd5 s r
end
mutual
def sizR (s:List Pr):Ty->Nat
 | .mk c v l=>if c = [] then (match qn v s with | some u=>szY u | none=>1) else 1 + qk1 s l
def qk1 (s:List Pr):List Ty->Nat
 | []=>0
 | x :: r=>sizR s x + qk1 s r
end
theorem qpu (s:List Pr):∀ l,qd5 s l = l.map (putY s)
 | []=>by rw [qd5];rfl
 | x :: r=>by rw [qd5,qpu s r];rfl
theorem qx2 (s:List Pr) (l:List Ty):(qd5 s l).length = l.length:=by rw [qpu];simp
mutual
def bare:Ty->Prop
 | .mk c v l=>(c = []->l = [])∧qhc l
def qhc:List Ty->Prop
 | []=>True
 | x :: r=>bare x∧qhc r
end
theorem qbb1 (t:Ty):bare t ↔ (t.con = []->t.args = [])∧qhc t.args:=by cases t;rw [bare];rfl
theorem qpt:∀ {l:List Ty},qhc l->∀ x∈l,bare x
 | [],_,x,h=>by simp at h
 | y :: r, hb, x, h => by
   rcases List.mem_cons.1 h with rfl | h
   ·exact hb.1
   ·exact qpt hb.2 x h
mutual
theorem qq5 (s:List Pr):∀ t,bare t->szY (putY s t) = sizR s t
 | .mk c v l, h => by
   rw [bare] at h
   rw [putY,sizR]
   split
   ·rename_i hc
    cases qn v s with
    | some u=>rfl
    | none=>rw [h.1 hc,szY,szYs]
   ·rw [szY,qsh s l h.2]
theorem qsh (s:List Pr):∀ l,qhc l->szYs (qd5 s l) = qk1 s l
 | [],_=>by rw [qd5,szYs,qk1]
 | x :: r,h=>by rw [qd5,szYs,qk1,qq5 s x h.1,qsh s r h.2]
end
mutual
def bput (s:List Pr):Ty->Int->Int->Int×Ty
 | .mk c v l, b, k => match (if c = [] then qn v s else none) with
   | some u=>(if 101 < k + dpY u then -1 else b - szY u,u)
   | none=>((qcq s l (b - 1) (k + 1)).1,match (qcq s l (b - 1) (k + 1)).2 with | some l'=>.mk c v l' | none=>.mk c v l)
def qcq (s:List Pr):List Ty->Int->Int->Int×Option (List Ty)
 | [],b,k=>(b,some [])
 | x :: r,b,k=>if b < 0 then (b,none) else ((qcq s r (bput s x b k).1 k).1,(qcq s r (bput s x b k).1 k).2.map ((bput s x b k).2 :: ·))
end
theorem qbg0 (s:List Pr) (t:Ty) (b k:Int):bput s t b k = match (if t.con = [] then qn t.var s else none) with
 | some u=>(if 101 < k + dpY u then -1 else b - szY u,u)
 | none=>((qcq s t.args (b - 1) (k + 1)).1,match (qcq s t.args (b - 1) (k + 1)).2 with | some l'=>.mk t.con t.var l' | none=>t):=by cases t;rw [bput];rfl
theorem qzg (s:List Pr) {b:Int} (h:b < 0):∀ (l:List Ty) (k:Int),(qcq s l b k).1 = b
 | [],k=>by rw [qcq]
 | x :: r,k=>by rw [qcq,if_pos h]
def okR (s:List Pr):Prop:=∀ p∈s,szY p.ty≤4096∧dpY p.ty≤100
theorem qt5 {s:List Pr} (h:okR s) {v:Int} {u:Ty} (hu:qn v s = some u):szY u≤4096∧dpY u≤100:=by
 obtain ⟨p,h1,_,rfl⟩:=qed hu
 exact h p h1
mutual
theorem qsu (s:List Pr):∀ (t:Ty) (b k:Int),bare t->0≤b->k + dpY t≤101 →
 (((sizR s t:Int)≤b∧k + dpY (putY s t)≤101)->bput s t b k = (b - sizR s t,putY s t))∧(¬ ((sizR s t:Int)≤b∧k + dpY (putY s t)≤101)->(bput s t b k).1 < 0)
 | .mk c v l, b, k, hb, h0, hk => by
   rw [bare] at hb
   rw [dpY] at hk
   rw [bput,sizR,putY]
   by_cases hc:c = []
   ·simp only [if_pos hc]
    cases hl:qn v s with
    | some u =>
      simp only
      refine ⟨fun h=>by rw [if_neg (by omega)],fun h=>?_⟩
      split<;>omega
    | none =>
      have h1:=hb.1 hc
      subst h1
      simp only [qcq,dpY,dpYs]
      refine ⟨fun h=>by simp,fun h=>?_⟩
      omega
   ·simp only [if_neg hc]
    rw [dpY]
    have ih:=qof s l (b - 1) (k + 1) hb.2 (by omega)
    refine ⟨fun h=>?_,fun h=>?_⟩
    ·rw [ih.1 ⟨by omega,by omega,by omega⟩]
     simp only
     congr 1
     omega
    ·exact ih.2 (by omega)
theorem qof (s:List Pr):∀ (l:List Ty) (b k:Int),qhc l->k + dpYs l≤101 →
 ((0≤b∧(qk1 s l:Int)≤b∧k + dpYs (qd5 s l)≤101)->qcq s l b k = (b - qk1 s l,some (qd5 s l)))∧(¬ (0≤b∧(qk1 s l:Int)≤b∧k + dpYs (qd5 s l)≤101)->(qcq s l b k).1 < 0)
 | [], b, k, hb, hk => by
   rw [qcq,qk1,qd5,dpYs] at *
   refine ⟨fun h=>by simp,fun h=>?_⟩
   simp only
   omega
 | x :: r, b, k, hb, hk => by
   rw [qhc] at hb
   rw [dpYs] at hk
   rw [qcq,qk1,qd5,dpYs]
   by_cases h0:b < 0
   ·rw [if_pos h0]
    exact ⟨fun h=>by omega,fun _=>h0⟩
   ·rw [if_neg h0]
    have ih1:=qsu s x b k hb.1 (by omega) (by omega)
    by_cases h1:(sizR s x:Int)≤b∧k + dpY (putY s x)≤101
    ·rw [ih1.1 h1]
     have ih2:=qof s r (b - sizR s x) k hb.2 (by omega)
     refine ⟨fun h=>?_,fun h=>?_⟩
     ·rw [ih2.1 ⟨by omega,by omega,by omega⟩]
      simp only [Option.map_some]
      congr 1
      omega
     ·exact ih2.2 (by omega)
    ·have h2:=ih1.2 h1
     rw [qzg s h2]
     refine ⟨fun h=>?_,fun h=>h2⟩
     exfalso;omega
end
mutual
theorem qsj {s:List Pr} (hs:okR s):∀ (t:Ty) (b k:Int),0≤b->b≤4096->-4096≤(bput s t b k).1∧(bput s t b k).1≤4096
 | .mk c v l, b, k, h0, h1 => by
   rw [bput]
   split
   ·rename_i u hu
    have hl:qn v s = some u:=by
     by_cases hc:c = []
     ·rwa [if_pos hc] at hu
     ·rw [if_neg hc] at hu;cases hu
    have:=qt5 hs hl
    simp only
    split<;>omega
   ·simp only
    exact qop hs l (b - 1) (k + 1) (by omega) (by omega)
theorem qop {s:List Pr} (hs:okR s):∀ (l:List Ty) (b k:Int),-4096≤b->b≤4096->-4096≤(qcq s l b k).1∧(qcq s l b k).1≤4096
 | [],b,k,h0,h1=>by rw [qcq];exact ⟨h0,h1⟩
 | x :: r, b, k, h0, h1 => by
   rw [qcq]
   split
   ·exact ⟨h0,h1⟩
   ·rename_i h
    have:=qsj hs x b k (by omega) h1
    exact qop hs r _ k this.1 this.2
end

/-! one behind the other -/
end Go.V
