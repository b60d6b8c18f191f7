/- A text of this proof. -/
import Derived.Test.YtefcfdejmfgbpaaMam
import Derived.Test.YtefcfdejmfgbpaaMaq
set_option linter.unusedVariables false
set_option linter.unusedSimpArgs false

/-
 Rows of pairs by rising variables; types put in the place of variables.
-/
namespace Go.V
open Go Go.RowKit

def risR:List Pr->Prop
 | []=>True
 | p :: r=>(∀ q∈r,p.v < q.v)∧risR r
def qp (v:Int):List Pr->Option Ty
 | []=>none
 | p :: r=>if p.v = v then some p.ty else qp v r
def ahdR (v:Int):List Pr->Nat
 | []=>0
 | p :: r=>if p.v < v then ahdR v r + 1 else 0
def insR (v:Int) (t:Ty) (l:List Pr):List Pr:=l.take (ahdR v l) ++ ⟨v,t⟩ :: l.drop (ahdR v l)
theorem qk9 (v:Int):∀ l,ahdR v l≤l.length
 | []=>Nat.le_refl _
 | p :: r=>by rw [ahdR];have:=qk9 v r;split<;>simp<;>omega
theorem qvl (v:Int):∀ (l:List Pr) (k:Nat),k < ahdR v l->(l.getD k R0).v < v
 | [],k,h=>by simp [ahdR] at h
 | p :: r, k, h => by
   rw [ahdR] at h
   split at h
   ·rename_i hp
    cases k with
    | zero=>exact hp
    | succ k=>exact qvl v r k (by omega)
   ·omega
theorem quy {v:Int}:∀ {l:List Pr},risR l->∀ (k:Nat),ahdR v l≤k->k < l.length->v≤(l.getD k R0).v
 | [],_,k,_,h=>by simp at h
 | p :: r, hr, k, h, hk => by
   rw [ahdR] at h
   split at h
   ·cases k with
    | zero=>omega
    | succ k=>exact quy hr.2 k (by omega) (by simpa using hk)
   ·rename_i hp
    cases k with
    | zero=>show v≤p.v;omega
    | succ k=>have:=hr.1 _ (qpi (l:=r) (i:=k) (by simpa using hk));show v≤(r.getD k R0).v;omega
theorem qqa {v:Int}:∀ {l:List Pr},(∀ p∈l,p.v≠v)->qp v l = none
 | [],_=>rfl
 | p :: r,h=>by rw [qp,if_neg (h p (by simp)),qqa fun q hq=>h q (by simp [hq])]
theorem qhe {v:Int}:∀ {l:List Pr} {t:Ty},qp v l = some t->∃ p∈l,p.v = v∧p.ty = t
 | p :: r, t, h => by
   rw [qp] at h
   split at h
   ·rename_i hp;exact ⟨p,by simp,hp,by simpa using h⟩
   ·obtain ⟨q,h1,h2⟩:=qhe h;exact ⟨q,by simp [h1],h2⟩
theorem qgc {v:Int}:∀ {l:List Pr},qp v l = none->∀ p∈l,p.v≠v
 | [],_,p,hp=>by simp at hp
 | q :: r, h, p, hp => by
   rw [qp] at h
   split at h
   ·cases h
   ·rename_i hq
    rcases List.mem_cons.1 hp with rfl | hp
    ·exact hq
    ·exact qgc h p hp
theorem qg4 {v:Int}:∀ {l:List Pr},risR l->qp v l = if ahdR v l < l.length∧(l.getD (ahdR v l) R0).v = v then some (l.getD (ahdR v l) R0).ty else none
 | [],_=>by simp [qp,ahdR]
 | p :: r, hr => by
   rw [qp,ahdR]
   by_cases h1:p.v < v
   ·rw [if_pos h1,if_neg (by omega),qg4 hr.2]
    simp only [List.length_cons,List.getD_cons_succ,Nat.add_lt_add_iff_right]
   ·rw [if_neg h1]
    by_cases h2:p.v = v
    ·rw [if_pos h2,if_pos ⟨by simp,h2⟩];rfl
    ·rw [if_neg h2,if_neg (fun h=>h2 h.2)]
     exact qqa fun q hq=>by have:=hr.1 q hq;omega
theorem qht (v:Int) (t:Ty) (p:Pr) (r:List Pr):insR v t (p :: r) = if p.v < v then p :: insR v t r else ⟨v,t⟩ :: p :: r:=by
 rw [insR,ahdR];split<;>rfl
theorem qku (v:Int) (t:Ty):insR v t [] = [⟨v,t⟩]:=rfl
theorem insR_mem {v:Int} {t:Ty} {q:Pr}:∀ {l:List Pr},q∈insR v t l ↔ q = ⟨v,t⟩∨q∈l
 | []=>by simp [qku]
 | p :: r => by
   rw [qht]
   split
   ·simp only [List.mem_cons,insR_mem (l:=r)]
    constructor
    ·rintro (h | h | h)<;>simp [h]
    ·rintro (h | h | h)<;>simp [h]
   ·simp
theorem qpk {v:Int} {t:Ty}:∀ {l:List Pr},risR l->qp v l = none->risR (insR v t l)
 | [],_,_=>⟨fun q hq=>by simp at hq,trivial⟩
 | p :: r, hr, hn => by
   have h1:=qgc hn p (by simp)
   rw [qp,if_neg h1] at hn
   rw [qht]
   split
   ·rename_i h
    refine ⟨fun q hq=>?_,qpk hr.2 hn⟩
    rcases insR_mem.1 hq with rfl | hq
    ·exact h
    ·exact hr.1 q hq
   ·rename_i h
    refine ⟨fun q hq=>?_,hr⟩
    rcases List.mem_cons.1 hq with rfl | hq
    ·show v < q.v;omega
    ·have:=hr.1 q hq;show v < q.v;omega
theorem qfc {v x:Int} {t:Ty}:∀ {l:List Pr},qp v l = none->qp x (insR v t l) = if x = v then some t else qp x l
 | [], _ => by
   rw [qku,qp,qp]
   by_cases h:x = v
   ·rw [if_pos h.symm,if_pos h]
   ·rw [if_neg (fun h'=>h h'.symm),if_neg h];rfl
 | p :: r, hn => by
   have h1:=qgc hn p (by simp)
   have hn':=hn
   rw [qp,if_neg h1] at hn'
   rw [qht]
   split
   ·rw [qp,qp,qfc hn']
    by_cases h:p.v = x
    ·rw [if_pos h,if_pos h,if_neg (fun h'=>h1 (h.trans h'))]
    ·rw [if_neg h,if_neg h]
   ·rw [qp]
    by_cases h:x = v
    ·rw [if_pos h.symm,if_pos h]
    ·rw [if_neg (fun h'=>h h'.symm),if_neg h]
theorem qpe (v:Int) (t:Ty) (l:List Pr):(insR v t l).length = l.length + 1:=by
 have:=qk9 v l
 rw [insR,List.length_append,List.length_cons,List.length_take,List.length_drop];omega
/-! types in the place of variables -/
mutual
def putY (s:List Pr):Ty->Ty
 | .mk c v l=>if c = [] then (match qp v s with | some u=>u | none=>.mk c v l) else .mk c v (qda s l)
def qda (s:List Pr):List Ty->List Ty
 | []=>[]
 | x :: r=>putY s x :: qda s r
end
mutual
def sizR (s:List Pr):Ty->Nat
 | .mk c v l=>if c = [] then (match qp v s with | some u=>szY u | none=>1) else 1 + qi2 s l
def qi2 (s:List Pr):List Ty->Nat
 | []=>0
 | x :: r=>sizR s x + qi2 s r
end
theorem qmj (s:List Pr):∀ l,qda s l = l.map (putY s)
 | []=>by rw [qda];rfl
 | x :: r=>by rw [qda,qmj s r];rfl
theorem qvf (s:List Pr) (l:List Ty):(qda s l).length = l.length:=by rw [qmj];simp
mutual
def bare:Ty->Prop
 | .mk c v l=>(c = []->l = [])∧qeg l
def qeg:List Ty->Prop
 | []=>True
 | x :: r=>bare x∧qeg r
end
theorem q1r (t:Ty):bare t ↔ (t.con = []->t.args = [])∧qeg t.args:=by cases t;rw [bare];rfl
theorem qmz:∀ {l:List Ty},qeg l->∀ x∈l,bare x
 | [],_,x,h=>by simp at h
 | y :: r, hb, x, h => by
   rcases List.mem_cons.1 h with rfl | h
   ·exact hb.1
   ·exact qmz hb.2 x h
mutual
theorem qnt (s:List Pr):∀ t,bare t->szY (putY s t) = sizR s t
 | .mk c v l, h => by
   rw [bare] at h
   rw [putY,sizR]
   split
   ·rename_i hc
    cases qp v s with
    | some u=>rfl
    | none=>rw [h.1 hc,szY,szYs]
   ·rw [szY,qo3 s l h.2]
theorem qo3 (s:List Pr):∀ l,qeg l->szYs (qda s l) = qi2 s l
 | [],_=>by rw [qda,szYs,qi2]
 | x :: r,h=>by rw [qda,szYs,qi2,qnt s x h.1,qo3 s r h.2]
end
mutual
def bput (s:List Pr):Ty->Int->Int->Int×Ty
 | .mk c v l, b, k => match (if c = [] then qp v s else none) with
   | some u=>(if 101 < k + dpY u then -1 else b - szY u,u)
   | none=>((qb7 s l (b - 1) (k + 1)).1,match (qb7 s l (b - 1) (k + 1)).2 with | some l'=>.mk c v l' | none=>.mk c v l)
def qb7 (s:List Pr):List Ty->Int->Int->Int×Option (List Ty)
 | [],b,k=>(b,some [])
 | x :: r,b,k=>if b < 0 then (b,none) else ((qb7 s r (bput s x b k).1 k).1,(qb7 s r (bput s x b k).1 k).2.map ((bput s x b k).2 :: ·))
end
theorem q30 (s:List Pr) (t:Ty) (b k:Int):bput s t b k = match (if t.con = [] then qp t.var s else none) with
 | some u=>(if 101 < k + dpY u then -1 else b - szY u,u)
 | none=>((qb7 s t.args (b - 1) (k + 1)).1,match (qb7 s t.args (b - 1) (k + 1)).2 with | some l'=>.mk t.con t.var l' | none=>t):=by cases t;rw [bput];rfl
theorem qt4 (s:List Pr) {b:Int} (h:b < 0):∀ (l:List Ty) (k:Int),(qb7 s l b k).1 = b
 | [],k=>by rw [qb7]
 | x :: r,k=>by rw [qb7,if_pos h]
def okR (s:List Pr):Prop:=∀ p∈s,szY p.ty≤4096∧dpY p.ty≤100
theorem qpv {s:List Pr} (h:okR s) {v:Int} {u:Ty} (hu:qp v s = some u):szY u≤4096∧dpY u≤100:=by
 obtain ⟨p,h1,_,rfl⟩:=qhe hu
 exact h p h1
mutual
theorem qpc (s:List Pr):∀ (t:Ty) (b k:Int),bare t->0≤b->k + dpY t≤101 →
 (((sizR s t:Int)≤b∧k + dpY (putY s t)≤101)->bput s t b k = (b - sizR s t,putY s t))∧(¬ ((sizR s t:Int)≤b∧k + dpY (putY s t)≤101)->(bput s t b k).1 < 0)
 | .mk c v l, b, k, hb, h0, hk => by
   rw [bare] at hb
   rw [dpY] at hk
   rw [bput,sizR,putY]
   by_cases hc:c = []
   ·simp only [if_pos hc]
    cases hl:qp v s with
    | some u =>
      simp only
      refine ⟨fun h=>by rw [if_neg (by omega)],fun h=>?_⟩
      split<;>omega
    | none =>
      have h1:=hb.1 hc
      subst h1
      simp only [qb7,dpY,dpYs]
      refine ⟨fun h=>by simp,fun h=>?_⟩
      omega
   ·simp only [if_neg hc]
    rw [dpY]
    have ih:=qmm s l (b - 1) (k + 1) hb.2 (by omega)
    refine ⟨fun h=>?_,fun h=>?_⟩
    ·rw [ih.1 ⟨by omega,by omega,by omega⟩]
     simp only
     congr 1
     omega
    ·exact ih.2 (by omega)
theorem qmm (s:List Pr):∀ (l:List Ty) (b k:Int),qeg l->k + dpYs l≤101 →
 ((0≤b∧(qi2 s l:Int)≤b∧k + dpYs (qda s l)≤101)->qb7 s l b k = (b - qi2 s l,some (qda s l)))∧(¬ (0≤b∧(qi2 s l:Int)≤b∧k + dpYs (qda s l)≤101)->(qb7 s l b k).1 < 0)
 | [], b, k, hb, hk => by
   rw [qb7,qi2,qda,dpYs] at *
   refine ⟨fun h=>by simp,fun h=>?_⟩
   simp only
   omega
 | x :: r, b, k, hb, hk => by
   rw [qeg] at hb
   rw [dpYs] at hk
   rw [qb7,qi2,qda,dpYs]
   by_cases h0:b < 0
   ·rw [if_pos h0]
    exact ⟨fun h=>by omega,fun _=>h0⟩
   ·rw [if_neg h0]
    have ih1:=qpc s x b k hb.1 (by omega) (by omega)
    by_cases h1:(sizR s x:Int)≤b∧k + dpY (putY s x)≤101
    ·rw [ih1.1 h1]
     have ih2:=qmm s r (b - sizR s x) k hb.2 (by omega)
     refine ⟨fun h=>?_,fun h=>?_⟩
     ·rw [ih2.1 ⟨by omega,by omega,by omega⟩]
      simp only [Option.map_some]
      congr 1
      omega
     ·exact ih2.2 (by omega)
    ·have h2:=ih1.2 h1
     rw [qt4 s h2]
     refine ⟨fun h=>?_,fun h=>h2⟩
     exfalso;omega
end
mutual
theorem qo1 {s:List Pr} (hs:okR s):∀ (t:Ty) (b k:Int),0≤b->b≤4096->-4096≤(bput s t b k).1∧(bput s t b k).1≤4096
 | .mk c v l, b, k, h0, h1 => by
   rw [bput]
   split
   ·rename_i u hu
    have hl:qp v s = some u:=by
     by_cases hc:c = []
     ·rwa [if_pos hc] at hu
     ·rw [if_neg hc] at hu;cases hu
    have:=qpv hs hl
    simp only
    split<;>omega
   ·simp only
    exact qmx hs l (b - 1) (k + 1) (by omega) (by omega)
theorem qmx {s:List Pr} (hs:okR s):∀ (l:List Ty) (b k:Int),-4096≤b->b≤4096->-4096≤(qb7 s l b k).1∧(qb7 s l b k).1≤4096
 | [],b,k,h0,h1=>by rw [qb7];exact ⟨h0,h1⟩
 | x :: r, b, k, h0, h1 => by
   rw [qb7]
   split
   ·exact ⟨h0,h1⟩
   ·rename_i h
    have:=qo1 hs x b k (by omega) h1
    exact qmx hs r _ k this.1 this.2
end

/-! one behind the other -/
end Go.V
