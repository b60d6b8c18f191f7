/- A text of this proof. -/
import Derived.Test.YtgglaabljlhliaaGreatLap
set_option linter.unusedVariables false
set_option linter.unusedSimpArgs false

/-
 Rows of pairs by rising variables; types put in the place of variables.
-/
namespace Go.V
open Go Go.RowKit

def risR:List Pr->Prop
 | []=>True
 | p :: r=>(∀ q∈r,p.v < q.v)∧risR r
def qbm (v:Int):List Pr->Option Ty
 | []=>none
 | p :: r=>if p.v = v then some p.ty else qbm v r
def ahdR (v:Int):List Pr->Nat
 | []=>0
 | p :: r=>if p.v < v then ahdR v r + 1 else 0
def insR (v:Int) (t:Ty) (l:List Pr):List Pr:=l.take (ahdR v l) ++ ⟨v,t⟩ :: l.drop (ahdR v l)
theorem qof (v:Int):∀ l,ahdR v l≤l.length
 | []=>Nat.le_refl _
 | p :: r=>by rw [ahdR];have:=qof v r;split<;>simp<;>omega
theorem q5d (v:Int):∀ (l:List Pr) (k:Nat),k < ahdR v l->(l.getD k R0).v < v
 | [],k,h=>by simp [ahdR] at h
 | p :: r, k, h => by
   rw [ahdR] at h
   split at h
   ·rename_i hp
    cases k with
    | zero=>exact hp
    | succ k=>exact q5d v r k (by omega)
   ·omega
theorem q0o {v:Int}:∀ {l:List Pr},risR l->∀ (k:Nat),ahdR v l≤k->k < l.length->v≤(l.getD k R0).v
 | [],_,k,_,h=>by simp at h
 | p :: r, hr, k, h, hk => by
   rw [ahdR] at h
   split at h
   ·cases k with
    | zero=>omega
    | succ k=>exact q0o hr.2 k (by omega) (by simpa using hk)
   ·rename_i hp
    cases k with
    | zero=>show v≤p.v;omega
    | succ k=>have:=hr.1 _ (qve (l:=r) (i:=k) (by simpa using hk));show v≤(r.getD k R0).v;omega
theorem qop {v:Int}:∀ {l:List Pr},(∀ p∈l,p.v≠v)->qbm v l = none
 | [],_=>rfl
 | p :: r,h=>by rw [qbm,if_neg (h p (by simp)),qop fun q hq=>h q (by simp [hq])]
theorem qln {v:Int}:∀ {l:List Pr} {t:Ty},qbm v l = some t->∃ p∈l,p.v = v∧p.ty = t
 | p :: r, t, h => by
   rw [qbm] at h
   split at h
   ·rename_i hp;exact ⟨p,by simp,hp,by simpa using h⟩
   ·obtain ⟨q,h1,h2⟩:=qln h;exact ⟨q,by simp [h1],h2⟩
theorem qi9 {v:Int}:∀ {l:List Pr},qbm v l = none->∀ p∈l,p.v≠v
 | [],_,p,hp=>by simp at hp
 | q :: r, h, p, hp => by
   rw [qbm] at h
   split at h
   ·cases h
   ·rename_i hq
    rcases List.mem_cons.1 hp with rfl | hp
    ·exact hq
    ·exact qi9 h p hp
theorem qke {v:Int}:∀ {l:List Pr},risR l->qbm v l = if ahdR v l < l.length∧(l.getD (ahdR v l) R0).v = v then some (l.getD (ahdR v l) R0).ty else none
 | [],_=>by simp [qbm,ahdR]
 | p :: r, hr => by
   rw [qbm,ahdR]
   by_cases h1:p.v < v
   ·rw [if_pos h1,if_neg (by omega),qke hr.2]
    simp only [List.length_cons,List.getD_cons_succ,Nat.add_lt_add_iff_right]
   ·rw [if_neg h1]
    by_cases h2:p.v = v
    ·rw [if_pos h2,if_pos ⟨by simp,h2⟩];rfl
    ·rw [if_neg h2,if_neg (fun h=>h2 h.2)]
     exact qop fun q hq=>by have:=hr.1 q hq;omega
theorem qk9 (v:Int) (t:Ty) (p:Pr) (r:List Pr):insR v t (p :: r) = if p.v < v then p :: insR v t r else ⟨v,t⟩ :: p :: r:=by
 rw [insR,ahdR];split<;>rfl
theorem qn4 (v:Int) (t:Ty):insR v t [] = [⟨v,t⟩]:=rfl
theorem insR_mem {v:Int} {t:Ty} {q:Pr}:∀ {l:List Pr},q∈insR v t l ↔ q = ⟨v,t⟩∨q∈l
 | []=>by simp [qn4]
 | p :: r => by
   rw [qk9]
   split
   ·simp only [List.mem_cons,insR_mem (l:=r)]
    constructor
    ·rintro (h | h | h)<;>simp [h]
    ·rintro (h | h | h)<;>simp [h]
   ·simp
theorem qvv {v:Int} {t:Ty}:∀ {l:List Pr},risR l->qbm v l = none->risR (insR v t l)
 | [],_,_=>⟨fun q hq=>by simp at hq,trivial⟩
 | p :: r, hr, hn => by
   have h1:=qi9 hn p (by simp)
   rw [qbm,if_neg h1] at hn
   rw [qk9]
   split
   ·rename_i h
    refine ⟨fun q hq=>?_,qvv hr.2 hn⟩
    rcases insR_mem.1 hq with rfl | hq
    ·exact h
    ·exact hr.1 q hq
   ·rename_i h
    refine ⟨fun q hq=>?_,hr⟩
    rcases List.mem_cons.1 hq with rfl | hq
    ·show v < q.v;omega
    ·have:=hr.1 q hq;show v < q.v;omega
theorem qs3 {v x:Int} {t:Ty}:∀ {l:List Pr},qbm v l = none->qbm x (insR v t l) = if x = v then some t else qbm x l
 | [], _ => by
   rw [qn4,qbm,qbm]
   by_cases h:x = v
   ·rw [if_pos h.symm,if_pos h]
   ·rw [if_neg (fun h'=>h h'.symm),if_neg h];rfl
 | p :: r, hn => by
   have h1:=qi9 hn p (by simp)
   have hn':=hn
   rw [qbm,if_neg h1] at hn'
   rw [qk9]
   split
   ·rw [qbm,qbm,qs3 hn']
    by_cases h:p.v = x
    ·rw [if_pos h,if_pos h,if_neg (fun h'=>h1 (h.trans h'))]
    ·rw [if_neg h,if_neg h]
   ·rw [qbm]
    by_cases h:x = v
    ·rw [if_pos h.symm,if_pos h]
    ·rw [if_neg (fun h'=>h h'.symm),if_neg h]
theorem qxp (v:Int) (t:Ty) (l:List Pr):(insR v t l).length = l.length + 1:=by
 have:=qof v l
 rw [insR,List.length_append,List.length_cons,List.length_take,List.length_drop];omega
/-! types in the place of variables -/
mutual
def putY (s:List Pr):Ty->Ty
 | .mk c v l=>if c = [] then (match qbm v s with | some u=>u | none=>.mk c v l) else .mk c v (qfy s l)
def qfy (s:List Pr):List Ty->List Ty
 | []=>[]
 | x :: r=>putY s x :: qfy s r
end
mutual
def sizR (s:List Pr):Ty->Nat
 | .mk c v l=>if c = [] then (match qbm v s with | some u=>szY u | none=>1) else 1 + qmi s l
def qmi (s:List Pr):List Ty->Nat
 | []=>0
 | x :: r=>sizR s x + qmi s r
end
theorem qq2 (s:List Pr):∀ l,qfy s l = l.map (putY s)
 | []=>by rw [qfy];rfl
 | x :: r=>by rw [qfy,qq2 s r];rfl
theorem q53 (s:List Pr) (l:List Ty):(qfy s l).length = l.length:=by rw [qq2];simp
mutual
def bare:Ty->Prop
 | .mk c v l=>(c = []->l = [])∧qmp l
def qmp:List Ty->Prop
 | []=>True
 | x :: r=>bare x∧qmp r
end
theorem qbse (t:Ty):bare t ↔ (t.con = []->t.args = [])∧qmp t.args:=by cases t;rw [bare];rfl
theorem qsv:∀ {l:List Ty},qmp l->∀ x∈l,bare x
 | [],_,x,h=>by simp at h
 | y :: r, hb, x, h => by
   rcases List.mem_cons.1 h with rfl | h
   ·exact hb.1
   ·exact qsv hb.2 x h
mutual
theorem qtw (s:List Pr):∀ t,bare t->szY (putY s t) = sizR s t
 | .mk c v l, h => by
   rw [bare] at h
   rw [putY,sizR]
   split
   ·rename_i hc
    cases qbm v s with
    | some u=>rfl
    | none=>rw [h.1 hc,szY,szYs]
   ·rw [szY,qwr s l h.2]
theorem qwr (s:List Pr):∀ l,qmp l->szYs (qfy s l) = qmi s l
 | [],_=>by rw [qfy,szYs,qmi]
 | x :: r,h=>by rw [qfy,szYs,qmi,qtw s x h.1,qwr s r h.2]
end
mutual
def bput (s:List Pr):Ty->Int->Int->Int×Ty
 | .mk c v l, b, k => match (if c = [] then qbm v s else none) with
   | some u=>(if 101 < k + dpY u then -1 else b - szY u,u)
   | none=>((qc6 s l (b - 1) (k + 1)).1,match (qc6 s l (b - 1) (k + 1)).2 with | some l'=>.mk c v l' | none=>.mk c v l)
def qc6 (s:List Pr):List Ty->Int->Int->Int×Option (List Ty)
 | [],b,k=>(b,some [])
 | x :: r,b,k=>if b < 0 then (b,none) else ((qc6 s r (bput s x b k).1 k).1,(qc6 s r (bput s x b k).1 k).2.map ((bput s x b k).2 :: ·))
end
theorem qbun (s:List Pr) (t:Ty) (b k:Int):bput s t b k = match (if t.con = [] then qbm t.var s else none) with
 | some u=>(if 101 < k + dpY u then -1 else b - szY u,u)
 | none=>((qc6 s t.args (b - 1) (k + 1)).1,match (qc6 s t.args (b - 1) (k + 1)).2 with | some l'=>.mk t.con t.var l' | none=>t):=by cases t;rw [bput];rfl
theorem q1b (s:List Pr) {b:Int} (h:b < 0):∀ (l:List Ty) (k:Int),(qc6 s l b k).1 = b
 | [],k=>by rw [qc6]
 | x :: r,k=>by rw [qc6,if_pos h]
def okR (s:List Pr):Prop:=∀ p∈s,szY p.ty≤4096∧dpY p.ty≤100
theorem qu9 {s:List Pr} (h:okR s) {v:Int} {u:Ty} (hu:qbm v s = some u):szY u≤4096∧dpY u≤100:=by
 obtain ⟨p,h1,_,rfl⟩:=qln hu
 exact h p h1
mutual
theorem qxc (s:List Pr):∀ (t:Ty) (b k:Int),bare t->0≤b->k + dpY t≤101 →
 (((sizR s t:Int)≤b∧k + dpY (putY s t)≤101)->bput s t b k = (b - sizR s t,putY s t))∧(¬ ((sizR s t:Int)≤b∧k + dpY (putY s t)≤101)->(bput s t b k).1 < 0)
 | .mk c v l, b, k, hb, h0, hk => by
   rw [bare] at hb
   rw [dpY] at hk
   rw [bput,sizR,putY]
   by_cases hc:c = []
   ·simp only [if_pos hc]
    cases hl:qbm v s with
    | some u =>
      simp only
      refine ⟨fun h=>by rw [if_neg (by omega)],fun h=>?_⟩
      split<;>omega
    | none =>
      have h1:=hb.1 hc
      subst h1
      simp only [qc6,dpY,dpYs]
      refine ⟨fun h=>by simp,fun h=>?_⟩
      omega
   ·simp only [if_neg hc]
    rw [dpY]
    have ih:=qqk s l (b - 1) (k + 1) hb.2 (by omega)
    refine ⟨fun h=>?_,fun h=>?_⟩
    ·rw [ih.1 ⟨by omega,by omega,by omega⟩]
     simp only
     congr 1
     omega
    ·exact ih.2 (by omega)
theorem qqk (s:List Pr):∀ (l:List Ty) (b k:Int),qmp l->k + dpYs l≤101 →
 ((0≤b∧(qmi s l:Int)≤b∧k + dpYs (qfy s l)≤101)->qc6 s l b k = (b - qmi s l,some (qfy s l)))∧(¬ (0≤b∧(qmi s l:Int)≤b∧k + dpYs (qfy s l)≤101)->(qc6 s l b k).1 < 0)
 | [], b, k, hb, hk => by
   rw [qc6,qmi,qfy,dpYs] at *
   refine ⟨fun h=>by simp,fun h=>?_⟩
   simp only
   omega
 | x :: r, b, k, hb, hk => by
   rw [qmp] at hb
   rw [dpYs] at hk
   rw [qc6,qmi,qfy,dpYs]
   by_cases h0:b < 0
   ·rw [if_pos h0]
    exact ⟨fun h=>by omega,fun _=>h0⟩
   ·rw [if_neg h0]
    have ih1:=qxc s x b k hb.1 (by omega) (by omega)
    by_cases h1:(sizR s x:Int)≤b∧k + dpY (putY s x)≤101
    ·rw [ih1.1 h1]
     have ih2:=qqk s r (b - sizR s x) k hb.2 (by omega)
     refine ⟨fun h=>?_,fun h=>?_⟩
     ·rw [ih2.1 ⟨by omega,by omega,by omega⟩]
      simp only [Option.map_some]
      congr 1
      omega
     ·exact ih2.2 (by omega)
    ·have h2:=ih1.2 h1
     rw [q1b s h2]
     refine ⟨fun h=>?_,fun h=>h2⟩
     exfalso;omega
end
mutual
theorem qv8 {s:List Pr} (hs:okR s):∀ (t:Ty) (b k:Int),0≤b->b≤4096->-4096≤(bput s t b k).1∧(bput s t b k).1≤4096
 | .mk c v l, b, k, h0, h1 => by
   rw [bput]
   split
   ·rename_i u hu
    have hl:qbm v s = some u:=by
     by_cases hc:c = []
     ·rwa [if_pos hc] at hu
     ·rw [if_neg hc] at hu;cases hu
    have:=qu9 hs hl
    simp only
    split<;>omega
   ·simp only
    exact qsb hs l (b - 1) (k + 1) (by omega) (by omega)
theorem qsb {s:List Pr} (hs:okR s):∀ (l:List Ty) (b k:Int),-4096≤b->b≤4096->-4096≤(qc6 s l b k).1∧(qc6 s l b k).1≤4096
 | [],b,k,h0,h1=>by rw [qc6];exact ⟨h0,h1⟩
 | x :: r, b, k, h0, h1 => by
   rw [qc6]
   split
   ·exact ⟨h0,h1⟩
   ·rename_i h
    have:=qv8 hs x b k (by omega) h1
    exact qsb hs r _ k this.1 this.2
end

/-! one behind the other -/
end Go.V
