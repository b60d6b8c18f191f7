/- A text of this proof. -/
import Derived.Test.YtgglaabljlhliaaGreatMao
set_option linter.unusedVariables false
set_option linter.unusedSimpArgs false

/-
 Rows of pairs by rising variables; types put in the place of variables.
-/
namespace Go.V
open Go Go.RowKit

def risR:List Pr->Prop
 | []=>True
 | p :: r=>(∀ q∈r,p.v < q.v)∧risR r
def qbh (v:Int):List Pr->Option Ty
 | []=>none
 | p :: r=>if p.v = v then some p.ty else qbh v r
def ahdR (v:Int):List Pr->Nat
 | []=>0
 | p :: r=>if p.v < v then ahdR v r + 1 else 0
def insR (v:Int) (t:Ty) (l:List Pr):List Pr:=l.take (ahdR v l) ++ ⟨v,t⟩ :: l.drop (ahdR v l)
theorem qoq (v:Int):∀ l,ahdR v l≤l.length
 | []=>Nat.le_refl _
 | p :: r=>by rw [ahdR];have:=qoq v r;split<;>simp<;>omega
theorem q4q (v:Int):∀ (l:List Pr) (k:Nat),k < ahdR v l->(l.getD k R0).v < v
 | [],k,h=>by simp [ahdR] at h
 | p :: r, k, h => by
   rw [ahdR] at h
   split at h
   ·rename_i hp
    cases k with
    | zero=>exact hp
    | succ k=>exact q4q v r k (by omega)
   ·omega
theorem q3a {v:Int}:∀ {l:List Pr},risR l->∀ (k:Nat),ahdR v l≤k->k < l.length->v≤(l.getD k R0).v
 | [],_,k,_,h=>by simp at h
 | p :: r, hr, k, h, hk => by
   rw [ahdR] at h
   split at h
   ·cases k with
    | zero=>omega
    | succ k=>exact q3a hr.2 k (by omega) (by simpa using hk)
   ·rename_i hp
    cases k with
    | zero=>show v≤p.v;omega
    | succ k=>have:=hr.1 _ (qvp (l:=r) (i:=k) (by simpa using hk));show v≤(r.getD k R0).v;omega
theorem qoz {v:Int}:∀ {l:List Pr},(∀ p∈l,p.v≠v)->qbh v l = none
 | [],_=>rfl
 | p :: r,h=>by rw [qbh,if_neg (h p (by simp)),qoz fun q hq=>h q (by simp [hq])]
theorem qk4 {v:Int}:∀ {l:List Pr} {t:Ty},qbh v l = some t->∃ p∈l,p.v = v∧p.ty = t
 | p :: r, t, h => by
   rw [qbh] at h
   split at h
   ·rename_i hp;exact ⟨p,by simp,hp,by simpa using h⟩
   ·obtain ⟨q,h1,h2⟩:=qk4 h;exact ⟨q,by simp [h1],h2⟩
theorem qh8 {v:Int}:∀ {l:List Pr},qbh v l = none->∀ p∈l,p.v≠v
 | [],_,p,hp=>by simp at hp
 | q :: r, h, p, hp => by
   rw [qbh] at h
   split at h
   ·cases h
   ·rename_i hq
    rcases List.mem_cons.1 hp with rfl | hp
    ·exact hq
    ·exact qh8 h p hp
theorem qjm {v:Int}:∀ {l:List Pr},risR l->qbh v l = if ahdR v l < l.length∧(l.getD (ahdR v l) R0).v = v then some (l.getD (ahdR v l) R0).ty else none
 | [],_=>by simp [qbh,ahdR]
 | p :: r, hr => by
   rw [qbh,ahdR]
   by_cases h1:p.v < v
   ·rw [if_pos h1,if_neg (by omega),qjm hr.2]
    simp only [List.length_cons,List.getD_cons_succ,Nat.add_lt_add_iff_right]
   ·rw [if_neg h1]
    by_cases h2:p.v = v
    ·rw [if_pos h2,if_pos ⟨by simp,h2⟩];rfl
    ·rw [if_neg h2,if_neg (fun h=>h2 h.2)]
     exact qoz fun q hq=>by have:=hr.1 q hq;omega
theorem qlo (v:Int) (t:Ty) (p:Pr) (r:List Pr):insR v t (p :: r) = if p.v < v then p :: insR v t r else ⟨v,t⟩ :: p :: r:=by
 rw [insR,ahdR];split<;>rfl
theorem qnt (v:Int) (t:Ty):insR v t [] = [⟨v,t⟩]:=rfl
theorem insR_mem {v:Int} {t:Ty} {q:Pr}:∀ {l:List Pr},q∈insR v t l ↔ q = ⟨v,t⟩∨q∈l
 | []=>by simp [qnt]
 | p :: r => by
   rw [qlo]
   split
   ·simp only [List.mem_cons,insR_mem (l:=r)]
    constructor
    ·rintro (h | h | h)<;>simp [h]
    ·rintro (h | h | h)<;>simp [h]
   ·simp
theorem quq {v:Int} {t:Ty}:∀ {l:List Pr},risR l->qbh v l = none->risR (insR v t l)
 | [],_,_=>⟨fun q hq=>by simp at hq,trivial⟩
 | p :: r, hr, hn => by
   have h1:=qh8 hn p (by simp)
   rw [qbh,if_neg h1] at hn
   rw [qlo]
   split
   ·rename_i h
    refine ⟨fun q hq=>?_,quq hr.2 hn⟩
    rcases insR_mem.1 hq with rfl | hq
    ·exact h
    ·exact hr.1 q hq
   ·rename_i h
    refine ⟨fun q hq=>?_,hr⟩
    rcases List.mem_cons.1 hq with rfl | hq
    ·show v < q.v;omega
    ·have:=hr.1 q hq;show v < q.v;omega
theorem qq9 {v x:Int} {t:Ty}:∀ {l:List Pr},qbh v l = none->qbh x (insR v t l) = if x = v then some t else qbh x l
 | [], _ => by
   rw [qnt,qbh,qbh]
   by_cases h:x = v
   ·rw [if_pos h.symm,if_pos h]
   ·rw [if_neg (fun h'=>h h'.symm),if_neg h];rfl
 | p :: r, hn => by
   have h1:=qh8 hn p (by simp)
   have hn':=hn
   rw [qbh,if_neg h1] at hn'
   rw [qlo]
   split
   ·rw [qbh,qbh,qq9 hn']
    by_cases h:p.v = x
    ·rw [if_pos h,if_pos h,if_neg (fun h'=>h1 (h.trans h'))]
    ·rw [if_neg h,if_neg h]
   ·rw [qbh]
    by_cases h:x = v
    ·rw [if_pos h.symm,if_pos h]
    ·rw [if_neg (fun h'=>h h'.symm),if_neg h]
theorem qus (v:Int) (t:Ty) (l:List Pr):(insR v t l).length = l.length + 1:=by
 have:=qoq v l
 rw [insR,List.length_append,List.length_cons,List.length_take,List.length_drop];omega
/-! types in the place of variables -/
mutual
def putY (s:List Pr):Ty->Ty
 | .mk c v l=>if c = [] then (match qbh v s with | some u=>u | none=>.mk c v l) else .mk c v (qfd s l)
def qfd (s:List Pr):List Ty->List Ty
 | []=>[]
 | x :: r=>putY s x :: qfd s r
end
mutual
def sizR (s:List Pr):Ty->Nat
 | .mk c v l=>if c = [] then (match qbh v s with | some u=>szY u | none=>1) else 1 + ql0 s l
def ql0 (s:List Pr):List Ty->Nat
 | []=>0
 | x :: r=>sizR s x + ql0 s r
end
theorem qrl (s:List Pr):∀ l,qfd s l = l.map (putY s)
 | []=>by rw [qfd];rfl
 | x :: r=>by rw [qfd,qrl s r];rfl
theorem q1f (s:List Pr) (l:List Ty):(qfd s l).length = l.length:=by rw [qrl];simp
mutual
def bare:Ty->Prop
 | .mk c v l=>(c = []->l = [])∧qlz l
def qlz:List Ty->Prop
 | []=>True
 | x :: r=>bare x∧qlz r
end
theorem qbie (t:Ty):bare t ↔ (t.con = []->t.args = [])∧qlz t.args:=by cases t;rw [bare];rfl
theorem qq3:∀ {l:List Ty},qlz l->∀ x∈l,bare x
 | [],_,x,h=>by simp at h
 | y :: r, hb, x, h => by
   rcases List.mem_cons.1 h with rfl | h
   ·exact hb.1
   ·exact qq3 hb.2 x h
mutual
theorem qsi (s:List Pr):∀ t,bare t->szY (putY s t) = sizR s t
 | .mk c v l, h => by
   rw [bare] at h
   rw [putY,sizR]
   split
   ·rename_i hc
    cases qbh v s with
    | some u=>rfl
    | none=>rw [h.1 hc,szY,szYs]
   ·rw [szY,qv2 s l h.2]
theorem qv2 (s:List Pr):∀ l,qlz l->szYs (qfd s l) = ql0 s l
 | [],_=>by rw [qfd,szYs,ql0]
 | x :: r,h=>by rw [qfd,szYs,ql0,qsi s x h.1,qv2 s r h.2]
end
mutual
def bput (s:List Pr):Ty->Int->Int->Int×Ty
 | .mk c v l, b, k => match (if c = [] then qbh v s else none) with
   | some u=>(if 101 < k + dpY u then -1 else b - szY u,u)
   | none=>((qc0 s l (b - 1) (k + 1)).1,match (qc0 s l (b - 1) (k + 1)).2 with | some l'=>.mk c v l' | none=>.mk c v l)
def qc0 (s:List Pr):List Ty->Int->Int->Int×Option (List Ty)
 | [],b,k=>(b,some [])
 | x :: r,b,k=>if b < 0 then (b,none) else ((qc0 s r (bput s x b k).1 k).1,(qc0 s r (bput s x b k).1 k).2.map ((bput s x b k).2 :: ·))
end
theorem qbh9 (s:List Pr) (t:Ty) (b k:Int):bput s t b k = match (if t.con = [] then qbh t.var s else none) with
 | some u=>(if 101 < k + dpY u then -1 else b - szY u,u)
 | none=>((qc0 s t.args (b - 1) (k + 1)).1,match (qc0 s t.args (b - 1) (k + 1)).2 with | some l'=>.mk t.con t.var l' | none=>t):=by cases t;rw [bput];rfl
theorem q4w (s:List Pr) {b:Int} (h:b < 0):∀ (l:List Ty) (k:Int),(qc0 s l b k).1 = b
 | [],k=>by rw [qc0]
 | x :: r,k=>by rw [qc0,if_pos h]
def okR (s:List Pr):Prop:=∀ p∈s,szY p.ty≤4096∧dpY p.ty≤100
theorem qvt {s:List Pr} (h:okR s) {v:Int} {u:Ty} (hu:qbh v s = some u):szY u≤4096∧dpY u≤100:=by
 obtain ⟨p,h1,_,rfl⟩:=qk4 hu
 exact h p h1
mutual
theorem quz (s:List Pr):∀ (t:Ty) (b k:Int),bare t->0≤b->k + dpY t≤101 →
 (((sizR s t:Int)≤b∧k + dpY (putY s t)≤101)->bput s t b k = (b - sizR s t,putY s t))∧(¬ ((sizR s t:Int)≤b∧k + dpY (putY s t)≤101)->(bput s t b k).1 < 0)
 | .mk c v l, b, k, hb, h0, hk => by
   rw [bare] at hb
   rw [dpY] at hk
   rw [bput,sizR,putY]
   by_cases hc:c = []
   ·simp only [if_pos hc]
    cases hl:qbh v s with
    | some u =>
      simp only
      refine ⟨fun h=>by rw [if_neg (by omega)],fun h=>?_⟩
      split<;>omega
    | none =>
      have h1:=hb.1 hc
      subst h1
      simp only [qc0,dpY,dpYs]
      refine ⟨fun h=>by simp,fun h=>?_⟩
      omega
   ·simp only [if_neg hc]
    rw [dpY]
    have ih:=qpg s l (b - 1) (k + 1) hb.2 (by omega)
    refine ⟨fun h=>?_,fun h=>?_⟩
    ·rw [ih.1 ⟨by omega,by omega,by omega⟩]
     simp only
     congr 1
     omega
    ·exact ih.2 (by omega)
theorem qpg (s:List Pr):∀ (l:List Ty) (b k:Int),qlz l->k + dpYs l≤101 →
 ((0≤b∧(ql0 s l:Int)≤b∧k + dpYs (qfd s l)≤101)->qc0 s l b k = (b - ql0 s l,some (qfd s l)))∧(¬ (0≤b∧(ql0 s l:Int)≤b∧k + dpYs (qfd s l)≤101)->(qc0 s l b k).1 < 0)
 | [], b, k, hb, hk => by
   rw [qc0,ql0,qfd,dpYs] at *
   refine ⟨fun h=>by simp,fun h=>?_⟩
   simp only
   omega
 | x :: r, b, k, hb, hk => by
   rw [qlz] at hb
   rw [dpYs] at hk
   rw [qc0,ql0,qfd,dpYs]
   by_cases h0:b < 0
   ·rw [if_pos h0]
    exact ⟨fun h=>by omega,fun _=>h0⟩
   ·rw [if_neg h0]
    have ih1:=quz s x b k hb.1 (by omega) (by omega)
    by_cases h1:(sizR s x:Int)≤b∧k + dpY (putY s x)≤101
    ·rw [ih1.1 h1]
     have ih2:=qpg s r (b - sizR s x) k hb.2 (by omega)
     refine ⟨fun h=>?_,fun h=>?_⟩
     ·rw [ih2.1 ⟨by omega,by omega,by omega⟩]
      simp only [Option.map_some]
      congr 1
      omega
     ·exact ih2.2 (by omega)
    ·have h2:=ih1.2 h1
     rw [q4w s h2]
     refine ⟨fun h=>?_,fun h=>h2⟩
     exfalso;omega
end
mutual
theorem qva {s:List Pr} (hs:okR s):∀ (t:Ty) (b k:Int),0≤b->b≤4096->-4096≤(bput s t b k).1∧(bput s t b k).1≤4096
 | .mk c v l, b, k, h0, h1 => by
   rw [bput]
   split
   ·rename_i u hu
    have hl:qbh v s = some u:=by
     by_cases hc:c = []
     ·rwa [if_pos hc] at hu
     ·rw [if_neg hc] at hu;cases hu
    have:=qvt hs hl
    simp only
    split<;>omega
   ·simp only
    exact qqq hs l (b - 1) (k + 1) (by omega) (by omega)
theorem qqq {s:List Pr} (hs:okR s):∀ (l:List Ty) (b k:Int),-4096≤b->b≤4096->-4096≤(qc0 s l b k).1∧(qc0 s l b k).1≤4096
 | [],b,k,h0,h1=>by rw [qc0];exact ⟨h0,h1⟩
 | x :: r, b, k, h0, h1 => by
   rw [qc0]
   split
   ·exact ⟨h0,h1⟩
   ·rename_i h
    have:=qva hs x b k (by omega) h1
    exact qqq hs r _ k this.1 this.2
end

/-! one behind the other -/
end Go.V
