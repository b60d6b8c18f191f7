/- Texts of this proof, joined. -/
import Derived.Test.YtlmcofjcpadmiaaPas
import Derived.Test.YtlmcofjcpadmiaaPat
import Derived.Test.YtlmcofjcpadmiaaPao
set_option linter.unusedVariables false
set_option linter.unusedSimpArgs false

/- the cursor: what it is, what its methods do -/
namespace Go.Proofs.Ytlmcofjcpadmiaa
open Go Go.RowKit Go.V

attribute [go_sem] cond_true cond_false
structure K where
 l:List T
 ep:Int
 at':Nat
 nest:Nat
 err:Int
 pos:Int
def K.ok (c:K):Prop:=c.at'≤c.l.length∧c.l.length≤maxLen
def K.bad (c:K):Bool:=!decide (c.err = 0)
def qr (c:K):T:=if c.err = 0 then if c.at' < c.l.length then c.l.getD c.at' T0 else ⟨0,c.ep,0,[]⟩ else T0
def qk (c:K):K:=if c.err = 0 then if c.at' < c.l.length then { c with at':=c.at' + 1 } else c else c
def qba (t:T) (s:List UInt8):Bool:=(decide (t.kind = 4) || decide (t.kind = 5)) && decide (t.text = s)
def isK (c:K) (s:List UInt8):Bool:=decide (c.err = 0) && qba (qr c) s
def qg9 (c:K) (e:Int):K:=if c.err = 0 then { c with err:=if e = 0 then 1 else e,pos:=(qr c).pos } else c
def qbh (c:K) (s:List UInt8):K×Bool:=if isK c s = true then (qk c,true) else (c,false)
def qb6 (c:K) (s:List UInt8):K×Bool:=if isK c s = true then (qk c,true) else (qg9 c 5,false)
def qi (c:K):K×Bool:=if c.err = 0 then if c.nest < 200 then ({ c with nest:=c.nest + 1 },true) else (qg9 c 2,false) else (c,false)
def qc3 (c:K):K:=if c.err = 0 then if 0 < c.nest then { c with nest:=c.nest - 1 } else c else c
def qj1 (c:K):Int×Int:=if c.err = 0 then if c.at' < c.l.length then ((c.l.getD c.at' T0).pos,5) else (c.ep,0) else (c.pos,c.err)


section
variable {c:K}
theorem qpw (h:c.err = 0) (h2:(c.at':Int) < c.l.length):qr c = c.l.getD c.at' T0:=by rw [qr,if_pos h,if_pos (by omega)]
theorem qnj (h:c.err = 0) (h2:¬ (c.at':Int) < c.l.length):qr c = ⟨0,c.ep,0,[]⟩:=by rw [qr,if_pos h,if_neg (by omega)]
theorem qqf (h:c.err = 0) (h2:(c.at':Int) < c.l.length):qk c = { c with at':=c.at' + 1 }:=by rw [qk,if_pos h,if_pos (by omega)]
theorem qub {e:Int} (h:¬ c.err = 0):qg9 c e = c:=if_neg h
end
section
variable {c:K} {x:List UInt8}
theorem q2s (h:isK c x = true):qbh c x = (qk c,true):=if_pos h
theorem qom (h:isK c x = false):qbh c x = (c,false):=by rw [qbh,h];rfl
theorem qti (h:c.err = 0) (h2:¬ (200:Int)≤c.nest):qi c = ({ c with nest:=c.nest + 1 },true):=by rw [qi,if_pos h,if_pos (by omega)]
theorem qv3 (h:c.err = 0) (h2:(0:Int) < c.nest):qc3 c = { c with nest:=c.nest - 1 }:=by rw [qc3,if_pos h,if_pos (by omega)]
theorem qw8 (h:c.err = 0) (h2:(c.at':Int) < c.l.length):qj1 c = ((c.l.getD c.at' T0).pos,5):=by rw [qj1,if_pos h,if_pos (by omega)]
theorem qts (h:c.err = 0) (h2:¬ (c.at':Int) < c.l.length):qj1 c = (c.ep,0):=by rw [qj1,if_pos h,if_neg (by omega)]
end
def qc5 (t:T) (ls:List (List UInt8)):Bool:=(decide (t.kind = 4) || decide (t.kind = 5)) && ls.contains t.text

def qkw:List T->List T
 | []=>[]
 | t :: r=>if t.kind = 0 then [] else t :: qkw r
def endT:List T->Int
 | []=>0
 | t :: r=>if t.kind = 0 then t.pos else endT r
def newK (l:List T):K:=⟨qkw l,endT l,0,0,0,0⟩


/-! The cursor: it has gone on, if it has gone; a failure stays. -/
def K.good (c:K):Prop:=c.at'≤c.l.length∧c.l.length≤1048577∧c.nest≤200
def rest (c:K):Nat:=c.l.length - c.at'
theorem K.good.ok {c:K} (h:c.good):c.ok:=⟨h.1,Nat.le_trans h.2.1 (by unfold maxLen;omega)⟩
def Wi (B:Int) (c:K):Prop:=(∀ t∈c.l,0≤t.pos∧t.pos≤B)∧0≤c.ep∧c.ep≤B∧(c.err≠0->0≤c.pos∧c.pos≤B∧(c.err = 2∨c.err = 5))
def Mon (c c':K):Prop:=(c.good->c'.good)∧rest c'≤rest c∧(c.err≠0->c'.err = c.err)∧c'.l = c.l∧∀ B,Wi B c->Wi B c'
theorem Mon.refl (c:K):Mon c c:=⟨id,Nat.le_refl _,fun _=>rfl,rfl,fun _ h=>h⟩
theorem Mon.trans {a b c:K} (h:Mon a b) (k:Mon b c):Mon a c:=⟨fun g=>k.1 (h.1 g),Nat.le_trans k.2.1 h.2.1,fun e=>(k.2.2.1 (by rw [h.2.2.1 e];exact e)).trans (h.2.2.1 e),k.2.2.2.1.trans h.2.2.2.1,fun B g=>k.2.2.2.2 B (h.2.2.2.2 B g)⟩
theorem qfj (c:K):Mon c (qk c):=by
 unfold qk
 split
 ·split
  ·exact ⟨fun h=>⟨by simp only;omega,h.2⟩,by unfold rest;simp only;omega,fun _=>rfl,rfl,fun _ h=>h⟩
  ·exact Mon.refl c
 ·exact Mon.refl c
theorem q11 {B:Int} {c:K} (h:Wi B c) (he:c.err = 0):0≤(qr c).pos∧(qr c).pos≤B:=by
 by_cases hl:c.at' < c.l.length
 ·rw [qpw he (by omega)]
  refine h.1 _ ?_
  rw [List.getD_eq_getElem?_getD,List.getElem?_eq_getElem hl]
  exact List.getElem_mem hl
 ·rw [qnj he (by omega)]
  exact ⟨h.2.1,h.2.2.1⟩
theorem qla (c:K) (e:Int) (he:e = 2∨e = 5:=by decide):Mon c (qg9 c e):=by
 refine ⟨?_,?_,fun h=>by rw [qub h],?_,?_⟩
 ·unfold qg9;split<;>exact id
 ·unfold qg9;split<;>exact Nat.le_refl _
 ·unfold qg9;split<;>rfl
 ·intro B h
  unfold qg9
  split
  ·rename_i h0
   have h1:=q11 h h0
   refine ⟨h.1,h.2.1,h.2.2.1,fun _=>⟨h1.1,h1.2,?_⟩⟩
   simp only
   rw [if_neg (by omega)];exact he
  ·exact h
theorem qdp (c:K):Mon c (qi c).1:=by
 unfold qi
 split
 ·split
  ·rename_i h1;exact ⟨fun h=>⟨h.1,h.2.1,by simp only;omega⟩,Nat.le_refl _,fun _=>rfl,rfl,fun _ h=>h⟩
  ·exact qla c 2
 ·exact Mon.refl c
theorem qcl (c:K):Mon c (qc3 c):=by
 unfold qc3
 split
 ·split
  ·exact ⟨fun h=>⟨h.1,h.2.1,by have:=h.2.2;simp only;omega⟩,Nat.le_refl _,fun _=>rfl,rfl,fun _ h=>h⟩
  ·exact Mon.refl c
 ·exact Mon.refl c
theorem q0e (c:K) (x:List UInt8):Mon c (qbh c x).1:=by
 unfold qbh
 split
 ·exact qfj c
 ·exact Mon.refl c
theorem qlt (c:K) (x:List UInt8):Mon c (qb6 c x).1:=by
 unfold qb6
 split
 ·exact qfj c
 ·exact qla c 5
theorem qsk {c:K} (h:(qr c).kind≠0):c.err = 0∧c.at' < c.l.length:=by
 unfold qr at h
 split at h
 ·rename_i h1
  split at h
  ·rename_i h2;exact ⟨h1,h2⟩
  ·exact absurd rfl h
 ·exact absurd rfl h
theorem qcu {c:K} (h:(qr c).kind≠0):rest (qk c) + 1 = rest c:=by
 obtain ⟨h1,h2⟩:=qsk h
 rw [qqf h1 (by omega)]
 unfold rest;simp only;omega
theorem ql7 {c:K} {x:List UInt8} (h:isK c x = true):(qr c).kind≠0:=by
 simp only [isK,qba,Bool.and_eq_true,Bool.or_eq_true,decide_eq_true_eq] at h
 omega
theorem qvo {c:K} (h:(qi c).2 = true):c.err = 0∧(qi c).1.err = 0∧(qi c).1 = { c with nest:=c.nest + 1 }:=by
 unfold qi at h ⊢
 split at h
 ·rename_i h1
  split at h
  ·rename_i h2;rw [if_pos h1,if_pos h2];exact ⟨h1,h1,rfl⟩
  ·cases h
 ·cases h
theorem qkv {c:K} (h:(qi c).2 = true):qr (qi c).1 = qr c:=by rw [(qvo h).2.2];rfl
/-! Types: the program. -/
def begT (c:K):Bool:=decide ((qr c).kind = 1) || decide ((qr c).kind = 2) || isK c [40]
def qll (c:K) (k:Int) (ks:List N):N:=.mk k (qr c).pos 0 (qr c).text ks
def qbl (rec:K->K×Option N) (c:K):K×Option N :=
 if (qr c).kind = 1 then (qk c,some (qll c 1 []))
 else if (qr c).kind = 2 then (qk c,some (qll c 2 []))
 else if isK c [40] = true then
  if (qi c).2 = true then
   if (rec (qk (qi c).1)).2.isSome = true then
    (qc3 (qb6 (rec (qk (qi c).1)).1 [41]).1,if (qb6 (rec (qk (qi c).1)).1 [41]).2 = true then (rec (qk (qi c).1)).2 else none)
   else (qc3 (rec (qk (qi c).1)).1,none)
  else ((qi c).1,none)
 else (qg9 c 5,none)
def qco (rec:K->K×Option N):Nat->K->List N->K×Option (List N)
 | 0,c,acc=>(c,none)
 | f + 1, c, acc =>
   if begT c = true then
    if (qbl rec c).2.isSome = true then qco rec f (qbl rec c).1 (acc ++ [(qbl rec c).2.getD N0])
    else ((qbl rec c).1,none)
   else (c,some acc)
def qbu (rec:K->K×Option N) (c:K):K×Option N :=
 if (qr c).kind = 2 then ((qco rec (rest c + 1) (qk c) []).1,(qco rec (rest c + 1) (qk c) []).2.map (qll c 2))
 else qbl rec c
def qq1 (n m:N):N:=.mk 2 n.pos 0 [45,62] [n,m]
def qbp:Nat->K->K×Option N
 | 0,c=>(c,none)
 | f + 1, c =>
   if (qi c).2 = true then
    if (qbu (qbp f) (qi c).1).2.isSome = true then
     if (qbh (qbu (qbp f) (qi c).1).1 [45,62]).2 = true then
      (qc3 (qbp f (qbh (qbu (qbp f) (qi c).1).1 [45,62]).1).1,(qbp f (qbh (qbu (qbp f) (qi c).1).1 [45,62]).1).2.map (qq1 ((qbu (qbp f) (qi c).1).2.getD N0)))
     else (qc3 (qbu (qbp f) (qi c).1).1,(qbu (qbp f) (qi c).1).2)
    else (qc3 (qbu (qbp f) (qi c).1).1,none)
   else ((qi c).1,none)
section
variable {rec:K->K×Option N} (hm:∀ c,Mon c (rec c).1)
include hm
theorem qfz (c:K):Mon c (qbl rec c).1:=by
 unfold qbl
 split
 ·exact qfj c
 ·split
  ·exact qfj c
  ·split
   ·split
    ·have h1:=((qdp c).trans (qfj _)).trans (hm _)
     split
     ·exact (h1.trans (qlt _ _)).trans (qcl _)
     ·exact h1.trans (qcl _)
    ·exact qdp c
   ·exact qla c 5
theorem qmu {c:K} (h:(qbl rec c).2.isSome = true):rest (qbl rec c).1 < rest c:=by
 unfold qbl at h ⊢
 split at h
 ·rename_i h1;rw [if_pos h1];have:=qcu (c:=c) (by omega);simp only;omega
 ·rename_i h1
  rw [if_neg h1]
  split at h
  ·rename_i h2;rw [if_pos h2];have:=qcu (c:=c) (by omega);simp only;omega
  ·rename_i h2
   rw [if_neg h2]
   split at h
   ·rename_i hk
    rw [if_pos hk]
    split at h
    ·rename_i he
     rw [if_pos he]
     have hp:=qcu (c:=(qi c).1) (by rw [qkv he];exact ql7 hk)
     have h0:=(qdp c).2.1
     have h1:=(hm (qk (qi c).1)).2.1
     split at h
     ·rename_i hr
      rw [if_pos hr]
      have h2:=(qlt (rec (qk (qi c).1)).1 [41]).2.1
      have h3:=(qcl (qb6 (rec (qk (qi c).1)).1 [41]).1).2.1
      simp only;omega
     ·cases h
    ·cases h
   ·cases h
theorem qin:∀ (f:Nat) (c:K) (acc:List N),Mon c (qco rec f c acc).1
 | 0,c,acc=>Mon.refl c
 | f + 1, c, acc => by
   rw [qco]
   split
   ·split
    ·exact (qfz hm c).trans (qin f _ _)
    ·exact qfz hm c
   ·exact Mon.refl c
theorem qr5 (c:K):Mon c (qbu rec c).1:=by
 unfold qbu
 split
 ·exact (qfj c).trans (qin hm _ _ _)
 ·exact qfz hm c
end
theorem qij:∀ (f:Nat) (c:K),Mon c (qbp f c).1
 | 0,c=>Mon.refl c
 | f + 1, c => by
   have hr:=(qdp c).trans (qr5 (qij f) (qi c).1)
   rw [qbp]
   split
   ·split
    ·split
     ·exact ((hr.trans (q0e _ _)).trans (qij f _)).trans (qcl _)
     ·exact hr.trans (qcl _)
    ·exact hr.trans (qcl _)
   ·exact qdp c

def resP (r:Option N):AV:=.tup [enc (r.getD N0),.bool r.isSome]
attribute [go_sem] resP

def kindK (c:K) (k:Int):K×Bool:=if (decide (c.err = 0) && decide ((qr c).kind = k)) = true then (qk c,true) else (qg9 c 5,false)
def qsd (c:K) (k:Int):T:=if (kindK c k).2 = true then qr c else T0
theorem qum {c:K} {k:Int} (h1:c.err = 0) (h2:(qr c).kind = k):kindK c k = (qk c,true):=by rw [kindK,decide_eq_true h1,decide_eq_true h2];rfl
theorem q3e {c:K} {k:Int} (h1:c.err = 0) (h2:(qr c).kind = k):qsd c k = qr c:=by rw [qsd,qum h1 h2];rfl
def qbe (x:List UInt8):List T->Int->Bool
 | [],_=>false
 | t :: r, d =>
   if qc5 t [[40],[123]] = true then qbe x r (d + 1)
   else if qc5 t [[41],[125]] = true then (if d - 1 < 0 then false else qbe x r (d - 1))
   else if 0 < d then qbe x r d
   else if qba t [59] = true then false
   else if qba t x = true then true
   else qbe x r d
def qp1 (c:K) (x:List UInt8):Bool:=if c.err = 0 then qbe x (c.l.drop c.at') 0 else false
end Go.Proofs.Ytlmcofjcpadmiaa
