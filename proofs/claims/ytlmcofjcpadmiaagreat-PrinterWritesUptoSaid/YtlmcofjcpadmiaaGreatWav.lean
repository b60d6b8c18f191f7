/- Texts of this proof, joined. -/
import Derived.Test.YtlmcofjcpadmiaaGreatWat
import Derived.Test.YtlmcofjcpadmiaaGreatWau
import Derived.Test.YtlmcofjcpadmiaaGreatWap
set_option linter.unusedVariables false
set_option linter.unusedSimpArgs false

/- the cursor: what it is, what its methods do -/
set_option maxRecDepth 4000
namespace Go.Proofs.YtlmcofjcpadmiaaGreat
open Go Go.RowKit Go.V

attribute [go_sem] cond_true cond_false
structure K where
 l:List T
 ep:Int
 at':Nat
 nest:Nat
 err:Int
 pos:Int
def K.ok (c:K):Prop:=c.at'≤c.l.length∧c.l.length≤maxLen
def K.bad (c:K):Bool:=!decide (c.err = 0)
def qcu (c:K):T:=if c.err = 0 then if c.at' < c.l.length then c.l.getD c.at' T0 else ⟨0,c.ep,0,[]⟩ else T0
def qde (c:K):K:=if c.err = 0 then if c.at' < c.l.length then { c with at':=c.at' + 1 } else c else c
def qbko (t:T) (s:List UInt8):Bool:=(decide (t.kind = 4) || decide (t.kind = 5)) && decide (t.text = s)
def isK (c:K) (s:List UInt8):Bool:=decide (c.err = 0) && qbko (qcu c) s
def qjz (c:K) (e:Int):K:=if c.err = 0 then { c with err:=if e = 0 then 1 else e,pos:=(qcu c).pos } else c
def qla (c:K) (s:List UInt8):K×Bool:=if isK c s = true then (qde c,true) else (c,false)
def qpt (c:K) (s:List UInt8):K×Bool:=if isK c s = true then (qde c,true) else (qjz c 5,false)
def qv (c:K):K×Bool:=if c.err = 0 then if c.nest < 200 then ({ c with nest:=c.nest + 1 },true) else (qjz c 2,false) else (c,false)
def qhg (c:K):K:=if c.err = 0 then if 0 < c.nest then { c with nest:=c.nest - 1 } else c else c

section
variable {c:K}
theorem qy6 (h:c.err = 0) (h2:(c.at':Int) < c.l.length):qcu c = c.l.getD c.at' T0:=by rw [qcu,if_pos h,if_pos (by omega)]
theorem qsa (h:c.err = 0) (h2:¬ (c.at':Int) < c.l.length):qcu c = ⟨0,c.ep,0,[]⟩:=by rw [qcu,if_pos h,if_neg (by omega)]
theorem qvt (h:c.err = 0) (h2:(c.at':Int) < c.l.length):qde c = { c with at':=c.at' + 1 }:=by rw [qde,if_pos h,if_pos (by omega)]
theorem qq5 {e:Int} (h:¬ c.err = 0):qjz c e = c:=if_neg h
end
set_option maxRecDepth 4000



/-! The cursor: it has gone on, if it has gone; a failure stays. -/
def K.good (c:K):Prop:=c.at'≤c.l.length∧c.l.length≤1048577∧c.nest≤200
def rest (c:K):Nat:=c.l.length - c.at'
theorem K.good.ok {c:K} (h:c.good):c.ok:=⟨h.1,Nat.le_trans h.2.1 (by unfold maxLen;omega)⟩
def Wi (B:Int) (c:K):Prop:=(∀ t∈c.l,0≤t.pos∧t.pos≤B)∧0≤c.ep∧c.ep≤B∧(c.err≠0->0≤c.pos∧c.pos≤B∧(c.err = 2∨c.err = 5))
def Mon (c c':K):Prop:=(c.good->c'.good)∧rest c'≤rest c∧(c.err≠0->c'.err = c.err)∧c'.l = c.l∧∀ B,Wi B c->Wi B c'
theorem Mon.refl (c:K):Mon c c:=⟨id,Nat.le_refl _,fun _=>rfl,rfl,fun _ h=>h⟩
theorem Mon.trans {a b c:K} (h:Mon a b) (k:Mon b c):Mon a c:=⟨fun g=>k.1 (h.1 g),Nat.le_trans k.2.1 h.2.1,fun e=>(k.2.2.1 (by rw [h.2.2.1 e];exact e)).trans (h.2.2.1 e),k.2.2.2.1.trans h.2.2.2.1,fun B g=>k.2.2.2.2 B (h.2.2.2.2 B g)⟩
theorem qeq (c:K):Mon c (qde c):=by
 unfold qde
 split
 ·split
  ·exact ⟨fun h=>⟨by simp only;omega,h.2⟩,by unfold rest;simp only;omega,fun _=>rfl,rfl,fun _ h=>h⟩
  ·exact Mon.refl c
 ·exact Mon.refl c
theorem q9n {B:Int} {c:K} (h:Wi B c) (he:c.err = 0):0≤(qcu c).pos∧(qcu c).pos≤B:=by
 by_cases hl:c.at' < c.l.length
 ·rw [qy6 he (by omega)]
  refine h.1 _ ?_
  rw [List.getD_eq_getElem?_getD,List.getElem?_eq_getElem hl]
  exact List.getElem_mem hl
 ·rw [qsa he (by omega)]
  exact ⟨h.2.1,h.2.2.1⟩
theorem qj8 (c:K) (e:Int) (he:e = 2∨e = 5:=by decide):Mon c (qjz c e):=by
 refine ⟨?_,?_,fun h=>by rw [qq5 h],?_,?_⟩
 ·unfold qjz;split<;>exact id
 ·unfold qjz;split<;>exact Nat.le_refl _
 ·unfold qjz;split<;>rfl
 ·intro B h
  unfold qjz
  split
  ·rename_i h0
   have h1:=q9n h h0
   refine ⟨h.1,h.2.1,h.2.2.1,fun _=>⟨h1.1,h1.2,?_⟩⟩
   simp only
   rw [if_neg (by omega)];exact he
  ·exact h
theorem qcy (c:K):Mon c (qv c).1:=by
 unfold qv
 split
 ·split
  ·rename_i h1;exact ⟨fun h=>⟨h.1,h.2.1,by simp only;omega⟩,Nat.le_refl _,fun _=>rfl,rfl,fun _ h=>h⟩
  ·exact qj8 c 2
 ·exact Mon.refl c
theorem qb1 (c:K):Mon c (qhg c):=by
 unfold qhg
 split
 ·split
  ·exact ⟨fun h=>⟨h.1,h.2.1,by have:=h.2.2;simp only;omega⟩,Nat.le_refl _,fun _=>rfl,rfl,fun _ h=>h⟩
  ·exact Mon.refl c
 ·exact Mon.refl c
theorem qxl (c:K) (x:List UInt8):Mon c (qla c x).1:=by
 unfold qla
 split
 ·exact qeq c
 ·exact Mon.refl c
theorem qkv (c:K) (x:List UInt8):Mon c (qpt c x).1:=by
 unfold qpt
 split
 ·exact qeq c
 ·exact qj8 c 5
theorem qo9 {c:K} (h:(qcu c).kind≠0):c.err = 0∧c.at' < c.l.length:=by
 unfold qcu at h
 split at h
 ·rename_i h1
  split at h
  ·rename_i h2;exact ⟨h1,h2⟩
  ·exact absurd rfl h
 ·exact absurd rfl h
theorem qci {c:K} (h:(qcu c).kind≠0):rest (qde c) + 1 = rest c:=by
 obtain ⟨h1,h2⟩:=qo9 h
 rw [qvt h1 (by omega)]
 unfold rest;simp only;omega
theorem qkt {c:K} {x:List UInt8} (h:isK c x = true):(qcu c).kind≠0:=by
 simp only [isK,qbko,Bool.and_eq_true,Bool.or_eq_true,decide_eq_true_eq] at h
 omega
theorem qs8 {c:K} (h:(qv c).2 = true):c.err = 0∧(qv c).1.err = 0∧(qv c).1 = { c with nest:=c.nest + 1 }:=by
 unfold qv at h ⊢
 split at h
 ·rename_i h1
  split at h
  ·rename_i h2;rw [if_pos h1,if_pos h2];exact ⟨h1,h1,rfl⟩
  ·cases h
 ·cases h
theorem qjp {c:K} (h:(qv c).2 = true):qcu (qv c).1 = qcu c:=by rw [(qs8 h).2.2];rfl
/-! Types: the program. -/
def begT (c:K):Bool:=decide ((qcu c).kind = 1) || decide ((qcu c).kind = 2) || isK c [40]
def qu4 (c:K) (k:Int) (ks:List N):N:=.mk k (qcu c).pos 0 (qcu c).text ks
def qb5 (rec:K->K×Option N) (c:K):K×Option N :=
 if (qcu c).kind = 1 then (qde c,some (qu4 c 1 []))
 else if (qcu c).kind = 2 then (qde c,some (qu4 c 2 []))
 else if isK c [40] = true then
  if (qv c).2 = true then
   if (rec (qde (qv c).1)).2.isSome = true then
    (qhg (qpt (rec (qde (qv c).1)).1 [41]).1,if (qpt (rec (qde (qv c).1)).1 [41]).2 = true then (rec (qde (qv c).1)).2 else none)
   else (qhg (rec (qde (qv c).1)).1,none)
  else ((qv c).1,none)
 else (qjz c 5,none)
def qef (rec:K->K×Option N):Nat->K->List N->K×Option (List N)
 | 0,c,acc=>(c,none)
 | f + 1, c, acc =>
   if begT c = true then
    if (qb5 rec c).2.isSome = true then qef rec f (qb5 rec c).1 (acc ++ [(qb5 rec c).2.getD N0])
    else ((qb5 rec c).1,none)
   else (c,some acc)
def qb7 (rec:K->K×Option N) (c:K):K×Option N :=
 if (qcu c).kind = 2 then ((qef rec (rest c + 1) (qde c) []).1,(qef rec (rest c + 1) (qde c) []).2.map (qu4 c 2))
 else qb5 rec c
def qsf (n m:N):N:=.mk 2 n.pos 0 [45,62] [n,m]
def qc6:Nat->K->K×Option N
 | 0,c=>(c,none)
 | f + 1, c =>
   if (qv c).2 = true then
    if (qb7 (qc6 f) (qv c).1).2.isSome = true then
     if (qla (qb7 (qc6 f) (qv c).1).1 [45,62]).2 = true then
      (qhg (qc6 f (qla (qb7 (qc6 f) (qv c).1).1 [45,62]).1).1,(qc6 f (qla (qb7 (qc6 f) (qv c).1).1 [45,62]).1).2.map (qsf ((qb7 (qc6 f) (qv c).1).2.getD N0)))
     else (qhg (qb7 (qc6 f) (qv c).1).1,(qb7 (qc6 f) (qv c).1).2)
    else (qhg (qb7 (qc6 f) (qv c).1).1,none)
   else ((qv c).1,none)
section
variable {rec:K->K×Option N} (hm:∀ c,Mon c (rec c).1)
include hm
theorem qe6 (c:K):Mon c (qb5 rec c).1:=by
 unfold qb5
 split
 ·exact qeq c
 ·split
  ·exact qeq c
  ·split
   ·split
    ·have h1:=((qcy c).trans (qeq _)).trans (hm _)
     split
     ·exact (h1.trans (qkv _ _)).trans (qb1 _)
     ·exact h1.trans (qb1 _)
    ·exact qcy c
   ·exact qj8 c 5
theorem qlj {c:K} (h:(qb5 rec c).2.isSome = true):rest (qb5 rec c).1 < rest c:=by
 unfold qb5 at h ⊢
 split at h
 ·rename_i h1;rw [if_pos h1];have:=qci (c:=c) (by omega);simp only;omega
 ·rename_i h1
  rw [if_neg h1]
  split at h
  ·rename_i h2;rw [if_pos h2];have:=qci (c:=c) (by omega);simp only;omega
  ·rename_i h2
   rw [if_neg h2]
   split at h
   ·rename_i hk
    rw [if_pos hk]
    split at h
    ·rename_i he
     rw [if_pos he]
     have hp:=qci (c:=(qv c).1) (by rw [qjp he];exact qkt hk)
     have h0:=(qcy c).2.1
     have h1:=(hm (qde (qv c).1)).2.1
     split at h
     ·rename_i hr
      rw [if_pos hr]
      have h2:=(qkv (rec (qde (qv c).1)).1 [41]).2.1
      have h3:=(qb1 (qpt (rec (qde (qv c).1)).1 [41]).1).2.1
      simp only;omega
     ·cases h
    ·cases h
   ·cases h
theorem qhl:∀ (f:Nat) (c:K) (acc:List N),Mon c (qef rec f c acc).1
 | 0,c,acc=>Mon.refl c
 | f + 1, c, acc => by
   rw [qef]
   split
   ·split
    ·exact (qe6 hm c).trans (qhl f _ _)
    ·exact qe6 hm c
   ·exact Mon.refl c
theorem qqb (c:K):Mon c (qb7 rec c).1:=by
 unfold qb7
 split
 ·exact (qeq c).trans (qhl hm _ _ _)
 ·exact qe6 hm c
end
theorem qie:∀ (f:Nat) (c:K),Mon c (qc6 f c).1
 | 0,c=>Mon.refl c
 | f + 1, c => by
   have hr:=(qcy c).trans (qqb (qie f) (qv c).1)
   rw [qc6]
   split
   ·split
    ·split
     ·exact ((hr.trans (qxl _ _)).trans (qie f _)).trans (qb1 _)
     ·exact hr.trans (qb1 _)
    ·exact hr.trans (qb1 _)
   ·exact qcy c
set_option maxRecDepth 4000

def resP (r:Option N):AV:=.tup [enc (r.getD N0),.bool r.isSome]
attribute [go_sem] resP
set_option maxRecDepth 4000

end Go.Proofs.YtlmcofjcpadmiaaGreat
