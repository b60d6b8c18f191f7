/- Texts of this proof, joined. -/
import Derived.Test.YtlmcofjcpadmiaaGreatWav
import Derived.Test.YtlmcofjcpadmiaaGreatWaw
import Derived.Test.YtlmcofjcpadmiaaGreatWan
import Derived.Test.YtlmcofjcpadmiaaGreatWar
import Derived.Test.YtlmcofjcpadmiaaGreatWat
set_option linter.unusedVariables false
set_option linter.unusedSimpArgs false

/- types: contexts: the program -/
set_option maxRecDepth 4000
namespace Go.Proofs.YtlmcofjcpadmiaaGreat
open Go Go.RowKit Go.V

set_option maxRecDepth 4000

set_option maxRecDepth 4000


/-! The size of what is read. -/
theorem qgc:∀ (a b:List N),szs (a ++ b) = szs a + szs b
 | [],b=>by simp [szs]
 | x :: a,b=>by rw [List.cons_append,szs,szs,qgc a b];omega
theorem qm6 (c:K) (k:Int) (ks:List N):sz (qu4 c k ks) = szs ks + 1:=by rw [qfa];rfl
section
variable {rec:K->K×Option N} (hm:∀ c,Mon c (rec c).1) (ih:∀ c n,(rec c).2 = some n->sz n + rest (rec c).1≤rest c)
include hm ih
omit hm in
theorem qgh {c:K} {n:N} (h:(qb5 rec c).2 = some n):sz n + rest (qb5 rec c).1≤rest c:=by
 unfold qb5 at h ⊢
 split at h
 ·rename_i h1
  rw [if_pos h1]
  cases h
  have:=qci (c:=c) (by omega)
  rw [qm6];simp only [szs];omega
 ·rename_i h1
  rw [if_neg h1]
  split at h
  ·rename_i h2
   rw [if_pos h2]
   cases h
   have:=qci (c:=c) (by omega)
   rw [qm6];simp only [szs];omega
  ·rename_i h2
   rw [if_neg h2]
   split at h
   ·rename_i h3
    rw [if_pos h3]
    split at h
    ·rename_i h4
     rw [if_pos h4]
     have hp:=qci (c:=(qv c).1) (by rw [qjp h4];exact qkt h3)
     have h0:=(qcy c).2.1
     split at h
     ·rename_i h5
      rw [if_pos h5]
      simp only at h ⊢
      split at h
      ·have h6:=ih _ _ h
       have h7:=(qkv (rec (qde (qv c).1)).1 [41]).2.1
       have h8:=(qb1 (qpt (rec (qde (qv c).1)).1 [41]).1).2.1
       omega
      ·cases h
     ·cases h
    ·cases h
   ·cases h
omit hm in
theorem qjb:∀ (f:Nat) (c:K) (acc l:List N),(qef rec f c acc).2 = some l->szs l + rest (qef rec f c acc).1≤szs acc + rest c
 | 0,c,acc,l=>fun h=>by cases h
 | f + 1, c, acc, l => fun h => by
   rw [qef] at h ⊢
   split at h
   ·rename_i h1
    rw [if_pos h1]
    split at h
    ·rename_i h2
     rw [if_pos h2]
     obtain ⟨n,hn⟩:=Option.isSome_iff_exists.1 h2
     have h3:=qjb f _ _ _ h
     have h4:=qgh ih hn
     rw [qgc,hn] at h3
     simp only [Option.getD_some,szs] at h3
     rw [hn]
     simp only [Option.getD_some]
     omega
    ·cases h
   ·rename_i h1
    rw [if_neg h1]
    cases h
    exact Nat.le_refl _
omit hm in
theorem ql9 {c:K} {n:N} (h:(qb7 rec c).2 = some n):sz n + rest (qb7 rec c).1≤rest c:=by
 unfold qb7 at h ⊢
 split at h
 ·rename_i h1
  rw [if_pos h1]
  obtain ⟨l,hl,rfl⟩:=Option.map_eq_some_iff.1 h
  have h2:=qjb ih _ _ _ _ hl
  have h3:=qci (c:=c) (by omega)
  rw [qm6]
  simp only [szs] at h2 ⊢
  omega
 ·rename_i h1
  rw [if_neg h1]
  exact qgh ih h
end
theorem qnv:∀ (f:Nat) (c:K) (n:N),(qc6 f c).2 = some n->sz n + rest (qc6 f c).1≤rest c
 | 0,_,_=>fun h=>by cases h
 | f + 1, c, n => fun h => by
   have ih:=qnv f
   have h0:=(qcy c).2.1
   rw [qc6] at h ⊢
   split at h
   ·rename_i h1
    rw [if_pos h1]
    split at h
    ·rename_i h2
     rw [if_pos h2]
     obtain ⟨m,hm⟩:=Option.isSome_iff_exists.1 h2
     have h3:=ql9 ih hm
     split at h
     ·rename_i h4
      rw [if_pos h4]
      obtain ⟨q,hq,rfl⟩:=Option.map_eq_some_iff.1 h
      have h5:=ih _ _ hq
      have h6:=(qb1 (qc6 f (qla (qb7 (qc6 f) (qv c).1).1 [45,62]).1).1).2.1
      have h7:rest (qla (qb7 (qc6 f) (qv c).1).1 [45,62]).1 + 1≤rest (qb7 (qc6 f) (qv c).1).1:=by
       unfold qla at h4 ⊢
       split at h4
       ·rename_i h8
        rw [if_pos h8]
        have:=qci (qkt h8)
        simp only;omega
       ·cases h4
      have:sz (qsf ((qb7 (qc6 f) (qv c).1).2.getD N0) q) = sz m + sz q + 1:=by rw [qfa,hm];simp [qsf,N.kids,szs]
      simp only
      omega
     ·rename_i h4
      rw [if_neg h4]
      have h5:=(qb1 (qb7 (qc6 f) (qv c).1).1).2.1
      have h6:=ql9 ih h
      simp only
      omega
    ·cases h
   ·cases h
set_option maxRecDepth 4000

def resV (r:N×Int×Int):AV:=.tup [enc r.1,.int .i64 r.2.1,.int .i64 r.2.2]
attribute [go_sem] resV
set_option maxRecDepth 4000

/-! Patterns. -/
def conZ (c:K):AV:=.tup [.agg [.int .i64 14,.int .i64 (qcu c).pos,.int .i64 0,.str (qcu c).text,.nils],.bool true]
attribute [go_sem] conZ

set_option maxRecDepth 4000

def resB (r:N×Bool):AV:=.tup [enc r.1,.bool r.2]
attribute [go_sem] resB
set_option maxRecDepth 4000

set_option maxRecDepth 4000

set_option maxRecDepth 4000

set_option maxRecDepth 4000


set_option maxRecDepth 4000

/-! The size of what is read. -/
def SzO (c:K) (r:K×Option N):Prop:=∀ n,r.2 = some n->sz n + 1 + 2 * rest r.1≤2 * rest c

def bare (t:T):T:=⟨t.kind,0,t.num,t.text⟩
def Stop (tl:List T):Prop:=tl = []∨∃ t,tl = [t]∧t.kind = 5∧(t.text = [41]∨t.text = [125]∨t.text = [59])

/-! one word behind the other -/
def bnd (r:List UInt8):Prop:=onW ((r.getD 0 0).toNat:Int) = false

theorem map_cons (t:T) (b:List T) (o:Option (List T)):(o.map (b ++ ·)).map (t :: ·) = o.map (t :: b ++ ·):=by
 cases o<;>simp
theorem map_nil (o:Option (List T)):o.map (([]:List T) ++ ·) = o:=by cases o<;>simp
theorem qos {n:N} (h:tyW n = true) (ha:n.kind≠1∧n.text = arW):n.kids.length = 2∧tyW (n.kids.getD 0 N0) = true∧tyW (n.kids.getD 1 N0) = true:=by
 rw [qnz,if_neg ha.1] at h
 split at h
 ·rename_i h2
  rw [if_pos (show n.text = [45,62] from ha.2),Bool.and_eq_true,decide_eq_true_eq] at h
  have hl:n.kids.length = 2:=by omega
  rw [List.all_eq_true] at h
  exact ⟨hl,h.2 _ (qg (by omega)),h.2 _ (qg (by omega))⟩
 ·cases h
theorem qr6 {n:N} (h:tyW n = true) (ha:¬ (n.kind≠1∧n.text = arW)):(n.kind = 1∧varW n.text = true∧n.kids = []∨n.kind = 2∧conW n.text = true)∧n.num = 0∧∀ x∈n.kids,tyW x = true:=by
 rw [qnz] at h
 by_cases h1:n.kind = 1
 ·rw [if_pos h1,Bool.and_eq_true,Bool.and_eq_true,decide_eq_true_eq,decide_eq_true_eq] at h
  have h0:n.kids = []:=List.length_eq_zero_iff.1 (by omega)
  exact ⟨.inl ⟨h1,h.1.2,h0⟩,h.1.1,by rw [h0];intro x hx;cases hx⟩
 ·rw [if_neg h1] at h
  split at h
  ·rename_i h2
   rw [if_neg (fun e:n.text = [45,62]=>ha ⟨h1,e⟩),Bool.and_eq_true,List.all_eq_true] at h
   exact ⟨.inr ⟨h2.1,h.1⟩,h2.2,h.2⟩
  ·cases h


inductive PaQ (n:N):Prop
 | var (h:n.kind = 11) (h1:varW n.text = true) (h2:n.kids = []) (h3:n.num = 0)
 | any (h:n.kind = 12) (h1:n.text = []) (h2:n.kids = []) (h3:n.num = 0)
 | int (h:n.kind = 13) (h1:n.text = []) (h2:n.kids = []) (h3:0≤n.num)
 | con (h:n.kind = 14) (h1:conW n.text = true) (h2:∀ x∈n.kids,paW x = true) (h3:n.num = 0)
theorem quj {n:N} (h:paW n = true):PaQ n:=by
 rw [qsr] at h
 have h0:decide ((n.kids.length:Int) = 0) = true->n.kids = []:=fun e=>List.length_eq_zero_iff.1 (by have:=of_decide_eq_true e;omega)
 by_cases h1:n.kind = 11
 ·rw [if_pos h1] at h
  simp only [Bool.and_eq_true] at h
  exact .var h1 h.1.2 (h0 h.2) (of_decide_eq_true h.1.1)
 rw [if_neg h1] at h
 by_cases h2:n.kind = 12
 ·rw [if_pos h2] at h
  simp only [Bool.and_eq_true] at h
  exact .any h2 (of_decide_eq_true h.1.1) (h0 h.2) (of_decide_eq_true h.1.2)
 rw [if_neg h2] at h
 by_cases h3:n.kind = 13
 ·rw [if_pos h3] at h
  simp only [Bool.and_eq_true] at h
  exact .int h3 (of_decide_eq_true h.1.1) (h0 h.2) (of_decide_eq_true h.1.2)
 rw [if_neg h3] at h
 by_cases h4:n.kind = 14
 ·rw [if_pos h4] at h
  simp only [Bool.and_eq_true,List.all_eq_true] at h
  exact .con h4 h.1.2 h.2 (of_decide_eq_true h.1.1)
 ·rw [if_neg h4] at h;cases h
theorem qhp {n:N} (h:(enc n).wf) {x:N} (hx:x∈n.kids):(enc x).wf:=((qb9 n).1 h).2.2.2.2.2 x hx

theorem qbr (a b:List UInt8) (r:List (List UInt8)) (s:List UInt8):Lib.join (a :: b :: r) s = a ++ (s ++ Lib.join (b :: r) s):=by
 simp [Lib.join,List.intercalate,List.intersperse]
theorem qc7 (a s:List UInt8):Lib.join [a] s = a:=by simp [Lib.join,List.intercalate,List.intersperse]
/-! predicates -/
theorem qka {n:N} (h:prW n = true):n.kind = 3∧n.num = 0∧conW n.text = true∧n.kids.length = 1∧tyW (n.kids.getD 0 N0) = true:=by
 simp only [prW,Bool.and_eq_true,decide_eq_true_eq] at h
 exact ⟨h.1.1.1.1,h.1.1.1.2,h.1.1.2,by have:=h.1.2;omega,h.2⟩

/-! contexts and types -/
def qcg (n:N):List N:=n.kids.take (n.kids.length - 1)
def qew (n:N):N:=n.kids.getD (n.kids.length - 1) N0
theorem qj7 {n:N} (h:quW n = true):n.kind = 4∧n.text = []∧n.num = 0∧n.kids = qcg n ++ [qew n]∧(∀ x∈qcg n,prW x = true)∧tyW (qew n) = true:=by
 have e:((n.kids.length:Int) - 1).toNat = n.kids.length - 1:=by omega
 simp only [quW,qe7,Bool.and_eq_true,decide_eq_true_eq,e,List.all_eq_true] at h
 obtain ⟨⟨⟨⟨h1,h2,h3⟩,h4⟩,h5⟩,h6⟩:=h
 refine ⟨h1,h2,h3,?_,h5,h6⟩
 have hl:n.kids.length - 1 < n.kids.length:=by omega
 rw [qcg,qew,← qrs hl,List.take_of_length_le (by omega)]
end Go.Proofs.YtlmcofjcpadmiaaGreat
