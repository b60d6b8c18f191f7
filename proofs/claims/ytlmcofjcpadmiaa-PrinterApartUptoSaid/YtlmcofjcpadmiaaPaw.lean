/- Texts of this proof, joined. -/
import Derived.Test.YtlmcofjcpadmiaaPau
import Derived.Test.YtlmcofjcpadmiaaPav
set_option linter.unusedVariables false
set_option linter.unusedSimpArgs false

/- types: contexts: the program -/
namespace Go.Proofs.Ytlmcofjcpadmiaa
open Go Go.RowKit Go.V

def qxq (c:K):Bool:=!decide ((qj1 c).2 = 0) && (!decide ((qj1 c).2 = 5) || decide ((qr c).kind = 0))
def qbcs (t:T) (n:N):N:=.mk 3 t.pos 0 t.text [n]
def qc0 (rec:K->K×Option N) (c:K):K×Option N :=
 if (kindK c 2).2 = true then ((qbl rec (kindK c 2).1).1,(qbl rec (kindK c 2).1).2.map (qbcs (qsd c 2)))
 else ((kindK c 2).1,none)

def qix (rec:K->K×Option N) (many:Bool):Nat->K->List N->K×Option (List N)
 | 0,c,_=>(c,none)
 | f + 1, c, acc =>
   if (qc0 rec c).2.isSome = true then
    if (many && (qbh (qc0 rec c).1 [44]).2) = true then qix rec many f (qbh (qc0 rec c).1 [44]).1 (acc ++ [(qc0 rec c).2.getD N0])
    else ((qc0 rec c).1,some (acc ++ [(qc0 rec c).2.getD N0]))
   else ((qc0 rec c).1,none)
def qsy (many:Bool) (r:K×Option (List N)):K×Option (List N) :=
 if r.2.isSome = true then
  if many = true then
   if (qb6 r.1 [41]).2 = true then ((qb6 (qb6 r.1 [41]).1 [61,62]).1,if (qb6 (qb6 r.1 [41]).1 [61,62]).2 = true then r.2 else none)
   else ((qb6 r.1 [41]).1,none)
  else ((qb6 r.1 [61,62]).1,if (qb6 r.1 [61,62]).2 = true then r.2 else none)
 else (r.1,none)
def qv0 (rec:K->K×Option N) (c:K):K×Option (List N) :=
 if ((qbh c [40]).2 && isK (qbh c [40]).1 [41]) = true then ((qbh c [40]).1,some []) else qix rec (qbh c [40]).2 (rest (qbh c [40]).1 + 1) (qbh c [40]).1 []
def qcs (rec:K->K×Option N) (c:K):K×Option (List N) :=
 if qp1 c [61,62] = true then qsy (qbh c [40]).2 (qv0 rec c)
 else (c,if qxq c = true then none else some [])

def qbg8 (p:Int) (l:List N) (t:N):N:=.mk 4 p 0 [] (l ++ [t])
def qjr (f:Nat) (c:K):K×Option N :=
 if (qcs (qbp f) c).2.isSome = true then ((qbp f (qcs (qbp f) c).1).1,(qbp f (qcs (qbp f) c).1).2.map (qbg8 (qr c).pos ((qcs (qbp f) c).2.getD [])))
 else ((qcs (qbp f) c).1,none)

/-! The size of what is read. -/
theorem qlg:∀ (a b:List N),szs (a ++ b) = szs a + szs b
 | [],b=>by simp [szs]
 | x :: a,b=>by rw [List.cons_append,szs,szs,qlg a b];omega
theorem qox (c:K) (k:Int) (ks:List N):sz (qll c k ks) = szs ks + 1:=by rw [qfc];rfl
section
variable {rec:K->K×Option N} (hm:∀ c,Mon c (rec c).1) (ih:∀ c n,(rec c).2 = some n->sz n + rest (rec c).1≤rest c)
include hm ih
omit hm in
theorem qgy {c:K} {n:N} (h:(qbl rec c).2 = some n):sz n + rest (qbl rec c).1≤rest c:=by
 unfold qbl at h ⊢
 split at h
 ·rename_i h1
  rw [if_pos h1]
  cases h
  have:=qcu (c:=c) (by omega)
  rw [qox];simp only [szs];omega
 ·rename_i h1
  rw [if_neg h1]
  split at h
  ·rename_i h2
   rw [if_pos h2]
   cases h
   have:=qcu (c:=c) (by omega)
   rw [qox];simp only [szs];omega
  ·rename_i h2
   rw [if_neg h2]
   split at h
   ·rename_i h3
    rw [if_pos h3]
    split at h
    ·rename_i h4
     rw [if_pos h4]
     have hp:=qcu (c:=(qi c).1) (by rw [qkv h4];exact ql7 h3)
     have h0:=(qdp c).2.1
     split at h
     ·rename_i h5
      rw [if_pos h5]
      simp only at h ⊢
      split at h
      ·have h6:=ih _ _ h
       have h7:=(qlt (rec (qk (qi c).1)).1 [41]).2.1
       have h8:=(qcl (qb6 (rec (qk (qi c).1)).1 [41]).1).2.1
       omega
      ·cases h
     ·cases h
    ·cases h
   ·cases h
omit hm in
theorem qk0:∀ (f:Nat) (c:K) (acc l:List N),(qco rec f c acc).2 = some l->szs l + rest (qco rec f c acc).1≤szs acc + rest c
 | 0,c,acc,l=>fun h=>by cases h
 | f + 1, c, acc, l => fun h => by
   rw [qco] at h ⊢
   split at h
   ·rename_i h1
    rw [if_pos h1]
    split at h
    ·rename_i h2
     rw [if_pos h2]
     obtain ⟨n,hn⟩:=Option.isSome_iff_exists.1 h2
     have h3:=qk0 f _ _ _ h
     have h4:=qgy ih hn
     rw [qlg,hn] at h3
     simp only [Option.getD_some,szs] at h3
     rw [hn]
     simp only [Option.getD_some]
     omega
    ·cases h
   ·rename_i h1
    rw [if_neg h1]
    cases h
    exact Nat.le_refl _
omit hm in
theorem qm2 {c:K} {n:N} (h:(qbu rec c).2 = some n):sz n + rest (qbu rec c).1≤rest c:=by
 unfold qbu at h ⊢
 split at h
 ·rename_i h1
  rw [if_pos h1]
  obtain ⟨l,hl,rfl⟩:=Option.map_eq_some_iff.1 h
  have h2:=qk0 ih _ _ _ _ hl
  have h3:=qcu (c:=c) (by omega)
  rw [qox]
  simp only [szs] at h2 ⊢
  omega
 ·rename_i h1
  rw [if_neg h1]
  exact qgy ih h
end
theorem qqs:∀ (f:Nat) (c:K) (n:N),(qbp f c).2 = some n->sz n + rest (qbp f c).1≤rest c
 | 0,_,_=>fun h=>by cases h
 | f + 1, c, n => fun h => by
   have ih:=qqs f
   have h0:=(qdp c).2.1
   rw [qbp] at h ⊢
   split at h
   ·rename_i h1
    rw [if_pos h1]
    split at h
    ·rename_i h2
     rw [if_pos h2]
     obtain ⟨m,hm⟩:=Option.isSome_iff_exists.1 h2
     have h3:=qm2 ih hm
     split at h
     ·rename_i h4
      rw [if_pos h4]
      obtain ⟨q,hq,rfl⟩:=Option.map_eq_some_iff.1 h
      have h5:=ih _ _ hq
      have h6:=(qcl (qbp f (qbh (qbu (qbp f) (qi c).1).1 [45,62]).1).1).2.1
      have h7:rest (qbh (qbu (qbp f) (qi c).1).1 [45,62]).1 + 1≤rest (qbu (qbp f) (qi c).1).1:=by
       unfold qbh at h4 ⊢
       split at h4
       ·rename_i h8
        rw [if_pos h8]
        have:=qcu (ql7 h8)
        simp only;omega
       ·cases h4
      have:sz (qq1 ((qbu (qbp f) (qi c).1).2.getD N0) q) = sz m + sz q + 1:=by rw [qfc,hm];simp [qq1,N.kids,szs]
      simp only
      omega
     ·rename_i h4
      rw [if_neg h4]
      have h5:=(qcl (qbu (qbp f) (qi c).1).1).2.1
      have h6:=qm2 ih h
      simp only
      omega
    ·cases h
   ·cases h

def q1f (c:K) (n:N):N×Int×Int :=
 if (qj1 c).2 = 0 then if depR n > 100 then (N0,n.pos,2) else (n,0,0) else (N0,(qj1 c).1,(qj1 c).2)
def qyb (rd:K->K×Option N) (s:List UInt8):N×Int×Int :=
 if (lexV s).2.2 = 0 then q1f (rd (newK (lexV s).1)).1 ((rd (newK (lexV s).1)).2.getD N0)
 else (N0,(lexV s).2.1,(lexV s).2.2)
def resV (r:N×Int×Int):AV:=.tup [enc r.1,.int .i64 r.2.1,.int .i64 r.2.2]
attribute [go_sem] resV
def qbfa (q:Bool) (c:K):K×Option N:=if q = true then qjr (rest c + 2) c else qbp (rest c + 2) c

/-! Patterns. -/
def qlw (c:K):Option N :=
 if (qr c).kind = 1 then some (.mk 11 (qr c).pos 0 (qr c).text [])
 else if (qr c).kind = 2 then some (.mk 14 (qr c).pos 0 (qr c).text [])
 else if (qr c).kind = 3 then some (.mk 13 (qr c).pos (qr c).num [] [])
 else if isK c [95] = true then some (.mk 12 (qr c).pos 0 [] [])
 else none
def begP (c:K):Bool:=(qlw c).isSome || isK c [40]
def qel (rec:K->K×Option N) (c:K):K×Option N :=
 if (qlw c).isSome = true then (qk c,qlw c)
 else if isK c [40] = true then
  if (qi c).2 = true then
   if (rec (qk (qi c).1)).2.isSome = true then
    if (qb6 (rec (qk (qi c).1)).1 [41]).2 = true then (qc3 (qb6 (rec (qk (qi c).1)).1 [41]).1,(rec (qk (qi c).1)).2)
    else ((qb6 (rec (qk (qi c).1)).1 [41]).1,none)
   else ((rec (qk (qi c).1)).1,none)
  else ((qi c).1,none)
 else (qg9 c 5,none)
def qoe (rec:K->K×Option N):Nat->K->List N->K×Option (List N)
 | 0,c,acc=>(c,none)
 | f + 1, c, acc =>
   if begP c = true then
    if (qel rec c).2.isSome = true then qoe rec f (qel rec c).1 (acc ++ [(qel rec c).2.getD N0])
    else ((qel rec c).1,none)
   else (c,some acc)
def qj8:Nat->K->K×Option N
 | 0,c=>(c,none)
 | f + 1, c =>
   if (qi c).2 = true then
    if (qr (qi c).1).kind = 2 then
     (qc3 (qoe (qj8 f) (rest (qi c).1 + 1) (qk (qi c).1) []).1,(qoe (qj8 f) (rest (qi c).1 + 1) (qk (qi c).1) []).2.map fun ks=>.mk 14 (qr (qi c).1).pos 0 (qr (qi c).1).text ks)
    else (qc3 (qel (qj8 f) (qi c).1).1,(qel (qj8 f) (qi c).1).2)
   else ((qi c).1,none)

def conZ (c:K):AV:=.tup [.agg [.int .i64 14,.int .i64 (qr c).pos,.int .i64 0,.str (qr c).text,.nils],.bool true]
attribute [go_sem] conZ
end Go.Proofs.Ytlmcofjcpadmiaa
