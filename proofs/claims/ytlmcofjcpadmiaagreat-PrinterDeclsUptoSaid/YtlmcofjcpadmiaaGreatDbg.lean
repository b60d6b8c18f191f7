/- A text of this proof. -/
import Derived.Test.YtlmcofjcpadmiaaGreatDbb
set_option linter.unusedVariables false
set_option linter.unusedSimpArgs false

/- declarations: what is read (plain) -/
namespace Go.Proofs.YtlmcofjcpadmiaaGreat
open Go Go.RowKit Go.V
set_option linter.unusedSectionVars false

abbrev MF:=Bool->K->Bool×K×Bool
def rowF (one:K->R3) (more:MF):Nat->Bool->K->List N->Bool×RL
 | 0,b,c,_=>(b,c,[],false)
 | f + 1, b, c, acc =>
   if (more b c).2.2 = true then
    if (one (more b c).2.1).2.2 = true then rowF one more f (more b c).1 (one (more b c).2.1).1 (acc ++ [(one (more b c).2.1).2.1])
    else ((more b c).1,(one (more b c).2.1).1,acc,false)
   else ((more b c).1,(more b c).2.1,acc,true)
def rowS (one:K->R3) (more:MF) (b:Bool) (c:K) (acc:List N):Bool×RL:=rowF one more (rest c + 1) b c acc
def qgi (p:K->Bool):MF:=fun b c=>(b,c,p c)
def qbo (x:List UInt8):MF:=fun b c=>if b = true then (b,(qn c x).1,(qn c x).2) else (true,c,true)
def qd7:MF:=fun b c=>if isK c [125] = true then (b,c,false) else ((qbo [59] b c).1,(qbo [59] b c).2.1,(qbo [59] b c).2.2 && !isK (qbo [59] b c).2.1 [125])
def qfl:MF:=fun b c=>if (qs c).kind = 0 then (b,c,false) else ((qbo [59] b c).1,(qbo [59] b c).2.1,(qbo [59] b c).2.2 && !decide ((qs (qbo [59] b c).2.1).kind = 0))
def qig (c:K):Bool:=decide ((qs c).kind = 1)
def qhs (c:K):K×Option N:=qbv (qbn (rest c + 2)) c
def qj8 (c:K):K×Option N:=qb9 (qe6 (rest c + 2)) c
def qge (c:K):K×Option (List N):=qw (qbn (rest c + 2)) c
def qed (c:K):R3:=ofO (qhs c)
def conN (t:T) (l:List N):N:=.mk 34 t.pos 0 t.text l
def conK (c:K):R3 :=
 if (kindK c 2).2 = true then ((rowS qed (qgi begT) false (kindK c 2).1 []).2.1,conN (qi7 c 2) (rowS qed (qgi begT) false (kindK c 2).1 []).2.2.1,(rowS qed (qgi begT) false (kindK c 2).1 []).2.2.2)
 else ((kindK c 2).1,N0,false)
def q12 (p:Int) (t:T) (v l:List N):N:=.mk 33 p v.length t.text l
def q1d (p:Int) (t:T) (v:List N) (w:K×Bool):R3 :=
 if w.2 = true then ((rowS conK (qbo [124]) false w.1 v).2.1,q12 p t v (rowS conK (qbo [124]) false w.1 v).2.2.1,(rowS conK (qbo [124]) false w.1 v).2.2.2)
 else (w.1,posN p,false)
def q9p (p:Int) (t:T) (r:RL):R3:=q1d p t r.2.1 (qr r.1 [61])
def qo7 (p:Int) (c:K):R3 :=
 if (kindK c 2).2 = true then q9p p (qi7 c 2) (rowS qed (qgi qig) false (kindK c 2).1 []).2
 else ((kindK c 2).1,posN p,false)
def qbs (kind:Int) (c:K):R3 :=
 if (qj8 c).2.isSome = true∧((qj8 c).2.getD N0).kind≠kind then (qev (qj8 c).1 5,(qj8 c).2.getD N0,false) else ofO (qj8 c)
def qob (r:RL):RL:=if r.2.2 = true then ((qr r.1 [125]).1,r.2.1,(qr r.1 [125]).2) else r
def qdb (kind:Int) (c:K) (out:List N):RL :=
 if (qr c [119,104,101,114,101]).2 = true then
  if (qr (qr c [119,104,101,114,101]).1 [123]).2 = true then qob (rowS (qbs kind) qd7 false (qr (qr c [119,104,101,114,101]).1 [123]).1 out).2
  else ((qr (qr c [119,104,101,114,101]).1 [123]).1,out,false)
 else ((qr c [119,104,101,114,101]).1,out,false)
def q0y (k p:Int):N:=.mk k p 0 [] []
def qpz (k p:Int) (t:T) (v l:List N):N:=.mk k p v.length t.text l
def q5n (k p:Int) (t:T) (v:List N) (a:K×Option N):R3 :=
 if a.2.isSome = true then ((qdb (if k = 35 then 32 else 31) a.1 (v ++ [a.2.getD N0])).1,qpz k p t v (qdb (if k = 35 then 32 else 31) a.1 (v ++ [a.2.getD N0])).2.1,(qdb (if k = 35 then 32 else 31) a.1 (v ++ [a.2.getD N0])).2.2)
 else (a.1,qpz k p t v [],false)
def q2t (k p:Int) (t:T) (v:List N) (c:K):R3 :=
 if k = 35∧(qs c).kind≠1 then (qev c 5,qpz k p t v [],false) else q5n k p t v (qhs c)
def q60 (k p:Int) (c:K) (v:List N):R3 :=
 if (kindK c 2).2 = true then q2t k p (qi7 c 2) v (kindK c 2).1 else ((kindK c 2).1,q0y k p,false)
def qm3 (k p:Int) (c:K):R3 :=
 if (qge c).2.isSome = true then q60 k p (qge c).1 ((qge c).2.getD []) else ((qge c).1,q0y k p,false)
def qpo:List UInt8:=[100,97,116,97]
def qip:List UInt8:=[99,108,97,115,115]
def qpa:List UInt8:=[105,110,115,116,97,110,99,101]
def qdg (c:K):R3 :=
 if (qn c qpo).2 = true then qo7 (qs c).pos (qn c qpo).1
 else if (qn c qip).2 = true then qm3 35 (qs c).pos (qn c qip).1
 else if (qn c qpa).2 = true then qm3 36 (qs c).pos (qn c qpa).1
 else ofO (qj8 c)
def q1q (l:List N):N:=.mk 37 0 0 [] l
def qs0 (c:K):K×Option N:=((rowS qdg qfl false c []).2.1,some (q1q (rowS qdg qfl false c []).2.2.1))
def decK (c:K):K×Option N:=((qdg c).1,some (qdg c).2.1)

theorem ql1 {c:K} {k:Int} (hk:k≠0) (h:(kindK c k).2 = true):rest (kindK c k).1 < rest c:=by
 obtain ⟨h1,h2⟩:=qni h
 rw [(qym h).1]
 have:=qbd (c:=c) (by rw [h2];exact hk)
 simp only;omega
structure Goes (one:K->R3):Prop where
 m:∀ c,Mon c (one c).1
 l:∀ c,(one c).2.2 = true->rest (one c).1 < rest c
def MonM (more:MF):Prop:=∀ b c,Mon c (more b c).2.1
theorem monA (p:K->Bool):MonM (qgi p):=fun b c=>Mon.refl c
theorem monF (x:List UInt8):MonM (qbo x):=fun b c=>by
 unfold qbo
 split
 ·exact qv c x
 ·exact Mon.refl c
theorem monB:MonM qd7:=fun b c=>by
 unfold qd7
 split
 ·exact Mon.refl c
 ·exact monF [59] b c
theorem monP:MonM qfl:=fun b c=>by
 unfold qfl
 split
 ·exact Mon.refl c
 ·exact monF [59] b c
section
variable {one:K->R3} {more:MF} (ho:Goes one) (hm:MonM more)
include ho hm
theorem qzs:∀ (f:Nat) (b:Bool) (c:K) (acc:List N),Mon c (rowF one more f b c acc).2.1
 | 0,b,c,acc=>Mon.refl c
 | f + 1, b, c, acc => by
   rw [rowF]
   split
   ·split
    ·exact ((hm b c).trans (ho.m _)).trans (qzs f _ _ _)
    ·exact (hm b c).trans (ho.m _)
   ·exact hm b c
theorem q0o:∀ (f:Nat) (b:Bool) (c:K) (acc:List N),(rowF one more f b c acc).2.2.1.length + rest (rowF one more f b c acc).2.1≤acc.length + rest c
 | 0,b,c,acc=>by simp [rowF]
 | f + 1, b, c, acc => by
   have h3:=(hm b c).2.1
   have h4:=(ho.m (more b c).2.1).2.1
   rw [rowF]
   split
   ·split
    ·rename_i h
     have h1:=ho.l _ h
     have h2:=q0o f (more b c).1 (one (more b c).2.1).1 (acc ++ [(one (more b c).2.1).2.1])
     simp only [List.length_append,List.length_cons,List.length_nil] at h2
     omega
    ·simp only;omega
   ·simp only;omega
theorem q44 (hz:∀ c,SzB c (one c)):∀ (f:Nat) (b:Bool) (c:K) (acc:List N),rest c < f->szs (rowF one more f b c acc).2.2.1 + 2 * rest (rowF one more f b c acc).2.1≤szs acc + 2 * rest c
 | 0,b,c,acc=>fun h=>absurd h (by omega)
 | f + 1, b, c, acc => fun hf => by
   have h3:=(hm b c).2.1
   have h4:=(ho.m (more b c).2.1).2.1
   rw [rowF]
   split
   ·split
    ·rename_i h
     have h1:=ho.l _ h
     have h5:=hz _ h
     have h2:=q44 hz f (more b c).1 (one (more b c).2.1).1 (acc ++ [(one (more b c).2.1).2.1]) (by omega)
     rw [qd2] at h2
     simp only [szs] at h2
     omega
    ·simp only;omega
   ·simp only;omega
theorem qfw (b:Bool) (c:K) (acc:List N):Mon c (rowS one more b c acc).2.1:=qzs ho hm _ b c acc
theorem qbch (b:Bool) (c:K) (acc:List N):(rowS one more b c acc).2.2.1.length + rest (rowS one more b c acc).2.1≤acc.length + rest c:=q0o ho hm _ b c acc
theorem qof (hz:∀ c,SzB c (one c)) (b:Bool) (c:K) (acc:List N):szs (rowS one more b c acc).2.2.1 + 2 * rest (rowS one more b c acc).2.1≤szs acc + 2 * rest c:=q44 ho hm hz _ b c acc (Nat.lt_succ_self _)
end
theorem qd3:Goes qed:=⟨fun c=>qdx (qcx _) c,fun c h=>qdv (qcx _) h⟩
theorem szA:∀ c,SzO c (qhs c):=fun c n h=>by
 have h1:=qdv (qcx (rest c + 2)) (c:=c) (by unfold qhs at h;rw [h];rfl)
 have h2:=qjk (qjp (rest c + 2)) h
 unfold qhs at h ⊢
 omega
theorem qzt {c:K} {r:K×Option N} (h:SzO c r):SzB c (ofO r):=fun hs=>qe4 h hs
theorem qnw:Goes conK where
 m := fun c => by
   unfold conK
   split
   ·exact (qch c 2).trans (qfw qd3 (monA _) _ _ _)
   ·exact qch c 2
 l := fun c h => by
   unfold conK at h ⊢
   split at h
   ·rename_i h1
    rw [if_pos h1]
    have h2:=ql1 (by decide) h1
    have h3:=(qfw qd3 (monA begT) false (kindK c 2).1 []).2.1
    simp only;omega
   ·cases h
theorem qb72:∀ c,SzB c (conK c):=fun c h=>by
 unfold conK at h ⊢
 split at h
 ·rename_i h1
  rw [if_pos h1]
  have h2:=ql1 (by decide) h1
  have h3:=qof qd3 (monA begT) (fun c=>qzt (szA c)) false (kindK c 2).1 []
  simp only [szs] at h3
  simp only [conN,qij];omega
 ·cases h
theorem qkp (c:K):Mon c (qj8 c).1:=qke (qiq _) c
theorem qrv {c:K} (h:(qj8 c).2.isSome = true):rest (qj8 c).1 < rest c:=qmj (qiq _) h
theorem qsz:∀ c,SzO c (qj8 c):=fun c=>qyx (q4v _) c
theorem q7t (p:Int) (t:T) (v:List N) (w:K×Bool):Mon w.1 (q1d p t v w).1:=by
 unfold q1d
 split
 ·exact qfw qnw (monF _) _ _ _
 ·exact Mon.refl _
theorem qoq (p:Int) (c:K):Mon c (qo7 p c).1:=by
 unfold qo7 q9p
 split
 ·exact (((qch c 2).trans (qfw qd3 (monA _) _ _ _)).trans (ql _ _)).trans (q7t _ _ _ _)
 ·exact qch c 2
theorem qf3 (kind:Int):Goes (qbs kind) where
 m := fun c => by
   unfold qbs
   split
   ·exact (qkp c).trans (qe2 _ _)
   ·exact qkp c
 l := fun c h => by
   unfold qbs at h ⊢
   split at h
   ·cases h
   ·rename_i h1
    rw [if_neg h1]
    exact qrv h
theorem q89 (kind:Int):∀ c,SzB c (qbs kind c):=fun c h=>by
 unfold qbs at h ⊢
 split at h
 ·cases h
 ·rename_i h1
  rw [if_neg h1]
  exact qzt (qsz c) h
theorem qur (r:RL):Mon r.1 (qob r).1:=by
 unfold qob
 split
 ·exact ql _ _
 ·exact Mon.refl _
theorem q57 (kind:Int) (c:K) (out:List N):Mon c (qdb kind c out).1:=by
 unfold qdb
 split
 ·split
  ·exact (((ql c _).trans (ql _ _)).trans (qfw (qf3 kind) monB _ _ _)).trans (qur _)
  ·exact (ql c _).trans (ql _ _)
 ·exact ql c _
theorem qbcm (kind:Int) (c:K) (out:List N):szs (qdb kind c out).2.1 + 2 * rest (qdb kind c out).1≤szs out + 2 * rest c:=by
 have h1:=(ql c [119,104,101,114,101]).2.1
 have h2:=(ql (qr c [119,104,101,114,101]).1 [123]).2.1
 unfold qdb
 split
 ·split
  ·have h3:=qof (qf3 kind) monB (q89 kind) false (qr (qr c [119,104,101,114,101]).1 [123]).1 out
   have h4:=(qur (rowS (qbs kind) qd7 false (qr (qr c [119,104,101,114,101]).1 [123]).1 out).2).2.1
   unfold qob at h4 ⊢
   split
   ·rename_i h5
    rw [if_pos h5] at h4
    simp only at h4 ⊢;omega
   ·omega
  ·simp only;omega
 ·simp only;omega
theorem qiv (c:K):Mon c (qhs c).1:=qdx (qcx _) c
theorem qhi (c:K):Mon c (qge c).1:=qe9 (qcx _) c
theorem q79 (k p:Int) (t:T) (v:List N) (c:K):Mon c (q2t k p t v c).1:=by
 unfold q2t q5n
 split
 ·exact qe2 _ _
 ·split
  ·exact (qiv c).trans (q57 _ _ _)
  ·exact qiv c
theorem qkz (k p:Int) (c:K):Mon c (qm3 k p c).1:=by
 unfold qm3 q60
 split
 ·split
  ·exact ((qhi c).trans (qch _ _)).trans (q79 _ _ _ _ _)
  ·exact (qhi c).trans (qch _ _)
 ·exact qhi c
theorem goes_decl:Goes qdg where
 m := fun c => by
   unfold qdg
   split
   ·exact (qv c _).trans (qoq _ _)
   ·split
    ·exact (qv c _).trans (qkz _ _ _)
    ·split
     ·exact (qv c _).trans (qkz _ _ _)
     ·exact qkp c
 l := fun c h => by
   unfold qdg at h ⊢
   split at h
   ·rename_i h1
    rw [if_pos h1]
    have h2:=qcr h1
    have h3:=(qoq (qs c).pos (qn c qpo).1).2.1
    omega
   ·rename_i h1
    rw [if_neg h1]
    split at h
    ·rename_i h1
     rw [if_pos h1]
     have h2:=qcr h1
     have h3:=(qkz 35 (qs c).pos (qn c qip).1).2.1
     omega
    ·rename_i h1
     rw [if_neg h1]
     split at h
     ·rename_i h1
      rw [if_pos h1]
      have h2:=qcr h1
      have h3:=(qkz 36 (qs c).pos (qn c qpa).1).2.1
      omega
     ·rename_i h1
      rw [if_neg h1]
      exact qrv h
theorem q0x {c:K} {l:List N} (h:(qge c).2 = some l):l.length≤rest c:=qmc (qcx _) h
theorem qv2 {c:K} {l:List N} (h:(qge c).2 = some l):szs l + rest (qge c).1≤rest c:=by
 have h0:=(qv c [40]).2.1
 have hm:=qcx (rest c + 2)
 unfold qge at h ⊢
 unfold qw at h ⊢
 split at h
 ·rename_i h1
  rw [if_pos h1]
  have h2:=qj9 h
  have hB:szs l + rest (qga (qbn (rest c + 2)) c).1≤rest c:=by
   unfold qga at h2 ⊢
   split at h2
   ·rename_i h3
    rw [if_pos h3]
    cases h2
    simp only [szs];omega
   ·rename_i h3
    rw [if_neg h3]
    have h4:=qpp (qjp (rest c + 2)) _ _ _ _ _ h2
    simp only [szs] at h4
    omega
  unfold qff at h ⊢
  generalize qga (qbn (rest c + 2)) c = r at *
  have h5:=(ql r.1 [41]).2.1
  have h6:=(ql (qr r.1 [41]).1 [61,62]).2.1
  have h7:=(ql r.1 [61,62]).2.1
  repeat' split
  all_goals (simp only;omega)
 ·rename_i h1
  rw [if_neg h1]
  simp only at h ⊢
  split at h
  ·cases h
  ·cases h;simp only [szs];omega
theorem qy9 (p:Int) (c:K):sz (qo7 p c).2.1 + 2 * rest (qo7 p c).1≤2 * rest c + 1:=by
 have h1:=(qch c 2).2.1
 have h2:=(qoq p c).2.1
 unfold qo7 q9p q1d at h2 ⊢
 split
 ·have h3:=qof qd3 (monA qig) (fun c=>qzt (szA c)) false (kindK c 2).1 []
  generalize rowS qed (qgi qig) false (kindK c 2).1 [] = r at *
  have h4:=(ql r.2.1 [61]).2.1
  simp only [szs] at h3
  split
  ·have h5:=qof qnw (monF [124]) qb72 false (qr r.2.1 [61]).1 r.2.2.1
   simp only [q12,qij];omega
  ·simp only [posN,qij,szs];omega
 ·simp only [posN,qij,szs];omega
theorem qm7 (k p:Int) (c:K):sz (qm3 k p c).2.1 + 2 * rest (qm3 k p c).1≤2 * rest c + 1:=by
 have h1:=(qhi c).2.1
 unfold qm3 q60
 split
 ·rename_i h2
  obtain ⟨l,hl⟩:=Option.isSome_iff_exists.1 h2
  have h3:=qv2 hl
  rw [hl,Option.getD_some]
  have h4:=(qch (qge c).1 2).2.1
  split
  ·unfold q2t q5n
   generalize (kindK (qge c).1 2).1 = d at *
   split
   ·have:=(qe2 d 5).2.1
    simp only [qpz,qij,szs];omega
   ·have h5:=(qiv d).2.1
    split
    ·rename_i h6
     have h7:=qe4 (szA d) h6
     have h8:=qbcm (if k = 35 then 32 else 31) (qhs d).1 (l ++ [(qhs d).2.getD N0])
     rw [qd2] at h8
     simp only [szs] at h8
     simp only [qpz,qij];omega
    ·simp only [qpz,qij,szs];omega
  ·simp only [q0y,qij,szs];omega
 ·simp only [q0y,qij,szs];omega
theorem qbcb (c:K):sz (qdg c).2.1 + 2 * rest (qdg c).1≤2 * rest c + 1:=by
 have hb:=qsz c
 have hb2:=(qkp c).2.1
 unfold qdg
 split
 ·have h1:=(qv c qpo).2.1
  have:=qy9 (qs c).pos (qn c qpo).1
  omega
 ·split
  ·have h1:=(qv c qip).2.1
   have:=qm7 35 (qs c).pos (qn c qip).1
   omega
  ·split
   ·have h1:=(qv c qpa).2.1
    have:=qm7 36 (qs c).pos (qn c qpa).1
    omega
   ·unfold ofO
    cases hq:(qj8 c).2 with
    | none =>
      have:sz N0 = 1:=by rw [qeh];rfl
      simp only [Option.getD_none];omega
    | some n =>
      have:=hb n hq
      simp only [Option.getD_some];omega
theorem q5i:∀ c,SzB c (qdg c):=fun c h=>by
 unfold qdg at h ⊢
 split at h
 ·rename_i h1
  rw [if_pos h1]
  have h2:=qcr h1
  have:=qy9 (qs c).pos (qn c qpo).1
  omega
 ·rename_i h1
  rw [if_neg h1]
  split at h
  ·rename_i h1
   rw [if_pos h1]
   have h2:=qcr h1
   have:=qm7 35 (qs c).pos (qn c qip).1
   omega
  ·rename_i h1
   rw [if_neg h1]
   split at h
   ·rename_i h1
    rw [if_pos h1]
    have h2:=qcr h1
    have:=qm7 36 (qs c).pos (qn c qpa).1
    omega
   ·rename_i h1
    rw [if_neg h1]
    exact qzt (qsz c) h
theorem q4r (c:K):Mon c (qs0 c).1:=qfw goes_decl monP _ _ _
theorem qbcd (c:K):Mon c (decK c).1:=goes_decl.m c
theorem qbep (c:K):sz ((qs0 c).2.getD N0)≤2 * rest c + 1:=by
 have:=qof goes_decl monP q5i false c []
 simp only [szs] at this
 simp only [qs0,Option.getD_some,q1q,qij];omega
theorem qb3r (c:K):sz ((decK c).2.getD N0)≤2 * rest c + 1:=by
 have:=qbcb c
 simp only [decK,Option.getD_some];omega
end Go.Proofs.YtlmcofjcpadmiaaGreat
