/- A text of this proof. -/
import Derived.Test.YtlmcofjcpadmiaaGreatNbb
set_option linter.unusedVariables false
set_option linter.unusedSimpArgs false

/- declarations: what is read (plain) -/
namespace Go.Proofs.YtlmcofjcpadmiaaGreat
open Go Go.RowKit Go.V
set_option linter.unusedSectionVars false

abbrev MF:=Bool->K->Bool×K×Bool
def rowF (one:K->R3) (more:MF):Nat->Bool->K->List N->Bool×RL
 | 0,b,c,_=>(b,c,[],false)
 | f + 1, b, c, acc =>
   if (more b c).2.2 = true then
    if (one (more b c).2.1).2.2 = true then rowF one more f (more b c).1 (one (more b c).2.1).1 (acc ++ [(one (more b c).2.1).2.1])
    else ((more b c).1,(one (more b c).2.1).1,acc,false)
   else ((more b c).1,(more b c).2.1,acc,true)
def rowS (one:K->R3) (more:MF) (b:Bool) (c:K) (acc:List N):Bool×RL:=rowF one more (rest c + 1) b c acc
def qdl (p:K->Bool):MF:=fun b c=>(b,c,p c)
def qbh (x:List UInt8):MF:=fun b c=>if b = true then (b,(qf c x).1,(qf c x).2) else (true,c,true)
def qdy:MF:=fun b c=>if isK c [125] = true then (b,c,false) else ((qbh [59] b c).1,(qbh [59] b c).2.1,(qbh [59] b c).2.2 && !isK (qbh [59] b c).2.1 [125])
def qd7:MF:=fun b c=>if (qp c).kind = 0 then (b,c,false) else ((qbh [59] b c).1,(qbh [59] b c).2.1,(qbh [59] b c).2.2 && !decide ((qp (qbh [59] b c).2.1).kind = 0))
def qdj (c:K):Bool:=decide ((qp c).kind = 1)
def qd8 (c:K):K×Option N:=qbg (qbe (rest c + 2)) c
def qgj (c:K):K×Option N:=qbm (qfo (rest c + 2)) c
def qct (c:K):K×Option (List N):=qt (qbe (rest c + 2)) c
def qb5 (c:K):R3:=ofO (qd8 c)
def conN (t:T) (l:List N):N:=.mk 34 t.pos 0 t.text l
def conK (c:K):R3 :=
 if (kindK c 2).2 = true then ((rowS qb5 (qdl begT) false (kindK c 2).1 []).2.1,conN (qen c 2) (rowS qb5 (qdl begT) false (kindK c 2).1 []).2.2.1,(rowS qb5 (qdl begT) false (kindK c 2).1 []).2.2.2)
 else ((kindK c 2).1,N0,false)
def qp2 (p:Int) (t:T) (v l:List N):N:=.mk 33 p v.length t.text l
def qxw (p:Int) (t:T) (v:List N) (w:K×Bool):R3 :=
 if w.2 = true then ((rowS conK (qbh [124]) false w.1 v).2.1,qp2 p t v (rowS conK (qbh [124]) false w.1 v).2.2.1,(rowS conK (qbh [124]) false w.1 v).2.2.2)
 else (w.1,posN p,false)
def qy2 (p:Int) (t:T) (r:RL):R3:=qxw p t r.2.1 (qh r.1 [61])
def qi0 (p:Int) (c:K):R3 :=
 if (kindK c 2).2 = true then qy2 p (qen c 2) (rowS qb5 (qdl qdj) false (kindK c 2).1 []).2
 else ((kindK c 2).1,posN p,false)
def qv (kind:Int) (c:K):R3 :=
 if (qgj c).2.isSome = true∧((qgj c).2.getD N0).kind≠kind then (qd9 (qgj c).1 5,(qgj c).2.getD N0,false) else ofO (qgj c)
def qmv (r:RL):RL:=if r.2.2 = true then ((qh r.1 [125]).1,r.2.1,(qh r.1 [125]).2) else r
def qc1 (kind:Int) (c:K) (out:List N):RL :=
 if (qh c [119,104,101,114,101]).2 = true then
  if (qh (qh c [119,104,101,114,101]).1 [123]).2 = true then qmv (rowS (qv kind) qdy false (qh (qh c [119,104,101,114,101]).1 [123]).1 out).2
  else ((qh (qh c [119,104,101,114,101]).1 [123]).1,out,false)
 else ((qh c [119,104,101,114,101]).1,out,false)
def q09 (k p:Int):N:=.mk k p 0 [] []
def qi1 (k p:Int) (t:T) (v l:List N):N:=.mk k p v.length t.text l
def qyf (k p:Int) (t:T) (v:List N) (a:K×Option N):R3 :=
 if a.2.isSome = true then ((qc1 (if k = 35 then 32 else 31) a.1 (v ++ [a.2.getD N0])).1,qi1 k p t v (qc1 (if k = 35 then 32 else 31) a.1 (v ++ [a.2.getD N0])).2.1,(qc1 (if k = 35 then 32 else 31) a.1 (v ++ [a.2.getD N0])).2.2)
 else (a.1,qi1 k p t v [],false)
def qxa (k p:Int) (t:T) (v:List N) (c:K):R3 :=
 if k = 35∧(qp c).kind≠1 then (qd9 c 5,qi1 k p t v [],false) else qyf k p t v (qd8 c)
def qyo (k p:Int) (c:K) (v:List N):R3 :=
 if (kindK c 2).2 = true then qxa k p (qen c 2) v (kindK c 2).1 else ((kindK c 2).1,q09 k p,false)
def qik (k p:Int) (c:K):R3 :=
 if (qct c).2.isSome = true then qyo k p (qct c).1 ((qct c).2.getD []) else ((qct c).1,q09 k p,false)
def qoz:List UInt8:=[100,97,116,97]
def qi2:List UInt8:=[99,108,97,115,115]
def qoj:List UInt8:=[105,110,115,116,97,110,99,101]
def qcr (c:K):R3 :=
 if (qf c qoz).2 = true then qi0 (qp c).pos (qf c qoz).1
 else if (qf c qi2).2 = true then qik 35 (qp c).pos (qf c qi2).1
 else if (qf c qoj).2 = true then qik 36 (qp c).pos (qf c qoj).1
 else ofO (qgj c)
def quk (l:List N):N:=.mk 37 0 0 [] l
def qk9 (c:K):K×Option N:=((rowS qcr qd7 false c []).2.1,some (quk (rowS qcr qd7 false c []).2.2.1))
theorem qo2 {c:K} {k:Int} (hk:k≠0) (h:(kindK c k).2 = true):rest (kindK c k).1 < rest c:=by
 obtain ⟨h1,h2⟩:=qg7 h
 rw [(qj9 h).1]
 have:=qbb (c:=c) (by rw [h2];exact hk)
 simp only;omega
structure Goes (one:K->R3):Prop where
 m:∀ c,Mon c (one c).1
 l:∀ c,(one c).2.2 = true->rest (one c).1 < rest c
def MonM (more:MF):Prop:=∀ b c,Mon c (more b c).2.1
theorem monA (p:K->Bool):MonM (qdl p):=fun b c=>Mon.refl c
theorem monF (x:List UInt8):MonM (qbh x):=fun b c=>by
 unfold qbh
 split
 ·exact qm c x
 ·exact Mon.refl c
theorem monB:MonM qdy:=fun b c=>by
 unfold qdy
 split
 ·exact Mon.refl c
 ·exact monF [59] b c
theorem monP:MonM qd7:=fun b c=>by
 unfold qd7
 split
 ·exact Mon.refl c
 ·exact monF [59] b c
section
variable {one:K->R3} {more:MF} (ho:Goes one) (hm:MonM more)
include ho hm
theorem q54:∀ (f:Nat) (b:Bool) (c:K) (acc:List N),Mon c (rowF one more f b c acc).2.1
 | 0,b,c,acc=>Mon.refl c
 | f + 1, b, c, acc => by
   rw [rowF]
   split
   ·split
    ·exact ((hm b c).trans (ho.m _)).trans (q54 f _ _ _)
    ·exact (hm b c).trans (ho.m _)
   ·exact hm b c
theorem q6m:∀ (f:Nat) (b:Bool) (c:K) (acc:List N),(rowF one more f b c acc).2.2.1.length + rest (rowF one more f b c acc).2.1≤acc.length + rest c
 | 0,b,c,acc=>by simp [rowF]
 | f + 1, b, c, acc => by
   have h3:=(hm b c).2.1
   have h4:=(ho.m (more b c).2.1).2.1
   rw [rowF]
   split
   ·split
    ·rename_i h
     have h1:=ho.l _ h
     have h2:=q6m f (more b c).1 (one (more b c).2.1).1 (acc ++ [(one (more b c).2.1).2.1])
     simp only [List.length_append,List.length_cons,List.length_nil] at h2
     omega
    ·simp only;omega
   ·simp only;omega
theorem qbae (hz:∀ c,SzB c (one c)):∀ (f:Nat) (b:Bool) (c:K) (acc:List N),rest c < f->szs (rowF one more f b c acc).2.2.1 + 2 * rest (rowF one more f b c acc).2.1≤szs acc + 2 * rest c
 | 0,b,c,acc=>fun h=>absurd h (by omega)
 | f + 1, b, c, acc => fun hf => by
   have h3:=(hm b c).2.1
   have h4:=(ho.m (more b c).2.1).2.1
   rw [rowF]
   split
   ·split
    ·rename_i h
     have h1:=ho.l _ h
     have h5:=hz _ h
     have h2:=qbae hz f (more b c).1 (one (more b c).2.1).1 (acc ++ [(one (more b c).2.1).2.1]) (by omega)
     rw [qfv] at h2
     simp only [szs] at h2
     omega
    ·simp only;omega
   ·simp only;omega
theorem qf5 (b:Bool) (c:K) (acc:List N):Mon c (rowS one more b c acc).2.1:=q54 ho hm _ b c acc
theorem qbjv (b:Bool) (c:K) (acc:List N):(rowS one more b c acc).2.2.1.length + rest (rowS one more b c acc).2.1≤acc.length + rest c:=q6m ho hm _ b c acc
theorem qt8 (hz:∀ c,SzB c (one c)) (b:Bool) (c:K) (acc:List N):szs (rowS one more b c acc).2.2.1 + 2 * rest (rowS one more b c acc).2.1≤szs acc + 2 * rest c:=qbae ho hm hz _ b c acc (Nat.lt_succ_self _)
end
theorem goes_atom:Goes qb5:=⟨fun c=>qdr (qbv _) c,fun c h=>qd0 (qbv _) h⟩
theorem szA:∀ c,SzO c (qd8 c):=fun c n h=>by
 have h1:=qd0 (qbv (rest c + 2)) (c:=c) (by unfold qd8 at h;rw [h];rfl)
 have h2:=qlv (qns (rest c + 2)) h
 unfold qd8 at h ⊢
 omega
theorem qql {c:K} (h:qdj c = true):(qb5 c).2.2 = true:=by
 have hk:(qp c).kind = 1:=by simpa [qdj] using h
 unfold qb5 ofO qd8
 rw [qbg,if_pos hk];rfl
theorem qw1:∀ (f:Nat) (b:Bool) (c:K) (acc:List N),rest c < f->(rowF qb5 (qdl qdj) f b c acc).2.2.2 = true
 | 0,_,_,_,h=>absurd h (by omega)
 | f + 1, b, c, acc, hf => by
   rw [rowF]
   cases ha:qdj c with
   | false =>
     rw [if_neg (by show ¬ qdj c = true;rw [ha];decide)]
   | true =>
     have h1:=goes_atom.l c (qql ha)
     rw [if_pos (show (qdl qdj b c).2.2 = true from ha),if_pos (show (qb5 (qdl qdj b c).2.1).2.2 = true from qql ha)]
     exact qw1 f _ _ _ (by show rest (qb5 c).1 < f;omega)
theorem q5c {c:K} {r:K×Option N} (h:SzO c r):SzB c (ofO r):=fun hs=>qgb h hs
theorem goes_con:Goes conK where
 m := fun c => by
   unfold conK
   split
   ·exact (qbp c 2).trans (qf5 goes_atom (monA _) _ _ _)
   ·exact qbp c 2
 l := fun c h => by
   unfold conK at h ⊢
   split at h
   ·rename_i h1
    rw [if_pos h1]
    have h2:=qo2 (by decide) h1
    have h3:=(qf5 goes_atom (monA begT) false (kindK c 2).1 []).2.1
    simp only;omega
   ·cases h
theorem qchp:∀ c,SzB c (conK c):=fun c h=>by
 unfold conK at h ⊢
 split at h
 ·rename_i h1
  rw [if_pos h1]
  have h2:=qo2 (by decide) h1
  have h3:=qt8 goes_atom (monA begT) (fun c=>q5c (szA c)) false (kindK c 2).1 []
  simp only [szs] at h3
  simp only [conN,qkj];omega
 ·cases h
theorem qsn (c:K):Mon c (qgj c).1:=qe7 (qi9 _) c
theorem qvw {c:K} (h:(qgj c).2.isSome = true):rest (qgj c).1 < rest c:=qk7 (qi9 _) h
theorem q52:∀ c,SzO c (qgj c):=fun c=>q6a (qbp9 _) c
theorem qbai (p:Int) (t:T) (v:List N) (w:K×Bool):Mon w.1 (qxw p t v w).1:=by
 unfold qxw
 split
 ·exact qf5 goes_con (monF _) _ _ _
 ·exact Mon.refl _
theorem qrv (p:Int) (c:K):Mon c (qi0 p c).1:=by
 unfold qi0 qy2
 split
 ·exact (((qbp c 2).trans (qf5 goes_atom (monA _) _ _ _)).trans (qe _ _)).trans (qbai _ _ _ _)
 ·exact qbp c 2
theorem qd5 (kind:Int):Goes (qv kind) where
 m := fun c => by
   unfold qv
   split
   ·exact (qsn c).trans (qc3 _ _)
   ·exact qsn c
 l := fun c h => by
   unfold qv at h ⊢
   split at h
   ·cases h
   ·rename_i h1
    rw [if_neg h1]
    exact qvw h
theorem q9t (kind:Int):∀ c,SzB c (qv kind c):=fun c h=>by
 unfold qv at h ⊢
 split at h
 ·cases h
 ·rename_i h1
  rw [if_neg h1]
  exact q5c (q52 c) h
theorem qze (r:RL):Mon r.1 (qmv r).1:=by
 unfold qmv
 split
 ·exact qe _ _
 ·exact Mon.refl _
theorem q92 (kind:Int) (c:K) (out:List N):Mon c (qc1 kind c out).1:=by
 unfold qc1
 split
 ·split
  ·exact (((qe c _).trans (qe _ _)).trans (qf5 (qd5 kind) monB _ _ _)).trans (qze _)
  ·exact (qe c _).trans (qe _ _)
 ·exact qe c _
theorem qbg4 (kind:Int) (c:K) (out:List N):szs (qc1 kind c out).2.1 + 2 * rest (qc1 kind c out).1≤szs out + 2 * rest c:=by
 have h1:=(qe c [119,104,101,114,101]).2.1
 have h2:=(qe (qh c [119,104,101,114,101]).1 [123]).2.1
 unfold qc1
 split
 ·split
  ·have h3:=qt8 (qd5 kind) monB (q9t kind) false (qh (qh c [119,104,101,114,101]).1 [123]).1 out
   have h4:=(qze (rowS (qv kind) qdy false (qh (qh c [119,104,101,114,101]).1 [123]).1 out).2).2.1
   unfold qmv at h4 ⊢
   split
   ·rename_i h5
    rw [if_pos h5] at h4
    simp only at h4 ⊢;omega
   ·omega
  ·simp only;omega
 ·simp only;omega
theorem qhj (c:K):Mon c (qd8 c).1:=qdr (qbv _) c
theorem qf2 (c:K):Mon c (qct c).1:=qfd (qbv _) c
theorem q9y (k p:Int) (t:T) (v:List N) (c:K):Mon c (qxa k p t v c).1:=by
 unfold qxa qyf
 split
 ·exact qc3 _ _
 ·split
  ·exact (qhj c).trans (q92 _ _ _)
  ·exact qhj c
theorem qm4 (k p:Int) (c:K):Mon c (qik k p c).1:=by
 unfold qik qyo
 split
 ·split
  ·exact ((qf2 c).trans (qbp _ _)).trans (q9y _ _ _ _ _)
  ·exact (qf2 c).trans (qbp _ _)
 ·exact qf2 c
theorem goes_decl:Goes qcr where
 m := fun c => by
   unfold qcr
   split
   ·exact (qm c _).trans (qrv _ _)
   ·split
    ·exact (qm c _).trans (qm4 _ _ _)
    ·split
     ·exact (qm c _).trans (qm4 _ _ _)
     ·exact qsn c
 l := fun c h => by
   unfold qcr at h ⊢
   split at h
   ·rename_i h1
    rw [if_pos h1]
    have h2:=qcv h1
    have h3:=(qrv (qp c).pos (qf c qoz).1).2.1
    omega
   ·rename_i h1
    rw [if_neg h1]
    split at h
    ·rename_i h1
     rw [if_pos h1]
     have h2:=qcv h1
     have h3:=(qm4 35 (qp c).pos (qf c qi2).1).2.1
     omega
    ·rename_i h1
     rw [if_neg h1]
     split at h
     ·rename_i h1
      rw [if_pos h1]
      have h2:=qcv h1
      have h3:=(qm4 36 (qp c).pos (qf c qoj).1).2.1
      omega
     ·rename_i h1
      rw [if_neg h1]
      exact qvw h
theorem q9b {c:K} {l:List N} (h:(qct c).2 = some l):l.length≤rest c:=qpm (qbv _) h
theorem q1w {c:K} {l:List N} (h:(qct c).2 = some l):szs l + rest (qct c).1≤rest c:=by
 have h0:=(qm c [40]).2.1
 have hm:=qbv (rest c + 2)
 unfold qct at h ⊢
 unfold qt at h ⊢
 split at h
 ·rename_i h1
  rw [if_pos h1]
  have h2:=qjw h
  have hB:szs l + rest (qek (qbe (rest c + 2)) c).1≤rest c:=by
   unfold qek at h2 ⊢
   split at h2
   ·rename_i h3
    rw [if_pos h3]
    cases h2
    simp only [szs];omega
   ·rename_i h3
    rw [if_neg h3]
    have h4:=qsr (qns (rest c + 2)) _ _ _ _ _ h2
    simp only [szs] at h4
    omega
  unfold qel at h ⊢
  generalize qek (qbe (rest c + 2)) c = r at *
  have h5:=(qe r.1 [41]).2.1
  have h6:=(qe (qh r.1 [41]).1 [61,62]).2.1
  have h7:=(qe r.1 [61,62]).2.1
  repeat' split
  all_goals (simp only;omega)
 ·rename_i h1
  rw [if_neg h1]
  simp only at h ⊢
  split at h
  ·cases h
  ·cases h;simp only [szs];omega
theorem qbi2 (p:Int) (c:K):sz (qi0 p c).2.1 + 2 * rest (qi0 p c).1≤2 * rest c + 1:=by
 have h1:=(qbp c 2).2.1
 have h2:=(qrv p c).2.1
 unfold qi0 qy2 qxw at h2 ⊢
 split
 ·have h3:=qt8 goes_atom (monA qdj) (fun c=>q5c (szA c)) false (kindK c 2).1 []
  generalize rowS qb5 (qdl qdj) false (kindK c 2).1 [] = r at *
  have h4:=(qe r.2.1 [61]).2.1
  simp only [szs] at h3
  split
  ·have h5:=qt8 goes_con (monF [124]) qchp false (qh r.2.1 [61]).1 r.2.2.1
   simp only [qp2,qkj];omega
  ·simp only [posN,qkj,szs];omega
 ·simp only [posN,qkj,szs];omega
theorem q65 (k p:Int) (c:K):sz (qik k p c).2.1 + 2 * rest (qik k p c).1≤2 * rest c + 1:=by
 have h1:=(qf2 c).2.1
 unfold qik qyo
 split
 ·rename_i h2
  obtain ⟨l,hl⟩:=Option.isSome_iff_exists.1 h2
  have h3:=q1w hl
  rw [hl,Option.getD_some]
  have h4:=(qbp (qct c).1 2).2.1
  split
  ·unfold qxa qyf
   generalize (kindK (qct c).1 2).1 = d at *
   split
   ·have:=(qc3 d 5).2.1
    simp only [qi1,qkj,szs];omega
   ·have h5:=(qhj d).2.1
    split
    ·rename_i h6
     have h7:=qgb (szA d) h6
     have h8:=qbg4 (if k = 35 then 32 else 31) (qd8 d).1 (l ++ [(qd8 d).2.getD N0])
     rw [qfv] at h8
     simp only [szs] at h8
     simp only [qi1,qkj];omega
    ·simp only [qi1,qkj,szs];omega
  ·simp only [q09,qkj,szs];omega
 ·simp only [q09,qkj,szs];omega
theorem qbby:∀ c,SzB c (qcr c):=fun c h=>by
 unfold qcr at h ⊢
 split at h
 ·rename_i h1
  rw [if_pos h1]
  have h2:=qcv h1
  have:=qbi2 (qp c).pos (qf c qoz).1
  omega
 ·rename_i h1
  rw [if_neg h1]
  split at h
  ·rename_i h1
   rw [if_pos h1]
   have h2:=qcv h1
   have:=q65 35 (qp c).pos (qf c qi2).1
   omega
  ·rename_i h1
   rw [if_neg h1]
   split at h
   ·rename_i h1
    rw [if_pos h1]
    have h2:=qcv h1
    have:=q65 36 (qp c).pos (qf c qoj).1
    omega
   ·rename_i h1
    rw [if_neg h1]
    exact q5c (q52 c) h
theorem qbd3 (c:K):Mon c (qk9 c).1:=qf5 goes_decl monP _ _ _
theorem qxm (c:K):sz ((qk9 c).2.getD N0)≤2 * rest c + 1:=by
 have:=qt8 goes_decl monP qbby false c []
 simp only [szs] at this
 simp only [qk9,Option.getD_some,quk,qkj];omega
end Go.Proofs.YtlmcofjcpadmiaaGreat
