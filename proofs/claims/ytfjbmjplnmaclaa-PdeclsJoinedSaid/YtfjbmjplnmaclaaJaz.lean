/- Texts of this proof, joined. -/
import Derived.Test.YtfjbmjplnmaclaaJay
set_option linter.unusedVariables false
set_option linter.unusedSimpArgs false

/- declarations: what is read (plain) -/
namespace Go.Proofs.Ytfjbmjplnmaclaa
open Go Go.RowKit Go.V
set_option linter.unusedSectionVars false

abbrev MF:=Bool->K->Bool×K×Bool
def rowF (one:K->R3) (more:MF):Nat->Bool->K->List N->Bool×RL
 | 0,b,c,_=>(b,c,[],false)
 | f + 1, b, c, acc =>
   if (more b c).2.2 = true then
    if (one (more b c).2.1).2.2 = true then rowF one more f (more b c).1 (one (more b c).2.1).1 (acc ++ [(one (more b c).2.1).2.1])
    else ((more b c).1,(one (more b c).2.1).1,acc,false)
   else ((more b c).1,(more b c).2.1,acc,true)
def rowS (one:K->R3) (more:MF) (b:Bool) (c:K) (acc:List N):Bool×RL:=rowF one more (rest c + 1) b c acc
def qe1 (p:K->Bool):MF:=fun b c=>(b,c,p c)
def qbs (x:List UInt8):MF:=fun b c=>if b = true then (b,(qd c x).1,(qd c x).2) else (true,c,true)
def qd2:MF:=fun b c=>if isK c [125] = true then (b,c,false) else ((qbs [59] b c).1,(qbs [59] b c).2.1,(qbs [59] b c).2.2 && !isK (qbs [59] b c).2.1 [125])
def qcb:MF:=fun b c=>if (qi c).kind = 0 then (b,c,false) else ((qbs [59] b c).1,(qbs [59] b c).2.1,(qbs [59] b c).2.2 && !decide ((qi (qbs [59] b c).2.1).kind = 0))
def qek (c:K):Bool:=decide ((qi c).kind = 1)
def qff (c:K):K×Option N:=qbc (qbg (rest c + 2)) c
def qgc (c:K):K×Option N:=qbn (qel (rest c + 2)) c
def qcp (c:K):K×Option (List N):=qq (qbg (rest c + 2)) c
def qdf (c:K):R3:=ofO (qff c)
def conN (t:T) (l:List N):N:=.mk 34 t.pos 0 t.text l
def conK (c:K):R3 :=
 if (kindK c 2).2 = true then ((rowS qdf (qe1 begT) false (kindK c 2).1 []).2.1,conN (qex c 2) (rowS qdf (qe1 begT) false (kindK c 2).1 []).2.2.1,(rowS qdf (qe1 begT) false (kindK c 2).1 []).2.2.2)
 else ((kindK c 2).1,N0,false)
def qwp (p:Int) (t:T) (v l:List N):N:=.mk 33 p v.length t.text l
def qvz (p:Int) (t:T) (v:List N) (w:K×Bool):R3 :=
 if w.2 = true then ((rowS conK (qbs [124]) false w.1 v).2.1,qwp p t v (rowS conK (qbs [124]) false w.1 v).2.2.1,(rowS conK (qbs [124]) false w.1 v).2.2.2)
 else (w.1,posN p,false)
def qyv (p:Int) (t:T) (r:RL):R3:=qvz p t r.2.1 (qc r.1 [61])
def qj9 (p:Int) (c:K):R3 :=
 if (kindK c 2).2 = true then qyv p (qex c 2) (rowS qdf (qe1 qek) false (kindK c 2).1 []).2
 else ((kindK c 2).1,posN p,false)
def qbe (kind:Int) (c:K):R3 :=
 if (qgc c).2.isSome = true∧((qgc c).2.getD N0).kind≠kind then (qdy (qgc c).1 5,(qgc c).2.getD N0,false) else ofO (qgc c)
def qkv (r:RL):RL:=if r.2.2 = true then ((qc r.1 [125]).1,r.2.1,(qc r.1 [125]).2) else r
def qcr (kind:Int) (c:K) (out:List N):RL :=
 if (qc c [119,104,101,114,101]).2 = true then
  if (qc (qc c [119,104,101,114,101]).1 [123]).2 = true then qkv (rowS (qbe kind) qd2 false (qc (qc c [119,104,101,114,101]).1 [123]).1 out).2
  else ((qc (qc c [119,104,101,114,101]).1 [123]).1,out,false)
 else ((qc c [119,104,101,114,101]).1,out,false)
def q2y (k p:Int):N:=.mk k p 0 [] []
def qme (k p:Int) (t:T) (v l:List N):N:=.mk k p v.length t.text l
def qy1 (k p:Int) (t:T) (v:List N) (a:K×Option N):R3 :=
 if a.2.isSome = true then ((qcr (if k = 35 then 32 else 31) a.1 (v ++ [a.2.getD N0])).1,qme k p t v (qcr (if k = 35 then 32 else 31) a.1 (v ++ [a.2.getD N0])).2.1,(qcr (if k = 35 then 32 else 31) a.1 (v ++ [a.2.getD N0])).2.2)
 else (a.1,qme k p t v [],false)
def qu7 (k p:Int) (t:T) (v:List N) (c:K):R3 :=
 if k = 35∧(qi c).kind≠1 then (qdy c 5,qme k p t v [],false) else qy1 k p t v (qff c)
def qxn (k p:Int) (c:K) (v:List N):R3 :=
 if (kindK c 2).2 = true then qu7 k p (qex c 2) v (kindK c 2).1 else ((kindK c 2).1,q2y k p,false)
def qja (k p:Int) (c:K):R3 :=
 if (qcp c).2.isSome = true then qxn k p (qcp c).1 ((qcp c).2.getD []) else ((qcp c).1,q2y k p,false)
def qll:List UInt8:=[100,97,116,97]
def qgw:List UInt8:=[99,108,97,115,115]
def qlp:List UInt8:=[105,110,115,116,97,110,99,101]
def qp (c:K):R3 :=
 if (qd c qll).2 = true then qj9 (qi c).pos (qd c qll).1
 else if (qd c qgw).2 = true then qja 35 (qi c).pos (qd c qgw).1
 else if (qd c qlp).2 = true then qja 36 (qi c).pos (qd c qlp).1
 else ofO (qgc c)
def qew (l:List N):N:=.mk 37 0 0 [] l
def qqu (c:K):K×Option N:=((rowS qp qcb false c []).2.1,some (qew (rowS qp qcb false c []).2.2.1))
def decK (c:K):K×Option N:=((qp c).1,some (qp c).2.1)

theorem qmg {c:K} {k:Int} (hk:k≠0) (h:(kindK c k).2 = true):rest (kindK c k).1 < rest c:=by
 obtain ⟨h1,h2⟩:=qj2 h
 rw [(qy7 h).1]
 have:=qy (c:=c) (by rw [h2];exact hk)
 simp only;omega
structure Goes (one:K->R3):Prop where
 m:∀ c,Mon c (one c).1
 l:∀ c,(one c).2.2 = true->rest (one c).1 < rest c
def MonM (more:MF):Prop:=∀ b c,Mon c (more b c).2.1
theorem monA (p:K->Bool):MonM (qe1 p):=fun b c=>Mon.refl c
theorem monF (x:List UInt8):MonM (qbs x):=fun b c=>by
 unfold qbs
 split
 ·exact qn c x
 ·exact Mon.refl c
theorem monB:MonM qd2:=fun b c=>by
 unfold qd2
 split
 ·exact Mon.refl c
 ·exact monF [59] b c
theorem monP:MonM qcb:=fun b c=>by
 unfold qcb
 split
 ·exact Mon.refl c
 ·exact monF [59] b c
section
variable {one:K->R3} {more:MF} (ho:Goes one) (hm:MonM more)
include ho hm
theorem q0a:∀ (f:Nat) (b:Bool) (c:K) (acc:List N),Mon c (rowF one more f b c acc).2.1
 | 0,b,c,acc=>Mon.refl c
 | f + 1, b, c, acc => by
   rw [rowF]
   split
   ·split
    ·exact ((hm b c).trans (ho.m _)).trans (q0a f _ _ _)
    ·exact (hm b c).trans (ho.m _)
   ·exact hm b c
theorem q0t:∀ (f:Nat) (b:Bool) (c:K) (acc:List N),(rowF one more f b c acc).2.2.1.length + rest (rowF one more f b c acc).2.1≤acc.length + rest c
 | 0,b,c,acc=>by simp [rowF]
 | f + 1, b, c, acc => by
   have h3:=(hm b c).2.1
   have h4:=(ho.m (more b c).2.1).2.1
   rw [rowF]
   split
   ·split
    ·rename_i h
     have h1:=ho.l _ h
     have h2:=q0t f (more b c).1 (one (more b c).2.1).1 (acc ++ [(one (more b c).2.1).2.1])
     simp only [List.length_append,List.length_cons,List.length_nil] at h2
     omega
    ·simp only;omega
   ·simp only;omega
theorem q5d (hz:∀ c,SzB c (one c)):∀ (f:Nat) (b:Bool) (c:K) (acc:List N),rest c < f->szs (rowF one more f b c acc).2.2.1 + 2 * rest (rowF one more f b c acc).2.1≤szs acc + 2 * rest c
 | 0,b,c,acc=>fun h=>absurd h (by omega)
 | f + 1, b, c, acc => fun hf => by
   have h3:=(hm b c).2.1
   have h4:=(ho.m (more b c).2.1).2.1
   rw [rowF]
   split
   ·split
    ·rename_i h
     have h1:=ho.l _ h
     have h5:=hz _ h
     have h2:=q5d hz f (more b c).1 (one (more b c).2.1).1 (acc ++ [(one (more b c).2.1).2.1]) (by omega)
     rw [qfs] at h2
     simp only [szs] at h2
     omega
    ·simp only;omega
   ·simp only;omega
theorem qfy (b:Bool) (c:K) (acc:List N):Mon c (rowS one more b c acc).2.1:=q0a ho hm _ b c acc
theorem qbdk (b:Bool) (c:K) (acc:List N):(rowS one more b c acc).2.2.1.length + rest (rowS one more b c acc).2.1≤acc.length + rest c:=q0t ho hm _ b c acc
theorem qqj (hz:∀ c,SzB c (one c)) (b:Bool) (c:K) (acc:List N):szs (rowS one more b c acc).2.2.1 + 2 * rest (rowS one more b c acc).2.1≤szs acc + 2 * rest c:=q5d ho hm hz _ b c acc (Nat.lt_succ_self _)
end
theorem goes_atom:Goes qdf:=⟨fun c=>qd0 (qcg _) c,fun c h=>qdk (qcg _) h⟩
theorem szA:∀ c,SzO c (qff c):=fun c n h=>by
 have h1:=qdk (qcg (rest c + 2)) (c:=c) (by unfold qff at h;rw [h];rfl)
 have h2:=qj5 (qlu (rest c + 2)) h
 unfold qff at h ⊢
 omega
theorem qzu {c:K} (h:qek c = true):(qdf c).2.2 = true:=by
 have hk:(qi c).kind = 1:=by simpa [qek] using h
 unfold qdf ofO qff
 rw [qbc,if_pos hk];rfl
theorem qnl:∀ (f:Nat) (b:Bool) (c:K) (acc:List N),rest c < f->(rowF qdf (qe1 qek) f b c acc).2.2.2 = true
 | 0,_,_,_,h=>absurd h (by omega)
 | f + 1, b, c, acc, hf => by
   rw [rowF]
   cases ha:qek c with
   | false =>
     rw [if_neg (by show ¬ qek c = true;rw [ha];decide)]
   | true =>
     have h1:=goes_atom.l c (qzu ha)
     rw [if_pos (show (qe1 qek b c).2.2 = true from ha),if_pos (show (qdf (qe1 qek b c).2.1).2.2 = true from qzu ha)]
     exact qnl f _ _ _ (by show rest (qdf c).1 < f;omega)
theorem qz0 {c:K} {r:K×Option N} (h:SzO c r):SzB c (ofO r):=fun hs=>qe9 h hs
theorem goes_con:Goes conK where
 m := fun c => by
   unfold conK
   split
   ·exact (qbw c 2).trans (qfy goes_atom (monA _) _ _ _)
   ·exact qbw c 2
 l := fun c h => by
   unfold conK at h ⊢
   split at h
   ·rename_i h1
    rw [if_pos h1]
    have h2:=qmg (by decide) h1
    have h3:=(qfy goes_atom (monA begT) false (kindK c 2).1 []).2.1
    simp only;omega
   ·cases h
theorem qbvd:∀ c,SzB c (conK c):=fun c h=>by
 unfold conK at h ⊢
 split at h
 ·rename_i h1
  rw [if_pos h1]
  have h2:=qmg (by decide) h1
  have h3:=qqj goes_atom (monA begT) (fun c=>qz0 (szA c)) false (kindK c 2).1 []
  simp only [szs] at h3
  simp only [conN,qiw];omega
 ·cases h
theorem qli (c:K):Mon c (qgc c).1:=qgq (qjb _) c
theorem qrf {c:K} (h:(qgc c).2.isSome = true):rest (qgc c).1 < rest c:=qjc (qjb _) h
theorem qsl:∀ c,SzO c (qgc c):=fun c=>q0u (qbf1 _) c
theorem q8d (p:Int) (t:T) (v:List N) (w:K×Bool):Mon w.1 (qvz p t v w).1:=by
 unfold qvz
 split
 ·exact qfy goes_con (monF _) _ _ _
 ·exact Mon.refl _
theorem qpj (p:Int) (c:K):Mon c (qj9 p c).1:=by
 unfold qj9 qyv
 split
 ·exact (((qbw c 2).trans (qfy goes_atom (monA _) _ _ _)).trans (qe _ _)).trans (q8d _ _ _ _)
 ·exact qbw c 2
theorem qdz (kind:Int):Goes (qbe kind) where
 m := fun c => by
   unfold qbe
   split
   ·exact (qli c).trans (qdx _ _)
   ·exact qli c
 l := fun c h => by
   unfold qbe at h ⊢
   split at h
   ·cases h
   ·rename_i h1
    rw [if_neg h1]
    exact qrf h
theorem q77 (kind:Int):∀ c,SzB c (qbe kind c):=fun c h=>by
 unfold qbe at h ⊢
 split at h
 ·cases h
 ·rename_i h1
  rw [if_neg h1]
  exact qz0 (qsl c) h
theorem qv1 (r:RL):Mon r.1 (qkv r).1:=by
 unfold qkv
 split
 ·exact qe _ _
 ·exact Mon.refl _
theorem q5n (kind:Int) (c:K) (out:List N):Mon c (qcr kind c out).1:=by
 unfold qcr
 split
 ·split
  ·exact (((qe c _).trans (qe _ _)).trans (qfy (qdz kind) monB _ _ _)).trans (qv1 _)
  ·exact (qe c _).trans (qe _ _)
 ·exact qe c _
theorem qbem (kind:Int) (c:K) (out:List N):szs (qcr kind c out).2.1 + 2 * rest (qcr kind c out).1≤szs out + 2 * rest c:=by
 have h1:=(qe c [119,104,101,114,101]).2.1
 have h2:=(qe (qc c [119,104,101,114,101]).1 [123]).2.1
 unfold qcr
 split
 ·split
  ·have h3:=qqj (qdz kind) monB (q77 kind) false (qc (qc c [119,104,101,114,101]).1 [123]).1 out
   have h4:=(qv1 (rowS (qbe kind) qd2 false (qc (qc c [119,104,101,114,101]).1 [123]).1 out).2).2.1
   unfold qkv at h4 ⊢
   split
   ·rename_i h5
    rw [if_pos h5] at h4
    simp only at h4 ⊢;omega
   ·omega
  ·simp only;omega
 ·simp only;omega
theorem qhu (c:K):Mon c (qff c).1:=qd0 (qcg _) c
theorem qf9 (c:K):Mon c (qcp c).1:=qfe (qcg _) c
theorem q4v (k p:Int) (t:T) (v:List N) (c:K):Mon c (qu7 k p t v c).1:=by
 unfold qu7 qy1
 split
 ·exact qdx _ _
 ·split
  ·exact (qhu c).trans (q5n _ _ _)
  ·exact qhu c
theorem qls (k p:Int) (c:K):Mon c (qja k p c).1:=by
 unfold qja qxn
 split
 ·split
  ·exact ((qf9 c).trans (qbw _ _)).trans (q4v _ _ _ _ _)
  ·exact (qf9 c).trans (qbw _ _)
 ·exact qf9 c
theorem goes_decl:Goes qp where
 m := fun c => by
   unfold qp
   split
   ·exact (qn c _).trans (qpj _ _)
   ·split
    ·exact (qn c _).trans (qls _ _ _)
    ·split
     ·exact (qn c _).trans (qls _ _ _)
     ·exact qli c
 l := fun c h => by
   unfold qp at h ⊢
   split at h
   ·rename_i h1
    rw [if_pos h1]
    have h2:=qch h1
    have h3:=(qpj (qi c).pos (qd c qll).1).2.1
    omega
   ·rename_i h1
    rw [if_neg h1]
    split at h
    ·rename_i h1
     rw [if_pos h1]
     have h2:=qch h1
     have h3:=(qls 35 (qi c).pos (qd c qgw).1).2.1
     omega
    ·rename_i h1
     rw [if_neg h1]
     split at h
     ·rename_i h1
      rw [if_pos h1]
      have h2:=qch h1
      have h3:=(qls 36 (qi c).pos (qd c qlp).1).2.1
      omega
     ·rename_i h1
      rw [if_neg h1]
      exact qrf h
theorem q20 {c:K} {l:List N} (h:(qcp c).2 = some l):l.length≤rest c:=qmy (qcg _) h
theorem qwo {c:K} {l:List N} (h:(qcp c).2 = some l):szs l + rest (qcp c).1≤rest c:=by
 have h0:=(qn c [40]).2.1
 have hm:=qcg (rest c + 2)
 unfold qcp at h ⊢
 unfold qq at h ⊢
 split at h
 ·rename_i h1
  rw [if_pos h1]
  have h2:=qkl h
  have hB:szs l + rest (qcn (qbg (rest c + 2)) c).1≤rest c:=by
   unfold qcn at h2 ⊢
   split at h2
   ·rename_i h3
    rw [if_pos h3]
    cases h2
    simp only [szs];omega
   ·rename_i h3
    rw [if_neg h3]
    have h4:=qp0 (qlu (rest c + 2)) _ _ _ _ _ h2
    simp only [szs] at h4
    omega
  unfold qd6 at h ⊢
  generalize qcn (qbg (rest c + 2)) c = r at *
  have h5:=(qe r.1 [41]).2.1
  have h6:=(qe (qc r.1 [41]).1 [61,62]).2.1
  have h7:=(qe r.1 [61,62]).2.1
  repeat' split
  all_goals (simp only;omega)
 ·rename_i h1
  rw [if_neg h1]
  simp only at h ⊢
  split at h
  ·cases h
  ·cases h;simp only [szs];omega
theorem q0h (p:Int) (c:K):sz (qj9 p c).2.1 + 2 * rest (qj9 p c).1≤2 * rest c + 1:=by
 have h1:=(qbw c 2).2.1
 have h2:=(qpj p c).2.1
 unfold qj9 qyv qvz at h2 ⊢
 split
 ·have h3:=qqj goes_atom (monA qek) (fun c=>qz0 (szA c)) false (kindK c 2).1 []
  generalize rowS qdf (qe1 qek) false (kindK c 2).1 [] = r at *
  have h4:=(qe r.2.1 [61]).2.1
  simp only [szs] at h3
  split
  ·have h5:=qqj goes_con (monF [124]) qbvd false (qc r.2.1 [61]).1 r.2.2.1
   simp only [qwp,qiw];omega
  ·simp only [posN,qiw,szs];omega
 ·simp only [posN,qiw,szs];omega
theorem qn5 (k p:Int) (c:K):sz (qja k p c).2.1 + 2 * rest (qja k p c).1≤2 * rest c + 1:=by
 have h1:=(qf9 c).2.1
 unfold qja qxn
 split
 ·rename_i h2
  obtain ⟨l,hl⟩:=Option.isSome_iff_exists.1 h2
  have h3:=qwo hl
  rw [hl,Option.getD_some]
  have h4:=(qbw (qcp c).1 2).2.1
  split
  ·unfold qu7 qy1
   generalize (kindK (qcp c).1 2).1 = d at *
   split
   ·have:=(qdx d 5).2.1
    simp only [qme,qiw,szs];omega
   ·have h5:=(qhu d).2.1
    split
    ·rename_i h6
     have h7:=qe9 (szA d) h6
     have h8:=qbem (if k = 35 then 32 else 31) (qff d).1 (l ++ [(qff d).2.getD N0])
     rw [qfs] at h8
     simp only [szs] at h8
     simp only [qme,qiw];omega
    ·simp only [qme,qiw,szs];omega
  ·simp only [q2y,qiw,szs];omega
 ·simp only [q2y,qiw,szs];omega
theorem qbc3 (c:K):sz (qp c).2.1 + 2 * rest (qp c).1≤2 * rest c + 1:=by
 have hb:=qsl c
 have hb2:=(qli c).2.1
 unfold qp
 split
 ·have h1:=(qn c qll).2.1
  have:=q0h (qi c).pos (qd c qll).1
  omega
 ·split
  ·have h1:=(qn c qgw).2.1
   have:=qn5 35 (qi c).pos (qd c qgw).1
   omega
  ·split
   ·have h1:=(qn c qlp).2.1
    have:=qn5 36 (qi c).pos (qd c qlp).1
    omega
   ·unfold ofO
    cases hq:(qgc c).2 with
    | none =>
      have:sz N0 = 1:=by rw [qhv];rfl
      simp only [Option.getD_none];omega
    | some n =>
      have:=hb n hq
      simp only [Option.getD_some];omega
theorem q4g:∀ c,SzB c (qp c):=fun c h=>by
 unfold qp at h ⊢
 split at h
 ·rename_i h1
  rw [if_pos h1]
  have h2:=qch h1
  have:=q0h (qi c).pos (qd c qll).1
  omega
 ·rename_i h1
  rw [if_neg h1]
  split at h
  ·rename_i h1
   rw [if_pos h1]
   have h2:=qch h1
   have:=qn5 35 (qi c).pos (qd c qgw).1
   omega
  ·rename_i h1
   rw [if_neg h1]
   split at h
   ·rename_i h1
    rw [if_pos h1]
    have h2:=qch h1
    have:=qn5 36 (qi c).pos (qd c qlp).1
    omega
   ·rename_i h1
    rw [if_neg h1]
    exact qz0 (qsl c) h
theorem q8g (c:K):Mon c (qqu c).1:=qfy goes_decl monP _ _ _
theorem qbej (c:K):Mon c (decK c).1:=goes_decl.m c
theorem q1j (c:K):sz ((qqu c).2.getD N0)≤2 * rest c + 1:=by
 have:=qqj goes_decl monP q4g false c []
 simp only [szs] at this
 simp only [qqu,Option.getD_some,qew,qiw];omega
theorem qbit (c:K):sz ((decK c).2.getD N0)≤2 * rest c + 1:=by
 have:=qbc3 c
 simp only [decK,Option.getD_some];omega
end Go.Proofs.Ytfjbmjplnmaclaa

/- declarations: the program: rows (printed by tools/rows.py) -/
set_option maxRecDepth 4000
namespace Go.Proofs.Ytfjbmjplnmaclaa
open Go Go.RowKit Go.V

def frA (b:Bool) (c:K):List Ent:=[curE c,.blk [.ptr 0 0]]
theorem qzq (b:Bool) (c:K):(frA b c).all (Ent.bd 2) = true:=by
 simp only [frA,List.all_cons,List.all_nil,qu,Bool.true_and,Bool.and_true];rfl
theorem qnm {g:FuncId} {b:Bool} {c c':K} {r:N×Bool} {L:List Ent} {Q:List Ent->VO->Prop} (h:VCalls Try.prog g [curE c,.blk [.ptr 0 0]] [.ptr 1 0] fun H' o=>H' = (frA b c')∧o = .val (resB r)) (hq:Q (curE c' :: .blk [.ptr 0 0] :: L) (.val (resB r))) :
 VApp Try.prog (curE c :: .blk [.ptr 0 0] :: L) (.fn g [] [.ptr 1 0]) [] Q :=
 qb0 (first:=[]) (caps:=[.ptr 1 0]) (by
  simp only [List.nil_append]
  refine qcy (H0:=[curE c,.blk [.ptr 0 0]]) (L:=L) h (qzq b c) rfl ?_
  rintro H1 o ⟨rfl,rfl⟩
  exact ⟨rfl,qzq _ _,qmf _ _,hq⟩)
theorem qhw {g:FuncId} {b' a:Bool} {c c':K} {L:List Ent} {Q:List Ent->VO->Prop} (h:VCalls Try.prog g [curE c,.blk [.ptr 0 0]] [.ptr 1 0] fun H' o=>H' = (frA b' c')∧o = .val (.bool a)) (hq:Q (curE c' :: .blk [.ptr 0 0] :: L) (.val (.bool a))) :
 VApp Try.prog (curE c :: .blk [.ptr 0 0] :: L) (.fn g [] [.ptr 1 0]) [] Q :=
 qb0 (first:=[]) (caps:=[.ptr 1 0]) (by
  simp only [List.nil_append]
  refine qcy (H0:=[curE c,.blk [.ptr 0 0]]) (L:=L) h (qzq false c) rfl ?_
  rintro H1 o ⟨rfl,rfl⟩
  exact ⟨rfl,qzq _ _,rfl,hq⟩)
def RowA (one:K->R3) (more:MF) (g1 g2:FuncId) (b:Bool) (c:K):Prop :=
 VCalls Try.prog 15 [curE c,.blk [.ptr 0 0]] [.nils,.fn g1 [] [.ptr 1 0],.fn g2 [] [.ptr 1 0]] fun H' o =>
  H' = curE (rowS one more b c []).2.1 :: .blk [.ptr 0 0] :: accE 5 (encs (rowS one more b c []).2.2.1)∧o = .val (.tup [accV 2 (encs (rowS one more b c []).2.2.1),.bool (rowS one more b c []).2.2.2])
def qve (g1 g2:FuncId) (s:Bool×Nat×K×List N):AF×List Ent :=
 (⟨[(0,accV 2 (encs s.2.2.2)),(1,.fn g1 [] [.ptr 1 0]),(2,.fn g2 [] [.ptr 1 0])],[]⟩,curE s.2.2.1 :: .blk [.ptr 0 0] :: accE 5 (encs s.2.2.2))
theorem qvc {one:K->R3} {more:MF} {g1 g2:FuncId} {n:Nat} (ho:Goes one) (hm:MonM more)
 (h1:∀ b c,c.good->rest c≤n->VCalls Try.prog g1 [curE c,.blk [.ptr 0 0]] [.ptr 1 0] fun H' o=>H' = (frA b (one c).1)∧o = .val (resB (one c).2))
 (h2:∀ b c,c.good->rest c≤n->VCalls Try.prog g2 [curE c,.blk [.ptr 0 0]] [.ptr 1 0] fun H' o=>H' = (frA (more b c).1 (more b c).2.1)∧o = .val (.bool (more b c).2.2))
 (b0:Bool) (c0:K) (hg:c0.good) (hr:rest c0≤n):RowA one more g1 g2 b0 c0:=by
 unfold RowA
 have hl:([]:List N).length + rest c0≤1048578:=by have h9:=hg.rest;unfold rest;simp only [List.length_nil];omega
 obtain ⟨kk,hk1,hk2,hk0⟩:∃ k:Nat,((rowS one more b0 c0 []).2.2.1 = []->k = 2)∧((rowS one more b0 c0 []).2.2.1≠[]->k = 3)∧2≤k:=by
  by_cases h:(rowS one more b0 c0 []).2.2.1 = []
  ·exact ⟨2,fun _=>rfl,fun g=>absurd h g,Nat.le_refl _⟩
  ·exact ⟨3,fun g=>absurd g h,fun _=>rfl,Nat.le_succ _⟩
 refine qdh c0dl kk (by simpa using hk0) (by simp) ?_
 generalize htg:rowS one more b0 c0 [] = tg at hk1 hk2 ⊢
 unfold rowS at htg
 repeat' (first | refine vs_ ?_ | ((first | refine vr_ ?_ | (refine cs_ ?_ ?_<;>intro hc) | refine cj_ ?_ | fail)<;>(try refine ev_ ?_)) | with_reducible exact ti_)
 refine qct (S:=Bool×Nat×K×List N) (fun s=>s.2.2.1.good∧rest s.2.2.1≤n∧rowF one more s.2.1 s.1 s.2.2.1 s.2.2.2 = tg∧rest s.2.2.1 < s.2.1∧s.2.2.2.length + rest s.2.2.1≤1048578) (qve g1 g2) (fun s=>rest s.2.2.1) ?_ ?_
 ·refine qb1 (b0,rest c0 + 1,c0,[]) [0,1] ⟨hg,hr,htg,Nat.lt_succ_self _,hl⟩ rfl (by simp) ?_ ?_ ?_
  all_goals simp only [qve,encs,qbf,qbi]
  all_goals (refine ev_ ?_;(try with_reducible exact ti_))
 ·rintro ⟨fl,fu,d,acc⟩ ⟨i1,i2,i3,i4,i5⟩
  simp only at i1 i2 i3 i4 i5
  obtain ⟨fu,rfl⟩:∃ k,fu = k + 1:=⟨fu - 1,by omega⟩
  rw [rowF] at i3
  have hcap:qeb (acc.length + 1) 64:=capN (by omega)
  have hmore:=h2 fl d i1 i2
  have g1:=(hm fl d).1 i1
  have r1:=(hm fl d).2.1
  have hone:=h1 (more fl d).1 (more fl d).2.1 g1 (by omega)
  have g2:=(ho.m (more fl d).2.1).1 g1
  have r2:=(ho.m (more fl d).2.1).2.1
  have hlt:=ho.l (more fl d).2.1
  unfold qve
  generalize more fl d = M at *
  obtain ⟨fl',d',ans⟩:=M
  simp only at hmore g1 r1 hone g2 r2 hlt i3
  generalize one d' = r at *
  obtain ⟨e,y,ok⟩:=r
  simp only at hone g2 r2 hlt i3
  cases ans with
  | false =>
    rw [if_neg (by simp)] at i3
    subst i3
    by_cases h0:acc = []
    ·subst h0
     obtain rfl:=hk1 rfl
     simp only [encs,qbf,qbi]
     repeat' (first | refine vs_ ?_ | ((first | refine vr_ ?_ | refine qhw hmore ?_ | (refine cs_ ?_ ?_<;>intro hc) | refine cj_ ?_ | fail)<;>(try refine ev_ ?_)) | with_reducible exact ti_)
     all_goals first | exact ⟨rfl,rfl⟩
    ·have hne:=q8 h0
     obtain rfl:=hk2 h0
     simp only [qbk hne,qbl hne,q9]
     repeat' (first | refine vs_ ?_ | ((first | refine vr_ ?_ | refine qhw hmore ?_ | (refine cs_ ?_ ?_<;>intro hc) | refine cj_ ?_ | fail)<;>(try refine ev_ ?_)) | with_reducible exact ti_)
     all_goals first | exact ⟨rfl,rfl⟩
  | true =>
    rw [if_pos rfl] at i3
    cases ok with
    | false =>
      rw [if_neg (by simp)] at i3
      subst i3
      by_cases h0:acc = []
      ·subst h0
       obtain rfl:=hk1 rfl
       simp only [encs,qbf,qbi]
       repeat' (first | refine vs_ ?_ | ((first | refine vr_ ?_ | refine qhw hmore ?_ | refine qnm hone ?_ | (refine cs_ ?_ ?_<;>intro hc) | refine cj_ ?_ | fail)<;>(try refine ev_ ?_)) | with_reducible exact ti_)
       all_goals first | exact ⟨rfl,rfl⟩
      ·have hne:=q8 h0
       obtain rfl:=hk2 h0
       simp only [qbk hne,qbl hne,q9]
       repeat' (first | refine vs_ ?_ | ((first | refine vr_ ?_ | refine qhw hmore ?_ | refine qnm hone ?_ | (refine cs_ ?_ ?_<;>intro hc) | refine cj_ ?_ | fail)<;>(try refine ev_ ?_)) | with_reducible exact ti_)
       all_goals first | exact ⟨rfl,rfl⟩
    | true =>
      have hlt:=hlt rfl
      rw [if_pos rfl] at i3
      have hne3:¬ acc ++ [y] = []:=by simp
      have hlen:(acc ++ [y]).length = acc.length + 1:=by simp
      by_cases h0:acc = []
      ·subst h0
       simp only [encs,qbf,qbi]
       repeat' (first | refine vs_ ?_ | ((first | refine vr_ ?_ | refine qhw hmore ?_ | refine qnm hone ?_ | (refine cs_ ?_ ?_<;>intro hc) | refine cj_ ?_ | fail)<;>(try refine ev_ ?_)) | with_reducible exact ti_)
       refine qb1 (fl',fu,e,[] ++ [y]) [0,1,3] ⟨⟨g2,by simp only;omega,i3,by simp only;omega,by simp only [hlen];omega⟩,by simp only;omega⟩ rfl (by simp) ?_ ?_ ?_
       all_goals simp only [qve,qbl (q8 hne3),qbk (q8 hne3),q9,hlen,← qh]
       all_goals (refine ev_ ?_;(try with_reducible exact ti_))
       all_goals first | (rw [qh];exact qr _ _) | exact ⟨rfl,rfl⟩ | rfl | (rw [qh,qr,q6];exact ⟨rfl,rfl⟩)
      ·have hne:=q8 h0
       simp only [qbk hne,qbl hne,q9]
       repeat' (first | refine vs_ ?_ | ((first | refine vr_ ?_ | refine qhw hmore ?_ | refine qnm hone ?_ | (refine cs_ ?_ ?_<;>intro hc) | refine cj_ ?_ | fail)<;>(try refine ev_ ?_)) | with_reducible exact ti_)
       refine qb1 (fl',fu,e,acc ++ [y]) [0,1,4] ⟨⟨g2,by simp only;omega,i3,by simp only;omega,by simp only [hlen];omega⟩,by simp only;omega⟩ rfl (by simp) ?_ ?_ ?_
       all_goals simp only [qve,qbl (q8 hne3),qbk (q8 hne3),q9,hlen,← qh]
       all_goals (refine ev_ ?_;(try with_reducible exact ti_))
       all_goals first | (rw [qh];exact qr _ _) | exact ⟨rfl,rfl⟩ | rfl | (rw [qh,qr,q6];exact ⟨rfl,rfl⟩)

def frD (x:List UInt8) (b:Bool) (c:K):List Ent:=[curE c,.blk [.ptr 0 0],.blk [.ptr 0 0],.blk [.str x],.blk [.bool b]]
theorem q0x {x:List UInt8} (b:Bool) (c:K):(frD x b c).all (Ent.bd 5) = true:=by
 simp only [frD,List.all_cons,List.all_nil,qu,Bool.true_and,Bool.and_true];rfl
theorem qg2 {g:FuncId} {x:List UInt8} {b:Bool} {c c':K} {r:N×Bool} {L:List Ent} {Q:List Ent->VO->Prop} (h:VCalls Try.prog g [curE c,.blk [.ptr 0 0],.blk [.ptr 0 0],.blk [.str x],.blk [.bool b]] [.ptr 1 0] fun H' o=>H' = (frD x b c')∧o = .val (resB r)) (hq:Q (curE c' :: .blk [.ptr 0 0] :: .blk [.ptr 0 0] :: .blk [.str x] :: .blk [.bool b] :: L) (.val (resB r))) :
 VApp Try.prog (curE c :: .blk [.ptr 0 0] :: .blk [.ptr 0 0] :: .blk [.str x] :: .blk [.bool b] :: L) (.fn g [] [.ptr 1 0]) [] Q :=
 qb0 (first:=[]) (caps:=[.ptr 1 0]) (by
  simp only [List.nil_append]
  refine qcy (H0:=[curE c,.blk [.ptr 0 0],.blk [.ptr 0 0],.blk [.str x],.blk [.bool b]]) (L:=L) h (q0x (x:=x) b c) rfl ?_
  rintro H1 o ⟨rfl,rfl⟩
  exact ⟨rfl,q0x _ _,qmf _ _,hq⟩)
theorem qdo {g:FuncId} {x:List UInt8} {b b' a:Bool} {c c':K} {L:List Ent} {Q:List Ent->VO->Prop} (h:VCalls Try.prog g [curE c,.blk [.ptr 0 0],.blk [.ptr 0 0],.blk [.str x],.blk [.bool b]] [.ptr 4 0,.ptr 2 0,.ptr 3 0] fun H' o=>H' = (frD x b' c')∧o = .val (.bool a)) (hq:Q (curE c' :: .blk [.ptr 0 0] :: .blk [.ptr 0 0] :: .blk [.str x] :: .blk [.bool b'] :: L) (.val (.bool a))) :
 VApp Try.prog (curE c :: .blk [.ptr 0 0] :: .blk [.ptr 0 0] :: .blk [.str x] :: .blk [.bool b] :: L) (.fn g [] [.ptr 4 0,.ptr 2 0,.ptr 3 0]) [] Q :=
 qb0 (first:=[]) (caps:=[.ptr 4 0,.ptr 2 0,.ptr 3 0]) (by
  simp only [List.nil_append]
  refine qcy (H0:=[curE c,.blk [.ptr 0 0],.blk [.ptr 0 0],.blk [.str x],.blk [.bool b]]) (L:=L) h (q0x (x:=x) b c) rfl ?_
  rintro H1 o ⟨rfl,rfl⟩
  exact ⟨rfl,q0x _ _,rfl,hq⟩)
def RowD (one:K->R3) (more:MF) (g1 g2:FuncId) (x:List UInt8) (b:Bool) (c:K):Prop :=
 VCalls Try.prog 15 [curE c,.blk [.ptr 0 0],.blk [.ptr 0 0],.blk [.str x],.blk [.bool b]] [.nils,.fn g1 [] [.ptr 1 0],.fn g2 [] [.ptr 4 0,.ptr 2 0,.ptr 3 0]] fun H' o =>
  H' = curE (rowS one more b c []).2.1 :: .blk [.ptr 0 0] :: .blk [.ptr 0 0] :: .blk [.str x] :: .blk [.bool (rowS one more b c []).1] :: accE 5 (encs (rowS one more b c []).2.2.1)∧o = .val (.tup [accV 5 (encs (rowS one more b c []).2.2.1),.bool (rowS one more b c []).2.2.2])
def qw3 (g1 g2:FuncId) (x:List UInt8) (s:Bool×Nat×K×List N):AF×List Ent :=
 (⟨[(0,accV 5 (encs s.2.2.2)),(1,.fn g1 [] [.ptr 1 0]),(2,.fn g2 [] [.ptr 4 0,.ptr 2 0,.ptr 3 0])],[]⟩,curE s.2.2.1 :: .blk [.ptr 0 0] :: .blk [.ptr 0 0] :: .blk [.str x] :: .blk [.bool s.1] :: accE 5 (encs s.2.2.2))
theorem q57 {one:K->R3} {more:MF} {g1 g2:FuncId} {x:List UInt8} {n:Nat} (ho:Goes one) (hm:MonM more)
 (h1:∀ b c,c.good->rest c≤n->VCalls Try.prog g1 [curE c,.blk [.ptr 0 0],.blk [.ptr 0 0],.blk [.str x],.blk [.bool b]] [.ptr 1 0] fun H' o=>H' = (frD x b (one c).1)∧o = .val (resB (one c).2))
 (h2:∀ b c,c.good->rest c≤n->VCalls Try.prog g2 [curE c,.blk [.ptr 0 0],.blk [.ptr 0 0],.blk [.str x],.blk [.bool b]] [.ptr 4 0,.ptr 2 0,.ptr 3 0] fun H' o=>H' = (frD x (more b c).1 (more b c).2.1)∧o = .val (.bool (more b c).2.2))
 (b0:Bool) (c0:K) (hg:c0.good) (hr:rest c0≤n):RowD one more g1 g2 x b0 c0:=by
 unfold RowD
 have hl:([]:List N).length + rest c0≤1048578:=by have h9:=hg.rest;unfold rest;simp only [List.length_nil];omega
 obtain ⟨kk,hk1,hk2,hk0⟩:∃ k:Nat,((rowS one more b0 c0 []).2.2.1 = []->k = 5)∧((rowS one more b0 c0 []).2.2.1≠[]->k = 6)∧5≤k:=by
  by_cases h:(rowS one more b0 c0 []).2.2.1 = []
  ·exact ⟨5,fun _=>rfl,fun g=>absurd h g,Nat.le_refl _⟩
  ·exact ⟨6,fun g=>absurd g h,fun _=>rfl,Nat.le_succ _⟩
 refine qdh c0dl kk (by simpa using hk0) (by simp) ?_
 generalize htg:rowS one more b0 c0 [] = tg at hk1 hk2 ⊢
 unfold rowS at htg
 repeat' (first | refine vs_ ?_ | ((first | refine vr_ ?_ | (refine cs_ ?_ ?_<;>intro hc) | refine cj_ ?_ | fail)<;>(try refine ev_ ?_)) | with_reducible exact ti_)
 refine qct (S:=Bool×Nat×K×List N) (fun s=>s.2.2.1.good∧rest s.2.2.1≤n∧rowF one more s.2.1 s.1 s.2.2.1 s.2.2.2 = tg∧rest s.2.2.1 < s.2.1∧s.2.2.2.length + rest s.2.2.1≤1048578) (qw3 g1 g2 x) (fun s=>rest s.2.2.1) ?_ ?_
 ·refine qb1 (b0,rest c0 + 1,c0,[]) [0,1,2,3,4] ⟨hg,hr,htg,Nat.lt_succ_self _,hl⟩ rfl (by simp) ?_ ?_ ?_
  all_goals simp only [qw3,encs,qbf,qbi]
  all_goals (refine ev_ ?_;(try with_reducible exact ti_))
 ·rintro ⟨fl,fu,d,acc⟩ ⟨i1,i2,i3,i4,i5⟩
  simp only at i1 i2 i3 i4 i5
  obtain ⟨fu,rfl⟩:∃ k,fu = k + 1:=⟨fu - 1,by omega⟩
  rw [rowF] at i3
  have hcap:qeb (acc.length + 1) 64:=capN (by omega)
  have hmore:=h2 fl d i1 i2
  have g1:=(hm fl d).1 i1
  have r1:=(hm fl d).2.1
  have hone:=h1 (more fl d).1 (more fl d).2.1 g1 (by omega)
  have g2:=(ho.m (more fl d).2.1).1 g1
  have r2:=(ho.m (more fl d).2.1).2.1
  have hlt:=ho.l (more fl d).2.1
  unfold qw3
  generalize more fl d = M at *
  obtain ⟨fl',d',ans⟩:=M
  simp only at hmore g1 r1 hone g2 r2 hlt i3
  generalize one d' = r at *
  obtain ⟨e,y,ok⟩:=r
  simp only at hone g2 r2 hlt i3
  cases ans with
  | false =>
    rw [if_neg (by simp)] at i3
    subst i3
    by_cases h0:acc = []
    ·subst h0
     obtain rfl:=hk1 rfl
     simp only [encs,qbf,qbi]
     repeat' (first | refine vs_ ?_ | ((first | refine vr_ ?_ | refine qdo hmore ?_ | (refine cs_ ?_ ?_<;>intro hc) | refine cj_ ?_ | fail)<;>(try refine ev_ ?_)) | with_reducible exact ti_)
     all_goals first | exact ⟨rfl,rfl⟩
    ·have hne:=q8 h0
     obtain rfl:=hk2 h0
     simp only [qbk hne,qbl hne,q9]
     repeat' (first | refine vs_ ?_ | ((first | refine vr_ ?_ | refine qdo hmore ?_ | (refine cs_ ?_ ?_<;>intro hc) | refine cj_ ?_ | fail)<;>(try refine ev_ ?_)) | with_reducible exact ti_)
     all_goals first | exact ⟨rfl,rfl⟩
  | true =>
    rw [if_pos rfl] at i3
    cases ok with
    | false =>
      rw [if_neg (by simp)] at i3
      subst i3
      by_cases h0:acc = []
      ·subst h0
       obtain rfl:=hk1 rfl
       simp only [encs,qbf,qbi]
       repeat' (first | refine vs_ ?_ | ((first | refine vr_ ?_ | refine qdo hmore ?_ | refine qg2 hone ?_ | (refine cs_ ?_ ?_<;>intro hc) | refine cj_ ?_ | fail)<;>(try refine ev_ ?_)) | with_reducible exact ti_)
       all_goals first | exact ⟨rfl,rfl⟩
      ·have hne:=q8 h0
       obtain rfl:=hk2 h0
       simp only [qbk hne,qbl hne,q9]
       repeat' (first | refine vs_ ?_ | ((first | refine vr_ ?_ | refine qdo hmore ?_ | refine qg2 hone ?_ | (refine cs_ ?_ ?_<;>intro hc) | refine cj_ ?_ | fail)<;>(try refine ev_ ?_)) | with_reducible exact ti_)
       all_goals first | exact ⟨rfl,rfl⟩
    | true =>
      have hlt:=hlt rfl
      rw [if_pos rfl] at i3
      have hne3:¬ acc ++ [y] = []:=by simp
      have hlen:(acc ++ [y]).length = acc.length + 1:=by simp
      by_cases h0:acc = []
      ·subst h0
       simp only [encs,qbf,qbi]
       repeat' (first | refine vs_ ?_ | ((first | refine vr_ ?_ | refine qdo hmore ?_ | refine qg2 hone ?_ | (refine cs_ ?_ ?_<;>intro hc) | refine cj_ ?_ | fail)<;>(try refine ev_ ?_)) | with_reducible exact ti_)
       refine qb1 (fl',fu,e,[] ++ [y]) [0,1,2,3,4,6] ⟨⟨g2,by simp only;omega,i3,by simp only;omega,by simp only [hlen];omega⟩,by simp only;omega⟩ rfl (by simp) ?_ ?_ ?_
       all_goals simp only [qw3,qbl (q8 hne3),qbk (q8 hne3),q9,hlen,← qh]
       all_goals (refine ev_ ?_;(try with_reducible exact ti_))
       all_goals first | (rw [qh];exact qr _ _) | exact ⟨rfl,rfl⟩ | rfl | (rw [qh,qr,q6];exact ⟨rfl,rfl⟩)
      ·have hne:=q8 h0
       simp only [qbk hne,qbl hne,q9]
       repeat' (first | refine vs_ ?_ | ((first | refine vr_ ?_ | refine qdo hmore ?_ | refine qg2 hone ?_ | (refine cs_ ?_ ?_<;>intro hc) | refine cj_ ?_ | fail)<;>(try refine ev_ ?_)) | with_reducible exact ti_)
       refine qb1 (fl',fu,e,acc ++ [y]) [0,1,2,3,4,7] ⟨⟨g2,by simp only;omega,i3,by simp only;omega,by simp only [hlen];omega⟩,by simp only;omega⟩ rfl (by simp) ?_ ?_ ?_
       all_goals simp only [qw3,qbl (q8 hne3),qbk (q8 hne3),q9,hlen,← qh]
       all_goals (refine ev_ ?_;(try with_reducible exact ti_))
       all_goals first | (rw [qh];exact qr _ _) | exact ⟨rfl,rfl⟩ | rfl | (rw [qh,qr,q6];exact ⟨rfl,rfl⟩)
def RovD (one:K->R3) (more:MF) (g1 g2:FuncId) (x:List UInt8) (b:Bool) (c:K) (a0:List N):Prop :=
 VCalls Try.prog 15 (curE c :: .blk [.ptr 0 0] :: .blk [.ptr 0 0] :: .blk [.str x] :: .blk [.bool b] :: [.app 5 (encs a0)]) [.row 5 a0.length,.fn g1 [] [.ptr 1 0],.fn g2 [] [.ptr 4 0,.ptr 2 0,.ptr 3 0]] fun H' o =>
  ((rowS one more b c a0).2.2.1 = a0->H' = curE (rowS one more b c a0).2.1 :: .blk [.ptr 0 0] :: .blk [.ptr 0 0] :: .blk [.str x] :: .blk [.bool (rowS one more b c a0).1] :: [.app 5 (encs a0)]∧o = .val (.tup [.row 5 a0.length,.bool (rowS one more b c a0).2.2.2])) ∧
  ((rowS one more b c a0).2.2.1≠a0->H' = curE (rowS one more b c a0).2.1 :: .blk [.ptr 0 0] :: .blk [.ptr 0 0] :: .blk [.str x] :: .blk [.bool (rowS one more b c a0).1] :: .dead :: [.app 5 (encs (rowS one more b c a0).2.2.1)]∧o = .val (.tup [.row 6 (rowS one more b c a0).2.2.1.length,.bool (rowS one more b c a0).2.2.2]))
def qvr (g1 g2:FuncId) (x:List UInt8) (a0:List N) (s:Bool×Nat×K×List N):AF×List Ent :=
 if s.2.2.2.length = a0.length then (⟨[(0,.row 5 a0.length),(1,.fn g1 [] [.ptr 1 0]),(2,.fn g2 [] [.ptr 4 0,.ptr 2 0,.ptr 3 0])],[]⟩,curE s.2.2.1 :: .blk [.ptr 0 0] :: .blk [.ptr 0 0] :: .blk [.str x] :: .blk [.bool s.1] :: [.app 5 (encs a0)])
 else (⟨[(0,.row 6 s.2.2.2.length),(1,.fn g1 [] [.ptr 1 0]),(2,.fn g2 [] [.ptr 4 0,.ptr 2 0,.ptr 3 0])],[]⟩,curE s.2.2.1 :: .blk [.ptr 0 0] :: .blk [.ptr 0 0] :: .blk [.str x] :: .blk [.bool s.1] :: .dead :: [.app 5 (encs s.2.2.2)])
theorem q67 {one:K->R3} {more:MF} {g1 g2:FuncId} {x:List UInt8} {n:Nat} (ho:Goes one) (hm:MonM more)
 (h1:∀ b c,c.good->rest c≤n->VCalls Try.prog g1 [curE c,.blk [.ptr 0 0],.blk [.ptr 0 0],.blk [.str x],.blk [.bool b]] [.ptr 1 0] fun H' o=>H' = (frD x b (one c).1)∧o = .val (resB (one c).2))
 (h2:∀ b c,c.good->rest c≤n->VCalls Try.prog g2 [curE c,.blk [.ptr 0 0],.blk [.ptr 0 0],.blk [.str x],.blk [.bool b]] [.ptr 4 0,.ptr 2 0,.ptr 3 0] fun H' o=>H' = (frD x (more b c).1 (more b c).2.1)∧o = .val (.bool (more b c).2.2))
 (b0:Bool) (c0:K) (a0:List N) (hg:c0.good) (hr:rest c0≤n) (hl:a0.length + rest c0≤1048578):RovD one more g1 g2 x b0 c0 a0:=by
 unfold RovD
 obtain ⟨kk,hk1,hk2,hk0⟩:∃ k:Nat,((rowS one more b0 c0 a0).2.2.1 = a0->k = 6)∧((rowS one more b0 c0 a0).2.2.1≠a0->k = 7)∧6≤k:=by
  by_cases h:(rowS one more b0 c0 a0).2.2.1 = a0
  ·exact ⟨6,fun _=>rfl,fun g=>absurd h g,Nat.le_refl _⟩
  ·exact ⟨7,fun g=>absurd g h,fun _=>rfl,Nat.le_succ _⟩
 refine qdh c0dl kk (by simpa using hk0) (by simp) ?_
 generalize htg:rowS one more b0 c0 a0 = tg at hk1 hk2 ⊢
 unfold rowS at htg
 repeat' (first | refine vs_ ?_ | ((first | refine vr_ ?_ | (refine cs_ ?_ ?_<;>intro hc) | refine cj_ ?_ | fail)<;>(try refine ev_ ?_)) | with_reducible exact ti_)
 refine qct (S:=Bool×Nat×K×List N) (fun s=>s.2.2.1.good∧rest s.2.2.1≤n∧rowF one more s.2.1 s.1 s.2.2.1 s.2.2.2 = tg∧rest s.2.2.1 < s.2.1∧s.2.2.2.length + rest s.2.2.1≤1048578∧a0.length≤s.2.2.2.length∧(s.2.2.2.length = a0.length->s.2.2.2 = a0)) (qvr g1 g2 x a0) (fun s=>rest s.2.2.1) ?_ ?_
 ·refine qb1 (b0,rest c0 + 1,c0,a0) [0,1,2,3,4,5] ⟨hg,hr,htg,Nat.lt_succ_self _,hl,Nat.le_refl _,fun _=>rfl⟩ rfl (by simp) ?_ ?_ ?_
  all_goals simp only [qvr,if_true]
  all_goals (refine ev_ ?_;(try with_reducible exact ti_))
  all_goals first | exact qr _ _ | exact ⟨rfl,rfl⟩ | rfl | (rw [qr,q6];exact ⟨rfl,rfl⟩)
 ·rintro ⟨fl,fu,d,acc⟩ ⟨i1,i2,i3,i4,i5,i6,i7⟩
  simp only at i6 i7
  simp only at i1 i2 i3 i4 i5
  obtain ⟨fu,rfl⟩:∃ k,fu = k + 1:=⟨fu - 1,by omega⟩
  rw [rowF] at i3
  have hcap:qeb (acc.length + 1) 64:=capN (by omega)
  have hmore:=h2 fl d i1 i2
  have g1:=(hm fl d).1 i1
  have r1:=(hm fl d).2.1
  have hone:=h1 (more fl d).1 (more fl d).2.1 g1 (by omega)
  have g2:=(ho.m (more fl d).2.1).1 g1
  have r2:=(ho.m (more fl d).2.1).2.1
  have hlt:=ho.l (more fl d).2.1
  unfold qvr
  generalize more fl d = M at *
  obtain ⟨fl',d',ans⟩:=M
  simp only at hmore g1 r1 hone g2 r2 hlt i3
  generalize one d' = r at *
  obtain ⟨e,y,ok⟩:=r
  simp only at hone g2 r2 hlt i3
  have hneA:¬ acc.length + 1 = a0.length:=by omega
  have hlen:(acc ++ [y]).length = acc.length + 1:=by simp
  by_cases h0:acc = a0
  ·have h0l:acc.length = a0.length:=by rw [h0]
   simp only [if_pos h0l]
   cases ans with
   | false =>
     rw [if_neg (by simp)] at i3
     subst i3
     obtain rfl:=hk1 h0
     repeat' (first | refine vs_ ?_ | ((first | refine vr_ ?_ | refine qdo hmore ?_ | (refine cs_ ?_ ?_<;>intro hc) | refine cj_ ?_ | fail)<;>(try refine ev_ ?_)) | with_reducible exact ti_)
     all_goals exact ⟨fun _=>by first | trivial | exact ⟨rfl,rfl⟩,fun g=>absurd h0 g⟩
   | true =>
     rw [if_pos rfl] at i3
     cases ok with
     | false =>
       rw [if_neg (by simp)] at i3
       subst i3
       obtain rfl:=hk1 h0
       repeat' (first | refine vs_ ?_ | ((first | refine vr_ ?_ | refine qdo hmore ?_ | refine qg2 hone ?_ | (refine cs_ ?_ ?_<;>intro hc) | refine cj_ ?_ | fail)<;>(try refine ev_ ?_)) | with_reducible exact ti_)
       all_goals exact ⟨fun _=>by first | trivial | exact ⟨rfl,rfl⟩,fun g=>absurd h0 g⟩
     | true =>
       have hlt:=hlt rfl
       rw [if_pos rfl] at i3
       subst h0
       repeat' (first | refine vs_ ?_ | ((first | refine vr_ ?_ | refine qdo hmore ?_ | refine qg2 hone ?_ | (refine cs_ ?_ ?_<;>intro hc) | refine cj_ ?_ | fail)<;>(try refine ev_ ?_)) | with_reducible exact ti_)
       refine qb1 (fl',fu,e,acc ++ [y]) [0,1,2,3,4,5,7] ⟨⟨g2,by simp only;omega,i3,by simp only;omega,by simp only [hlen];omega,by simp only [hlen];omega,fun h=>by simp only [hlen] at h;omega⟩,by simp only;omega⟩ rfl (by simp) ?_ ?_ ?_
       all_goals simp only [qvr,hlen,if_neg hneA,← qh]
       all_goals (refine ev_ ?_;(try with_reducible exact ti_))
       all_goals first | (rw [qh];exact qr _ _) | exact ⟨rfl,rfl⟩ | rfl | (rw [qh,qr,q6];exact ⟨rfl,rfl⟩)
  ·have h0l:¬ acc.length = a0.length:=fun h=>h0 (i7 h)
   simp only [if_neg h0l]
   cases ans with
   | false =>
     rw [if_neg (by simp)] at i3
     subst i3
     obtain rfl:=hk2 h0
     repeat' (first | refine vs_ ?_ | ((first | refine vr_ ?_ | refine qdo hmore ?_ | (refine cs_ ?_ ?_<;>intro hc) | refine cj_ ?_ | fail)<;>(try refine ev_ ?_)) | with_reducible exact ti_)
     all_goals exact ⟨fun g=>absurd g h0,fun _=>by first | trivial | exact ⟨rfl,rfl⟩⟩
   | true =>
     rw [if_pos rfl] at i3
     cases ok with
     | false =>
       rw [if_neg (by simp)] at i3
       subst i3
       obtain rfl:=hk2 h0
       repeat' (first | refine vs_ ?_ | ((first | refine vr_ ?_ | refine qdo hmore ?_ | refine qg2 hone ?_ | (refine cs_ ?_ ?_<;>intro hc) | refine cj_ ?_ | fail)<;>(try refine ev_ ?_)) | with_reducible exact ti_)
       all_goals exact ⟨fun g=>absurd g h0,fun _=>by first | trivial | exact ⟨rfl,rfl⟩⟩
     | true =>
       have hlt:=hlt rfl
       rw [if_pos rfl] at i3
       repeat' (first | refine vs_ ?_ | ((first | refine vr_ ?_ | refine qdo hmore ?_ | refine qg2 hone ?_ | (refine cs_ ?_ ?_<;>intro hc) | refine cj_ ?_ | fail)<;>(try refine ev_ ?_)) | with_reducible exact ti_)
       refine qb1 (fl',fu,e,acc ++ [y]) [0,1,2,3,4,5,8] ⟨⟨g2,by simp only;omega,i3,by simp only;omega,by simp only [hlen];omega,by simp only [hlen];omega,fun h=>by simp only [hlen] at h;omega⟩,by simp only;omega⟩ rfl (by simp) ?_ ?_ ?_
       all_goals simp only [qvr,hlen,if_neg hneA,← qh]
       all_goals (refine ev_ ?_;(try with_reducible exact ti_))
       all_goals first | (rw [qh];exact qr _ _) | exact ⟨rfl,rfl⟩ | rfl | (rw [qh,qr,q6];exact ⟨rfl,rfl⟩)

def frP (x:List UInt8) (b:Bool) (c:K):List Ent:=[curE c,.blk [.ptr 0 0],.blk [.ptr 0 0],.blk [.str x],.blk [.bool b],.blk [.fn 25 [] [.ptr 4 0,.ptr 2 0,.ptr 3 0]]]
theorem q07 {x:List UInt8} (b:Bool) (c:K):(frP x b c).all (Ent.bd 6) = true:=by
 simp only [frP,List.all_cons,List.all_nil,qu,Bool.true_and,Bool.and_true];rfl
theorem qnw {g:FuncId} {x:List UInt8} {b:Bool} {c c':K} {r:N×Bool} {L:List Ent} {Q:List Ent->VO->Prop} (h:VCalls Try.prog g [curE c,.blk [.ptr 0 0],.blk [.ptr 0 0],.blk [.str x],.blk [.bool b],.blk [.fn 25 [] [.ptr 4 0,.ptr 2 0,.ptr 3 0]]] [.ptr 1 0] fun H' o=>H' = (frP x b c')∧o = .val (resB r)) (hq:Q (curE c' :: .blk [.ptr 0 0] :: .blk [.ptr 0 0] :: .blk [.str x] :: .blk [.bool b] :: .blk [.fn 25 [] [.ptr 4 0,.ptr 2 0,.ptr 3 0]] :: L) (.val (resB r))) :
 VApp Try.prog (curE c :: .blk [.ptr 0 0] :: .blk [.ptr 0 0] :: .blk [.str x] :: .blk [.bool b] :: .blk [.fn 25 [] [.ptr 4 0,.ptr 2 0,.ptr 3 0]] :: L) (.fn g [] [.ptr 1 0]) [] Q :=
 qb0 (first:=[]) (caps:=[.ptr 1 0]) (by
  simp only [List.nil_append]
  refine qcy (H0:=[curE c,.blk [.ptr 0 0],.blk [.ptr 0 0],.blk [.str x],.blk [.bool b],.blk [.fn 25 [] [.ptr 4 0,.ptr 2 0,.ptr 3 0]]]) (L:=L) h (q07 (x:=x) b c) rfl ?_
  rintro H1 o ⟨rfl,rfl⟩
  exact ⟨rfl,q07 _ _,qmf _ _,hq⟩)
theorem qhj {g:FuncId} {x:List UInt8} {b b' a:Bool} {c c':K} {L:List Ent} {Q:List Ent->VO->Prop} (h:VCalls Try.prog g [curE c,.blk [.ptr 0 0],.blk [.ptr 0 0],.blk [.str x],.blk [.bool b],.blk [.fn 25 [] [.ptr 4 0,.ptr 2 0,.ptr 3 0]]] [.ptr 1 0,.ptr 5 0] fun H' o=>H' = (frP x b' c')∧o = .val (.bool a)) (hq:Q (curE c' :: .blk [.ptr 0 0] :: .blk [.ptr 0 0] :: .blk [.str x] :: .blk [.bool b'] :: .blk [.fn 25 [] [.ptr 4 0,.ptr 2 0,.ptr 3 0]] :: L) (.val (.bool a))) :
 VApp Try.prog (curE c :: .blk [.ptr 0 0] :: .blk [.ptr 0 0] :: .blk [.str x] :: .blk [.bool b] :: .blk [.fn 25 [] [.ptr 4 0,.ptr 2 0,.ptr 3 0]] :: L) (.fn g [] [.ptr 1 0,.ptr 5 0]) [] Q :=
 qb0 (first:=[]) (caps:=[.ptr 1 0,.ptr 5 0]) (by
  simp only [List.nil_append]
  refine qcy (H0:=[curE c,.blk [.ptr 0 0],.blk [.ptr 0 0],.blk [.str x],.blk [.bool b],.blk [.fn 25 [] [.ptr 4 0,.ptr 2 0,.ptr 3 0]]]) (L:=L) h (q07 (x:=x) b c) rfl ?_
  rintro H1 o ⟨rfl,rfl⟩
  exact ⟨rfl,q07 _ _,rfl,hq⟩)
def RowP (one:K->R3) (more:MF) (g1 g2:FuncId) (x:List UInt8) (b:Bool) (c:K):Prop :=
 VCalls Try.prog 15 [curE c,.blk [.ptr 0 0],.blk [.ptr 0 0],.blk [.str x],.blk [.bool b],.blk [.fn 25 [] [.ptr 4 0,.ptr 2 0,.ptr 3 0]]] [.nils,.fn g1 [] [.ptr 1 0],.fn g2 [] [.ptr 1 0,.ptr 5 0]] fun H' o =>
  H' = curE (rowS one more b c []).2.1 :: .blk [.ptr 0 0] :: .blk [.ptr 0 0] :: .blk [.str x] :: .blk [.bool (rowS one more b c []).1] :: .blk [.fn 25 [] [.ptr 4 0,.ptr 2 0,.ptr 3 0]] :: accE 5 (encs (rowS one more b c []).2.2.1)∧o = .val (.tup [accV 6 (encs (rowS one more b c []).2.2.1),.bool (rowS one more b c []).2.2.2])
def qv9 (g1 g2:FuncId) (x:List UInt8) (s:Bool×Nat×K×List N):AF×List Ent :=
 (⟨[(0,accV 6 (encs s.2.2.2)),(1,.fn g1 [] [.ptr 1 0]),(2,.fn g2 [] [.ptr 1 0,.ptr 5 0])],[]⟩,curE s.2.2.1 :: .blk [.ptr 0 0] :: .blk [.ptr 0 0] :: .blk [.str x] :: .blk [.bool s.1] :: .blk [.fn 25 [] [.ptr 4 0,.ptr 2 0,.ptr 3 0]] :: accE 5 (encs s.2.2.2))
theorem q6f {one:K->R3} {more:MF} {g1 g2:FuncId} {x:List UInt8} {n:Nat} (ho:Goes one) (hm:MonM more)
 (h1:∀ b c,c.good->rest c≤n->VCalls Try.prog g1 [curE c,.blk [.ptr 0 0],.blk [.ptr 0 0],.blk [.str x],.blk [.bool b],.blk [.fn 25 [] [.ptr 4 0,.ptr 2 0,.ptr 3 0]]] [.ptr 1 0] fun H' o=>H' = (frP x b (one c).1)∧o = .val (resB (one c).2))
 (h2:∀ b c,c.good->rest c≤n->VCalls Try.prog g2 [curE c,.blk [.ptr 0 0],.blk [.ptr 0 0],.blk [.str x],.blk [.bool b],.blk [.fn 25 [] [.ptr 4 0,.ptr 2 0,.ptr 3 0]]] [.ptr 1 0,.ptr 5 0] fun H' o=>H' = (frP x (more b c).1 (more b c).2.1)∧o = .val (.bool (more b c).2.2))
 (b0:Bool) (c0:K) (hg:c0.good) (hr:rest c0≤n):RowP one more g1 g2 x b0 c0:=by
 unfold RowP
 have hl:([]:List N).length + rest c0≤1048578:=by have h9:=hg.rest;unfold rest;simp only [List.length_nil];omega
 obtain ⟨kk,hk1,hk2,hk0⟩:∃ k:Nat,((rowS one more b0 c0 []).2.2.1 = []->k = 6)∧((rowS one more b0 c0 []).2.2.1≠[]->k = 7)∧6≤k:=by
  by_cases h:(rowS one more b0 c0 []).2.2.1 = []
  ·exact ⟨6,fun _=>rfl,fun g=>absurd h g,Nat.le_refl _⟩
  ·exact ⟨7,fun g=>absurd g h,fun _=>rfl,Nat.le_succ _⟩
 refine qdh c0dl kk (by simpa using hk0) (by simp) ?_
 generalize htg:rowS one more b0 c0 [] = tg at hk1 hk2 ⊢
 unfold rowS at htg
 repeat' (first | refine vs_ ?_ | ((first | refine vr_ ?_ | (refine cs_ ?_ ?_<;>intro hc) | refine cj_ ?_ | fail)<;>(try refine ev_ ?_)) | with_reducible exact ti_)
 refine qct (S:=Bool×Nat×K×List N) (fun s=>s.2.2.1.good∧rest s.2.2.1≤n∧rowF one more s.2.1 s.1 s.2.2.1 s.2.2.2 = tg∧rest s.2.2.1 < s.2.1∧s.2.2.2.length + rest s.2.2.1≤1048578) (qv9 g1 g2 x) (fun s=>rest s.2.2.1) ?_ ?_
 ·refine qb1 (b0,rest c0 + 1,c0,[]) [0,1,2,3,4,5] ⟨hg,hr,htg,Nat.lt_succ_self _,hl⟩ rfl (by simp) ?_ ?_ ?_
  all_goals simp only [qv9,encs,qbf,qbi]
  all_goals (refine ev_ ?_;(try with_reducible exact ti_))
 ·rintro ⟨fl,fu,d,acc⟩ ⟨i1,i2,i3,i4,i5⟩
  simp only at i1 i2 i3 i4 i5
  obtain ⟨fu,rfl⟩:∃ k,fu = k + 1:=⟨fu - 1,by omega⟩
  rw [rowF] at i3
  have hcap:qeb (acc.length + 1) 64:=capN (by omega)
  have hmore:=h2 fl d i1 i2
  have g1:=(hm fl d).1 i1
  have r1:=(hm fl d).2.1
  have hone:=h1 (more fl d).1 (more fl d).2.1 g1 (by omega)
  have g2:=(ho.m (more fl d).2.1).1 g1
  have r2:=(ho.m (more fl d).2.1).2.1
  have hlt:=ho.l (more fl d).2.1
  unfold qv9
  generalize more fl d = M at *
  obtain ⟨fl',d',ans⟩:=M
  simp only at hmore g1 r1 hone g2 r2 hlt i3
  generalize one d' = r at *
  obtain ⟨e,y,ok⟩:=r
  simp only at hone g2 r2 hlt i3
  cases ans with
  | false =>
    rw [if_neg (by simp)] at i3
    subst i3
    by_cases h0:acc = []
    ·subst h0
     obtain rfl:=hk1 rfl
     simp only [encs,qbf,qbi]
     repeat' (first | refine vs_ ?_ | ((first | refine vr_ ?_ | refine qhj hmore ?_ | (refine cs_ ?_ ?_<;>intro hc) | refine cj_ ?_ | fail)<;>(try refine ev_ ?_)) | with_reducible exact ti_)
     all_goals first | exact ⟨rfl,rfl⟩
    ·have hne:=q8 h0
     obtain rfl:=hk2 h0
     simp only [qbk hne,qbl hne,q9]
     repeat' (first | refine vs_ ?_ | ((first | refine vr_ ?_ | refine qhj hmore ?_ | (refine cs_ ?_ ?_<;>intro hc) | refine cj_ ?_ | fail)<;>(try refine ev_ ?_)) | with_reducible exact ti_)
     all_goals first | exact ⟨rfl,rfl⟩
  | true =>
    rw [if_pos rfl] at i3
    cases ok with
    | false =>
      rw [if_neg (by simp)] at i3
      subst i3
      by_cases h0:acc = []
      ·subst h0
       obtain rfl:=hk1 rfl
       simp only [encs,qbf,qbi]
       repeat' (first | refine vs_ ?_ | ((first | refine vr_ ?_ | refine qhj hmore ?_ | refine qnw hone ?_ | (refine cs_ ?_ ?_<;>intro hc) | refine cj_ ?_ | fail)<;>(try refine ev_ ?_)) | with_reducible exact ti_)
       all_goals first | exact ⟨rfl,rfl⟩
      ·have hne:=q8 h0
       obtain rfl:=hk2 h0
       simp only [qbk hne,qbl hne,q9]
       repeat' (first | refine vs_ ?_ | ((first | refine vr_ ?_ | refine qhj hmore ?_ | refine qnw hone ?_ | (refine cs_ ?_ ?_<;>intro hc) | refine cj_ ?_ | fail)<;>(try refine ev_ ?_)) | with_reducible exact ti_)
       all_goals first | exact ⟨rfl,rfl⟩
    | true =>
      have hlt:=hlt rfl
      rw [if_pos rfl] at i3
      have hne3:¬ acc ++ [y] = []:=by simp
      have hlen:(acc ++ [y]).length = acc.length + 1:=by simp
      by_cases h0:acc = []
      ·subst h0
       simp only [encs,qbf,qbi]
       repeat' (first | refine vs_ ?_ | ((first | refine vr_ ?_ | refine qhj hmore ?_ | refine qnw hone ?_ | (refine cs_ ?_ ?_<;>intro hc) | refine cj_ ?_ | fail)<;>(try refine ev_ ?_)) | with_reducible exact ti_)
       refine qb1 (fl',fu,e,[] ++ [y]) [0,1,2,3,4,5,7] ⟨⟨g2,by simp only;omega,i3,by simp only;omega,by simp only [hlen];omega⟩,by simp only;omega⟩ rfl (by simp) ?_ ?_ ?_
       all_goals simp only [qv9,qbl (q8 hne3),qbk (q8 hne3),q9,hlen,← qh]
       all_goals (refine ev_ ?_;(try with_reducible exact ti_))
       all_goals first | (rw [qh];exact qr _ _) | exact ⟨rfl,rfl⟩ | rfl | (rw [qh,qr,q6];exact ⟨rfl,rfl⟩)
      ·have hne:=q8 h0
       simp only [qbk hne,qbl hne,q9]
       repeat' (first | refine vs_ ?_ | ((first | refine vr_ ?_ | refine qhj hmore ?_ | refine qnw hone ?_ | (refine cs_ ?_ ?_<;>intro hc) | refine cj_ ?_ | fail)<;>(try refine ev_ ?_)) | with_reducible exact ti_)
       refine qb1 (fl',fu,e,acc ++ [y]) [0,1,2,3,4,5,8] ⟨⟨g2,by simp only;omega,i3,by simp only;omega,by simp only [hlen];omega⟩,by simp only;omega⟩ rfl (by simp) ?_ ?_ ?_
       all_goals simp only [qv9,qbl (q8 hne3),qbk (q8 hne3),q9,hlen,← qh]
       all_goals (refine ev_ ?_;(try with_reducible exact ti_))
       all_goals first | (rw [qh];exact qr _ _) | exact ⟨rfl,rfl⟩ | rfl | (rw [qh,qr,q6];exact ⟨rfl,rfl⟩)

def frB (x:List UInt8) (kd:Int) (b:Bool) (c:K):List Ent:=[curE c,.blk [.ptr 0 0],.blk [.ptr 0 0],.blk [.str x],.blk [.bool b],.blk [.fn 25 [] [.ptr 4 0,.ptr 2 0,.ptr 3 0]],.blk [.int .i64 kd]]
theorem q1p {x:List UInt8} {kd:Int} (b:Bool) (c:K):(frB x kd b c).all (Ent.bd 7) = true:=by
 simp only [frB,List.all_cons,List.all_nil,qu,Bool.true_and,Bool.and_true];rfl
theorem qnq {g:FuncId} {x:List UInt8} {kd:Int} {b:Bool} {c c':K} {r:N×Bool} {L:List Ent} {Q:List Ent->VO->Prop} (h:VCalls Try.prog g [curE c,.blk [.ptr 0 0],.blk [.ptr 0 0],.blk [.str x],.blk [.bool b],.blk [.fn 25 [] [.ptr 4 0,.ptr 2 0,.ptr 3 0]],.blk [.int .i64 kd]] [.ptr 1 0,.ptr 6 0] fun H' o=>H' = (frB x kd b c')∧o = .val (resB r)) (hq:Q (curE c' :: .blk [.ptr 0 0] :: .blk [.ptr 0 0] :: .blk [.str x] :: .blk [.bool b] :: .blk [.fn 25 [] [.ptr 4 0,.ptr 2 0,.ptr 3 0]] :: .blk [.int .i64 kd] :: L) (.val (resB r))) :
 VApp Try.prog (curE c :: .blk [.ptr 0 0] :: .blk [.ptr 0 0] :: .blk [.str x] :: .blk [.bool b] :: .blk [.fn 25 [] [.ptr 4 0,.ptr 2 0,.ptr 3 0]] :: .blk [.int .i64 kd] :: L) (.fn g [] [.ptr 1 0,.ptr 6 0]) [] Q :=
 qb0 (first:=[]) (caps:=[.ptr 1 0,.ptr 6 0]) (by
  simp only [List.nil_append]
  refine qcy (H0:=[curE c,.blk [.ptr 0 0],.blk [.ptr 0 0],.blk [.str x],.blk [.bool b],.blk [.fn 25 [] [.ptr 4 0,.ptr 2 0,.ptr 3 0]],.blk [.int .i64 kd]]) (L:=L) h (q1p (x:=x) (kd:=kd) b c) rfl ?_
  rintro H1 o ⟨rfl,rfl⟩
  exact ⟨rfl,q1p _ _,qmf _ _,hq⟩)
theorem qhx {g:FuncId} {x:List UInt8} {kd:Int} {b b' a:Bool} {c c':K} {L:List Ent} {Q:List Ent->VO->Prop} (h:VCalls Try.prog g [curE c,.blk [.ptr 0 0],.blk [.ptr 0 0],.blk [.str x],.blk [.bool b],.blk [.fn 25 [] [.ptr 4 0,.ptr 2 0,.ptr 3 0]],.blk [.int .i64 kd]] [.ptr 1 0,.ptr 5 0] fun H' o=>H' = (frB x kd b' c')∧o = .val (.bool a)) (hq:Q (curE c' :: .blk [.ptr 0 0] :: .blk [.ptr 0 0] :: .blk [.str x] :: .blk [.bool b'] :: .blk [.fn 25 [] [.ptr 4 0,.ptr 2 0,.ptr 3 0]] :: .blk [.int .i64 kd] :: L) (.val (.bool a))) :
 VApp Try.prog (curE c :: .blk [.ptr 0 0] :: .blk [.ptr 0 0] :: .blk [.str x] :: .blk [.bool b] :: .blk [.fn 25 [] [.ptr 4 0,.ptr 2 0,.ptr 3 0]] :: .blk [.int .i64 kd] :: L) (.fn g [] [.ptr 1 0,.ptr 5 0]) [] Q :=
 qb0 (first:=[]) (caps:=[.ptr 1 0,.ptr 5 0]) (by
  simp only [List.nil_append]
  refine qcy (H0:=[curE c,.blk [.ptr 0 0],.blk [.ptr 0 0],.blk [.str x],.blk [.bool b],.blk [.fn 25 [] [.ptr 4 0,.ptr 2 0,.ptr 3 0]],.blk [.int .i64 kd]]) (L:=L) h (q1p (x:=x) (kd:=kd) b c) rfl ?_
  rintro H1 o ⟨rfl,rfl⟩
  exact ⟨rfl,q1p _ _,rfl,hq⟩)
def RovB (one:K->R3) (more:MF) (g1 g2:FuncId) (x:List UInt8) (kd:Int) (b:Bool) (c:K) (a0:List N):Prop :=
 VCalls Try.prog 15 (curE c :: .blk [.ptr 0 0] :: .blk [.ptr 0 0] :: .blk [.str x] :: .blk [.bool b] :: .blk [.fn 25 [] [.ptr 4 0,.ptr 2 0,.ptr 3 0]] :: .blk [.int .i64 kd] :: [.app 5 (encs a0)]) [.row 7 a0.length,.fn g1 [] [.ptr 1 0,.ptr 6 0],.fn g2 [] [.ptr 1 0,.ptr 5 0]] fun H' o =>
  ((rowS one more b c a0).2.2.1 = a0->H' = curE (rowS one more b c a0).2.1 :: .blk [.ptr 0 0] :: .blk [.ptr 0 0] :: .blk [.str x] :: .blk [.bool (rowS one more b c a0).1] :: .blk [.fn 25 [] [.ptr 4 0,.ptr 2 0,.ptr 3 0]] :: .blk [.int .i64 kd] :: [.app 5 (encs a0)]∧o = .val (.tup [.row 7 a0.length,.bool (rowS one more b c a0).2.2.2])) ∧
  ((rowS one more b c a0).2.2.1≠a0->H' = curE (rowS one more b c a0).2.1 :: .blk [.ptr 0 0] :: .blk [.ptr 0 0] :: .blk [.str x] :: .blk [.bool (rowS one more b c a0).1] :: .blk [.fn 25 [] [.ptr 4 0,.ptr 2 0,.ptr 3 0]] :: .blk [.int .i64 kd] :: .dead :: [.app 5 (encs (rowS one more b c a0).2.2.1)]∧o = .val (.tup [.row 8 (rowS one more b c a0).2.2.1.length,.bool (rowS one more b c a0).2.2.2]))
def qwi (g1 g2:FuncId) (x:List UInt8) (kd:Int) (a0:List N) (s:Bool×Nat×K×List N):AF×List Ent :=
 if s.2.2.2.length = a0.length then (⟨[(0,.row 7 a0.length),(1,.fn g1 [] [.ptr 1 0,.ptr 6 0]),(2,.fn g2 [] [.ptr 1 0,.ptr 5 0])],[]⟩,curE s.2.2.1 :: .blk [.ptr 0 0] :: .blk [.ptr 0 0] :: .blk [.str x] :: .blk [.bool s.1] :: .blk [.fn 25 [] [.ptr 4 0,.ptr 2 0,.ptr 3 0]] :: .blk [.int .i64 kd] :: [.app 5 (encs a0)])
 else (⟨[(0,.row 8 s.2.2.2.length),(1,.fn g1 [] [.ptr 1 0,.ptr 6 0]),(2,.fn g2 [] [.ptr 1 0,.ptr 5 0])],[]⟩,curE s.2.2.1 :: .blk [.ptr 0 0] :: .blk [.ptr 0 0] :: .blk [.str x] :: .blk [.bool s.1] :: .blk [.fn 25 [] [.ptr 4 0,.ptr 2 0,.ptr 3 0]] :: .blk [.int .i64 kd] :: .dead :: [.app 5 (encs s.2.2.2)])
theorem q6m {one:K->R3} {more:MF} {g1 g2:FuncId} {x:List UInt8} {kd:Int} {n:Nat} (ho:Goes one) (hm:MonM more)
 (h1:∀ b c,c.good->rest c≤n->VCalls Try.prog g1 [curE c,.blk [.ptr 0 0],.blk [.ptr 0 0],.blk [.str x],.blk [.bool b],.blk [.fn 25 [] [.ptr 4 0,.ptr 2 0,.ptr 3 0]],.blk [.int .i64 kd]] [.ptr 1 0,.ptr 6 0] fun H' o=>H' = (frB x kd b (one c).1)∧o = .val (resB (one c).2))
 (h2:∀ b c,c.good->rest c≤n->VCalls Try.prog g2 [curE c,.blk [.ptr 0 0],.blk [.ptr 0 0],.blk [.str x],.blk [.bool b],.blk [.fn 25 [] [.ptr 4 0,.ptr 2 0,.ptr 3 0]],.blk [.int .i64 kd]] [.ptr 1 0,.ptr 5 0] fun H' o=>H' = (frB x kd (more b c).1 (more b c).2.1)∧o = .val (.bool (more b c).2.2))
 (b0:Bool) (c0:K) (a0:List N) (hg:c0.good) (hr:rest c0≤n) (hl:a0.length + rest c0≤1048578):RovB one more g1 g2 x kd b0 c0 a0:=by
 unfold RovB
 obtain ⟨kk,hk1,hk2,hk0⟩:∃ k:Nat,((rowS one more b0 c0 a0).2.2.1 = a0->k = 8)∧((rowS one more b0 c0 a0).2.2.1≠a0->k = 9)∧8≤k:=by
  by_cases h:(rowS one more b0 c0 a0).2.2.1 = a0
  ·exact ⟨8,fun _=>rfl,fun g=>absurd h g,Nat.le_refl _⟩
  ·exact ⟨9,fun g=>absurd g h,fun _=>rfl,Nat.le_succ _⟩
 refine qdh c0dl kk (by simpa using hk0) (by simp) ?_
 generalize htg:rowS one more b0 c0 a0 = tg at hk1 hk2 ⊢
 unfold rowS at htg
 repeat' (first | refine vs_ ?_ | ((first | refine vr_ ?_ | (refine cs_ ?_ ?_<;>intro hc) | refine cj_ ?_ | fail)<;>(try refine ev_ ?_)) | with_reducible exact ti_)
 refine qct (S:=Bool×Nat×K×List N) (fun s=>s.2.2.1.good∧rest s.2.2.1≤n∧rowF one more s.2.1 s.1 s.2.2.1 s.2.2.2 = tg∧rest s.2.2.1 < s.2.1∧s.2.2.2.length + rest s.2.2.1≤1048578∧a0.length≤s.2.2.2.length∧(s.2.2.2.length = a0.length->s.2.2.2 = a0)) (qwi g1 g2 x kd a0) (fun s=>rest s.2.2.1) ?_ ?_
 ·refine qb1 (b0,rest c0 + 1,c0,a0) [0,1,2,3,4,5,6,7] ⟨hg,hr,htg,Nat.lt_succ_self _,hl,Nat.le_refl _,fun _=>rfl⟩ rfl (by simp) ?_ ?_ ?_
  all_goals simp only [qwi,if_true]
  all_goals (refine ev_ ?_;(try with_reducible exact ti_))
  all_goals first | exact qr _ _ | exact ⟨rfl,rfl⟩ | rfl | (rw [qr,q6];exact ⟨rfl,rfl⟩)
 ·rintro ⟨fl,fu,d,acc⟩ ⟨i1,i2,i3,i4,i5,i6,i7⟩
  simp only at i6 i7
  simp only at i1 i2 i3 i4 i5
  obtain ⟨fu,rfl⟩:∃ k,fu = k + 1:=⟨fu - 1,by omega⟩
  rw [rowF] at i3
  have hcap:qeb (acc.length + 1) 64:=capN (by omega)
  have hmore:=h2 fl d i1 i2
  have g1:=(hm fl d).1 i1
  have r1:=(hm fl d).2.1
  have hone:=h1 (more fl d).1 (more fl d).2.1 g1 (by omega)
  have g2:=(ho.m (more fl d).2.1).1 g1
  have r2:=(ho.m (more fl d).2.1).2.1
  have hlt:=ho.l (more fl d).2.1
  unfold qwi
  generalize more fl d = M at *
  obtain ⟨fl',d',ans⟩:=M
  simp only at hmore g1 r1 hone g2 r2 hlt i3
  generalize one d' = r at *
  obtain ⟨e,y,ok⟩:=r
  simp only at hone g2 r2 hlt i3
  have hneA:¬ acc.length + 1 = a0.length:=by omega
  have hlen:(acc ++ [y]).length = acc.length + 1:=by simp
  by_cases h0:acc = a0
  ·have h0l:acc.length = a0.length:=by rw [h0]
   simp only [if_pos h0l]
   cases ans with
   | false =>
     rw [if_neg (by simp)] at i3
     subst i3
     obtain rfl:=hk1 h0
     repeat' (first | refine vs_ ?_ | ((first | refine vr_ ?_ | refine qhx hmore ?_ | (refine cs_ ?_ ?_<;>intro hc) | refine cj_ ?_ | fail)<;>(try refine ev_ ?_)) | with_reducible exact ti_)
     all_goals exact ⟨fun _=>by first | trivial | exact ⟨rfl,rfl⟩,fun g=>absurd h0 g⟩
   | true =>
     rw [if_pos rfl] at i3
     cases ok with
     | false =>
       rw [if_neg (by simp)] at i3
       subst i3
       obtain rfl:=hk1 h0
       repeat' (first | refine vs_ ?_ | ((first | refine vr_ ?_ | refine qhx hmore ?_ | refine qnq hone ?_ | (refine cs_ ?_ ?_<;>intro hc) | refine cj_ ?_ | fail)<;>(try refine ev_ ?_)) | with_reducible exact ti_)
       all_goals exact ⟨fun _=>by first | trivial | exact ⟨rfl,rfl⟩,fun g=>absurd h0 g⟩
     | true =>
       have hlt:=hlt rfl
       rw [if_pos rfl] at i3
       subst h0
       repeat' (first | refine vs_ ?_ | ((first | refine vr_ ?_ | refine qhx hmore ?_ | refine qnq hone ?_ | (refine cs_ ?_ ?_<;>intro hc) | refine cj_ ?_ | fail)<;>(try refine ev_ ?_)) | with_reducible exact ti_)
       refine qb1 (fl',fu,e,acc ++ [y]) [0,1,2,3,4,5,6,7,9] ⟨⟨g2,by simp only;omega,i3,by simp only;omega,by simp only [hlen];omega,by simp only [hlen];omega,fun h=>by simp only [hlen] at h;omega⟩,by simp only;omega⟩ rfl (by simp) ?_ ?_ ?_
       all_goals simp only [qwi,hlen,if_neg hneA,← qh]
       all_goals (refine ev_ ?_;(try with_reducible exact ti_))
       all_goals first | (rw [qh];exact qr _ _) | exact ⟨rfl,rfl⟩ | rfl | (rw [qh,qr,q6];exact ⟨rfl,rfl⟩)
  ·have h0l:¬ acc.length = a0.length:=fun h=>h0 (i7 h)
   simp only [if_neg h0l]
   cases ans with
   | false =>
     rw [if_neg (by simp)] at i3
     subst i3
     obtain rfl:=hk2 h0
     repeat' (first | refine vs_ ?_ | ((first | refine vr_ ?_ | refine qhx hmore ?_ | (refine cs_ ?_ ?_<;>intro hc) | refine cj_ ?_ | fail)<;>(try refine ev_ ?_)) | with_reducible exact ti_)
     all_goals exact ⟨fun g=>absurd g h0,fun _=>by first | trivial | exact ⟨rfl,rfl⟩⟩
   | true =>
     rw [if_pos rfl] at i3
     cases ok with
     | false =>
       rw [if_neg (by simp)] at i3
       subst i3
       obtain rfl:=hk2 h0
       repeat' (first | refine vs_ ?_ | ((first | refine vr_ ?_ | refine qhx hmore ?_ | refine qnq hone ?_ | (refine cs_ ?_ ?_<;>intro hc) | refine cj_ ?_ | fail)<;>(try refine ev_ ?_)) | with_reducible exact ti_)
       all_goals exact ⟨fun g=>absurd g h0,fun _=>by first | trivial | exact ⟨rfl,rfl⟩⟩
     | true =>
       have hlt:=hlt rfl
       rw [if_pos rfl] at i3
       repeat' (first | refine vs_ ?_ | ((first | refine vr_ ?_ | refine qhx hmore ?_ | refine qnq hone ?_ | (refine cs_ ?_ ?_<;>intro hc) | refine cj_ ?_ | fail)<;>(try refine ev_ ?_)) | with_reducible exact ti_)
       refine qb1 (fl',fu,e,acc ++ [y]) [0,1,2,3,4,5,6,7,10] ⟨⟨g2,by simp only;omega,i3,by simp only;omega,by simp only [hlen];omega,by simp only [hlen];omega,fun h=>by simp only [hlen] at h;omega⟩,by simp only;omega⟩ rfl (by simp) ?_ ?_ ?_
       all_goals simp only [qwi,hlen,if_neg hneA,← qh]
       all_goals (refine ev_ ?_;(try with_reducible exact ti_))
       all_goals first | (rw [qh];exact qr _ _) | exact ⟨rfl,rfl⟩ | rfl | (rw [qh,qr,q6];exact ⟨rfl,rfl⟩)

set_option maxRecDepth 4000

theorem qng (σ:Nat->Nat) (i o:Nat):(Ent.blk [.ptr i o]).ren σ = .blk [.ptr (σ i) o]:=rfl
theorem qoh (σ:Nat->Nat) (x:List UInt8):(Ent.blk [.str x]).ren σ = .blk [.str x]:=rfl
theorem qjo (σ:Nat->Nat) (b:Bool):(Ent.blk [.bool b]).ren σ = .blk [.bool b]:=rfl
theorem qb1i (σ:Nat->Nat) (n:Int):(Ent.blk [.int .i64 n]).ren σ = .blk [.int .i64 n]:=rfl
theorem qp1 (σ:Nat->Nat) (l:List N):(Ent.app 5 (encs l)).ren σ = .app 5 (encs l):=by rw [Ent.ren,q6]
theorem e_fn (σ:Nat->Nat) (f:FuncId) (i j k:Nat):(Ent.blk [.fn f [] [.ptr i 0,.ptr j 0,.ptr k 0]]).ren σ = .blk [.fn f [] [.ptr (σ i) 0,.ptr (σ j) 0,.ptr (σ k) 0]]:=rfl
theorem qbcy (c:K) (x:List UInt8):VCalls Try.prog 14 [curE c] [.ptr 0 0,.str x] fun H' o=>H' = [curE c,.blk [.ptr 0 0],.blk [.str x],.blk [.bool false]]∧o = .val (.fn 25 [] [.ptr 3 0,.ptr 1 0,.ptr 2 0]):=by
 refine qdh c0dd 4 (by simp) (by simp) ?_
 repeat' (first | refine vs_ ?_ | ((first | refine vr_ ?_ | (refine cs_ ?_ ?_<;>intro hc) | refine cj_ ?_ | fail)<;>(try refine ev_ ?_)) | with_reducible exact ti_)
 all_goals exact ⟨rfl,rfl⟩
theorem qec {c:K} {x:List UInt8} {L:List Ent} {Q:List Ent->VO->Prop} (hq:Q (curE c :: (L ++ [.blk [.ptr 0 0],.blk [.str x],.blk [.bool false]])) (.val (.fn 25 [] [.ptr (L.length + 3) 0,.ptr (L.length + 1) 0,.ptr (L.length + 2) 0]))) :
 VApp Try.prog (curE c :: L) (.fn 14 [] []) [.ptr 0 0,.str x] Q :=
 qb0 (first:=[]) (caps:=[]) (by
  simp only [List.nil_append,List.append_nil]
  refine qcj (H0:=[curE c]) (args0:=[.ptr 0 0,.str x]) [0] (qbcy c x) (by simp) ?_ rfl rfl ?_
  ·(refine ev_ ?_;(try with_reducible exact ti_))
   omega
  rintro H1 o ⟨rfl,rfl⟩
  have h3:∀ k,L.length + 1 + k = L.length + (k + 1):=fun k=>by omega
  simpa [qfo,qbo,sg',qng,qoh,qjo,AV.ren,AV.rens,VO.ren,qcq,Nat.add_assoc] using hq)
theorem quf (x:List UInt8) (b:Bool) (c:K) (hg:c.good):VCalls Try.prog 25 [curE c,.blk [.ptr 0 0],.blk [.str x],.blk [.bool b]] [.ptr 3 0,.ptr 1 0,.ptr 2 0] fun H' o=>H' = [curE (qbs x b c).2.1,.blk [.ptr 0 0],.blk [.str x],.blk [.bool (qbs x b c).1]]∧o = .val (.bool (qbs x b c).2.2):=by
 refine ql c0de 4 (by simp) (by simp) ?_
 unfold qbs
 cases b with
 | false =>
   repeat' (first | refine vs_ ?_ | ((first | refine vr_ ?_ | (refine cs_ ?_ ?_<;>intro hc) | refine cj_ ?_ | fail)<;>(try refine ev_ ?_)) | with_reducible exact ti_)
   all_goals exact ⟨rfl,rfl⟩
 | true =>
   repeat' (first | refine vs_ ?_ | ((first | refine vr_ ?_ | refine qdt hg.ok ?_ | (refine cs_ ?_ ?_<;>intro hc) | refine cj_ ?_ | fail)<;>(try refine ev_ ?_)) | with_reducible exact ti_)
   all_goals exact ⟨rfl,rfl⟩
theorem qhp {x:List UInt8} {b:Bool} {c:K} {B:Ent} {L:List Ent} {Q:List Ent->VO->Prop} (hg:c.good) (hq:Q (curE (qbs x b c).2.1 :: B :: .blk [.ptr 0 0] :: .blk [.str x] :: .blk [.bool (qbs x b c).1] :: L) (.val (.bool (qbs x b c).2.2))) :
 VApp Try.prog (curE c :: B :: .blk [.ptr 0 0] :: .blk [.str x] :: .blk [.bool b] :: L) (.fn 25 [] [.ptr 4 0,.ptr 2 0,.ptr 3 0]) [] Q :=
 qb0 (first:=[]) (caps:=[.ptr 4 0,.ptr 2 0,.ptr 3 0]) (by
  simp only [List.nil_append]
  refine qcj (H0:=[curE c,.blk [.ptr 0 0],.blk [.str x],.blk [.bool b]]) (args0:=[.ptr 3 0,.ptr 1 0,.ptr 2 0]) [0,2,3,4] (quf x b c hg) (by simp) ?_ rfl rfl ?_
  ·(refine ev_ ?_;(try with_reducible exact ti_))
   omega
  rintro H1 o ⟨rfl,rfl⟩
  simpa [qfo,qbo,sg',qng,qoh,qjo,AV.ren,AV.rens,VO.ren,qcq] using hq)
theorem qpf (c:K) (hg:c.good):qb2 Try.prog 37 (curE c) (curE (qff c).1) [.ptr 0 0] (resP (qff c).2):=qhl (qcg _) (qu2 (rest c + 2)) c hg (by omega)
theorem qu9 (c:K) (hg:c.good):qb2 Try.prog 29 (curE c) (curE (qgc c).1) [.ptr 0 0] (resP (qgc c).2):=qr5 (qb2a (rest c + 2)) c hg (by omega)
theorem qbp1 (c:K):qb2 Try.prog 59 (curE c) (curE c) [.ptr 0 0] (.bool (begT c)):=by
 refine ql c0df 1 (by simp) (by simp) ?_
 repeat' (first | refine vs_ ?_ | ((first | refine vr_ ?_ | refine qbv ?_ | refine a_Is ?_ | (refine cs_ ?_ ?_<;>intro hc) | refine cj_ ?_ | fail)<;>(try refine ev_ ?_)) | with_reducible exact ti_)
 all_goals (unfold begT;simp_all)
theorem qb2b {c:K} {L:List Ent} {Q:List Ent->VO->Prop} (hq:Q (curE c :: L) (.val (.bool (begT c)))):VApp Try.prog (curE c :: L) (.fn 59 [] []) [.ptr 0 0] Q:=qby (qbp1 c) (qu _ _) (qu _ _) rfl rfl fun _=>hq
theorem qblp (c:K) (hg:c.good):VCalls Try.prog 57 [curE c,.blk [.ptr 0 0]] [.ptr 1 0] fun H' o=>H' = frA false (qdf c).1∧o = .val (resB (qdf c).2):=by
 refine ql c0dg 2 (by simp) (by simp) ?_
 unfold qdf ofO frA
 repeat' (first | refine vs_ ?_ | ((first | refine vr_ ?_ | refine qce (qpf c hg) rfl ?_ | (refine cs_ ?_ ?_<;>intro hc) | refine cj_ ?_ | fail)<;>(try refine ev_ ?_)) | with_reducible exact ti_)
 all_goals exact ⟨rfl,rfl⟩
theorem qbn7 (c:K):VCalls Try.prog 58 [curE c,.blk [.ptr 0 0]] [.ptr 1 0] fun H' o=>H' = frA false c∧o = .val (.bool (begT c)):=by
 refine ql c0dh 2 (by simp) (by simp) ?_
 unfold frA
 repeat' (first | refine vs_ ?_ | ((first | refine vr_ ?_ | refine qb2b ?_ | (refine cs_ ?_ ?_<;>intro hc) | refine cj_ ?_ | fail)<;>(try refine ev_ ?_)) | with_reducible exact ti_)
 all_goals exact ⟨rfl,rfl⟩
theorem qbao (c:K) (hg:c.good):VCalls Try.prog 36 [curE c,.blk [.ptr 0 0]] [.ptr 1 0] fun H' o=>H' = frA false (qdf c).1∧o = .val (resB (qdf c).2):=by
 refine ql c0di 2 (by simp) (by simp) ?_
 unfold qdf ofO frA
 repeat' (first | refine vs_ ?_ | ((first | refine vr_ ?_ | refine qce (qpf c hg) rfl ?_ | (refine cs_ ?_ ?_<;>intro hc) | refine cj_ ?_ | fail)<;>(try refine ev_ ?_)) | with_reducible exact ti_)
 all_goals exact ⟨rfl,rfl⟩
theorem qbdx (c:K):VCalls Try.prog 38 [curE c,.blk [.ptr 0 0]] [.ptr 1 0] fun H' o=>H' = frA false c∧o = .val (.bool (qek c)):=by
 refine ql c0dj 2 (by simp) (by simp) ?_
 unfold qek frA
 repeat' (first | refine vs_ ?_ | ((first | refine vr_ ?_ | refine qbv ?_ | (refine cs_ ?_ ?_<;>intro hc) | refine cj_ ?_ | fail)<;>(try refine ev_ ?_)) | with_reducible exact ti_)
 all_goals exact ⟨rfl,rfl⟩
theorem qbck (c:K) (hg:c.good):RowA qdf (qe1 begT) 57 58 false c:=qvc goes_atom (monA _) (fun b c g _=>qblp c g) (fun b c g _=>qbn7 c) false c hg (Nat.le_refl _)
theorem q73 (c:K) (hg:c.good):RowA qdf (qe1 qek) 36 38 false c:=qvc goes_atom (monA _) (fun b c g _=>qbao c g) (fun b c g _=>qbdx c) false c hg (Nat.le_refl _)
section
variable {one:K->R3} {more:MF} {g1 g2:FuncId} {b:Bool} {c:K}
theorem qu8 (h:RowA one more g1 g2 b c) (h0:(rowS one more b c []).2.2.1 = []) {L:List Ent} {Q:List Ent->VO->Prop} (hq:Q (curE (rowS one more b c []).2.1 :: .blk [.ptr 0 0] :: L) (.val (.tup [.nils,.bool (rowS one more b c []).2.2.2]))) :
 VApp Try.prog (curE c :: .blk [.ptr 0 0] :: L) (.fn 15 [] []) [.nils,.fn g1 [] [.ptr 1 0],.fn g2 [] [.ptr 1 0]] Q :=
 qb0 (first:=[]) (caps:=[]) (by
  simp only [List.nil_append,List.append_nil]
  refine qcy (H0:=[curE c,.blk [.ptr 0 0]]) (L:=L) h (qjr c) rfl ?_
  rintro H1 o ⟨rfl,rfl⟩
  rw [h0]
  exact ⟨rfl,qjr _,rfl,hq⟩)
theorem quk (h:RowA one more g1 g2 b c) (h0:(rowS one more b c []).2.2.1≠[]) {L:List Ent} {Q:List Ent->VO->Prop} (hq:Q (curE (rowS one more b c []).2.1 :: .blk [.ptr 0 0] :: (L ++ [.app 5 (encs (rowS one more b c []).2.2.1)])) (.val (.tup [.row (L.length + 2) (rowS one more b c []).2.2.1.length,.bool (rowS one more b c []).2.2.2]))) :
 VApp Try.prog (curE c :: .blk [.ptr 0 0] :: L) (.fn 15 [] []) [.nils,.fn g1 [] [.ptr 1 0],.fn g2 [] [.ptr 1 0]] Q :=
 qb0 (first:=[]) (caps:=[]) (by
  simp only [List.nil_append,List.append_nil]
  refine qcj (H0:=[curE c,.blk [.ptr 0 0]]) (args0:=[.nils,.fn g1 [] [.ptr 1 0],.fn g2 [] [.ptr 1 0]]) [0,1] h (by simp) ?_ rfl rfl ?_
  ·(refine ev_ ?_;(try with_reducible exact ti_))
   omega
  rintro H1 o ⟨rfl,rfl⟩
  rw [qbl (q8 h0),qbk (q8 h0),q9]
  simpa [qfo,qbo,sg',qng,qp1,AV.ren,AV.rens,VO.ren,qcq] using hq)
end
theorem qtd (t:T) (l:List N):AV.agg [.int .i64 34,.int .i64 t.pos,.int .i64 0,.str t.text,.sl 5 (encs l)] = enc (conN t l):=by simp only [conN,enc]
theorem qt2 (t:T):AV.agg [.int .i64 34,.int .i64 t.pos,.int .i64 0,.str t.text,.sl 5 []] = enc (conN t []):=qtd t []
theorem qbxa (c:K) (hg:c.good):qb2 Try.prog 41 (curE c) (curE (conK c).1) [.ptr 0 0] (resB (conK c).2):=by
 have g1:(kindK c 2).1.good:=(qbw c 2).1 hg
 have hR:=qbck (kindK c 2).1 g1
 have h0:=@qu8 _ _ _ _ _ _ hR
 have h1:=@quk _ _ _ _ _ _ hR
 clear hR
 refine ql c0dk 1 (by simp) (by simp) ?_
 unfold conK
 generalize rowS qdf (qe1 begT) false (kindK c 2).1 [] = r at *
 by_cases hk:(kindK c 2).2 = true
 ·rw [if_pos hk]
  by_cases hl:r.2.2.1 = []
  ·repeat' (first | refine vs_ ?_ | ((first | refine vrr_ ?_ | fail)<;>(try simp only [hk,go_sem,↓reduceIte])) | ((first | (refine cs_ ?_ ?_<;>intro hc) | refine cj_ ?_ | fail | refine qcw hg.ok ?_ | refine h0 hl ?_)<;>(try refine ev_ ?_)) | with_reducible exact ti_)
   all_goals first | (rw [hl,qt2];done) | (rw [hl,qt2];rfl) | (rw [hl,qt2];exact ⟨rfl,rfl⟩)
  ·repeat' (first | refine vs_ ?_ | ((first | refine vrr_ ?_ | fail)<;>(try simp only [hk,go_sem,↓reduceIte])) | ((first | (refine cs_ ?_ ?_<;>intro hc) | refine cj_ ?_ | fail | refine qcw hg.ok ?_ | refine h1 hl ?_)<;>(try refine ev_ ?_)) | with_reducible exact ti_)
   all_goals first | (rw [qtd];done) | (rw [qtd];rfl) | (rw [qtd];exact ⟨rfl,rfl⟩)
 ·rw [if_neg hk]
  repeat' (first | refine vs_ ?_ | ((first | refine vr_ ?_ | fail)<;>(try simp only [hk,go_sem,↓reduceIte])) | ((first | (refine cs_ ?_ ?_<;>intro hc) | refine cj_ ?_ | fail | refine qcw hg.ok ?_)<;>(try refine ev_ ?_)) | with_reducible exact ti_)
  all_goals first | (rw [qds];done) | (rw [qds];rfl) | (rw [qds];exact ⟨rfl,rfl⟩)
set_option maxRecDepth 4000

theorem qb2p {c:K} {L:List Ent} {Q:List Ent->VO->Prop} (hg:c.good) (hq:Q (curE (conK c).1 :: L) (.val (resB (conK c).2))):VApp Try.prog (curE c :: L) (.fn 41 [] []) [.ptr 0 0] Q:=qkb (qbxa c hg) rfl hq
theorem qz9 (x:List UInt8) (b:Bool) (c:K) (hg:c.good):VCalls Try.prog 40 [curE c,.blk [.ptr 0 0],.blk [.ptr 0 0],.blk [.str x],.blk [.bool b]] [.ptr 1 0] fun H' o=>H' = frD x b (conK c).1∧o = .val (resB (conK c).2):=by
 refine ql c0db 5 (by simp) (by simp) ?_
 unfold frD
 repeat' (first | refine vs_ ?_ | ((first | refine vr_ ?_ | refine qb2p hg ?_ | (refine cs_ ?_ ?_<;>intro hc) | refine cj_ ?_ | fail)<;>(try refine ev_ ?_)) | with_reducible exact ti_)
 all_goals exact ⟨rfl,rfl⟩
theorem qrc (x:List UInt8) (b:Bool) (c:K) (hg:c.good):VCalls Try.prog 25 [curE c,.blk [.ptr 0 0],.blk [.ptr 0 0],.blk [.str x],.blk [.bool b]] [.ptr 4 0,.ptr 2 0,.ptr 3 0] fun H' o=>H' = frD x (qbs x b c).1 (qbs x b c).2.1∧o = .val (.bool (qbs x b c).2.2):=by
 refine qcj (H0:=[curE c,.blk [.ptr 0 0],.blk [.str x],.blk [.bool b]]) (args0:=[.ptr 3 0,.ptr 1 0,.ptr 2 0]) [0,2,3,4] (quf x b c hg) (by simp) ?_ rfl rfl ?_
 ·(refine ev_ ?_;(try with_reducible exact ti_))
 rintro H1 o ⟨rfl,rfl⟩
 simp [frD,qfo,qbo,sg',qng,qoh,qjo,AV.ren,AV.rens,VO.ren,qcq]
theorem q40 (c:K) (hg:c.good):RowD conK (qbs [124]) 40 25 [124] false c :=
 q57 goes_con (monF _) (fun b c g _=>qz9 _ b c g) (fun b c g _=>qrc _ b c g) false c hg (Nat.le_refl _)
theorem q9f (c:K) (a0:List N) (hg:c.good) (hl:a0.length + rest c≤1048578):RovD conK (qbs [124]) 40 25 [124] false c a0 :=
 q67 goes_con (monF _) (fun b c g _=>qz9 _ b c g) (fun b c g _=>qrc _ b c g) false c a0 hg (Nat.le_refl _) hl
section
variable {one:K->R3} {more:MF} {g:FuncId} {x:List UInt8} {b:Bool} {c:K} {e2 e3 e4:Ent} {Q:List Ent->VO->Prop}
theorem q8m (h:RowD one more g 25 x b c) (h0:(rowS one more b c []).2.2.1 = []) (hq:Q [curE (rowS one more b c []).2.1,.blk [.ptr 0 0],e2,e3,e4,.blk [.ptr 0 0],.blk [.str x],.blk [.bool (rowS one more b c []).1]] (.val (.tup [.nils,.bool (rowS one more b c []).2.2.2]))) :
 VApp Try.prog [curE c,.blk [.ptr 0 0],e2,e3,e4,.blk [.ptr 0 0],.blk [.str x],.blk [.bool b]] (.fn 15 [] []) [.nils,.fn g [] [.ptr 1 0],.fn 25 [] [.ptr 7 0,.ptr 5 0,.ptr 6 0]] Q :=
 qb0 (first:=[]) (caps:=[]) (by
  simp only [List.nil_append,List.append_nil]
  refine qcj (H0:=[curE c,.blk [.ptr 0 0],.blk [.ptr 0 0],.blk [.str x],.blk [.bool b]]) (args0:=[.nils,.fn g [] [.ptr 1 0],.fn 25 [] [.ptr 4 0,.ptr 2 0,.ptr 3 0]]) [0,1,5,6,7] h (by simp) ?_ rfl rfl ?_
  ·(refine ev_ ?_;(try with_reducible exact ti_))
  rintro H1 o ⟨rfl,rfl⟩
  rw [h0]
  simpa [encs,qbi,qbf,qfo,qbo,sg',qng,qoh,qjo,AV.ren,AV.rens,VO.ren,qcq] using hq)
theorem q5t (h:RowD one more g 25 x b c) (h0:(rowS one more b c []).2.2.1≠[]) (hq:Q [curE (rowS one more b c []).2.1,.blk [.ptr 0 0],e2,e3,e4,.blk [.ptr 0 0],.blk [.str x],.blk [.bool (rowS one more b c []).1],.app 5 (encs (rowS one more b c []).2.2.1)] (.val (.tup [.row 8 (rowS one more b c []).2.2.1.length,.bool (rowS one more b c []).2.2.2]))) :
 VApp Try.prog [curE c,.blk [.ptr 0 0],e2,e3,e4,.blk [.ptr 0 0],.blk [.str x],.blk [.bool b]] (.fn 15 [] []) [.nils,.fn g [] [.ptr 1 0],.fn 25 [] [.ptr 7 0,.ptr 5 0,.ptr 6 0]] Q :=
 qb0 (first:=[]) (caps:=[]) (by
  simp only [List.nil_append,List.append_nil]
  refine qcj (H0:=[curE c,.blk [.ptr 0 0],.blk [.ptr 0 0],.blk [.str x],.blk [.bool b]]) (args0:=[.nils,.fn g [] [.ptr 1 0],.fn 25 [] [.ptr 4 0,.ptr 2 0,.ptr 3 0]]) [0,1,5,6,7] h (by simp) ?_ rfl rfl ?_
  ·(refine ev_ ?_;(try with_reducible exact ti_))
  rintro H1 o ⟨rfl,rfl⟩
  rw [qbl (q8 h0),qbk (q8 h0),q9]
  simpa [qfo,qbo,sg',qng,qoh,qjo,qp1,AV.ren,AV.rens,VO.ren,qcq] using hq)
variable {a0:List N}
theorem q8u (h:RovD one more g 25 x b c a0) (h0:(rowS one more b c a0).2.2.1 = a0) (hq:Q [curE (rowS one more b c a0).2.1,.blk [.ptr 0 0],e2,e3,e4,.app 5 (encs a0),.blk [.ptr 0 0],.blk [.str x],.blk [.bool (rowS one more b c a0).1]] (.val (.tup [.row 5 a0.length,.bool (rowS one more b c a0).2.2.2]))) :
 VApp Try.prog [curE c,.blk [.ptr 0 0],e2,e3,e4,.app 5 (encs a0),.blk [.ptr 0 0],.blk [.str x],.blk [.bool b]] (.fn 15 [] []) [.row 5 a0.length,.fn g [] [.ptr 1 0],.fn 25 [] [.ptr 8 0,.ptr 6 0,.ptr 7 0]] Q :=
 qb0 (first:=[]) (caps:=[]) (by
  simp only [List.nil_append,List.append_nil]
  refine qcj (H0:=[curE c,.blk [.ptr 0 0],.blk [.ptr 0 0],.blk [.str x],.blk [.bool b],.app 5 (encs a0)]) (args0:=[.row 5 a0.length,.fn g [] [.ptr 1 0],.fn 25 [] [.ptr 4 0,.ptr 2 0,.ptr 3 0]]) [0,1,6,7,8,5] h (by simp) ?_ rfl rfl ?_
  ·(refine ev_ ?_;(try with_reducible exact ti_))
   all_goals (rw [q6,qr];exact ⟨rfl,rfl⟩)
  intro H1 o hh
  obtain ⟨rfl,rfl⟩:=hh.1 h0
  simpa [qfo,qbo,sg',qng,qoh,qjo,qp1,AV.ren,AV.rens,VO.ren,qcq] using hq)
theorem q7u (h:RovD one more g 25 x b c a0) (h0:(rowS one more b c a0).2.2.1≠a0) (hq:Q [curE (rowS one more b c a0).2.1,.blk [.ptr 0 0],e2,e3,e4,.dead,.blk [.ptr 0 0],.blk [.str x],.blk [.bool (rowS one more b c a0).1],.app 5 (encs (rowS one more b c a0).2.2.1)] (.val (.tup [.row 9 (rowS one more b c a0).2.2.1.length,.bool (rowS one more b c a0).2.2.2]))) :
 VApp Try.prog [curE c,.blk [.ptr 0 0],e2,e3,e4,.app 5 (encs a0),.blk [.ptr 0 0],.blk [.str x],.blk [.bool b]] (.fn 15 [] []) [.row 5 a0.length,.fn g [] [.ptr 1 0],.fn 25 [] [.ptr 8 0,.ptr 6 0,.ptr 7 0]] Q :=
 qb0 (first:=[]) (caps:=[]) (by
  simp only [List.nil_append,List.append_nil]
  refine qcj (H0:=[curE c,.blk [.ptr 0 0],.blk [.ptr 0 0],.blk [.str x],.blk [.bool b],.app 5 (encs a0)]) (args0:=[.row 5 a0.length,.fn g [] [.ptr 1 0],.fn 25 [] [.ptr 4 0,.ptr 2 0,.ptr 3 0]]) [0,1,6,7,8,5] h (by simp) ?_ rfl rfl ?_
  ·(refine ev_ ?_;(try with_reducible exact ti_))
   all_goals (rw [q6,qr];exact ⟨rfl,rfl⟩)
  intro H1 o hh
  obtain ⟨rfl,rfl⟩:=hh.2 h0
  have hd:∀ σ:Nat->Nat,Ent.dead.ren σ = .dead:=fun σ=>rfl
  simpa [qfo,qbo,sg',qng,qoh,qjo,qp1,hd,AV.ren,AV.rens,VO.ren,qcq] using hq)
end
theorem qnx (p:Int) (t:T) (v l:List N):AV.agg [.int .i64 33,.int .i64 p,.int .i64 v.length,.str t.text,.sl 5 (encs l)] = enc (qwp p t v l):=by simp only [qwp,enc]
theorem q6l (p:Int) (t:T) (l:List N):AV.agg [.int .i64 33,.int .i64 p,.int .i64 0,.str t.text,.sl 5 (encs l)] = enc (qwp p t [] l):=qnx p t [] l
theorem q3t (p:Int) (t:T):AV.agg [.int .i64 33,.int .i64 p,.int .i64 0,.str t.text,.sl 5 []] = enc (qwp p t [] []):=qnx p t [] []
theorem qbpp (p:Int) (c:K) (hg:c.good):qb2 Try.prog 27 (curE c) (curE (qj9 p c).1) [.ptr 0 0,posZ p] (resB (qj9 p c).2):=by
 have g1:(kindK c 2).1.good:=(qbw c 2).1 hg
 have hR:=q73 (kindK c 2).1 g1
 have h0:=@qu8 _ _ _ _ _ _ hR
 have h1:=@quk _ _ _ _ _ _ hR
 have g2:=(qfy goes_atom (monA qek) false (kindK c 2).1 []).1 g1
 have hlen:=qbdk goes_atom (monA qek) false (kindK c 2).1 []
 have hle:=(qfy goes_atom (monA qek) false (kindK c 2).1 []).2.1
 have h9:=g1.rest
 clear hR
 refine ql c0dc 1 (by simp) (by simp [posZ]) ?_
 unfold qj9 qyv posZ
 by_cases hk:(kindK c 2).2 = true
 ·rw [if_pos hk]
  generalize rowS qdf (qe1 qek) false (kindK c 2).1 [] = r at *
  obtain ⟨fl,d,v,ok⟩:=r
  simp only at h0 h1 g2 hlen hle ⊢
  simp only [List.length_nil] at hlen
  have hle2:=(qe d [61]).2.1
  have hcap:qeb (v.length + 1) 64:=capN (by unfold rest at hlen;omega)
  have hvl:v.length≤maxLen:=by unfold maxLen;unfold rest at hlen;omega
  have g3:(qc d [61]).1.good:=(qe _ _).1 g2
  have hR:=q40 (qc d [61]).1 g3
  have hRv:=q9f (qc d [61]).1 v g3 (by unfold rest at *;omega)
  unfold qvz
  by_cases hw:(qc d [61]).2 = true
  ·rw [if_pos hw]
   by_cases hl:v = []
   ·subst hl
    clear hRv
    have i0:=fun e2 e3 e4 Q=>@q8m conK (qbs [124]) 40 [124] false (qc d [61]).1 e2 e3 e4 Q hR
    have i1:=fun e2 e3 e4 Q=>@q5t conK (qbs [124]) 40 [124] false (qc d [61]).1 e2 e3 e4 Q hR
    clear hR
    generalize rowS conK (qbs [124]) false (qc d [61]).1 [] = r2 at *
    by_cases hq:r2.2.2.1 = []
    ·repeat' (first | refine vs_ ?_ | ((first | refine vrr_ ?_ | fail)<;>(try simp only [hk,hw,go_sem,↓reduceIte])) | ((first | (refine cs_ ?_ ?_<;>intro hc) | refine cj_ ?_ | fail | refine qcw hg.ok ?_ | refine h0 rfl ?_ | refine qb5 g2.ok ?_ | refine qec ?_ | refine i0 _ _ _ _ hq ?_)<;>(try refine ev_ ?_)) | with_reducible exact ti_)
     all_goals (try rw [hq,q3t])
     all_goals (try exact ⟨rfl,rfl⟩)
    ·repeat' (first | refine vs_ ?_ | ((first | refine vrr_ ?_ | fail)<;>(try simp only [hk,hw,go_sem,↓reduceIte])) | ((first | (refine cs_ ?_ ?_<;>intro hc) | refine cj_ ?_ | fail | refine qcw hg.ok ?_ | refine h0 rfl ?_ | refine qb5 g2.ok ?_ | refine qec ?_ | refine i1 _ _ _ _ hq ?_)<;>(try refine ev_ ?_)) | with_reducible exact ti_)
     all_goals (try rw [q6l])
     all_goals (try exact ⟨rfl,rfl⟩)
   ·clear hR
    have i0:=fun e2 e3 e4 Q=>@q8u conK (qbs [124]) 40 [124] false (qc d [61]).1 e2 e3 e4 Q v hRv
    have i1:=fun e2 e3 e4 Q=>@q7u conK (qbs [124]) 40 [124] false (qc d [61]).1 e2 e3 e4 Q v hRv
    clear hRv
    generalize rowS conK (qbs [124]) false (qc d [61]).1 v = r2 at *
    by_cases hq:r2.2.2.1 = v
    ·repeat' (first | refine vs_ ?_ | ((first | refine vrr_ ?_ | fail)<;>(try simp only [hk,hw,go_sem,↓reduceIte])) | ((first | (refine cs_ ?_ ?_<;>intro hc) | refine cj_ ?_ | fail | refine qcw hg.ok ?_ | refine h1 hl ?_ | refine qb5 g2.ok ?_ | refine qec ?_ | refine i0 _ _ _ _ hq ?_)<;>(try refine ev_ ?_)) | with_reducible exact ti_)
     all_goals (try rw [hq,qnx])
     all_goals (try exact ⟨rfl,rfl⟩)
    ·repeat' (first | refine vs_ ?_ | ((first | refine vrr_ ?_ | fail)<;>(try simp only [hk,hw,go_sem,↓reduceIte])) | ((first | (refine cs_ ?_ ?_<;>intro hc) | refine cj_ ?_ | fail | refine qcw hg.ok ?_ | refine h1 hl ?_ | refine qb5 g2.ok ?_ | refine qec ?_ | refine i1 _ _ _ _ hq ?_)<;>(try refine ev_ ?_)) | with_reducible exact ti_)
     all_goals (try rw [qnx])
     all_goals (try exact ⟨rfl,rfl⟩)
  ·rw [if_neg hw]
   by_cases hl:v = []
   ·repeat' (first | refine vs_ ?_ | ((first | refine vrr_ ?_ | fail)<;>(try simp only [hk,hw,go_sem,↓reduceIte])) | ((first | (refine cs_ ?_ ?_<;>intro hc) | refine cj_ ?_ | fail | refine qcw hg.ok ?_ | refine h0 hl ?_ | refine qb5 g2.ok ?_)<;>(try refine ev_ ?_)) | with_reducible exact ti_)
    all_goals (try rw [qh1])
    all_goals (try exact ⟨rfl,rfl⟩)
   ·repeat' (first | refine vs_ ?_ | ((first | refine vrr_ ?_ | fail)<;>(try simp only [hk,hw,go_sem,↓reduceIte])) | ((first | (refine cs_ ?_ ?_<;>intro hc) | refine cj_ ?_ | fail | refine qcw hg.ok ?_ | refine h1 hl ?_ | refine qb5 g2.ok ?_)<;>(try refine ev_ ?_)) | with_reducible exact ti_)
    all_goals (try rw [qh1])
    all_goals (try exact ⟨rfl,rfl⟩)
 ·rw [if_neg hk]
  repeat' (first | refine vs_ ?_ | ((first | refine vr_ ?_ | fail)<;>(try simp only [hk,go_sem,↓reduceIte])) | ((first | (refine cs_ ?_ ?_<;>intro hc) | refine cj_ ?_ | fail | refine qcw hg.ok ?_)<;>(try refine ev_ ?_)) | with_reducible exact ti_)
  all_goals (try rw [qh1])
  all_goals (try exact ⟨rfl,rfl⟩)
set_option maxRecDepth 4000

theorem q5z (kd:Int) (c:K) (hg:c.good):qb2 Try.prog 64 (curE c) (curE (qbe kd c).1) [.ptr 0 0,.int .i64 kd] (resB (qbe kd c).2):=by
 have hb:=qu9 c hg
 refine ql c0cx 1 (by simp) (by simp) ?_
 unfold qbe ofO
 generalize qgc c = r at *
 obtain ⟨d,o⟩:=r
 cases o with
 | none =>
   repeat' (first | refine vs_ ?_ | ((first | refine vr_ ?_ | fail)<;>(try simp (disch:=first | omega | (simp only [List.length_set,List.length_append,List.length_cons,List.length_nil];done) | (simp only [List.length_set,List.length_append,List.length_cons,List.length_nil];omega)) only [Option.isSome_none,Option.getD_none,go_sem,↓reduceIte])) | ((first | (refine cs_ ?_ ?_<;>intro hc) | refine cj_ ?_ | fail | refine qce hb rfl ?_)<;>(try refine ev_ ?_)) | with_reducible exact ti_)
   all_goals first | (rw [qds];done) | (rw [qds];rfl) | (rw [qds];exact ⟨rfl,rfl⟩) | rfl | (simp;done)
 | some n =>
   obtain ⟨k,p,m,t,l⟩:=n
   by_cases hk:k = kd
   ·rw [if_neg (by simp [N.kind,hk])]
    repeat' (first | refine vs_ ?_ | ((first | refine vr_ ?_ | fail)<;>(try simp (disch:=first | omega | (simp only [List.length_set,List.length_append,List.length_cons,List.length_nil];done) | (simp only [List.length_set,List.length_append,List.length_cons,List.length_nil];omega)) only [Option.isSome_some,Option.getD_some,go_sem,↓reduceIte])) | ((first | (refine cs_ ?_ ?_<;>intro hc) | refine cj_ ?_ | fail | refine qce hb rfl ?_ | refine qfh ?_)<;>(try refine ev_ ?_)) | with_reducible exact ti_)
    all_goals first | (exfalso;simp_all [N.kind];done) | exact ⟨rfl,rfl⟩
   ·rw [if_pos (by simp [N.kind,hk])]
    repeat' (first | refine vs_ ?_ | ((first | refine vr_ ?_ | fail)<;>(try simp (disch:=first | omega | (simp only [List.length_set,List.length_append,List.length_cons,List.length_nil];done) | (simp only [List.length_set,List.length_append,List.length_cons,List.length_nil];omega)) only [Option.isSome_some,Option.getD_some,go_sem,↓reduceIte])) | ((first | (refine cs_ ?_ ?_<;>intro hc) | refine cj_ ?_ | fail | refine qce hb rfl ?_ | refine qfh ?_)<;>(try refine ev_ ?_)) | with_reducible exact ti_)
    all_goals first | (exfalso;simp_all [N.kind];done) | exact ⟨rfl,rfl⟩
theorem qbah {kd:Int} {c:K} {L:List Ent} {Q:List Ent->VO->Prop} (hg:c.good) (hq:Q (curE (qbe kd c).1 :: L) (.val (resB (qbe kd c).2))):VApp Try.prog (curE c :: L) (.fn 64 [] []) [.ptr 0 0,.int .i64 kd] Q:=qkb (q5z kd c hg) rfl hq
theorem qbdh (x:List UInt8) (kd:Int) (b:Bool) (c:K) (hg:c.good):VCalls Try.prog 63 [curE c,.blk [.ptr 0 0],.blk [.ptr 0 0],.blk [.str x],.blk [.bool b],.blk [.fn 25 [] [.ptr 4 0,.ptr 2 0,.ptr 3 0]],.blk [.int .i64 kd]] [.ptr 1 0,.ptr 6 0] fun H' o=>H' = frB x kd b (qbe kd c).1∧o = .val (resB (qbe kd c).2):=by
 refine ql c0cy 7 (by simp) (by simp) ?_
 unfold frB
 repeat' (first | refine vs_ ?_ | ((first | refine vr_ ?_ | refine qbah hg ?_ | (refine cs_ ?_ ?_<;>intro hc) | refine cj_ ?_ | fail)<;>(try refine ev_ ?_)) | with_reducible exact ti_)
 all_goals exact ⟨rfl,rfl⟩
theorem qbec (kd:Int) (b:Bool) (c:K) (hg:c.good):VCalls Try.prog 65 [curE c,.blk [.ptr 0 0],.blk [.ptr 0 0],.blk [.str [59]],.blk [.bool b],.blk [.fn 25 [] [.ptr 4 0,.ptr 2 0,.ptr 3 0]],.blk [.int .i64 kd]] [.ptr 1 0,.ptr 5 0] fun H' o=>H' = frB [59] kd (qd2 b c).1 (qd2 b c).2.1∧o = .val (.bool (qd2 b c).2.2):=by
 refine ql c0cz 7 (by simp) (by simp) ?_
 unfold frB qd2
 by_cases hi:isK c [125] = true
 ·rw [if_pos hi]
  repeat' (first | refine vs_ ?_ | ((first | refine vr_ ?_ | fail)<;>(try simp only [hi,go_sem,↓reduceIte])) | ((first | (refine cs_ ?_ ?_<;>intro hc) | refine cj_ ?_ | fail | refine a_Is ?_ | refine qhp hg ?_)<;>(try refine ev_ ?_)) | with_reducible exact ti_)
  all_goals first | exact ⟨rfl,rfl⟩ | (exfalso;simp_all;done) | (simp_all;done)
 ·rw [if_neg hi]
  have hi2:isK c [125] = false:=by simpa using hi
  by_cases ha:(qbs [59] b c).2.2 = true
  ·repeat' (first | refine vs_ ?_ | ((first | refine vr_ ?_ | fail)<;>(try simp only [hi2,ha,go_sem,↓reduceIte])) | ((first | (refine cs_ ?_ ?_<;>intro hc) | refine cj_ ?_ | fail | refine a_Is ?_ | refine qhp hg ?_)<;>(try refine ev_ ?_)) | with_reducible exact ti_)
   all_goals first | exact ⟨rfl,rfl⟩ | (exfalso;simp_all;done) | (simp_all;done)
  ·have ha2:(qbs [59] b c).2.2 = false:=by simpa using ha
   repeat' (first | refine vs_ ?_ | ((first | refine vr_ ?_ | fail)<;>(try simp only [hi2,ha2,go_sem,↓reduceIte])) | ((first | (refine cs_ ?_ ?_<;>intro hc) | refine cj_ ?_ | fail | refine a_Is ?_ | refine qhp hg ?_)<;>(try refine ev_ ?_)) | with_reducible exact ti_)
   all_goals first | exact ⟨rfl,rfl⟩ | (exfalso;simp_all;done) | (simp_all;done)
theorem q68 (kd:Int) (c:K) (a0:List N) (hg:c.good) (hl:a0.length + rest c≤1048578):RovB (qbe kd) qd2 63 65 [59] kd false c a0 :=
 q6m (qdz kd) monB (fun b c g _=>qbdh _ kd b c g) (fun b c g _=>qbec kd b c g) false c a0 hg (Nat.le_refl _) hl
section
variable {one:K->R3} {more:MF} {g1 g2:FuncId} {x:List UInt8} {kd:Int} {b:Bool} {c:K} {a0:List N} {Q:List Ent->VO->Prop}
theorem q61 (h:RovB one more g1 g2 x kd b c a0) (h0:(rowS one more b c a0).2.2.1 = a0) (hq:Q [curE (rowS one more b c a0).2.1,.app 5 (encs a0),.blk [.ptr 0 0],.blk [.int .i64 kd],.blk [.ptr 0 0],.blk [.str x],.blk [.bool (rowS one more b c a0).1],.blk [.fn 25 [] [.ptr 6 0,.ptr 4 0,.ptr 5 0]]] (.val (.tup [.row 1 a0.length,.bool (rowS one more b c a0).2.2.2]))) :
 VApp Try.prog [curE c,.app 5 (encs a0),.blk [.ptr 0 0],.blk [.int .i64 kd],.blk [.ptr 0 0],.blk [.str x],.blk [.bool b],.blk [.fn 25 [] [.ptr 6 0,.ptr 4 0,.ptr 5 0]]] (.fn 15 [] []) [.row 1 a0.length,.fn g1 [] [.ptr 2 0,.ptr 3 0],.fn g2 [] [.ptr 2 0,.ptr 7 0]] Q :=
 qb0 (first:=[]) (caps:=[]) (by
  simp only [List.nil_append,List.append_nil]
  refine qcj (H0:=[curE c,.blk [.ptr 0 0],.blk [.ptr 0 0],.blk [.str x],.blk [.bool b],.blk [.fn 25 [] [.ptr 4 0,.ptr 2 0,.ptr 3 0]],.blk [.int .i64 kd],.app 5 (encs a0)]) (args0:=[.row 7 a0.length,.fn g1 [] [.ptr 1 0,.ptr 6 0],.fn g2 [] [.ptr 1 0,.ptr 5 0]]) [0,2,4,5,6,7,3,1] h (by simp) ?_ rfl rfl ?_
  ·(refine ev_ ?_;(try with_reducible exact ti_))
   all_goals (rw [q6,qr];exact ⟨rfl,rfl⟩)
  intro H1 o hh
  obtain ⟨rfl,rfl⟩:=hh.1 h0
  simpa [qfo,qbo,sg',qng,qoh,qjo,qb1i,qp1,e_fn,AV.ren,AV.rens,VO.ren,qcq] using hq)
theorem q5k (h:RovB one more g1 g2 x kd b c a0) (h0:(rowS one more b c a0).2.2.1≠a0) (hq:Q [curE (rowS one more b c a0).2.1,.dead,.blk [.ptr 0 0],.blk [.int .i64 kd],.blk [.ptr 0 0],.blk [.str x],.blk [.bool (rowS one more b c a0).1],.blk [.fn 25 [] [.ptr 6 0,.ptr 4 0,.ptr 5 0]],.app 5 (encs (rowS one more b c a0).2.2.1)] (.val (.tup [.row 8 (rowS one more b c a0).2.2.1.length,.bool (rowS one more b c a0).2.2.2]))) :
 VApp Try.prog [curE c,.app 5 (encs a0),.blk [.ptr 0 0],.blk [.int .i64 kd],.blk [.ptr 0 0],.blk [.str x],.blk [.bool b],.blk [.fn 25 [] [.ptr 6 0,.ptr 4 0,.ptr 5 0]]] (.fn 15 [] []) [.row 1 a0.length,.fn g1 [] [.ptr 2 0,.ptr 3 0],.fn g2 [] [.ptr 2 0,.ptr 7 0]] Q :=
 qb0 (first:=[]) (caps:=[]) (by
  simp only [List.nil_append,List.append_nil]
  refine qcj (H0:=[curE c,.blk [.ptr 0 0],.blk [.ptr 0 0],.blk [.str x],.blk [.bool b],.blk [.fn 25 [] [.ptr 4 0,.ptr 2 0,.ptr 3 0]],.blk [.int .i64 kd],.app 5 (encs a0)]) (args0:=[.row 7 a0.length,.fn g1 [] [.ptr 1 0,.ptr 6 0],.fn g2 [] [.ptr 1 0,.ptr 5 0]]) [0,2,4,5,6,7,3,1] h (by simp) ?_ rfl rfl ?_
  ·(refine ev_ ?_;(try with_reducible exact ti_))
   all_goals (rw [q6,qr];exact ⟨rfl,rfl⟩)
  intro H1 o hh
  obtain ⟨rfl,rfl⟩:=hh.2 h0
  have hd:∀ σ:Nat->Nat,Ent.dead.ren σ = .dead:=fun σ=>rfl
  simpa [qfo,qbo,sg',qng,qoh,qjo,qb1i,qp1,e_fn,hd,AV.ren,AV.rens,VO.ren,qcq] using hq)
end
theorem q1h {kd:Int}:∀ (f:Nat) (b:Bool) (c:K) (acc:List N),rest c < f->(rowF (qbe kd) qd2 f b c acc).2.2.1≠acc->(rowF (qbe kd) qd2 f b c acc).2.2.1≠[]
 | 0,_,_,_,h,_=>absurd h (by omega)
 | f + 1, b, c, acc, hf, h => by
   rw [rowF] at h ⊢
   have h3:=(monB b c).2.1
   split at h
   ·rename_i h1
    rw [if_pos h1]
    split at h
    ·rename_i h2
     rw [if_pos h2]
     have h4:=(qdz kd).l _ h2
     by_cases hq:(rowF (qbe kd) qd2 f (qd2 b c).1 (qbe kd (qd2 b c).2.1).1 (acc ++ [(qbe kd (qd2 b c).2.1).2.1])).2.2.1 = acc ++ [(qbe kd (qd2 b c).2.1).2.1]
     ·rw [hq];simp
     ·exact q1h f _ _ _ (by omega) hq
    ·exact absurd rfl h
   ·exact absurd rfl h
def qj7 (kd:Int) (c:K) (out:List N):Prop :=
 VCalls Try.prog 44 [curE c,.app 5 (encs out)] [.ptr 0 0,.row 1 out.length,.int .i64 kd] fun H' o =>
  ((qcr kd c out).2.1 = out->H' = [curE (qcr kd c out).1,.app 5 (encs out)]∧o = .val (.tup [.row 1 out.length,.bool (qcr kd c out).2.2])) ∧
  ((qcr kd c out).2.1≠out->H' = [curE (qcr kd c out).1,.dead,.app 5 (encs (qcr kd c out).2.1)]∧o = .val (.tup [.row 2 (qcr kd c out).2.1.length,.bool (qcr kd c out).2.2]))
theorem q7v (kd:Int) (c:K) (out:List N) (hg:c.good) (hl:out.length + rest c≤1048578):qj7 kd c out:=by
 unfold qj7
 obtain ⟨kk,hk1,hk2,hk0⟩:∃ k:Nat,((qcr kd c out).2.1 = out->k = 2)∧((qcr kd c out).2.1≠out->k = 3)∧2≤k:=by
  by_cases h:(qcr kd c out).2.1 = out
  ·exact ⟨2,fun _=>rfl,fun g=>absurd h g,Nat.le_refl _⟩
  ·exact ⟨3,fun g=>absurd g h,fun _=>rfl,Nat.le_succ _⟩
 refine qdh c0da kk (by simpa using hk0) (by simp) ?_
 have g1:(qc c [119,104,101,114,101]).1.good:=(qe c _).1 hg
 have g2:(qc (qc c [119,104,101,114,101]).1 [123]).1.good:=(qe _ _).1 g1
 have r1:=(qe c [119,104,101,114,101]).2.1
 have r2:=(qe (qc c [119,104,101,114,101]).1 [123]).2.1
 unfold qcr at *
 by_cases h1:(qc c [119,104,101,114,101]).2 = true
 ·simp only [if_pos h1] at hk1 hk2 ⊢
  by_cases h2:(qc (qc c [119,104,101,114,101]).1 [123]).2 = true
  ·simp only [if_pos h2] at hk1 hk2 ⊢
   have hR:=q68 kd (qc (qc c [119,104,101,114,101]).1 [123]).1 out g2 (by omega)
   have i0:=fun Q=>@q61 _ _ _ _ _ _ _ _ _ Q hR
   have i1:=fun Q=>@q5k _ _ _ _ _ _ _ _ _ Q hR
   have hln0:(rowS (qbe kd) qd2 false (qc (qc c [119,104,101,114,101]).1 [123]).1 out).2.2.1≠out->(rowS (qbe kd) qd2 false (qc (qc c [119,104,101,114,101]).1 [123]).1 out).2.2.1≠[]:=q1h _ _ _ _ (Nat.lt_succ_self _)
   have g3:=(qfy (qdz kd) monB false (qc (qc c [119,104,101,114,101]).1 [123]).1 out).1 g2
   clear hR
   generalize rowS (qbe kd) qd2 false (qc (qc c [119,104,101,114,101]).1 [123]).1 out = r at *
   obtain ⟨fl,d,l,ok⟩:=r
   simp only at i0 i1 g3 hk1 hk2 hln0 ⊢
   have hln:l≠out->l≠[]:=hln0
   have hl2:(qkv (d,l,ok)).2.1 = l:=by unfold qkv;split<;>rfl
   rw [hl2] at hk1 hk2
   simp only [hl2]
   by_cases hq:l = out
   ·obtain rfl:=hk1 hq
    cases ok with
    | false =>
      unfold qkv
      repeat' (first | refine vs_ ?_ | ((first | refine vrr_ ?_ | fail)<;>(try simp only [h1,h2,go_sem,↓reduceIte])) | ((first | (refine cs_ ?_ ?_<;>intro hc) | refine cj_ ?_ | fail | refine qb5 hg.ok ?_ | refine qb5 g1.ok ?_ | refine qec ?_ | refine i0 _ hq ?_)<;>(try refine ev_ ?_)) | with_reducible exact ti_)
      all_goals first | exact ⟨fun _=>by first | trivial | exact ⟨rfl,rfl⟩,fun g=>absurd hq g⟩ | (exfalso;clear i0 i1;simp_all;done)
    | true =>
      unfold qkv
      repeat' (first | refine vs_ ?_ | ((first | refine vrr_ ?_ | fail)<;>(try simp only [h1,h2,go_sem,↓reduceIte])) | ((first | (refine cs_ ?_ ?_<;>intro hc) | refine cj_ ?_ | fail | refine qb5 hg.ok ?_ | refine qb5 g1.ok ?_ | refine qec ?_ | refine i0 _ hq ?_ | refine qb5 g3.ok ?_)<;>(try refine ev_ ?_)) | with_reducible exact ti_)
      all_goals first | exact ⟨fun _=>by first | trivial | exact ⟨rfl,rfl⟩,fun g=>absurd hq g⟩ | (exfalso;clear i0 i1;simp_all;done)
   ·obtain rfl:=hk2 hq
    have hne:l≠[]:=hln hq
    unfold k0da
    generalize h9:q4t = R5
    repeat' (first | refine vs_ ?_ | ((first | refine vrr_ ?_ | fail)<;>(try simp only [h1,h2,go_sem,↓reduceIte])) | ((first | (refine cs_ ?_ ?_<;>intro hc) | refine cj_ ?_ | fail | refine qb5 hg.ok ?_ | refine qb5 g1.ok ?_ | refine qec ?_ | refine i1 _ hq ?_)<;>(try refine ev_ ?_)) | with_reducible exact ti_)
    all_goals first | (exfalso;clear i0 i1 h9;simp_all;done) | skip
    refine qbca (af':=⟨[(1,.row 2 l.length),(3,.ptr 3 0),(9,.bool ok)],[]⟩) (H':=[curE d,.dead,.app 5 (encs l),.blk [.ptr 0 0]]) ?_ (qbek [0,1,8,2] rfl (by simp) ?_ ?_ ?_)
    rotate_left
    all_goals (try (refine ev_ ?_;(try with_reducible exact ti_)))
    all_goals (try (rw [qr,q6];exact ⟨rfl,rfl⟩))
    subst h9
    cases ok with
    | false =>
      unfold qkv
      repeat' (first | refine vs_ ?_ | ((first | refine vrr_ ?_ | refine qb5 g3.ok ?_ | (refine cs_ ?_ ?_<;>intro hc) | refine cj_ ?_ | fail)<;>(try refine ev_ ?_)) | with_reducible exact ti_)
      all_goals exact ⟨fun g=>absurd g hq,fun _=>by first | trivial | exact ⟨rfl,rfl⟩⟩
    | true =>
      unfold qkv
      repeat' (first | refine vs_ ?_ | ((first | refine vrr_ ?_ | refine qb5 g3.ok ?_ | (refine cs_ ?_ ?_<;>intro hc) | refine cj_ ?_ | fail)<;>(try refine ev_ ?_)) | with_reducible exact ti_)
      all_goals exact ⟨fun g=>absurd g hq,fun _=>by first | trivial | exact ⟨rfl,rfl⟩⟩
  ·simp only [if_neg h2] at hk1 hk2 ⊢
   obtain rfl:=hk1 (by trivial)
   repeat' (first | refine vs_ ?_ | ((first | refine vrr_ ?_ | fail)<;>(try simp only [h1,h2,go_sem,↓reduceIte])) | ((first | (refine cs_ ?_ ?_<;>intro hc) | refine cj_ ?_ | fail | refine qb5 hg.ok ?_ | refine qb5 g1.ok ?_)<;>(try refine ev_ ?_)) | with_reducible exact ti_)
   all_goals first | exact ⟨rfl,rfl⟩ | exact ⟨fun _=>by first | trivial | exact ⟨rfl,rfl⟩,fun g=>absurd rfl g⟩ | (exfalso;simp_all;done) | (simp_all;done)
 ·simp only [if_neg h1] at hk1 hk2 ⊢
  obtain rfl:=hk1 (by trivial)
  repeat' (first | refine vs_ ?_ | ((first | refine vrr_ ?_ | fail)<;>(try simp only [h1,go_sem,↓reduceIte])) | ((first | (refine cs_ ?_ ?_<;>intro hc) | refine cj_ ?_ | fail | refine qb5 hg.ok ?_ | refine qb5 g1.ok ?_ | refine qec ?_)<;>(try refine ev_ ?_)) | with_reducible exact ti_)
  all_goals first | exact ⟨rfl,rfl⟩ | exact ⟨fun _=>by first | trivial | exact ⟨rfl,rfl⟩,fun g=>absurd rfl g⟩ | (exfalso;simp_all;done) | (simp_all;done)
set_option maxRecDepth 4000

section
variable {kd:Int} {c:K} {out:List N} {e1 e2 e3 e4 e5:Ent} {Q:List Ent->VO->Prop}
theorem qbft (h:qj7 kd c out) (h0:(qcr kd c out).2.1 = out) (hq:Q [curE (qcr kd c out).1,e1,e2,e3,e4,.app 5 (encs out)] (.val (.tup [.row 5 out.length,.bool (qcr kd c out).2.2]))) :
 VApp Try.prog [curE c,e1,e2,e3,e4,.app 5 (encs out)] (.fn 44 [] []) [.ptr 0 0,.row 5 out.length,.int .i64 kd] Q :=
 qb0 (first:=[]) (caps:=[]) (by
  simp only [List.nil_append,List.append_nil]
  refine qcj (H0:=[curE c,.app 5 (encs out)]) (args0:=[.ptr 0 0,.row 1 out.length,.int .i64 kd]) [0,5] h (by simp) ?_ rfl rfl ?_
  ·(refine ev_ ?_;(try with_reducible exact ti_))
   all_goals (rw [q6,qr];exact ⟨rfl,rfl⟩)
  intro H1 o hh
  obtain ⟨rfl,rfl⟩:=hh.1 h0
  simpa [qfo,qbo,sg',qp1,AV.ren,AV.rens,VO.ren,qcq] using hq)
theorem qbfi (h:qj7 kd c out) (h0:(qcr kd c out).2.1≠out) (hq:Q [curE (qcr kd c out).1,e1,e2,e3,e4,.dead,.app 5 (encs (qcr kd c out).2.1)] (.val (.tup [.row 6 (qcr kd c out).2.1.length,.bool (qcr kd c out).2.2]))) :
 VApp Try.prog [curE c,e1,e2,e3,e4,.app 5 (encs out)] (.fn 44 [] []) [.ptr 0 0,.row 5 out.length,.int .i64 kd] Q :=
 qb0 (first:=[]) (caps:=[]) (by
  simp only [List.nil_append,List.append_nil]
  refine qcj (H0:=[curE c,.app 5 (encs out)]) (args0:=[.ptr 0 0,.row 1 out.length,.int .i64 kd]) [0,5] h (by simp) ?_ rfl rfl ?_
  ·(refine ev_ ?_;(try with_reducible exact ti_))
   all_goals (rw [q6,qr];exact ⟨rfl,rfl⟩)
  intro H1 o hh
  obtain ⟨rfl,rfl⟩:=hh.2 h0
  have hd:∀ σ:Nat->Nat,Ent.dead.ren σ = .dead:=fun σ=>rfl
  simpa [qfo,qbo,sg',qp1,hd,AV.ren,AV.rens,VO.ren,qcq] using hq)
theorem qbf3 (h:qj7 kd c out) (h0:(qcr kd c out).2.1 = out) (hq:Q [curE (qcr kd c out).1,e1,e2,e3,e4,e5,.app 5 (encs out)] (.val (.tup [.row 6 out.length,.bool (qcr kd c out).2.2]))) :
 VApp Try.prog [curE c,e1,e2,e3,e4,e5,.app 5 (encs out)] (.fn 44 [] []) [.ptr 0 0,.row 6 out.length,.int .i64 kd] Q :=
 qb0 (first:=[]) (caps:=[]) (by
  simp only [List.nil_append,List.append_nil]
  refine qcj (H0:=[curE c,.app 5 (encs out)]) (args0:=[.ptr 0 0,.row 1 out.length,.int .i64 kd]) [0,6] h (by simp) ?_ rfl rfl ?_
  ·(refine ev_ ?_;(try with_reducible exact ti_))
   all_goals (rw [q6,qr];exact ⟨rfl,rfl⟩)
  intro H1 o hh
  obtain ⟨rfl,rfl⟩:=hh.1 h0
  simpa [qfo,qbo,sg',qp1,AV.ren,AV.rens,VO.ren,qcq] using hq)
theorem qbfz (h:qj7 kd c out) (h0:(qcr kd c out).2.1≠out) (hq:Q [curE (qcr kd c out).1,e1,e2,e3,e4,e5,.dead,.app 5 (encs (qcr kd c out).2.1)] (.val (.tup [.row 7 (qcr kd c out).2.1.length,.bool (qcr kd c out).2.2]))) :
 VApp Try.prog [curE c,e1,e2,e3,e4,e5,.app 5 (encs out)] (.fn 44 [] []) [.ptr 0 0,.row 6 out.length,.int .i64 kd] Q :=
 qb0 (first:=[]) (caps:=[]) (by
  simp only [List.nil_append,List.append_nil]
  refine qcj (H0:=[curE c,.app 5 (encs out)]) (args0:=[.ptr 0 0,.row 1 out.length,.int .i64 kd]) [0,6] h (by simp) ?_ rfl rfl ?_
  ·(refine ev_ ?_;(try with_reducible exact ti_))
   all_goals (rw [q6,qr];exact ⟨rfl,rfl⟩)
  intro H1 o hh
  obtain ⟨rfl,rfl⟩:=hh.2 h0
  have hd:∀ σ:Nat->Nat,Ent.dead.ren σ = .dead:=fun σ=>rfl
  simpa [qfo,qbo,sg',qp1,hd,AV.ren,AV.rens,VO.ren,qcq] using hq)
end
theorem q4h:∀ l:List N,l.length≤szs l
 | []=>Nat.zero_le _
 | x :: r => by
   have:=q4h r
   rw [szs,qhv,List.length_cons];omega
def qbco (k p:Int):AV:=.agg [.int .i64 k,.int .i64 p,.int .i64 0,.str [],.nils]
theorem qsj (k p:Int):AV.agg [.int .i64 k,.int .i64 p,.int .i64 0,.str [],.sl 5 []] = enc (q2y k p):=by simp only [q2y,enc,encs]
theorem qh7 (k p:Int) (t:T) (v l:List N):AV.agg [.int .i64 k,.int .i64 p,.int .i64 v.length,.str t.text,.sl 5 (encs l)] = enc (qme k p t v l):=by simp only [qme,enc]
theorem qpl (k p:Int) (t:T) (v:List N):AV.agg [.int .i64 k,.int .i64 p,.int .i64 v.length,.str t.text,.sl 5 []] = enc (qme k p t v []):=qh7 k p t v []
theorem qk5 (k p:Int) (t:T) (l:List N):AV.agg [.int .i64 k,.int .i64 p,.int .i64 0,.str t.text,.sl 5 (encs l)] = enc (qme k p t [] l):=qh7 k p t [] l
theorem qql (k p:Int) (t:T):AV.agg [.int .i64 k,.int .i64 p,.int .i64 0,.str t.text,.sl 5 []] = enc (qme k p t [] []):=qh7 k p t [] []
set_option maxHeartbeats 2000000 in
theorem q5s (k p:Int) (c:K) (hg:c.good):qb2 Try.prog 28 (curE c) (curE (qja k p c).1) [.ptr 0 0,qbco k p] (resB (qja k p c).2):=by
 have hP:qhs (qbg (rest c + 2)) c:=qpg (qcg _) (qu2 (rest c + 2)) c hg (by omega)
 have p0:=@ql3 (qbg (rest c + 2)) c hP
 have p1:=@qqy (qbg (rest c + 2)) c hP
 have g1:(qcp c).1.good:=(qf9 c).1 hg
 have h9:=hg.rest
 have hpl:=fun l=>@q20 c l
 have hpz:=fun l (h:(qcp c).2 = some l)=>Nat.le_trans (Nat.add_le_add_right (q4h l) _) (@qwo c l h)
 clear hP
 refine ql c0cw 1 (by simp) (by simp [qbco]) ?_
 unfold qja qxn qbco
 unfold qcp at *
 generalize qq (qbg (rest c + 2)) c = pr at *
 obtain ⟨d,o⟩:=pr
 simp only at p0 p1 g1 hpl hpz ⊢
 cases o with
 | none =>
   repeat' (first | refine vs_ ?_ | ((first | refine vrr_ ?_ | fail)<;>(try simp (disch:=first | omega | (simp only [List.length_set,List.length_append,List.length_cons,List.length_nil];done) | (simp only [List.length_set,List.length_append,List.length_cons,List.length_nil];omega)) only [Option.isSome_none,Option.getD_none,go_sem,↓reduceIte])) | ((first | (refine cs_ ?_ ?_<;>intro hc) | refine cj_ ?_ | fail | refine p0 rfl ?_)<;>(try refine ev_ ?_)) | with_reducible exact ti_)
   all_goals (try rw [qsj])
   all_goals first | exact ⟨rfl,rfl⟩ | rfl | (exfalso;clear p0 p1;simp_all;done)
 | some v =>
   have hvl:=hpl v rfl
   have hvz:=hpz v rfl
   have hvm:v.length≤maxLen:=by unfold maxLen;unfold rest at hvl;omega
   have hcap:qeb (v.length + 1) 64:=capN (by unfold rest at hvl;omega)
   have hcap1:qeb 1 64:=capN (by omega)
   have p0:v = []->_:=fun h=>@p0 h
   have p1:v≠[]->_:=fun h=>@p1 v rfl h
   clear hpl hpz
   simp only [Option.getD_some,Option.isSome_some,if_true]
   have g2:(kindK d 2).1.good:=(qbw d 2).1 g1
   have r2:=(qbw d 2).2.1
   by_cases hk:(kindK d 2).2 = true
   ·rw [if_pos hk]
    have ha:=qpf (kindK d 2).1 g2
    have g3:=(qhu (kindK d 2).1).1 g2
    have r3:=(qhu (kindK d 2).1).2.1
    have r4:(qff (kindK d 2).1).2.isSome = true->rest (qff (kindK d 2).1).1 < rest (kindK d 2).1:=fun h=>qdk (qcg _) h
    unfold qu7 qy1
    generalize qff (kindK d 2).1 = a at *
    have hkl:=qmg (by decide) hk
    have hvl2:v.length + 1 + rest a.1≤1048578:=by unfold rest at *;omega
    by_cases h35:k = 35
    ·subst h35
     simp only [true_and,if_true]
     by_cases hv:(qi (kindK d 2).1).kind = 1
     ·have hv1:=hv
      rw [if_neg (by simp [hv])]
      have hbs:=q7v 32 a.1 (v ++ [a.2.getD N0]) g3 (by simp only [List.length_append,List.length_cons,List.length_nil];unfold rest at *;omega)
      have a0:=fun e1 e2 e3 e4 Q=>@qbft 32 a.1 (v ++ [a.2.getD N0]) e1 e2 e3 e4 Q hbs
      have a1:=fun e1 e2 e3 e4 Q=>@qbfi 32 a.1 (v ++ [a.2.getD N0]) e1 e2 e3 e4 Q hbs
      have b0:=fun e1 e2 e3 e4 e5 Q=>@qbf3 32 a.1 (v ++ [a.2.getD N0]) e1 e2 e3 e4 e5 Q hbs
      have b1:=fun e1 e2 e3 e4 e5 Q=>@qbfz 32 a.1 (v ++ [a.2.getD N0]) e1 e2 e3 e4 e5 Q hbs
      clear hbs
      generalize qcr 32 a.1 (v ++ [a.2.getD N0]) = B at *
      obtain ⟨a,oa⟩:=a
      cases oa with
      | none =>
        simp only [Option.isSome_none,Bool.false_eq_true,if_false,Option.getD_none] at ha ⊢
        clear a0 a1 b0 b1
        by_cases h0:v = []
        ·repeat' (first | refine vs_ ?_ | ((first | refine vrr_ ?_ | fail)<;>(try simp (disch:=first | omega | (simp only [List.length_set,List.length_append,List.length_cons,List.length_nil];done) | (simp only [List.length_set,List.length_append,List.length_cons,List.length_nil];omega)) only [hk,Option.isSome_some,hv1,ne_eq,not_true_eq_false,decide_false,Option.isSome_none,Option.getD_none,go_sem,↓reduceIte])) | ((first | (refine cs_ ?_ ?_<;>intro hc) | refine cj_ ?_ | fail | refine p0 h0 ?_ | refine qcw g1.ok ?_ | refine qbv ?_ | refine qfh ?_ | refine qce ha rfl ?_)<;>(try refine ev_ ?_)) | with_reducible exact ti_)
         all_goals (try subst h0)
         all_goals (try rw [qql])
         all_goals first | exact ⟨rfl,rfl⟩ | rfl | (exfalso;clear p0 p1;simp_all;done)
        ·repeat' (first | refine vs_ ?_ | ((first | refine vrr_ ?_ | fail)<;>(try simp (disch:=first | omega | (simp only [List.length_set,List.length_append,List.length_cons,List.length_nil];done) | (simp only [List.length_set,List.length_append,List.length_cons,List.length_nil];omega)) only [hk,Option.isSome_some,hv1,ne_eq,not_true_eq_false,decide_false,Option.isSome_none,Option.getD_none,go_sem,↓reduceIte])) | ((first | (refine cs_ ?_ ?_<;>intro hc) | refine cj_ ?_ | fail | refine p1 h0 ?_ | refine qcw g1.ok ?_ | refine qbv ?_ | refine qfh ?_ | refine qce ha rfl ?_)<;>(try refine ev_ ?_)) | with_reducible exact ti_)
         all_goals (try rw [qpl])
         all_goals first | exact ⟨rfl,rfl⟩ | rfl | (exfalso;clear p0 p1;simp_all;done)
      | some n =>
        simp only [Option.isSome_some,if_true,Option.getD_some] at ha a0 a1 b0 b1 ⊢
        by_cases h0:v = []
        ·subst h0
         clear b0 b1 hcap
         simp only [List.nil_append,encs,List.length_cons,List.length_nil,Nat.zero_add] at a0 a1
         by_cases hq:B.2.1 = [n]
         ·repeat' (first | refine vs_ ?_ | ((first | refine vrr_ ?_ | fail)<;>(try simp only [hk,Option.isSome_some,hv1,ne_eq,not_true_eq_false,decide_false,go_sem,↓reduceIte])) | ((first | (refine cs_ ?_ ?_<;>intro hc) | refine cj_ ?_ | fail | refine p0 rfl ?_ | refine qcw g1.ok ?_ | refine qbv ?_ | refine qfh ?_ | refine qce ha rfl ?_ | refine a0 _ _ _ _ _ hq ?_)<;>(try refine ev_ ?_)) | with_reducible exact ti_)
          all_goals (try rw [hq,← qk5])
          all_goals first | exact ⟨rfl,rfl⟩ | rfl | (exfalso;clear p0 p1 a0 a1;simp_all;done)
         ·repeat' (first | refine vs_ ?_ | ((first | refine vrr_ ?_ | fail)<;>(try simp only [hk,Option.isSome_some,hv1,ne_eq,not_true_eq_false,decide_false,go_sem,↓reduceIte])) | ((first | (refine cs_ ?_ ?_<;>intro hc) | refine cj_ ?_ | fail | refine p0 rfl ?_ | refine qcw g1.ok ?_ | refine qbv ?_ | refine qfh ?_ | refine qce ha rfl ?_ | refine a1 _ _ _ _ _ hq ?_)<;>(try refine ev_ ?_)) | with_reducible exact ti_)
          all_goals (try rw [qk5])
          all_goals first | exact ⟨rfl,rfl⟩ | rfl | (exfalso;clear p0 p1 a0 a1;simp_all;done)
        ·clear a0 a1 hcap1
         simp only [← qh,List.length_append,List.length_cons,List.length_nil,Nat.zero_add] at b0 b1
         by_cases hq:B.2.1 = v ++ [n]
         ·repeat' (first | refine vs_ ?_ | ((first | refine vrr_ ?_ | fail)<;>(try simp only [hk,Option.isSome_some,hv1,ne_eq,not_true_eq_false,decide_false,go_sem,↓reduceIte])) | ((first | (refine cs_ ?_ ?_<;>intro hc) | refine cj_ ?_ | fail | refine p1 h0 ?_ | refine qcw g1.ok ?_ | refine qbv ?_ | refine qfh ?_ | refine qce ha rfl ?_ | refine b0 _ _ _ _ _ _ hq ?_)<;>(try refine ev_ ?_)) | with_reducible exact ti_)
          all_goals (try (rw [qh,qh7,hq];exact ⟨qr _ _,rfl⟩))
          all_goals first | exact ⟨rfl,rfl⟩ | rfl | (exfalso;clear p0 p1 b0 b1;simp_all;done)
         ·repeat' (first | refine vs_ ?_ | ((first | refine vrr_ ?_ | fail)<;>(try simp only [hk,Option.isSome_some,hv1,ne_eq,not_true_eq_false,decide_false,go_sem,↓reduceIte])) | ((first | (refine cs_ ?_ ?_<;>intro hc) | refine cj_ ?_ | fail | refine p1 h0 ?_ | refine qcw g1.ok ?_ | refine qbv ?_ | refine qfh ?_ | refine qce ha rfl ?_ | refine b1 _ _ _ _ _ _ hq ?_)<;>(try refine ev_ ?_)) | with_reducible exact ti_)
          all_goals (try rw [qh7])
          all_goals first | exact ⟨rfl,rfl⟩ | rfl | (exfalso;clear p0 p1 b0 b1;simp_all;done)
     ·rw [if_pos hv]
      clear ha
      by_cases h0:v = []
      ·repeat' (first | refine vs_ ?_ | ((first | refine vrr_ ?_ | fail)<;>(try simp only [hk,hv,Option.isSome_some,go_sem,↓reduceIte])) | ((first | (refine cs_ ?_ ?_<;>intro hc) | refine cj_ ?_ | fail | refine p0 h0 ?_ | refine qcw g1.ok ?_ | refine qbv ?_ | refine qfh ?_)<;>(try refine ev_ ?_)) | with_reducible exact ti_)
       all_goals (try subst h0)
       all_goals (try rw [qql])
       all_goals first | exact ⟨rfl,rfl⟩ | rfl | (exfalso;clear p0 p1;simp_all;done)
      ·repeat' (first | refine vs_ ?_ | ((first | refine vrr_ ?_ | fail)<;>(try simp only [hk,hv,Option.isSome_some,go_sem,↓reduceIte])) | ((first | (refine cs_ ?_ ?_<;>intro hc) | refine cj_ ?_ | fail | refine p1 h0 ?_ | refine qcw g1.ok ?_ | refine qbv ?_ | refine qfh ?_)<;>(try refine ev_ ?_)) | with_reducible exact ti_)
       all_goals (try rw [qpl])
       all_goals first | exact ⟨rfl,rfl⟩ | rfl | (exfalso;clear p0 p1;simp_all;done)
    ·simp only [if_neg h35,h35,false_and,if_false]
     have hbs:=q7v 31 a.1 (v ++ [a.2.getD N0]) g3 (by simp only [List.length_append,List.length_cons,List.length_nil];unfold rest at *;omega)
     have a0:=fun e1 e2 e3 e4 Q=>@qbft 31 a.1 (v ++ [a.2.getD N0]) e1 e2 e3 e4 Q hbs
     have a1:=fun e1 e2 e3 e4 Q=>@qbfi 31 a.1 (v ++ [a.2.getD N0]) e1 e2 e3 e4 Q hbs
     have b0:=fun e1 e2 e3 e4 e5 Q=>@qbf3 31 a.1 (v ++ [a.2.getD N0]) e1 e2 e3 e4 e5 Q hbs
     have b1:=fun e1 e2 e3 e4 e5 Q=>@qbfz 31 a.1 (v ++ [a.2.getD N0]) e1 e2 e3 e4 e5 Q hbs
     clear hbs
     generalize qcr 31 a.1 (v ++ [a.2.getD N0]) = B at *
     obtain ⟨a,oa⟩:=a
     cases oa with
     | none =>
       simp only [Option.isSome_none,Bool.false_eq_true,if_false,Option.getD_none] at ha ⊢
       clear a0 a1 b0 b1
       by_cases h0:v = []
       ·repeat' (first | refine vs_ ?_ | ((first | refine vrr_ ?_ | fail)<;>(try simp (disch:=first | omega | (simp only [List.length_set,List.length_append,List.length_cons,List.length_nil];done) | (simp only [List.length_set,List.length_append,List.length_cons,List.length_nil];omega)) only [hk,Option.isSome_some,h35,Option.isSome_none,Option.getD_none,go_sem,↓reduceIte])) | ((first | (refine cs_ ?_ ?_<;>intro hc) | refine cj_ ?_ | fail | refine p0 h0 ?_ | refine qcw g1.ok ?_ | refine qbv ?_ | refine qfh ?_ | refine qce ha rfl ?_)<;>(try refine ev_ ?_)) | with_reducible exact ti_)
        all_goals (try subst h0)
        all_goals (try rw [qql])
        all_goals first | exact ⟨rfl,rfl⟩ | rfl | (exfalso;clear p0 p1;simp_all;done)
       ·repeat' (first | refine vs_ ?_ | ((first | refine vrr_ ?_ | fail)<;>(try simp (disch:=first | omega | (simp only [List.length_set,List.length_append,List.length_cons,List.length_nil];done) | (simp only [List.length_set,List.length_append,List.length_cons,List.length_nil];omega)) only [hk,Option.isSome_some,h35,Option.isSome_none,Option.getD_none,go_sem,↓reduceIte])) | ((first | (refine cs_ ?_ ?_<;>intro hc) | refine cj_ ?_ | fail | refine p1 h0 ?_ | refine qcw g1.ok ?_ | refine qbv ?_ | refine qfh ?_ | refine qce ha rfl ?_)<;>(try refine ev_ ?_)) | with_reducible exact ti_)
        all_goals (try rw [qpl])
        all_goals first | exact ⟨rfl,rfl⟩ | rfl | (exfalso;clear p0 p1;simp_all;done)
     | some n =>
       simp only [Option.isSome_some,if_true,Option.getD_some] at ha a0 a1 b0 b1 ⊢
       by_cases h0:v = []
       ·subst h0
        clear b0 b1 hcap
        simp only [List.nil_append,encs,List.length_cons,List.length_nil,Nat.zero_add] at a0 a1
        by_cases hq:B.2.1 = [n]
        ·repeat' (first | refine vs_ ?_ | ((first | refine vrr_ ?_ | fail)<;>(try simp only [hk,Option.isSome_some,h35,go_sem,↓reduceIte])) | ((first | (refine cs_ ?_ ?_<;>intro hc) | refine cj_ ?_ | fail | refine p0 rfl ?_ | refine qcw g1.ok ?_ | refine qbv ?_ | refine qfh ?_ | refine qce ha rfl ?_ | refine a0 _ _ _ _ _ hq ?_)<;>(try refine ev_ ?_)) | with_reducible exact ti_)
         all_goals (try rw [hq,← qk5])
         all_goals first | exact ⟨rfl,rfl⟩ | rfl | (exfalso;clear p0 p1 a0 a1;simp_all;done)
        ·repeat' (first | refine vs_ ?_ | ((first | refine vrr_ ?_ | fail)<;>(try simp only [hk,Option.isSome_some,h35,go_sem,↓reduceIte])) | ((first | (refine cs_ ?_ ?_<;>intro hc) | refine cj_ ?_ | fail | refine p0 rfl ?_ | refine qcw g1.ok ?_ | refine qbv ?_ | refine qfh ?_ | refine qce ha rfl ?_ | refine a1 _ _ _ _ _ hq ?_)<;>(try refine ev_ ?_)) | with_reducible exact ti_)
         all_goals (try rw [qk5])
         all_goals first | exact ⟨rfl,rfl⟩ | rfl | (exfalso;clear p0 p1 a0 a1;simp_all;done)
       ·clear a0 a1 hcap1
        simp only [← qh,List.length_append,List.length_cons,List.length_nil,Nat.zero_add] at b0 b1
        by_cases hq:B.2.1 = v ++ [n]
        ·repeat' (first | refine vs_ ?_ | ((first | refine vrr_ ?_ | fail)<;>(try simp only [hk,Option.isSome_some,h35,go_sem,↓reduceIte])) | ((first | (refine cs_ ?_ ?_<;>intro hc) | refine cj_ ?_ | fail | refine p1 h0 ?_ | refine qcw g1.ok ?_ | refine qbv ?_ | refine qfh ?_ | refine qce ha rfl ?_ | refine b0 _ _ _ _ _ _ hq ?_)<;>(try refine ev_ ?_)) | with_reducible exact ti_)
         all_goals (try (rw [qh,qh7,hq];exact ⟨qr _ _,rfl⟩))
         all_goals first | exact ⟨rfl,rfl⟩ | rfl | (exfalso;clear p0 p1 b0 b1;simp_all;done)
        ·repeat' (first | refine vs_ ?_ | ((first | refine vrr_ ?_ | fail)<;>(try simp only [hk,Option.isSome_some,h35,go_sem,↓reduceIte])) | ((first | (refine cs_ ?_ ?_<;>intro hc) | refine cj_ ?_ | fail | refine p1 h0 ?_ | refine qcw g1.ok ?_ | refine qbv ?_ | refine qfh ?_ | refine qce ha rfl ?_ | refine b1 _ _ _ _ _ _ hq ?_)<;>(try refine ev_ ?_)) | with_reducible exact ti_)
         all_goals (try rw [qh7])
         all_goals first | exact ⟨rfl,rfl⟩ | rfl | (exfalso;clear p0 p1 b0 b1;simp_all;done)
   ·rw [if_neg hk]
    by_cases h0:v = []
    ·repeat' (first | refine vs_ ?_ | ((first | refine vrr_ ?_ | fail)<;>(try simp only [hk,Option.isSome_some,go_sem,↓reduceIte])) | ((first | (refine cs_ ?_ ?_<;>intro hc) | refine cj_ ?_ | fail | refine p0 h0 ?_ | refine qcw g1.ok ?_)<;>(try refine ev_ ?_)) | with_reducible exact ti_)
     all_goals (try rw [qsj])
     all_goals first | exact ⟨rfl,rfl⟩ | rfl | (exfalso;clear p0 p1;simp_all;done)
    ·repeat' (first | refine vs_ ?_ | ((first | refine vrr_ ?_ | fail)<;>(try simp only [hk,Option.isSome_some,go_sem,↓reduceIte])) | ((first | (refine cs_ ?_ ?_<;>intro hc) | refine cj_ ?_ | fail | refine p1 h0 ?_ | refine qcw g1.ok ?_)<;>(try refine ev_ ?_)) | with_reducible exact ti_)
     all_goals (try rw [qsj])
     all_goals first | exact ⟨rfl,rfl⟩ | rfl | (exfalso;clear p0 p1;simp_all;done)
set_option maxRecDepth 4000

theorem qbru (c:K) (hg:c.good):qb2 Try.prog 17 (curE c) (curE (qp c).1) [.ptr 0 0] (resB (qp c).2):=by
 have g1:(qd c qll).1.good:=(qn _ _).1 hg
 have g2:(qd c qgw).1.good:=(qn _ _).1 hg
 have g3:(qd c qlp).1.good:=(qn _ _).1 hg
 have h1:=qbpp (qi c).pos _ g1
 have h2:=q5s 35 (qi c).pos _ g2
 have h3:=q5s 36 (qi c).pos _ g3
 have h4:=qu9 c hg
 refine ql c0co 1 (by simp) (by simp) ?_
 unfold qp
 unfold qll qgw qlp posZ qbco at *
 by_cases t1:(qd c [100,97,116,97]).2 = true
 ·rw [if_pos t1]
  repeat' (first | refine vs_ ?_ | ((first | refine vrr_ ?_ | fail)<;>(try simp only [t1,go_sem,↓reduceIte])) | ((first | (refine cs_ ?_ ?_<;>intro hc) | refine cj_ ?_ | fail | refine qbv ?_ | refine qdt hg.ok ?_ | refine qkb h1 rfl ?_)<;>(try refine ev_ ?_)) | with_reducible exact ti_)
 ·have t1f:(qd c [100,97,116,97]).2 = false:=by simpa using t1
  have e1:=qc2 t1f
  rw [if_neg t1]
  by_cases t2:(qd c [99,108,97,115,115]).2 = true
  ·rw [if_pos t2]
   repeat' (first | refine vs_ ?_ | ((first | refine vrr_ ?_ | fail)<;>(try simp only [t1f,e1,t2,go_sem,↓reduceIte])) | ((first | (refine cs_ ?_ ?_<;>intro hc) | refine cj_ ?_ | fail | refine qbv ?_ | refine qdt hg.ok ?_ | refine qkb h2 rfl ?_)<;>(try refine ev_ ?_)) | with_reducible exact ti_)
  ·have t2f:(qd c [99,108,97,115,115]).2 = false:=by simpa using t2
   have e2:=qc2 t2f
   rw [if_neg t2]
   by_cases t3:(qd c [105,110,115,116,97,110,99,101]).2 = true
   ·rw [if_pos t3]
    repeat' (first | refine vs_ ?_ | ((first | refine vrr_ ?_ | fail)<;>(try simp only [t1f,e1,t2f,e2,t3,go_sem,↓reduceIte])) | ((first | (refine cs_ ?_ ?_<;>intro hc) | refine cj_ ?_ | fail | refine qbv ?_ | refine qdt hg.ok ?_ | refine qkb h3 rfl ?_)<;>(try refine ev_ ?_)) | with_reducible exact ti_)
   ·have t3f:(qd c [105,110,115,116,97,110,99,101]).2 = false:=by simpa using t3
    have e3:=qc2 t3f
    rw [if_neg t3]
    unfold ofO
    repeat' (first | refine vs_ ?_ | ((first | refine vrr_ ?_ | fail)<;>(try simp only [t1f,e1,t2f,e2,t3f,e3,go_sem,↓reduceIte])) | ((first | (refine cs_ ?_ ?_<;>intro hc) | refine cj_ ?_ | fail | refine qbv ?_ | refine qdt hg.ok ?_ | refine qce h4 rfl ?_)<;>(try refine ev_ ?_)) | with_reducible exact ti_)
theorem qbfl {c:K} {L:List Ent} {Q:List Ent->VO->Prop} (hg:c.good) (hq:Q (curE (qp c).1 :: L) (.val (resB (qp c).2))):VApp Try.prog (curE c :: L) (.fn 17 [] []) [.ptr 0 0] Q:=qkb (qbru c hg) rfl hq
theorem qbbo (x:List UInt8) (b:Bool) (c:K) (hg:c.good):VCalls Try.prog 16 [curE c,.blk [.ptr 0 0],.blk [.ptr 0 0],.blk [.str x],.blk [.bool b],.blk [.fn 25 [] [.ptr 4 0,.ptr 2 0,.ptr 3 0]]] [.ptr 1 0] fun H' o=>H' = frP x b (qp c).1∧o = .val (resB (qp c).2):=by
 refine ql c0cp 6 (by simp) (by simp) ?_
 unfold frP
 repeat' (first | refine vs_ ?_ | ((first | refine vr_ ?_ | refine qbfl hg ?_ | (refine cs_ ?_ ?_<;>intro hc) | refine cj_ ?_ | fail)<;>(try refine ev_ ?_)) | with_reducible exact ti_)
 all_goals exact ⟨rfl,rfl⟩
theorem qbes (b:Bool) (c:K) (hg:c.good):VCalls Try.prog 18 [curE c,.blk [.ptr 0 0],.blk [.ptr 0 0],.blk [.str [59]],.blk [.bool b],.blk [.fn 25 [] [.ptr 4 0,.ptr 2 0,.ptr 3 0]]] [.ptr 1 0,.ptr 5 0] fun H' o=>H' = frP [59] (qcb b c).1 (qcb b c).2.1∧o = .val (.bool (qcb b c).2.2):=by
 refine ql c0cq 6 (by simp) (by simp) ?_
 unfold frP qcb
 by_cases hi:(qi c).kind = 0
 ·rw [if_pos hi]
  repeat' (first | refine vs_ ?_ | ((first | refine vr_ ?_ | fail)<;>(try simp only [hi,ne_eq,not_true_eq_false,decide_false,go_sem,↓reduceIte])) | ((first | (refine cs_ ?_ ?_<;>intro hc) | refine cj_ ?_ | fail | refine qbv ?_ | refine qhp hg ?_)<;>(try refine ev_ ?_)) | with_reducible exact ti_)
  all_goals first | exact ⟨rfl,rfl⟩ | (exfalso;simp_all;done) | (simp_all;done)
 ·rw [if_neg hi]
  by_cases ha:(qbs [59] b c).2.2 = true
  ·repeat' (first | refine vs_ ?_ | ((first | refine vr_ ?_ | fail)<;>(try simp only [hi,ha,ne_eq,not_false_eq_true,decide_true,go_sem,↓reduceIte])) | ((first | (refine cs_ ?_ ?_<;>intro hc) | refine cj_ ?_ | fail | refine qbv ?_ | refine qhp hg ?_)<;>(try refine ev_ ?_)) | with_reducible exact ti_)
   all_goals first | exact ⟨rfl,rfl⟩ | (exfalso;simp_all;done) | (simp_all;done)
  ·have ha2:(qbs [59] b c).2.2 = false:=by simpa using ha
   repeat' (first | refine vs_ ?_ | ((first | refine vr_ ?_ | fail)<;>(try simp only [hi,ha2,ne_eq,not_false_eq_true,decide_true,go_sem,↓reduceIte])) | ((first | (refine cs_ ?_ ?_<;>intro hc) | refine cj_ ?_ | fail | refine qbv ?_ | refine qhp hg ?_)<;>(try refine ev_ ?_)) | with_reducible exact ti_)
   all_goals first | exact ⟨rfl,rfl⟩ | (exfalso;simp_all;done) | (simp_all;done)
theorem q5e (c:K) (hg:c.good):RowP qp qcb 16 18 [59] false c :=
 q6f goes_decl monP (fun b c g _=>qbbo _ b c g) (fun b c g _=>qbes b c g) false c hg (Nat.le_refl _)
section
variable {one:K->R3} {more:MF} {g1 g2:FuncId} {x:List UInt8} {b:Bool} {c:K} {e2:Ent} {Q:List Ent->VO->Prop}
theorem q6h (h:RowP one more g1 g2 x b c) (h0:(rowS one more b c []).2.2.1 = []) (hq:Q [curE (rowS one more b c []).2.1,.blk [.ptr 0 0],e2,.blk [.ptr 0 0],.blk [.str x],.blk [.bool (rowS one more b c []).1],.blk [.fn 25 [] [.ptr 5 0,.ptr 3 0,.ptr 4 0]]] (.val (.tup [.nils,.bool (rowS one more b c []).2.2.2]))) :
 VApp Try.prog [curE c,.blk [.ptr 0 0],e2,.blk [.ptr 0 0],.blk [.str x],.blk [.bool b],.blk [.fn 25 [] [.ptr 5 0,.ptr 3 0,.ptr 4 0]]] (.fn 15 [] []) [.nils,.fn g1 [] [.ptr 1 0],.fn g2 [] [.ptr 1 0,.ptr 6 0]] Q :=
 qb0 (first:=[]) (caps:=[]) (by
  simp only [List.nil_append,List.append_nil]
  refine qcj (H0:=[curE c,.blk [.ptr 0 0],.blk [.ptr 0 0],.blk [.str x],.blk [.bool b],.blk [.fn 25 [] [.ptr 4 0,.ptr 2 0,.ptr 3 0]]]) (args0:=[.nils,.fn g1 [] [.ptr 1 0],.fn g2 [] [.ptr 1 0,.ptr 5 0]]) [0,1,3,4,5,6] h (by simp) ?_ rfl rfl ?_
  ·(refine ev_ ?_;(try with_reducible exact ti_))
  rintro H1 o ⟨rfl,rfl⟩
  rw [h0]
  simpa [encs,qbi,qbf,qfo,qbo,sg',qng,qoh,qjo,e_fn,AV.ren,AV.rens,VO.ren,qcq] using hq)
theorem q9u (h:RowP one more g1 g2 x b c) (h0:(rowS one more b c []).2.2.1≠[]) (hq:Q [curE (rowS one more b c []).2.1,.blk [.ptr 0 0],e2,.blk [.ptr 0 0],.blk [.str x],.blk [.bool (rowS one more b c []).1],.blk [.fn 25 [] [.ptr 5 0,.ptr 3 0,.ptr 4 0]],.app 5 (encs (rowS one more b c []).2.2.1)] (.val (.tup [.row 7 (rowS one more b c []).2.2.1.length,.bool (rowS one more b c []).2.2.2]))) :
 VApp Try.prog [curE c,.blk [.ptr 0 0],e2,.blk [.ptr 0 0],.blk [.str x],.blk [.bool b],.blk [.fn 25 [] [.ptr 5 0,.ptr 3 0,.ptr 4 0]]] (.fn 15 [] []) [.nils,.fn g1 [] [.ptr 1 0],.fn g2 [] [.ptr 1 0,.ptr 6 0]] Q :=
 qb0 (first:=[]) (caps:=[]) (by
  simp only [List.nil_append,List.append_nil]
  refine qcj (H0:=[curE c,.blk [.ptr 0 0],.blk [.ptr 0 0],.blk [.str x],.blk [.bool b],.blk [.fn 25 [] [.ptr 4 0,.ptr 2 0,.ptr 3 0]]]) (args0:=[.nils,.fn g1 [] [.ptr 1 0],.fn g2 [] [.ptr 1 0,.ptr 5 0]]) [0,1,3,4,5,6] h (by simp) ?_ rfl rfl ?_
  ·(refine ev_ ?_;(try with_reducible exact ti_))
  rintro H1 o ⟨rfl,rfl⟩
  rw [qbl (q8 h0),qbk (q8 h0),q9]
  simpa [qfo,qbo,sg',qng,qoh,qjo,e_fn,qp1,AV.ren,AV.rens,VO.ren,qcq] using hq)
end
theorem qzi (l:List N):AV.agg [.int .i64 37,.int .i64 0,.int .i64 0,.str [],.sl 5 (encs l)] = enc (qew l):=by simp only [qew,enc]
theorem q4m:AV.agg [.int .i64 37,.int .i64 0,.int .i64 0,.str [],.sl 5 []] = enc (qew []):=qzi []
theorem qbii (c:K) (hg:c.good):qb2 Try.prog 13 (curE c) (curE (qqu c).1) [.ptr 0 0] (enc ((qqu c).2.getD N0)):=by
 have hR:=q5e c hg
 have i0:=fun e2 Q=>@q6h _ _ _ _ _ _ _ e2 Q hR
 have i1:=fun e2 Q=>@q9u _ _ _ _ _ _ _ e2 Q hR
 clear hR
 refine ql c0cr 1 (by simp) (by simp) ?_
 unfold qqu
 generalize rowS qp qcb false c [] = r at *
 by_cases hq:r.2.2.1 = []
 ·repeat' (first | refine vs_ ?_ | ((first | refine vrr_ ?_ | refine qec ?_ | refine i0 _ _ hq ?_ | (refine cs_ ?_ ?_<;>intro hc) | refine cj_ ?_ | fail)<;>(try refine ev_ ?_)) | with_reducible exact ti_)
  all_goals (rw [Option.getD_some,hq,← q4m];first | done | rfl | exact ⟨rfl,rfl⟩)
 ·repeat' (first | refine vs_ ?_ | ((first | refine vrr_ ?_ | refine qec ?_ | refine i1 _ _ hq ?_ | (refine cs_ ?_ ?_<;>intro hc) | refine cj_ ?_ | fail)<;>(try refine ev_ ?_)) | with_reducible exact ti_)
  all_goals (rw [Option.getD_some,← qzi];first | done | rfl | exact ⟨rfl,rfl⟩)
theorem qbcm (c:K) (hg:c.good):qb2 Try.prog 20 (curE c) (curE (decK c).1) [.ptr 0 0] (enc ((decK c).2.getD N0)):=by
 refine ql c0cs 1 (by simp) (by simp) ?_
 unfold decK
 repeat' (first | refine vs_ ?_ | ((first | refine vr_ ?_ | refine qbfl hg ?_ | (refine cs_ ?_ ?_<;>intro hc) | refine cj_ ?_ | fail)<;>(try refine ev_ ?_)) | with_reducible exact ti_)
 all_goals first | rfl | exact ⟨rfl,rfl⟩
theorem qza {so:FuncId} {rd:K->K×Option N} {s:List UInt8} (hs:s.length≤400000) (hrd:∀ c:K,c.good->qb2 Try.prog so (curE c) (curE (rd c).1) [.ptr 0 0] (enc ((rd c).2.getD N0)))
 (hm:∀ c,Mon c (rd c).1) (hsz:∀ c,sz ((rd c).2.getD N0)≤2 * rest c + 1):qc9 Try.prog 12 [.str s,.fn so [] []] (resV (q3f rd s)):=by
 have g:=qk1 (qio s).1
 have g2:(rd (newK (lexV s).1)).1.good:=(hm _).1 g
 have hsz':sz ((rd (newK (lexV s).1)).2.getD N0)≤1000000:=by
  have h1:=hsz (newK (lexV s).1)
  have h2:=qju (lexV s).1
  have h3:=(qio s).2
  have h4:rest (newK (lexV s).1) = (qey (lexV s).1).length:=rfl
  omega
 have hdp:=q15 hsz'
 refine qb3 c0ct (by simp) (by simp only [go_sem]) (by simp only [go_sem]) fun hw=>?_
 repeat' (first | refine vs_ ?_ | ((first | refine vr_ ?_ | refine qf (quy s) fun _=>?_ | refine qbei (qbb6 _ (qio s).1) (qu _ _) (by simp only [go_sem]) ?_ | refine qze 1 (hrd _ g) (by rfl) (qu _ _) (qu _ _) (by rfl) (qmt _ _) (by rfl) fun _=>?_ | refine qze 1 (q1q _ g2.ok) (by rfl) (qu _ _) (qu _ _) (by rfl) (by rfl) (by rfl) fun _=>?_ | refine qf (qw5 (q4z _) (by rw [hdp])) fun _=>?_ | refine qbm (quy s) ?_ | refine qbm (qw5 (q4z _) (by rw [hdp])) ?_ | (refine cs_ ?_ ?_<;>intro hc) | refine cj_ ?_ | fail)<;>(try refine ev_ ?_)) | with_reducible exact ti_)
 all_goals (try rw [qds])
 all_goals unfold q3f q0i
 all_goals (repeat' split)
 all_goals first | omega | rfl | (exfalso;omega) | simp_all [go_sem]
def qdr (s:List UInt8):N×Int×Int:=q3f qqu s
def qb0p (s:List UInt8):N×Int×Int:=q3f decK s
theorem qcv (s:List UInt8) (hs:s.length≤400000):qc9 Try.prog 7 [.str s] (resV (qdr s)):=by
 refine qb3 c0cu (by simp) (by simp only [go_sem]) (by simp only [go_sem]) fun hw=>?_
 repeat' (first | refine vs_ ?_ | ((first | refine vr_ ?_ | refine qf (qza hs qbii q8g q1j) fun _=>?_ | (refine cs_ ?_ ?_<;>intro hc) | refine cj_ ?_ | fail)<;>(try refine ev_ ?_)) | with_reducible exact ti_)
 all_goals rfl
theorem qym (s:List UInt8) (hs:s.length≤400000):qc9 Try.prog 8 [.str s] (resV (qb0p s)):=by
 refine qb3 c0cv (by simp) (by simp only [go_sem]) (by simp only [go_sem]) fun hw=>?_
 repeat' (first | refine vs_ ?_ | ((first | refine vr_ ?_ | refine qf (qza hs qbcm qbej qbit) fun _=>?_ | (refine cs_ ?_ ?_<;>intro hc) | refine cj_ ?_ | fail)<;>(try refine ev_ ?_)) | with_reducible exact ti_)
 all_goals rfl
end Go.Proofs.Ytfjbmjplnmaclaa
