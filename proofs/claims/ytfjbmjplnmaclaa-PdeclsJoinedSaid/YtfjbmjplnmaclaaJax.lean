/- Texts of this proof, joined. -/
import Derived.Test.YtfjbmjplnmaclaaJaw
set_option linter.unusedVariables false
set_option linter.unusedSimpArgs false

/- expressions: what is read (plain) -/
namespace Go.Proofs.Ytfjbmjplnmaclaa
open Go Go.RowKit Go.V

def leafE (c:K):Option N :=
 if (qi c).kind = 1 then some (qhq c 21 [])
 else if (qi c).kind = 2 then some (qhq c 22 [])
 else if (qi c).kind = 3 then some (.mk 23 (qi c).pos (qi c).num [] [])
 else none
def begE (c:K):Bool:=(leafE c).isSome || isK c [40]
def qs (rec:K->K×Option N) (c:K):K×Option N :=
 if (leafE c).isSome = true then (qg c,leafE c)
 else if isK c [40] = true then
  if (qa c).2 = true then
   if (rec (qg (qa c).1)).2.isSome = true then
    if (qc (rec (qg (qa c).1)).1 [41]).2 = true then (qb4 (qc (rec (qg (qa c).1)).1 [41]).1,(rec (qg (qa c).1)).2)
    else ((qc (rec (qg (qa c).1)).1 [41]).1,none)
   else ((rec (qg (qa c).1)).1,none)
  else ((qa c).1,none)
 else (qdy c 5,none)
abbrev R3:=K×N×Bool
def ofO (r:K×Option N):R3:=(r.1,r.2.getD N0,r.2.isSome)
def toO (r:R3):K×Option N:=(r.1,if r.2.2 = true then some r.2.1 else none)
def appN (n k:N):N:=.mk 24 n.pos 0 [] [n,k]
def qd3 (rec:K->K×Option N):Nat->K->N->R3
 | 0,c,n=>(c,n,false)
 | f + 1, c, n =>
   if begE c = true then
    if (qs rec c).2.isSome = true then qd3 rec f (qs rec c).1 (appN n ((qs rec c).2.getD N0))
    else ((qs rec c).1,appN n ((qs rec c).2.getD N0),false)
   else (c,n,true)
def qez (rec:K->K×Option N) (c:K):R3 :=
 if (qs rec c).2.isSome = true then qd3 rec (rest (qs rec c).1 + 1) (qs rec c).1 ((qs rec c).2.getD N0)
 else ((qs rec c).1,(qs rec c).2.getD N0,false)
def lamN (t:T) (n:N):N:=.mk 25 t.pos 0 t.text [n]
def qbx (rec:K->K×Option N) (x:List UInt8):Nat->K->R3
 | 0,c=>(c,N0,false)
 | f + 1, c =>
   if (qi c).kind = 1 then ((qbx rec x f (qg c)).1,lamN (qi c) (qbx rec x f (qg c)).2.1,(qbx rec x f (qg c)).2.2)
   else if (qc c x).2 = true then ofO (rec (qc c x).1)
   else ((qc c x).1,N0,false)
def quu (k:Int) (t:T) (n:N):N:=.mk k t.pos 0 t.text [n]
def qbn (rec:K->K×Option N) (c:K):K×Option N :=
 if (kindK c 1).2 = true then
  if (qd (kindK c 1).1 [58,58]).2 = true then
   ((qdi (rest (qd (kindK c 1).1 [58,58]).1 + 2) (qd (kindK c 1).1 [58,58]).1).1,(qdi (rest (qd (kindK c 1).1 [58,58]).1 + 2) (qd (kindK c 1).1 [58,58]).1).2.map (quu 32 (qex c 1)))
  else ((qbx rec [61] (rest (kindK c 1).1 + 1) (kindK c 1).1).1,(toO (qbx rec [61] (rest (kindK c 1).1 + 1) (kindK c 1).1)).2.map (quu 31 (qex c 1)))
 else ((kindK c 1).1,none)
abbrev RL:=K×List N×Bool
def qbh (rd:K->R3):Nat->K->List N->RL
 | 0,c,_=>(c,[],false)
 | f + 1, c, acc =>
   if (rd c).2.2 = true then
    if ((qd (rd c).1 [59]).2 && !isK (qd (rd c).1 [59]).1 [125]) = true then qbh rd f (qd (rd c).1 [59]).1 (acc ++ [(rd c).2.1])
    else ((qc (qd (rd c).1 [59]).1 [125]).1,acc ++ [(rd c).2.1],(qc (qd (rd c).1 [59]).1 [125]).2)
   else ((rd c).1,[],false)
def qv (rd:K->R3) (c:K):RL :=
 if (qc c [123]).2 = true then qbh rd (rest (qc c [123]).1 + 1) (qc c [123]).1 [] else ((qc c [123]).1,[],false)
def posN (p:Int):N:=.mk 0 p 0 [] []
def letC (rec:K->K×Option N) (p:Int) (l:List N) (w:K×Bool):R3 :=
 if w.2 = true then ((rec w.1).1,.mk 26 p 0 [] (l ++ [(rec w.1).2.getD N0]),(rec w.1).2.isSome) else (w.1,posN p,false)
def letB (rec:K->K×Option N) (p:Int) (l:RL):R3 :=
 if l.2.2 = true then letC rec p l.2.1 (qc l.1 [105,110]) else (l.1,posN p,false)
def qfv (rec:K->K×Option N) (p:Int) (c:K):R3:=letB rec p (qv (fun c=>ofO (qbn rec c)) c)
def altN (p e:N):N:=.mk 15 p.pos 0 [] [p,e]
def altC (rec:K->K×Option N) (p:N) (w:K×Bool):R3 :=
 if w.2 = true then ((rec w.1).1,altN p ((rec w.1).2.getD N0),(rec w.1).2.isSome) else (w.1,p,false)
def altB (rec:K->K×Option N) (r:K×Option N):R3 :=
 if r.2.isSome = true then altC rec (r.2.getD N0) (qc r.1 [45,62]) else (r.1,r.2.getD N0,false)
def qdv (rec:K->K×Option N) (c:K):R3:=altB rec (qbz (rest c + 2) c)
def qxb (p:Int) (x:N) (l:RL):R3:=(l.1,.mk 27 p 0 [] (x :: l.2.1),l.2.2)
def qts (rec:K->K×Option N) (p:Int) (x:N) (w:K×Bool):R3 :=
 if w.2 = true then qxb p x (qv (qdv rec) w.1) else (w.1,posN p,false)
def qd7 (rec:K->K×Option N) (p:Int) (c:K):R3 :=
 if (rec c).2.isSome = true then qts rec p ((rec c).2.getD N0) (qc (rec c).1 [111,102]) else ((rec c).1,posN p,false)
def ifsK (c:K) (w:List UInt8):K×Bool:=if w = [] then (c,true) else qc c w
def qc7 (rec:K->K×Option N) (p:Int):List (List UInt8)->K->List N->R3
 | [],c,acc=>(c,.mk 28 p 0 [] acc,true)
 | w :: r, c, acc =>
   if (ifsK c w).2 = true then
    if (rec (ifsK c w).1).2.isSome = true then qc7 rec p r (rec (ifsK c w).1).1 (acc ++ [(rec (ifsK c w).1).2.getD N0])
    else ((rec (ifsK c w).1).1,.mk 28 p 0 [] acc,false)
   else ((ifsK c w).1,.mk 28 p 0 [] acc,false)
def ifsW:List (List UInt8):=[[],[116,104,101,110],[101,108,115,101]]
def qcz (rec:K->K×Option N) (c:K):R3 :=
 if (qd c [92]).2 = true then
  if (qi (qd c [92]).1).kind = 1 then qbx rec [45,62] (rest (qd c [92]).1 + 1) (qd c [92]).1
  else (qdy (qd c [92]).1 5,posN (qi c).pos,false)
 else if (qd c [108,101,116]).2 = true then qfv rec (qi c).pos (qd c [108,101,116]).1
 else if (qd c [99,97,115,101]).2 = true then qd7 rec (qi c).pos (qd c [99,97,115,101]).1
 else if (qd c [105,102]).2 = true then qc7 rec (qi c).pos ifsW (qd c [105,102]).1 []
 else qez rec c
def qel:Nat->K->K×Option N
 | 0,c=>(c,none)
 | f + 1, c =>
   if (qa c).2 = true then (qb4 (qcz (qel f) (qa c).1).1,(toO (qcz (qel f) (qa c).1)).2)
   else ((qa c).1,none)

theorem ql8 {c:K} (h:(leafE c).isSome = true):(qi c).kind≠0:=by
 unfold leafE at h
 split at h
 ·omega
 ·split at h
  ·omega
  ·split at h
   ·omega
   ·cases h
theorem quz {c:K} (h:begE c = true):(qi c).kind≠0:=by
 simp only [begE,Bool.or_eq_true] at h
 rcases h with h | h
 ·exact ql8 h
 ·exact qda h
theorem qch {c:K} {x:List UInt8} (h:(qd c x).2 = true):rest (qd c x).1 < rest c:=by
 unfold qd at h ⊢
 split at h
 ·rename_i h1
  rw [if_pos h1]
  have:=qy (qda h1)
  simp only;omega
 ·cases h
theorem qgp {c:K} {x:List UInt8} (h:(qc c x).2 = true):rest (qc c x).1 < rest c:=by
 unfold qc at h ⊢
 split at h
 ·rename_i h1
  rw [if_pos h1]
  have:=qy (qda h1)
  simp only;omega
 ·cases h
theorem qvf {c:K} (h:(kindK c 1).2 = true):rest (kindK c 1).1 < rest c:=by
 obtain ⟨h1,h2⟩:=qj2 h
 rw [(qy7 h).1]
 have:=qy (c:=c) (by omega)
 simp only;omega
section
variable {rec:K->K×Option N} (hm:∀ c,Mon c (rec c).1)
include hm
theorem qde (c:K):Mon c (qs rec c).1:=by
 unfold qs
 split
 ·exact qbd c
 ·split
  ·split
   ·have h1:=((qo c).trans (qbd _)).trans (hm _)
    split
    ·split
     ·exact (h1.trans (qe _ _)).trans (qx _)
     ·exact h1.trans (qe _ _)
    ·exact h1
   ·exact qo c
  ·exact qdx c 5
theorem qjm {c:K} (h:(qs rec c).2.isSome = true):rest (qs rec c).1 < rest c:=by
 unfold qs at h ⊢
 split at h
 ·rename_i hl
  rw [if_pos hl]
  have:=qy (ql8 hl)
  simp only;omega
 ·rename_i hl
  rw [if_neg hl]
  split at h
  ·rename_i hk
   rw [if_pos hk]
   split at h
   ·rename_i he
    rw [if_pos he]
    have hp:=qy (c:=(qa c).1) (by rw [qd5 he];exact qda hk)
    have h0:=(qo c).2.1
    have h1:=(hm (qg (qa c).1)).2.1
    split at h
    ·rename_i hr
     rw [if_pos hr]
     have h2:=(qe (rec (qg (qa c).1)).1 [41]).2.1
     split at h
     ·rename_i hw
      rw [if_pos hw]
      have h3:=(qx (qc (rec (qg (qa c).1)).1 [41]).1).2.1
      simp only;omega
     ·cases h
    ·cases h
   ·cases h
  ·cases h
theorem qpe:∀ (f:Nat) (c:K) (n:N),Mon c (qd3 rec f c n).1
 | 0,c,n=>Mon.refl c
 | f + 1, c, n => by
   rw [qd3]
   split
   ·split
    ·exact (qde hm c).trans (qpe f _ _)
    ·exact qde hm c
   ·exact Mon.refl c
theorem q3j (c:K):Mon c (qez rec c).1:=by
 unfold qez
 split
 ·exact (qde hm c).trans (qpe hm _ _ _)
 ·exact qde hm c
theorem qij (x:List UInt8):∀ (f:Nat) (c:K),Mon c (qbx rec x f c).1
 | 0,c=>Mon.refl c
 | f + 1, c => by
   rw [qbx]
   split
   ·exact (qbd c).trans (qij x f _)
   ·split
    ·exact (qe c x).trans (hm _)
    ·exact qe c x
theorem qgq (c:K):Mon c (qbn rec c).1:=by
 unfold qbn
 split
 ·split
  ·exact ((qbw c 1).trans (qn _ _)).trans (qkk _ _)
  ·exact (qbw c 1).trans (qij hm _ _ _)
 ·exact qbw c 1
theorem qjc {c:K} (h:(qbn rec c).2.isSome = true):rest (qbn rec c).1 < rest c:=by
 unfold qbn at h ⊢
 split at h
 ·rename_i h1
  rw [if_pos h1]
  have h2:=qvf h1
  split
  ·have h3:=((qn (kindK c 1).1 [58,58]).trans (qkk (rest (qd (kindK c 1).1 [58,58]).1 + 2) _)).2.1
   simp only;omega
  ·have h3:=(qij hm [61] (rest (kindK c 1).1 + 1) (kindK c 1).1).2.1
   simp only;omega
 ·cases h
omit hm in
theorem qm7 {rd:K->R3} (hd:∀ c,Mon c (rd c).1):∀ (f:Nat) (c:K) (acc:List N),Mon c (qbh rd f c acc).1
 | 0,c,acc=>Mon.refl c
 | f + 1, c, acc => by
   rw [qbh]
   split
   ·split
    ·exact ((hd c).trans (qn _ _)).trans (qm7 hd f _ _)
    ·exact ((hd c).trans (qn _ _)).trans (qe _ _)
   ·exact hd c
omit hm in
theorem qga {rd:K->R3} (hd:∀ c,Mon c (rd c).1) (c:K):Mon c (qv rd c).1:=by
 unfold qv
 split
 ·exact (qe c _).trans (qm7 hd _ _ _)
 ·exact qe c _
theorem q3x (p:Int) (c:K):Mon c (qfv rec p c).1:=by
 unfold qfv letB letC
 have h:=qga (rd:=fun c=>ofO (qbn rec c)) (fun c=>qgq hm c) c
 split
 ·split
  ·exact (h.trans (qe _ _)).trans (hm _)
  ·exact h.trans (qe _ _)
 ·exact h
theorem qma (c:K):Mon c (qdv rec c).1:=by
 unfold qdv altB altC
 have h:=qep (rest c + 2) c
 split
 ·split
  ·exact (h.trans (qe _ _)).trans (hm _)
  ·exact h.trans (qe _ _)
 ·exact h
theorem qpa {c:K} (h:(qdv rec c).2.2 = true):rest (qdv rec c).1 < rest c:=by
 unfold qdv altB altC at h ⊢
 have h1:=(qep (rest c + 2) c).2.1
 split at h
 ·rename_i h2
  rw [if_pos h2]
  split at h
  ·rename_i h3
   rw [if_pos h3]
   have h4:=qgp h3
   have h5:=(hm (qc (qbz (rest c + 2) c).1 [45,62]).1).2.1
   simp only;omega
  ·cases h
 ·cases h
theorem qy6 (p:Int) (c:K):Mon c (qd7 rec p c).1:=by
 unfold qd7 qts qxb
 have h:=hm c
 split
 ·split
  ·exact (h.trans (qe _ _)).trans (qga (fun c=>qma hm c) _)
  ·exact h.trans (qe _ _)
 ·exact h
omit hm in
theorem qn3 (c:K) (w:List UInt8):Mon c (ifsK c w).1:=by
 unfold ifsK
 split
 ·exact Mon.refl c
 ·exact qe c w
theorem qrg (p:Int):∀ (l:List (List UInt8)) (c:K) (acc:List N),Mon c (qc7 rec p l c acc).1
 | [],c,acc=>Mon.refl c
 | w :: r, c, acc => by
   rw [qc7]
   split
   ·split
    ·exact ((qn3 c w).trans (hm _)).trans (qrg p r _ _)
    ·exact (qn3 c w).trans (hm _)
   ·exact qn3 c w
theorem qpw (c:K):Mon c (qcz rec c).1:=by
 unfold qcz
 split
 ·split
  ·exact (qn c _).trans (qij hm _ _ _)
  ·exact (qn c _).trans (qdx _ 5)
 ·split
  ·exact (qn c _).trans (q3x hm _ _)
  ·split
   ·exact (qn c _).trans (qy6 hm _ _)
   ·split
    ·exact (qn c _).trans (qrg hm _ _ _ _)
    ·exact q3j hm c
end
theorem qjb:∀ (f:Nat) (c:K),Mon c (qel f c).1
 | 0,c=>Mon.refl c
 | f + 1, c => by
   rw [qel]
   split
   ·exact ((qo c).trans (qpw (qjb f) _)).trans (qx _)
   ·exact qo c
set_option maxRecDepth 4000

def resB (r:N×Bool):AV:=.tup [enc r.1,.bool r.2]
attribute [go_sem] resB
theorem qmf (k:Nat) (r:N×Bool):(resB r).bd k = true:=by simp only [resB,AV.bd,AV.bds,qmt,Bool.and_true]
theorem qkb {P:Program} {f:FuncId} {c c':K} {L:List Ent} {args:List AV} {r:N×Bool} {Q:List Ent->VO->Prop} (h:qb2 P f (curE c) (curE c') args (resB r)) (ha:AV.bds 1 args = true) (hq:Q (curE c' :: L) (.val (resB r))):VApp P (curE c :: L) (.fn f [] []) args Q :=
 qby h (qu _ _) (qu _ _) ha (qmf _ _) fun _=>hq
theorem qbd7 (c:K):qb2 Try.prog 93 (curE c) (curE c) [.ptr 0 0] (resP (leafE c)):=by
 refine ql c0l 1 (by simp) (by simp) ?_
 repeat' (first | refine vs_ ?_ | ((first | refine vr_ ?_ | refine qbv ?_ | refine a_Is ?_ | (refine cs_ ?_ ?_<;>intro hc) | refine cj_ ?_ | fail)<;>(try refine ev_ ?_)) | with_reducible exact ti_)
 all_goals (unfold leafE qhq;simp_all [enc,encs,N0])
theorem q90 {c:K} {L:List Ent} {Q:List Ent->VO->Prop} (hq:Q (curE c :: L) (.val (resP (leafE c)))):VApp Try.prog (curE c :: L) (.fn 93 [] []) [.ptr 0 0] Q:=qce (qbd7 c) rfl hq
section
variable {rec:K->K×Option N} {b:Nat} (hm:∀ c,Mon c (rec c).1) (ih:∀ c,c.good->rest c < b->qb2 Try.prog 66 (curE c) (curE (rec c).1) [.ptr 0 0] (resP (rec c).2))
include hm ih
theorem q1u (c:K) (hg:c.good) (hr:rest c≤b):qb2 Try.prog 92 (curE c) (curE (qs rec c).1) [.ptr 0 0] (resP (qs rec c).2):=by
 have g1:(qa c).1.good:=(qo c).1 hg
 have g2:(qg (qa c).1).good:=(qbd _).1 g1
 have g3:(rec (qg (qa c).1)).1.good:=(hm _).1 g2
 have g4:(qc (rec (qg (qa c).1)).1 [41]).1.good:=(qe _ _).1 g3
 have hrr:isK c [40] = true->(qa c).2 = true->rest (qg (qa c).1) < b:=fun h1 h2=>by
  have:=qy (c:=(qa c).1) (by rw [qd5 h2];exact qda h1)
  have:=(qo c).2.1
  omega
 refine ql c0m 1 (by simp) (by simp) ?_
 repeat' (first | refine vs_ ?_ | ((first | refine vr_ ?_ | refine q90 ?_ | refine a_Is ?_ | refine qq5 ?_ | refine qha ?_ | refine qi2 hg.ok ?_ | refine qi2 g1.ok ?_ | refine qce (ih _ g2 (hrr (by assumption) (by assumption))) rfl ?_ | refine qb5 g3.ok ?_ | refine qe6 g4.2.2 ?_ | (refine cs_ ?_ ?_<;>intro hc) | refine cj_ ?_ | fail)<;>(try refine ev_ ?_)) | with_reducible exact ti_)
 all_goals (unfold qs;simp only [*,qds,Int.reduceEq,if_true,if_false,reduceIte,Bool.false_eq_true,Option.getD_none,Option.getD_some,Option.isSome_none,Option.isSome_some,and_self,true_and,and_true];try rfl)
end
def q5i (fl:Bool) (n:N):Ent:=.blk [.int .i64 n.kind,.int .i64 n.pos,.int .i64 n.num,.str n.text,if fl = true then .lit 5 (encs n.kids) else .sl 5 (encs n.kids)]
theorem qbbn {P:Program} {fr:Option Nat} {k m:Nat} {a:IC} {Q:VE->AF->List Ent->Prop} {af:AF} {A B:Ent} {L:List Ent} {fl:Bool} {n:N} (h:VI P fr k m a Q af (A :: B :: .blk (enc n).cells :: L)):VI P fr k m a Q af (A :: B :: q5i fl n :: L):=by
 cases n
 cases fl with
 | false=>exact h
 | true =>
   refine q79 2 4 (.sl 5) (by rfl) ?_
   simp only [List.getD_cons_succ,List.getD_cons_zero,if_true,qvo,List.set_cons_succ,List.set_cons_zero]
   exact h
section
variable {rec:K->K×Option N} {b:Nat} (hm:∀ c,Mon c (rec c).1) (ih:∀ c,c.good->rest c < b->qb2 Try.prog 66 (curE c) (curE (rec c).1) [.ptr 0 0] (resP (rec c).2))
include hm ih
def q42 (x:Bool×Nat×K×N×Bool):AF×List Ent :=
 (⟨[(0,.ptr 0 0),(2,.ptr 1 0),(4,.ptr 2 0),(5,.bool x.2.2.2.2)],[]⟩,[curE x.2.2.1,.blk [.int .i64 0,.int .i64 0,.int .i64 0,.str [],.nils],q5i x.1 x.2.2.2.1])
theorem qbda (c:K) (hg:c.good) (hr:rest c≤b):qb2 Try.prog 85 (curE c) (curE (qez rec c).1) [.ptr 0 0] (resB (qez rec c).2):=by
 refine ql c0n 1 (by simp) (by simp) ?_
 have g0:(qs rec c).1.good:=(qde hm c).1 hg
 have hr0:rest (qs rec c).1≤b:=by have:=(qde hm c).2.1;omega
 generalize htg:qez rec c = tg
 repeat' (first | refine vs_ ?_ | ((first | refine vr_ ?_ | refine qce (q1u hm ih _ hg hr) rfl ?_ | (refine cs_ ?_ ?_<;>intro hc) | refine cj_ ?_ | fail)<;>(try refine ev_ ?_)) | with_reducible exact ti_)
 refine qct (S:=Bool×Nat×K×N×Bool) (fun x=>x.2.2.1.good∧rest x.2.2.1≤b∧(x.2.2.2.2 = true->qd3 rec x.2.1 x.2.2.1 x.2.2.2.1 = tg∧rest x.2.2.1 < x.2.1)∧(x.2.2.2.2 = false->tg = (x.2.2.1,x.2.2.2.1,false)))
  q42 (fun x=>if x.2.2.2.2 = true then rest x.2.2.1 + 1 else 0) ?_ ?_
 ·refine qb1 (false,rest (qs rec c).1 + 1,(qs rec c).1,(qs rec c).2.getD N0,(qs rec c).2.isSome) [0,1,2] ⟨g0,hr0,fun h=>⟨?_,Nat.lt_succ_self _⟩,fun h=>?_⟩ rfl (by simp) ?_ ?_ ?_
  ·simp only at h;rw [← htg,qez,if_pos h]
  ·simp only at h;rw [← htg,qez,if_neg (by rw [h];simp)]
  all_goals simp only [q42,q5i]
  all_goals (refine ev_ ?_;(try with_reducible exact ti_))
 ·rintro ⟨fl,fu,d,n,ok⟩ ⟨i1,i2,i3,i4⟩
  simp only at i1 i2 i3 i4
  unfold q42
  refine qbbn ?_
  cases ok with
  | false =>
    have i4:=i4 rfl
    subst i4
    repeat' (first | refine vs_ ?_ | ((first | refine vr_ ?_ | (refine cs_ ?_ ?_<;>intro hc) | refine cj_ ?_ | fail)<;>(try refine ev_ ?_)) | with_reducible exact ti_)
  | true =>
    obtain ⟨i3,i5⟩:=i3 rfl
    clear i4
    obtain ⟨fu,rfl⟩:∃ k,fu = k + 1:=⟨fu - 1,by omega⟩
    rw [qd3] at i3
    have j1:(qs rec d).1.good:=(qde hm d).1 i1
    have j2:rest (qs rec d).1≤rest d:=(qde hm d).2.1
    have key:begE d = true->(((qs rec d).2.isSome = true->qd3 rec fu (qs rec d).1 (appN n ((qs rec d).2.getD N0)) = tg∧rest (qs rec d).1 < fu)∧((qs rec d).2.isSome = false->tg = ((qs rec d).1,appN n ((qs rec d).2.getD N0),false))) ∧
     (if (qs rec d).2.isSome = true then rest (qs rec d).1 + 1 else 0) < rest d + 1:=fun hb=>by
     rw [if_pos hb] at i3
     refine ⟨⟨fun h=>?_,fun h=>?_⟩,?_⟩
     ·rw [if_pos h] at i3
      have:=qjm hm h
      exact ⟨i3,by omega⟩
     ·rw [if_neg (by rw [h];simp)] at i3
      exact i3.symm
     ·split
      ·rename_i h
       have:=qjm hm h
       omega
      ·omega
    have e1:(leafE d).isSome = true->begE d = true:=fun h=>by rw [begE,h];rfl
    have e2:isK d [40] = true->begE d = true:=fun h=>by rw [begE,h,Bool.or_true]
    repeat' (first | refine vs_ ?_ | ((first | refine vr_ ?_ | refine q90 ?_ | refine a_Is ?_ | refine qce (q1u hm ih _ i1 i2) rfl ?_ | (refine cs_ ?_ ?_<;>intro hc) | refine cj_ ?_ | fail)<;>(try refine ev_ ?_)) | with_reducible exact ti_)
    ·have hb:¬ begE d = true:=by rw [begE];simp_all
     rw [if_neg hb] at i3
     subst i3
     exact ⟨rfl,rfl⟩
    ·obtain ⟨k1,k2⟩:=key (e2 (by assumption))
     refine qb1 (true,fu,(qs rec d).1,appN n ((qs rec d).2.getD N0),(qs rec d).2.isSome) [0,1,2] ⟨⟨j1,by simp only;omega,k1⟩,by simpa using k2⟩ rfl (by simp) ?_ ?_ ?_
     all_goals simp only [q42,q5i,appN,encs,N.kind,N.pos,N.num,N.text,N.kids]
     all_goals (refine ev_ ?_;(try with_reducible exact ti_))
    ·obtain ⟨k1,k2⟩:=key (e1 (by assumption))
     refine qb1 (true,fu,(qs rec d).1,appN n ((qs rec d).2.getD N0),(qs rec d).2.isSome) [0,1,2] ⟨⟨j1,by simp only;omega,k1⟩,by simpa using k2⟩ rfl (by simp) ?_ ?_ ?_
     all_goals simp only [q42,q5i,appN,encs,N.kind,N.pos,N.num,N.text,N.kids]
     all_goals (refine ev_ ?_;(try with_reducible exact ti_))
end
set_option maxRecDepth 4000

theorem qw9 (t:T) (n:N):AV.agg [.int .i64 25,.int .i64 t.pos,.int .i64 0,.str t.text,.sl 5 [enc n]] = enc (lamN t n):=by simp only [lamN,enc,encs]
theorem qj6 (k:Int) (t:T) (n:N):AV.agg [.int .i64 k,.int .i64 t.pos,.int .i64 0,.str t.text,.sl 5 [enc n]] = enc (quu k t n):=by simp only [quu,enc,encs]
section
variable {rec:K->K×Option N} {b:Nat} (ih:∀ c,c.good->rest c < b->qb2 Try.prog 66 (curE c) (curE (rec c).1) [.ptr 0 0] (resP (rec c).2))
include ih
theorem qsq (x:List UInt8):∀ (f:Nat) (c:K),c.good->rest c≤b->rest c < f->qb2 Try.prog 46 (curE c) (curE (qbx rec x f c).1) [.ptr 0 0,.str x] (resB (qbx rec x f c).2)
 | 0,c=>fun _ _ h=>absurd h (by omega)
 | f + 1, c => fun hg hb hf => by
   have g1:(qg c).good:=(qbd c).1 hg
   have g2:(qc c x).1.good:=(qe c x).1 hg
   refine ql c0j 1 (by simp) (by simp) ?_
   by_cases hk:(qi c).kind = 1
   ·have hrn:=qy (c:=c) (by omega)
    have hl:=qsq x f (qg c) g1 (by omega) (by omega)
    have hpa:qbx rec x (f + 1) c = ((qbx rec x f (qg c)).1,lamN (qi c) (qbx rec x f (qg c)).2.1,(qbx rec x f (qg c)).2.2):=by rw [qbx,if_pos hk]
    rw [hpa]
    clear hpa
    generalize qbx rec x f (qg c) = r at *
    repeat' (first | refine vs_ ?_ | ((first | refine vr_ ?_ | fail)<;>(try simp only [hk,ne_eq,not_true_eq_false,decide_false,go_sem,↓reduceIte])) | ((first | (refine cs_ ?_ ?_<;>intro hc) | refine cj_ ?_ | fail | refine qbv ?_ | refine qi2 hg.ok ?_ | refine qkb hl rfl ?_)<;>(try refine ev_ ?_)) | with_reducible exact ti_)
    all_goals first | (rw [qw9];done) | (rw [qw9];rfl) | (rw [qw9];exact ⟨rfl,rfl⟩)
   ·by_cases hw:(qc c x).2 = true
    ·have hlt:=qgp hw
     have hpa:qbx rec x (f + 1) c = ofO (rec (qc c x).1):=by rw [qbx,if_neg hk,if_pos hw]
     rw [hpa,ofO]
     repeat' (first | refine vs_ ?_ | ((first | refine vr_ ?_ | fail)<;>(try simp only [hk,hw,ne_eq,not_false_eq_true,decide_true,go_sem,↓reduceIte])) | ((first | (refine cs_ ?_ ?_<;>intro hc) | refine cj_ ?_ | fail | refine qbv ?_ | refine qb5 hg.ok ?_ | refine qce (ih _ g2 (by omega)) rfl ?_)<;>(try refine ev_ ?_)) | with_reducible exact ti_)
    ·have hpa:qbx rec x (f + 1) c = ((qc c x).1,N0,false):=by rw [qbx,if_neg hk,if_neg hw]
     rw [hpa]
     repeat' (first | refine vs_ ?_ | ((first | refine vr_ ?_ | fail)<;>(try simp only [hk,hw,ne_eq,not_false_eq_true,decide_true,go_sem,↓reduceIte])) | ((first | (refine cs_ ?_ ?_<;>intro hc) | refine cj_ ?_ | fail | refine qbv ?_ | refine qb5 hg.ok ?_)<;>(try refine ev_ ?_)) | with_reducible exact ti_)
     all_goals first | (rw [qds];done) | (rw [qds];rfl) | (rw [qds];exact ⟨rfl,rfl⟩)
theorem qr5 (c:K) (hg:c.good) (hr:rest c≤b):qb2 Try.prog 29 (curE c) (curE (qbn rec c).1) [.ptr 0 0] (resP (qbn rec c).2):=by
 have g1:(kindK c 1).1.good:=(qbw c 1).1 hg
 have hr1:rest (kindK c 1).1≤b:=by have:=(qbw c 1).2.1;omega
 have g2:(qd (kindK c 1).1 [58,58]).1.good:=(qn _ _).1 g1
 have hl:=qsq ih [61] (rest (kindK c 1).1 + 1) (kindK c 1).1 g1 hr1 (Nat.lt_succ_self _)
 have hq:=q30 (rest (qd (kindK c 1).1 [58,58]).1 + 2) (qd (kindK c 1).1 [58,58]).1 g2 (by omega)
 have ht0:(qd (kindK c 1).1 [58,58]).2 = false->(qd (kindK c 1).1 [58,58]).1 = (kindK c 1).1:=fun h=>qc2 h
 refine ql c0k 1 (by simp) (by simp) ?_
 unfold qbn
 generalize qbx rec [61] (rest (kindK c 1).1 + 1) (kindK c 1).1 = r at *
 generalize qdi (rest (qd (kindK c 1).1 [58,58]).1 + 2) (qd (kindK c 1).1 [58,58]).1 = q at *
 by_cases hk:(kindK c 1).2 = true
 ·rw [if_pos hk]
  by_cases ht:(qd (kindK c 1).1 [58,58]).2 = true
  ·rw [if_pos ht]
   cases ho:q.2 with
   | none =>
     rw [ho] at hq
     repeat' (first | refine vs_ ?_ | ((first | refine vr_ ?_ | fail)<;>(try simp (disch:=first | omega | (simp only [List.length_set,List.length_append,List.length_cons,List.length_nil];done) | (simp only [List.length_set,List.length_append,List.length_cons,List.length_nil];omega)) only [hk,ht,Option.isSome_none,Option.getD_none,go_sem,↓reduceIte])) | ((first | (refine cs_ ?_ ?_<;>intro hc) | refine cj_ ?_ | fail | refine qcw hg.ok ?_ | refine qdt g1.ok ?_ | refine qce hq rfl ?_)<;>(try refine ev_ ?_)) | with_reducible exact ti_)
     all_goals first | (rw [qds];done) | (rw [qds];rfl) | (rw [qds];exact ⟨rfl,rfl⟩)
   | some n =>
     rw [ho] at hq
     repeat' (first | refine vs_ ?_ | ((first | refine vr_ ?_ | fail)<;>(try simp (disch:=first | omega | (simp only [List.length_set,List.length_append,List.length_cons,List.length_nil];done) | (simp only [List.length_set,List.length_append,List.length_cons,List.length_nil];omega)) only [hk,ht,Option.isSome_some,Option.getD_some,go_sem,↓reduceIte])) | ((first | (refine cs_ ?_ ?_<;>intro hc) | refine cj_ ?_ | fail | refine qcw hg.ok ?_ | refine qdt g1.ok ?_ | refine qce hq rfl ?_)<;>(try refine ev_ ?_)) | with_reducible exact ti_)
     all_goals first | (rw [qj6];done) | (rw [qj6];rfl) | (rw [qj6];exact ⟨rfl,rfl⟩)
  ·rw [if_neg ht]
   have ht:(qd (kindK c 1).1 [58,58]).2 = false:=by simpa using ht
   have ht0:=ht0 ht
   obtain ⟨d,n,ok⟩:=r
   simp only [toO] at hl ⊢
   rw [← ht0] at hl
   cases ok with
   | false =>
     repeat' (first | refine vs_ ?_ | ((first | refine vr_ ?_ | fail)<;>(try simp only [hk,ht,go_sem,↓reduceIte])) | ((first | (refine cs_ ?_ ?_<;>intro hc) | refine cj_ ?_ | fail | refine qcw hg.ok ?_ | refine qdt g1.ok ?_ | refine qkb hl rfl ?_)<;>(try refine ev_ ?_)) | with_reducible exact ti_)
     all_goals first | (rw [qds];done) | (rw [qds];rfl) | (rw [qds];exact ⟨rfl,rfl⟩)
   | true =>
     repeat' (first | refine vs_ ?_ | ((first | refine vr_ ?_ | fail)<;>(try simp only [hk,ht,go_sem,↓reduceIte])) | ((first | (refine cs_ ?_ ?_<;>intro hc) | refine cj_ ?_ | fail | refine qcw hg.ok ?_ | refine qdt g1.ok ?_ | refine qkb hl rfl ?_)<;>(try refine ev_ ?_)) | with_reducible exact ti_)
     all_goals first | (rw [qj6];done) | (rw [qj6];rfl) | (rw [qj6];exact ⟨rfl,rfl⟩)
 ·rw [if_neg hk]
  repeat' (first | refine vs_ ?_ | ((first | refine vr_ ?_ | fail)<;>(try simp only [hk,go_sem,↓reduceIte])) | ((first | (refine cs_ ?_ ?_<;>intro hc) | refine cj_ ?_ | fail | refine qcw hg.ok ?_)<;>(try refine ev_ ?_)) | with_reducible exact ti_)
  all_goals first | (rw [qds];done) | (rw [qds];rfl) | (rw [qds];exact ⟨rfl,rfl⟩)
end
set_option maxRecDepth 4000

def VClo (g:FuncId) (c c':K) (r:N×Bool):Prop:=VCalls Try.prog g [curE c,.blk [.ptr 0 0]] [.ptr 1 0] fun H' o=>H' = [curE c',.blk [.ptr 0 0]]∧o = .val (resB r)
theorem qjr (c:K):[curE c,.blk [.ptr 0 0]].all (Ent.bd 2) = true:=by
 simp only [List.all_cons,List.all_nil,qu,Bool.true_and,Bool.and_true];rfl
theorem qsn {g:FuncId} {c c':K} {r:N×Bool} {L:List Ent} {Q:List Ent->VO->Prop} (h:VClo g c c' r) (hq:Q (curE c' :: .blk [.ptr 0 0] :: L) (.val (resB r))):VApp Try.prog (curE c :: .blk [.ptr 0 0] :: L) (.fn g [] [.ptr 1 0]) [] Q :=
 qb0 (first:=[]) (caps:=[.ptr 1 0]) (by
  simp only [List.nil_append]
  refine qcy (H0:=[curE c,.blk [.ptr 0 0]]) (L:=L) h (qjr c) rfl ?_
  rintro H1 o ⟨rfl,rfl⟩
  exact ⟨rfl,qjr c',qmf _ _,hq⟩)
def qn6 (rd:K->R3) (g:FuncId) (c:K):Prop:=VCalls Try.prog 88 [curE c,.blk [.ptr 0 0]] [.ptr 0 0,.fn g [] [.ptr 1 0]] fun H' o =>
 H' = curE (qv rd c).1 :: .blk [.ptr 0 0] :: accE 5 (encs (qv rd c).2.1)∧o = .val (.tup [accV 2 (encs (qv rd c).2.1),.bool (qv rd c).2.2])
def qwn (g:FuncId) (x:Nat×K×List N):AF×List Ent :=
 (⟨[(0,.ptr 0 0),(1,.fn g [] [.ptr 1 0]),(6,accV 2 (encs x.2.2))],[]⟩,curE x.2.1 :: .blk [.ptr 0 0] :: accE 5 (encs x.2.2))
theorem qzl {rd:K->R3} {g:FuncId} {b:Nat} (hd:∀ c,Mon c (rd c).1) (hl:∀ c,(rd c).2.2 = true->rest (rd c).1 < rest c) (ih:∀ c,c.good->rest c≤b->VClo g c (rd c).1 (rd c).2) (c:K) (hg:c.good) (hr:rest c≤b):qn6 rd g c:=by
 unfold qn6
 obtain ⟨kk,hk1,hk2,hk0⟩:∃ k:Nat,((qv rd c).2.1 = []->k = 2)∧((qv rd c).2.1≠[]->k = 3)∧2≤k:=by
  by_cases h:(qv rd c).2.1 = []
  ·exact ⟨2,fun _=>rfl,fun g=>absurd h g,by omega⟩
  ·exact ⟨3,fun g=>absurd g h,fun _=>rfl,by omega⟩
 refine qdh c0i kk (by simpa using hk0) (by simp) ?_
 have g1:(qc c [123]).1.good:=(qe c _).1 hg
 have hr1:rest (qc c [123]).1≤b:=by have:=(qe c [123]).2.1;omega
 by_cases hw:(qc c [123]).2 = true
 ·have hpa:qv rd c = qbh rd (rest (qc c [123]).1 + 1) (qc c [123]).1 []:=by rw [qv,if_pos hw]
  rw [hpa] at hk1 hk2 ⊢
  clear hpa
  generalize htg:qbh rd (rest (qc c [123]).1 + 1) (qc c [123]).1 [] = tg at hk1 hk2 ⊢
  repeat' (first | refine vs_ ?_ | ((first | refine vr_ ?_ | fail)<;>(try simp only [hw,go_sem,↓reduceIte])) | ((first | (refine cs_ ?_ ?_<;>intro hc) | refine cj_ ?_ | fail | refine qb5 hg.ok ?_)<;>(try refine ev_ ?_)) | with_reducible exact ti_)
  refine qct (S:=Nat×K×List N) (fun x=>x.2.1.good∧rest x.2.1≤b∧qbh rd x.1 x.2.1 x.2.2 = tg∧rest x.2.1 < x.1∧x.2.2.length + rest x.2.1≤1048577)
   (qwn g) (fun x=>rest x.2.1) ?_ ?_
  ·refine qb1 (rest (qc c [123]).1 + 1,(qc c [123]).1,[]) [0,1] ⟨g1,hr1,htg,Nat.lt_succ_self _,?_⟩ rfl (by simp) ?_ ?_ ?_
   ·have h9:=g1.rest
    unfold rest
    simp only [List.length_nil]
    omega
   all_goals simp only [qwn,encs,qbf,qbi]
   all_goals (refine ev_ ?_;(try with_reducible exact ti_))
  ·rintro ⟨fu,d,acc⟩ ⟨i1,i2,i3,i4,i5⟩
   simp only at i1 i2 i3 i4 i5
   obtain ⟨fu,rfl⟩:∃ k,fu = k + 1:=⟨fu - 1,by omega⟩
   rw [qbh] at i3
   have hcap:qeb (acc.length + 1) 64:=capN (by omega)
   have hclo:=ih d i1 i2
   have hlt:=hl d
   have j1:(rd d).1.good:=(hd d).1 i1
   have j2:=(hd d).2.1
   generalize rd d = r at *
   obtain ⟨d',n,ok⟩:=r
   simp only at j1 j2 hlt i3 hclo
   unfold qwn qbff
   generalize h9:qbf5 = R9
   cases ok with
   | false =>
     rw [if_neg (by simp)] at i3
     subst i3
     obtain rfl:=hk1 rfl
     by_cases h0:acc = []
     ·subst h0
      simp only [encs,qbf,qbi]
      repeat' (first | refine vs_ ?_ | ((first | refine vr_ ?_ | refine qsn hclo ?_ | (refine cs_ ?_ ?_<;>intro hc) | refine cj_ ?_ | fail)<;>(try refine ev_ ?_)) | with_reducible exact ti_)
      all_goals first | exact ⟨rfl,rfl⟩
     ·have hne:=q8 h0
      simp only [qbk hne,qbl hne,q9]
      repeat' (first | refine vs_ ?_ | ((first | refine vr_ ?_ | refine qsn hclo ?_ | (refine cs_ ?_ ?_<;>intro hc) | refine cj_ ?_ | fail)<;>(try refine ev_ ?_)) | with_reducible exact ti_)
      all_goals first | exact ⟨rfl,rfl⟩
   | true =>
     have hlt:=hlt rfl
     rw [if_pos rfl] at i3
     by_cases h0:acc = []
     ·subst h0
      simp only [encs,qbf,qbi]
      repeat' (first | refine vs_ ?_ | ((first | refine vr_ ?_ | refine qsn hclo ?_ | (refine cs_ ?_ ?_<;>intro hc) | refine cj_ ?_ | fail)<;>(try refine ev_ ?_)) | with_reducible exact ti_)
      refine qbca (af':=⟨[(0,.ptr 0 0),(1,.fn g [] [.ptr 1 0]),(6,.row 2 1)],[]⟩) (H':=[curE d',.blk [.ptr 0 0],.app 5 (encs ([] ++ [n]))]) ?_ (qbek [0,1,3] rfl (by simp) ?_ ?_ ?_)
      rotate_left
      all_goals (try simp only [← qh,List.nil_append,encs,List.length_nil])
      all_goals (try (refine ev_ ?_;(try with_reducible exact ti_)))
      all_goals (try (rw [qh,qr,q6];exact ⟨rfl,rfl⟩))
      subst h9
      have hta:(qd d' [59]).1.good:=(qn _ _).1 j1
      have htr:=(qn d' [59]).2.1
      have hne3:¬ [] ++ [n] = []:=by simp
      have hlen:([] ++ [n]).length = 1:=by simp
      repeat' (first | refine vs_ ?_ | ((first | refine vr_ ?_ | refine qdt j1.ok ?_ | refine a_Is ?_ | refine qb5 hta.ok ?_ | (refine cs_ ?_ ?_<;>intro hc) | refine cj_ ?_ | fail)<;>(try refine ev_ ?_)) | with_reducible exact ti_)
      ·have ht:(qd d' [59]).2 = false:=by assumption
       rw [ht,Bool.false_and,if_neg (by simp)] at i3
       subst i3
       obtain rfl:=hk2 (by simp)
       simp only [qbl (q8 hne3),qbk (q8 hne3),q9,hlen,← qh]
       (refine ev_ ?_;(try with_reducible exact ti_))
       all_goals first | (rw [qh];exact qr _ _) | exact ⟨rfl,rfl⟩ | rfl | (rw [qh,qr,q6];exact ⟨rfl,rfl⟩)
      ·have ht:(qd d' [59]).2 = true:=by assumption
       have hi:isK (qd d' [59]).1 [125] = true:=by assumption
       rw [ht,hi,Bool.true_and,Bool.not_true,if_neg (by simp)] at i3
       subst i3
       obtain rfl:=hk2 (by simp)
       simp only [qbl (q8 hne3),qbk (q8 hne3),q9,hlen,← qh]
       (refine ev_ ?_;(try with_reducible exact ti_))
       all_goals first | (rw [qh];exact qr _ _) | exact ⟨rfl,rfl⟩ | rfl | (rw [qh,qr,q6];exact ⟨rfl,rfl⟩)
      ·have ht:(qd d' [59]).2 = true:=by assumption
       have hi:isK (qd d' [59]).1 [125] = false:=by assumption
       rw [ht,hi,Bool.true_and,Bool.not_false,if_pos rfl] at i3
       have htl:=qch ht
       refine qb1 (fu,(qd d' [59]).1,[] ++ [n]) [0,1,2] ⟨⟨hta,by simp only;omega,i3,by simp only;omega,by simp only [hlen];omega⟩,by simp only;omega⟩ rfl (by simp) ?_ ?_ ?_
       all_goals simp only [qwn,qbl (q8 hne3),qbk (q8 hne3),q9,hlen,← qh]
       all_goals (refine ev_ ?_;(try with_reducible exact ti_))
       all_goals first | (rw [qh];exact qr _ _) | exact ⟨rfl,rfl⟩ | rfl | (rw [qh,qr,q6];exact ⟨rfl,rfl⟩)
     ·have hne:=q8 h0
      simp only [qbk hne,qbl hne,q9]
      repeat' (first | refine vs_ ?_ | ((first | refine vr_ ?_ | refine qsn hclo ?_ | (refine cs_ ?_ ?_<;>intro hc) | refine cj_ ?_ | fail)<;>(try refine ev_ ?_)) | with_reducible exact ti_)
      refine qbca (af':=⟨[(0,.ptr 0 0),(1,.fn g [] [.ptr 1 0]),(6,.row 2 (acc.length + 1))],[]⟩) (H':=[curE d',.blk [.ptr 0 0],.app 5 (encs (acc ++ [n]))]) ?_ (qbek [0,1,4] rfl (by simp) ?_ ?_ ?_)
      rotate_left
      all_goals (try simp only [← qh,List.nil_append,encs,List.length_nil])
      all_goals (try (refine ev_ ?_;(try with_reducible exact ti_)))
      all_goals (try (rw [qh,qr,q6];exact ⟨rfl,rfl⟩))
      subst h9
      have hta:(qd d' [59]).1.good:=(qn _ _).1 j1
      have htr:=(qn d' [59]).2.1
      have hne3:¬ acc ++ [n] = []:=by simp
      have hlen:(acc ++ [n]).length = acc.length + 1:=by simp
      repeat' (first | refine vs_ ?_ | ((first | refine vr_ ?_ | refine qdt j1.ok ?_ | refine a_Is ?_ | refine qb5 hta.ok ?_ | (refine cs_ ?_ ?_<;>intro hc) | refine cj_ ?_ | fail)<;>(try refine ev_ ?_)) | with_reducible exact ti_)
      ·have ht:(qd d' [59]).2 = false:=by assumption
       rw [ht,Bool.false_and,if_neg (by simp)] at i3
       subst i3
       obtain rfl:=hk2 (by simp)
       simp only [qbl (q8 hne3),qbk (q8 hne3),q9,hlen,← qh]
       (refine ev_ ?_;(try with_reducible exact ti_))
       all_goals first | (rw [qh];exact qr _ _) | exact ⟨rfl,rfl⟩ | rfl | (rw [qh,qr,q6];exact ⟨rfl,rfl⟩)
      ·have ht:(qd d' [59]).2 = true:=by assumption
       have hi:isK (qd d' [59]).1 [125] = true:=by assumption
       rw [ht,hi,Bool.true_and,Bool.not_true,if_neg (by simp)] at i3
       subst i3
       obtain rfl:=hk2 (by simp)
       simp only [qbl (q8 hne3),qbk (q8 hne3),q9,hlen,← qh]
       (refine ev_ ?_;(try with_reducible exact ti_))
       all_goals first | (rw [qh];exact qr _ _) | exact ⟨rfl,rfl⟩ | rfl | (rw [qh,qr,q6];exact ⟨rfl,rfl⟩)
      ·have ht:(qd d' [59]).2 = true:=by assumption
       have hi:isK (qd d' [59]).1 [125] = false:=by assumption
       rw [ht,hi,Bool.true_and,Bool.not_false,if_pos rfl] at i3
       have htl:=qch ht
       refine qb1 (fu,(qd d' [59]).1,acc ++ [n]) [0,1,2] ⟨⟨hta,by simp only;omega,i3,by simp only;omega,by simp only [hlen];omega⟩,by simp only;omega⟩ rfl (by simp) ?_ ?_ ?_
       all_goals simp only [qwn,qbl (q8 hne3),qbk (q8 hne3),q9,hlen,← qh]
       all_goals (refine ev_ ?_;(try with_reducible exact ti_))
       all_goals first | (rw [qh];exact qr _ _) | exact ⟨rfl,rfl⟩ | rfl | (rw [qh,qr,q6];exact ⟨rfl,rfl⟩)
 ·have hpa:qv rd c = ((qc c [123]).1,[],false):=by rw [qv,if_neg hw]
  rw [hpa] at hk1 hk2 ⊢
  obtain rfl:=hk1 rfl
  repeat' (first | refine vs_ ?_ | ((first | refine vr_ ?_ | fail)<;>(try simp only [hw,go_sem,↓reduceIte])) | ((first | (refine cs_ ?_ ?_<;>intro hc) | refine cj_ ?_ | fail | refine qb5 hg.ok ?_)<;>(try refine ev_ ?_)) | with_reducible exact ti_)
  exact ⟨rfl,rfl⟩
set_option maxRecDepth 4000

theorem qmv {rd:K->R3} (hd:∀ c,Mon c (rd c).1) (hl:∀ c,(rd c).2.2 = true->rest (rd c).1 < rest c):∀ (f:Nat) (c:K) (acc:List N),(qbh rd f c acc).2.1.length≤acc.length + rest c
 | 0,c,acc=>by simp [qbh]
 | f + 1, c, acc => by
   rw [qbh]
   split
   ·rename_i h
    have h1:=hl c h
    split
    ·have h2:=qmv hd hl f (qd (rd c).1 [59]).1 (acc ++ [(rd c).2.1])
     have h3:=(qn (rd c).1 [59]).2.1
     simp only [List.length_append,List.length_cons,List.length_nil] at h2
     omega
    ·simp only [List.length_append,List.length_cons,List.length_nil];omega
   ·simp
theorem qpc {rd:K->R3} (hd:∀ c,Mon c (rd c).1) (hl:∀ c,(rd c).2.2 = true->rest (rd c).1 < rest c) (c:K):(qv rd c).2.1.length≤rest c:=by
 unfold qv
 split
 ·have h1:=qmv hd hl (rest (qc c [123]).1 + 1) (qc c [123]).1 []
  have h2:=(qe c [123]).2.1
  simp only [List.length_nil] at h1
  omega
 ·simp
theorem qpk {rd:K->R3}:∀ (f:Nat) (c:K) (acc:List N),(qbh rd f c acc).2.2 = true->(qbh rd f c acc).2.1≠[]
 | 0,c,acc=>fun h=>by cases h
 | f + 1, c, acc => fun h => by
   rw [qbh] at h ⊢
   split at h
   ·rename_i h1
    rw [if_pos h1]
    split at h
    ·rename_i h2
     rw [if_pos h2]
     exact qpk f _ _ h
    ·rename_i h2
     rw [if_neg h2]
     simp
   ·cases h
theorem q2o {rd:K->R3} {c:K} (h:(qv rd c).2.2 = true):(qv rd c).2.1≠[]:=by
 unfold qv at h ⊢
 split at h
 ·rename_i h1
  rw [if_pos h1]
  exact qpk _ _ _ h
 ·cases h
theorem qvq {rd:K->R3} {g:FuncId} {c:K} (h:qn6 rd g c) (h0:(qv rd c).2.1 = []) {L:List Ent} {Q:List Ent->VO->Prop} (hq:Q (curE (qv rd c).1 :: .blk [.ptr 0 0] :: L) (.val (.tup [.nils,.bool (qv rd c).2.2]))) :
 VApp Try.prog (curE c :: .blk [.ptr 0 0] :: L) (.fn 88 [] []) [.ptr 0 0,.fn g [] [.ptr 1 0]] Q :=
 qb0 (first:=[]) (caps:=[]) (by
  simp only [List.nil_append,List.append_nil]
  refine qcy (H0:=[curE c,.blk [.ptr 0 0]]) (L:=L) h (qjr c) rfl ?_
  rintro H1 o ⟨rfl,rfl⟩
  rw [h0]
  exact ⟨rfl,qjr _,rfl,hq⟩)
theorem qus {rd:K->R3} {g:FuncId} {c:K} (h:qn6 rd g c) (h0:(qv rd c).2.1≠[]) {L:List Ent} {Q:List Ent->VO->Prop}
 (hq:Q (curE (qv rd c).1 :: .blk [.ptr 0 0] :: (L ++ [.app 5 (encs (qv rd c).2.1)])) (.val (.tup [.row (L.length + 2) (qv rd c).2.1.length,.bool (qv rd c).2.2]))) :
 VApp Try.prog (curE c :: .blk [.ptr 0 0] :: L) (.fn 88 [] []) [.ptr 0 0,.fn g [] [.ptr 1 0]] Q :=
 qb0 (first:=[]) (caps:=[]) (by
  simp only [List.nil_append,List.append_nil]
  have hne:=q8 h0
  have hs:AV.rens (sg [0,1]) [.ptr 0 0,.fn g [] [.ptr 1 0]] = [.ptr 0 0,.fn g [] [.ptr 1 0]]:=rfl
  rw [← hs]
  have ha:AV.bds 2 [.ptr 0 0,.fn g [] [.ptr 1 0]] = true:=rfl
  have napp_ren:∀ σ:Nat->Nat,(Ent.app 5 (encs (qv rd c).2.1)).ren σ = .app 5 (encs (qv rd c).2.1):=fun σ=>Ent.ren_same (m:=0) (fun i hi=>by omega) _ (by simp [Ent.bd,qr])
  have hp:∀ σ:Nat->Nat,σ 0 = 0->(Ent.blk [.ptr 0 0]).ren σ = .blk [.ptr 0 0]:=fun σ h=>by simp [Ent.ren,AV.rens,AV.ren,h]
  refine qf7 (H0:=[curE c,.blk [.ptr 0 0]]) [0,1] h (by simp) (by simp) rfl ?_ ha ?_
  ·intro j e2 hj
   have hj2:j < 2:=by have:=(List.getElem?_eq_some_iff.1 hj).1;simpa using this
   have:j = 0∨j = 1:=by omega
   rcases this with rfl | rfl
   ·simp only [List.getElem?_cons_zero,Option.some.injEq] at hj
    subst hj
    exact .inr ⟨qu _ _,by rw [qcq];rfl⟩
   ·simp only [List.getElem?_cons_succ,List.getElem?_cons_zero,Option.some.injEq] at hj
    subst hj
    exact .inr ⟨rfl,rfl⟩
  rintro H1 o ⟨rfl,rfl⟩
  have hq2:(Ent.blk [.ptr 0 0]).ren (sg' [0,1] (L.length + 1 + 1)) = .blk [.ptr 0 0]:=hp _ rfl
  simp only [qbl hne,qbk hne,q9,List.length_cons,List.length_nil,List.take_succ_cons,List.take_zero,List.map_nil,qbo,List.drop_zero,List.drop_succ_cons,List.map_cons,qcq,napp_ren,hq2,VO.ren,AV.ren,AV.rens,List.set_cons_zero,List.set_cons_succ]
  exact hq)
def posZ (p:Int):AV:=.agg [.int .i64 0,.int .i64 p,.int .i64 0,.str [],.nils]
theorem qh1 (p:Int):AV.agg [.int .i64 0,.int .i64 p,.int .i64 0,.str [],.sl 5 []] = enc (posN p):=by simp only [posN,enc,encs]
theorem qyj (p e:N):AV.agg [.int .i64 15,.int .i64 p.pos,.int .i64 0,.str [],.sl 5 [enc p,enc e]] = enc (altN p e):=by simp only [altN,enc,encs]
section
variable {rec:K->K×Option N} {b:Nat} (ih:∀ c,c.good->rest c < b->qb2 Try.prog 66 (curE c) (curE (rec c).1) [.ptr 0 0] (resP (rec c).2))
include ih
theorem qbc9 (c:K) (hg:c.good) (hr:rest c≤b):VClo 89 c (ofO (qbn rec c)).1 (ofO (qbn rec c)).2:=by
 refine ql c0g 2 (by simp) (by simp) ?_
 repeat' (first | refine vs_ ?_ | ((first | refine vr_ ?_ | refine qce (qr5 ih c hg hr) rfl ?_ | (refine cs_ ?_ ?_<;>intro hc) | refine cj_ ?_ | fail)<;>(try refine ev_ ?_)) | with_reducible exact ti_)
 exact ⟨rfl,rfl⟩
theorem q2d (c:K) (hg:c.good) (hr:rest c≤b):VClo 90 c (qdv rec c).1 (qdv rec c).2:=by
 have hp:=qbgk (rest c + 2) c hg (by omega)
 have g1:(qbz (rest c + 2) c).1.good:=(qep _ c).1 hg
 have hr1:rest (qbz (rest c + 2) c).1≤b:=by have:=(qep (rest c + 2) c).2.1;omega
 refine ql c0h 2 (by simp) (by simp) ?_
 unfold qdv
 generalize qbz (rest c + 2) c = r at *
 obtain ⟨d,o⟩:=r
 simp only at hp g1 hr1 ⊢
 have g2:(qc d [45,62]).1.good:=(qe _ _).1 g1
 have hlt:(qc d [45,62]).2 = true->rest (qc d [45,62]).1 < b:=fun h=>by have:=qgp h;omega
 unfold altB altC
 cases o with
 | none =>
   repeat' (first | refine vs_ ?_ | ((first | refine vr_ ?_ | fail)<;>(try simp (disch:=first | omega | (simp only [List.length_set,List.length_append,List.length_cons,List.length_nil];done) | (simp only [List.length_set,List.length_append,List.length_cons,List.length_nil];omega)) only [Option.isSome_none,Option.getD_none,go_sem,↓reduceIte])) | ((first | (refine cs_ ?_ ?_<;>intro hc) | refine cj_ ?_ | fail | refine qce hp rfl ?_)<;>(try refine ev_ ?_)) | with_reducible exact ti_)
   all_goals (try rfl)
 | some p =>
   by_cases hw:(qc d [45,62]).2 = true
   ·have hr:=ih _ g2 (hlt hw)
    repeat' (first | refine vs_ ?_ | ((first | refine vr_ ?_ | fail)<;>(try simp (disch:=first | omega | (simp only [List.length_set,List.length_append,List.length_cons,List.length_nil];done) | (simp only [List.length_set,List.length_append,List.length_cons,List.length_nil];omega)) only [hw,Option.isSome_some,Option.getD_some,go_sem,↓reduceIte])) | ((first | (refine cs_ ?_ ?_<;>intro hc) | refine cj_ ?_ | fail | refine qce hp rfl ?_ | refine qb5 g1.ok ?_ | refine qce hr rfl ?_)<;>(try refine ev_ ?_)) | with_reducible exact ti_)
    all_goals first | (rw [qyj];done) | (rw [qyj];rfl) | (rw [qyj];exact ⟨rfl,rfl⟩)
   ·repeat' (first | refine vs_ ?_ | ((first | refine vr_ ?_ | fail)<;>(try simp (disch:=first | omega | (simp only [List.length_set,List.length_append,List.length_cons,List.length_nil];done) | (simp only [List.length_set,List.length_append,List.length_cons,List.length_nil];omega)) only [hw,Option.isSome_some,Option.getD_some,go_sem,↓reduceIte])) | ((first | (refine cs_ ?_ ?_<;>intro hc) | refine cj_ ?_ | fail | refine qce hp rfl ?_ | refine qb5 g1.ok ?_)<;>(try refine ev_ ?_)) | with_reducible exact ti_)
    all_goals (try rfl)
end
set_option maxRecDepth 4000

theorem qbtt (p:Int) (l:List N) (k:N):AV.agg [.int .i64 26,.int .i64 p,.int .i64 0,.str [],.sl 5 (encs l ++ [enc k])] = enc (.mk 26 p 0 [] (l ++ [k])):=by simp only [enc,qh]
section
variable {rec:K->K×Option N} {b:Nat} (hm:∀ c,Mon c (rec c).1) (ih:∀ c,c.good->rest c < b->qb2 Try.prog 66 (curE c) (curE (rec c).1) [.ptr 0 0] (resP (rec c).2))
include hm ih
theorem qbrc (p:Int) (c:K) (hg:c.good) (hr:rest c≤b):qb2 Try.prog 82 (curE c) (curE (qfv rec p c).1) [.ptr 0 0,posZ p] (resB (qfv rec p c).2):=by
 have hd:∀ c,Mon c (ofO (qbn rec c)).1:=fun c=>qgq hm c
 have hl:∀ c,(ofO (qbn rec c)).2.2 = true->rest (ofO (qbn rec c)).1 < rest c:=fun c h=>qjc hm h
 have hS:=qzl (g:=89) hd hl (fun c g r=>qbc9 ih c g r) c hg hr
 have hlen:=qpc hd hl c
 have hne:=@q2o (fun c=>ofO (qbn rec c)) c
 have g1:(qv (fun c=>ofO (qbn rec c)) c).1.good:=(qga hd c).1 hg
 have hr1:rest (qv (fun c=>ofO (qbn rec c)) c).1≤b:=by have:=(qga hd c).2.1;omega
 have happ0:=@qvq _ _ _ hS
 have happ1:=@qus _ _ _ hS
 have hgr:=hg.rest
 clear hS hd hl
 refine ql c0c 1 (by simp) (by simp [posZ]) ?_
 unfold qfv posZ
 generalize qv (fun c=>ofO (qbn rec c)) c = L at *
 obtain ⟨d,l,ok⟩:=L
 simp only at hlen hne g1 hr1 happ0 happ1
 have g2:(qc d [105,110]).1.good:=(qe _ _).1 g1
 have hlt:(qc d [105,110]).2 = true->rest (qc d [105,110]).1 < b:=fun h=>by have:=qgp h;omega
 have hcap:qeb (l.length + 1) 64:=capN (by unfold rest at hlen;omega)
 unfold letB letC
 by_cases h0:l = []
 ·subst h0
  have ok0:ok = false:=by cases ok with | false=>rfl | true=>exact absurd rfl (hne rfl)
  subst ok0
  repeat' (first | refine vs_ ?_ | ((first | refine vr_ ?_ | refine happ0 rfl ?_ | (refine cs_ ?_ ?_<;>intro hc) | refine cj_ ?_ | fail)<;>(try refine ev_ ?_)) | with_reducible exact ti_)
  all_goals (try rw [qh1])
  all_goals (try exact ⟨rfl,rfl⟩)
 ·cases ok with
  | false =>
    repeat' (first | refine vs_ ?_ | ((first | refine vr_ ?_ | refine happ1 h0 ?_ | (refine cs_ ?_ ?_<;>intro hc) | refine cj_ ?_ | fail)<;>(try refine ev_ ?_)) | with_reducible exact ti_)
    all_goals (try rw [qh1])
    all_goals (try exact ⟨rfl,rfl⟩)
  | true =>
    by_cases hw:(qc d [105,110]).2 = true
    ·have hr:=ih _ g2 (hlt hw)
     repeat' (first | refine vs_ ?_ | ((first | refine vr_ ?_ | fail)<;>(try simp only [hw,go_sem,↓reduceIte])) | ((first | (refine cs_ ?_ ?_<;>intro hc) | refine cj_ ?_ | fail | refine happ1 h0 ?_ | refine qb5 g1.ok ?_ | refine qce hr rfl ?_)<;>(try refine ev_ ?_)) | with_reducible exact ti_)
     all_goals (try rw [qbtt])
     all_goals exact ⟨by rw [qh,qr],rfl⟩
    ·repeat' (first | refine vs_ ?_ | ((first | refine vr_ ?_ | fail)<;>(try simp only [hw,go_sem,↓reduceIte])) | ((first | (refine cs_ ?_ ?_<;>intro hc) | refine cj_ ?_ | fail | refine happ1 h0 ?_ | refine qb5 g1.ok ?_)<;>(try refine ev_ ?_)) | with_reducible exact ti_)
     all_goals (try rw [qh1])
     all_goals (try exact ⟨rfl,rfl⟩)
theorem q84 (p:Int) (c:K) (hg:c.good) (hr:rest c < b):qb2 Try.prog 83 (curE c) (curE (qd7 rec p c).1) [.ptr 0 0,posZ p] (resB (qd7 rec p c).2):=by
 have hd:∀ c,Mon c (qdv rec c).1:=fun c=>qma hm c
 have hl:∀ c,(qdv rec c).2.2 = true->rest (qdv rec c).1 < rest c:=fun c h=>qpa hm h
 have hx:=ih c hg hr
 have g1:(rec c).1.good:=(hm c).1 hg
 have hr1:=(hm c).2.1
 refine ql c0d 1 (by simp) (by simp [posZ]) ?_
 unfold qd7 posZ
 generalize rec c = r0 at *
 obtain ⟨d0,o⟩:=r0
 simp only at g1 hr1 hx ⊢
 have g2:(qc d0 [111,102]).1.good:=(qe _ _).1 g1
 have hr2:rest (qc d0 [111,102]).1≤b:=by have:=(qe d0 [111,102]).2.1;omega
 have hS:=qzl (g:=90) hd hl (fun c g r=>q2d ih c g r) (qc d0 [111,102]).1 g2 hr2
 have hlen:=qpc hd hl (qc d0 [111,102]).1
 have happ0:=@qvq _ _ _ hS
 have happ1:=@qus _ _ _ hS
 have hgr:=g2.rest
 clear hS hd hl
 unfold qts qxb
 cases o with
 | none =>
   repeat' (first | refine vs_ ?_ | ((first | refine vr_ ?_ | fail)<;>(try simp (disch:=first | omega | (simp only [List.length_set,List.length_append,List.length_cons,List.length_nil];done) | (simp only [List.length_set,List.length_append,List.length_cons,List.length_nil];omega)) only [Option.isSome_none,Option.getD_none,go_sem,↓reduceIte])) | ((first | (refine cs_ ?_ ?_<;>intro hc) | refine cj_ ?_ | fail | refine qce hx rfl ?_)<;>(try refine ev_ ?_)) | with_reducible exact ti_)
   all_goals (try rw [qh1])
   all_goals (try exact ⟨rfl,rfl⟩)
 | some x =>
   by_cases hw:(qc d0 [111,102]).2 = true
   ·generalize qv (qdv rec) (qc d0 [111,102]).1 = L at *
    obtain ⟨d,l,ok⟩:=L
    simp only at hlen happ0 happ1 ⊢
    have hcap:qeb (1 + l.length) 64:=capN (by unfold rest at hlen;omega)
    by_cases h0:l = []
    ·subst h0
     repeat' (first | refine vs_ ?_ | ((first | refine vr_ ?_ | fail)<;>(try simp (disch:=first | omega | (simp only [List.length_set,List.length_append,List.length_cons,List.length_nil];done) | (simp only [List.length_set,List.length_append,List.length_cons,List.length_nil];omega)) only [hw,Option.isSome_some,Option.getD_some,go_sem,↓reduceIte])) | ((first | (refine cs_ ?_ ?_<;>intro hc) | refine cj_ ?_ | fail | refine qce hx rfl ?_ | refine qb5 g1.ok ?_ | refine happ0 rfl ?_)<;>(try refine ev_ ?_)) | with_reducible exact ti_)
     all_goals (try simp only [enc,encs])
    ·have hnl:¬ l.length = 0:=fun h=>h0 (List.length_eq_zero_iff.1 h)
     repeat' (first | refine vs_ ?_ | ((first | refine vr_ ?_ | fail)<;>(try simp (disch:=first | omega | (simp only [List.length_set,List.length_append,List.length_cons,List.length_nil];done) | (simp only [List.length_set,List.length_append,List.length_cons,List.length_nil];omega)) only [hw,hnl,hcap,Option.isSome_some,Option.getD_some,go_sem,↓reduceIte])) | ((first | (refine cs_ ?_ ?_<;>intro hc) | refine cj_ ?_ | fail | refine qce hx rfl ?_ | refine qb5 g1.ok ?_ | refine happ1 h0 ?_)<;>(try refine ev_ ?_)) | with_reducible exact ti_)
     have hcm:l.length + 1 = 1 + l.length:=Nat.add_comm _ _
     simp only [hcm,if_true,enc,encs,AV.bd,AV.bds,qmt,qr,Bool.and_true,and_self]
   ·repeat' (first | refine vs_ ?_ | ((first | refine vr_ ?_ | fail)<;>(try simp (disch:=first | omega | (simp only [List.length_set,List.length_append,List.length_cons,List.length_nil];done) | (simp only [List.length_set,List.length_append,List.length_cons,List.length_nil];omega)) only [hw,Option.isSome_some,Option.getD_some,go_sem,↓reduceIte])) | ((first | (refine cs_ ?_ ?_<;>intro hc) | refine cj_ ?_ | fail | refine qce hx rfl ?_ | refine qb5 g1.ok ?_)<;>(try refine ev_ ?_)) | with_reducible exact ti_)
    all_goals (try rw [qh1])
    all_goals (try exact ⟨rfl,rfl⟩)
def q5m (p:Int) (x:Nat×K×List N):AF×List Ent :=
 (⟨[(0, .ptr 0 0), (3, .ptr 1 0), (4, .ptr 2 0), (11, .agg (ifsW.map AV.str)), (12, .int .i64 x.1)], []⟩,
   curE x.2.1 :: .blk [.int .i64 28,.int .i64 p,.int .i64 0,.str [],accV 3 (encs x.2.2)] :: .blk [.int .i64 0,.int .i64 0,.int .i64 0,.str [],.nils] :: accE 5 (encs x.2.2))
theorem qbtq (p:Int) (c:K) (hg:c.good) (hr:rest c < b):qb2 Try.prog 84 (curE c) (curE (qc7 rec p ifsW c []).1) [.ptr 0 0,posZ p] (resB (qc7 rec p ifsW c []).2):=by
 refine ql c0e 1 (by simp) (by simp [posZ]) ?_
 unfold posZ
 generalize htg:qc7 rec p ifsW c [] = tg
 have hW:AV.agg (ifsW.map AV.str) = .agg [.str [],.str [116,104,101,110],.str [101,108,115,101]]:=rfl
 repeat' (first | refine vs_ ?_ | ((first | refine vr_ ?_ | (refine cs_ ?_ ?_<;>intro hc) | refine cj_ ?_ | simp (disch:=omega) only [qk,qbb])<;>(try refine ev_ ?_)) | with_reducible exact ti_)
 refine qct (S:=Nat×K×List N) (fun x=>x.1≤3∧x.2.1.good∧rest x.2.1 < b∧qc7 rec p (ifsW.drop x.1) x.2.1 x.2.2 = tg∧x.2.2.length = x.1)
  (q5m p) (fun x=>3 - x.1) ?_ ?_
 ·refine qb1 (0,c,[]) [0,1,2] ⟨by simp,hg,hr,htg,rfl⟩ rfl (by simp) ?_ ?_ ?_
  all_goals simp only [q5m,hW,encs,qbf,qbi]
  all_goals (refine ev_ ?_;(try with_reducible exact ti_))
 ·rintro ⟨i,d,acc⟩ ⟨i1,i2,i3,i4,i5⟩
  simp only at i1 i2 i3 i4 i5
  unfold q5m
  by_cases hlt:i < 3
  ·have hil:(i:Int) < 3:=by omega
   have hd:=qqm (ls:=ifsW) (i:=i) (by simpa [ifsW] using hlt)
   rw [hd,qc7] at i4
   have hw0:ifsW.getD i [] = [] ↔ i = 0:=by
    have:i = 0∨i = 1∨i = 2:=by omega
    rcases this with rfl | rfl | rfl<;>simp [ifsW]
   have hln:(ifsW.map AV.str).length = 3:=rfl
   have hln2:i < ifsW.length:=hlt
   have hget:(ifsW.map AV.str).getD i .junk = .str (ifsW.getD i []):=qwh hln2
   clear hd
   generalize ifsW.getD i [] = w at *
   have hab:∀ k,AV.bds k (ifsW.map AV.str) = true:=fun k=>qtu k _
   have har:∀ σ:Nat->Nat,AV.rens σ (ifsW.map AV.str) = ifsW.map AV.str:=fun σ=>q0p σ _
   generalize hW2:ifsW.map AV.str = aw at *
   by_cases h0:i = 0
   ·subst h0
    have hw:w = []:=hw0.2 rfl
    have ha:acc = []:=List.length_eq_zero_iff.1 i5
    subst hw ha
    have hx:=ih d i2 i3
    have g1:(rec d).1.good:=(hm d).1 i2
    have hr1:=(hm d).2.1
    rw [ifsK,if_pos rfl] at i4
    simp only [if_true] at i4
    generalize rec d = r at *
    obtain ⟨d',o⟩:=r
    simp only at g1 hr1 hx i4
    have hcap:qeb 1 64:=capN (by omega)
    simp only [encs,qbf,qbi]
    cases o with
    | none =>
      rw [if_neg (by simp)] at i4
      subst i4
      repeat' (first | refine vs_ ?_ | ((first | refine vr_ ?_ | fail)<;>(try simp (disch:=first | omega | (simp only [List.length_set,List.length_append,List.length_cons,List.length_nil];done) | (simp only [List.length_set,List.length_append,List.length_cons,List.length_nil];omega)) only [hil,hget,hln,ne_eq,not_true_eq_false,not_false_eq_true,decide_true,decide_false,Option.isSome_none,Option.isSome_some,Option.getD_none,Option.getD_some,go_sem,↓reduceIte])) | ((first | (refine cs_ ?_ ?_<;>intro hc) | refine cj_ ?_ | simp (disch:=omega) only [qk,qbb] | refine qce hx rfl ?_)<;>(try refine ev_ ?_)) | with_reducible exact ti_)
      all_goals first | (simp only [enc,encs];done) | (exfalso;omega)
    | some n =>
      rw [if_pos (by rfl)] at i4
      repeat' (first | refine vs_ ?_ | ((first | refine vr_ ?_ | fail)<;>(try simp (disch:=first | omega | (simp only [List.length_set,List.length_append,List.length_cons,List.length_nil];done) | (simp only [List.length_set,List.length_append,List.length_cons,List.length_nil];omega)) only [hil,hget,hln,ne_eq,not_true_eq_false,not_false_eq_true,decide_true,decide_false,Option.isSome_none,Option.isSome_some,Option.getD_none,Option.getD_some,go_sem,↓reduceIte])) | ((first | (refine cs_ ?_ ?_<;>intro hc) | refine cj_ ?_ | simp (disch:=omega) only [qk,qbb] | refine qce hx rfl ?_)<;>(try refine ev_ ?_)) | with_reducible exact ti_)
      ·refine qb1 (1,d',[n]) [0,1,2,4] ⟨⟨by simp,g1,by simp only;omega,by simpa using i4,rfl⟩,by simp⟩ rfl (by simp) ?_ ?_ ?_
       all_goals simp only [q5m,hW2,encs,qgx,qgu]
       all_goals (refine ev_ ?_;(try with_reducible exact ti_))
       all_goals (try simp only [hab,har,show IntKind.i64.wrap (0 + 1) = ((1:Nat):Int) by rfl,and_self,true_and])
       all_goals (try rfl)
      ·exfalso;omega
   ·have hwn:(w = []) = False:=eq_false (fun h=>h0 (hw0.1 h))
    have ha:acc≠[]:=fun h=>h0 (by rw [← i5,h];rfl)
    have hne:=q8 ha
    have hik:ifsK d w = qc d w:=by rw [ifsK,if_neg (fun h=>h0 (hw0.1 h))]
    rw [hik] at i4
    have g1:(qc d w).1.good:=(qe d w).1 i2
    have hr1:=(qe d w).2.1
    have hx:=ih (qc d w).1 g1 (by omega)
    have g2:(rec (qc d w).1).1.good:=(hm _).1 g1
    have hr2:=(hm (qc d w).1).2.1
    have hcap:qeb (acc.length + 1) 64:=capN (by omega)
    simp only [qbk hne,qbl hne,q9]
    by_cases hwt:(qc d w).2 = true
    ·rw [if_pos hwt] at i4
     generalize rec (qc d w).1 = r at *
     obtain ⟨d',o⟩:=r
     simp only at g2 hr2 hx i4
     cases o with
     | none =>
       rw [if_neg (by simp)] at i4
       subst i4
       repeat' (first | refine vs_ ?_ | ((first | refine vr_ ?_ | fail)<;>(try simp (disch:=first | omega | (simp only [List.length_set,List.length_append,List.length_cons,List.length_nil];done) | (simp only [List.length_set,List.length_append,List.length_cons,List.length_nil];omega)) only [hil,hwn,Nat.mul_one,hget,hln,ne_eq,not_true_eq_false,not_false_eq_true,decide_true,decide_false,Option.isSome_none,Option.isSome_some,Option.getD_none,Option.getD_some,hwt,go_sem,↓reduceIte])) | ((first | (refine cs_ ?_ ?_<;>intro hc) | refine cj_ ?_ | simp (disch:=omega) only [qk,qbb] | refine qce hx rfl ?_ | refine qb5 i2.ok ?_)<;>(try refine ev_ ?_)) | with_reducible exact ti_)
       all_goals (simp only [enc,encs])
     | some n =>
       rw [if_pos (by rfl)] at i4
       repeat' (first | refine vs_ ?_ | ((first | refine vr_ ?_ | fail)<;>(try simp (disch:=first | omega | (simp only [List.length_set,List.length_append,List.length_cons,List.length_nil];done) | (simp only [List.length_set,List.length_append,List.length_cons,List.length_nil];omega)) only [hil,hwn,Nat.mul_one,hget,hln,ne_eq,not_true_eq_false,not_false_eq_true,decide_true,decide_false,Option.isSome_none,Option.isSome_some,Option.getD_none,Option.getD_some,hwt,go_sem,↓reduceIte])) | ((first | (refine cs_ ?_ ?_<;>intro hc) | refine cj_ ?_ | simp (disch:=omega) only [qk,qbb] | refine qce hx rfl ?_ | refine qb5 i2.ok ?_)<;>(try refine ev_ ?_)) | with_reducible exact ti_)
       refine qb1 (i + 1,d',acc ++ [n]) [0,1,2,5] ⟨⟨by simp only;omega,g2,by simp only;omega,by simpa using i4,by simp [i5]⟩,by simp only;omega⟩ rfl (by simp) ?_ ?_ ?_
       all_goals simp only [q5m,hW2,← qh,qfj,qfn]
       all_goals (refine ev_ ?_;(try with_reducible exact ti_))
       all_goals (try simp only [hab,har,and_self,true_and])
       all_goals (try (rw [qh,qr,q6];exact ⟨rfl,rfl⟩))
       all_goals (try (rw [qbb (by unfold maxLen;omega)]))
    ·rw [if_neg hwt] at i4
     subst i4
     repeat' (first | refine vs_ ?_ | ((first | refine vr_ ?_ | fail)<;>(try simp (disch:=first | omega | (simp only [List.length_set,List.length_append,List.length_cons,List.length_nil];done) | (simp only [List.length_set,List.length_append,List.length_cons,List.length_nil];omega)) only [hil,hwn,Nat.mul_one,hget,hln,ne_eq,not_true_eq_false,not_false_eq_true,decide_true,decide_false,Option.isSome_none,Option.isSome_some,Option.getD_none,Option.getD_some,hwt,go_sem,↓reduceIte])) | ((first | (refine cs_ ?_ ?_<;>intro hc) | refine cj_ ?_ | simp (disch:=omega) only [qk,qbb] | refine qb5 i2.ok ?_)<;>(try refine ev_ ?_)) | with_reducible exact ti_)
     all_goals (simp only [enc,encs])
  ·obtain rfl:i = 3:=by omega
   have hil:¬ (3:Int) < 3:=by omega
   have ha:acc≠[]:=fun h=>by rw [h] at i5;cases i5
   have hne:=q8 ha
   rw [show ifsW.drop 3 = [] from rfl,qc7] at i4
   subst i4
   simp only [qbk hne,qbl hne,q9]
   repeat' (first | refine vs_ ?_ | ((first | refine vr_ ?_ | fail)<;>(try simp only [hil,go_sem,↓reduceIte])) | ((first | (refine cs_ ?_ ?_<;>intro hc) | refine cj_ ?_ | simp (disch:=omega) only [qk,qbb])<;>(try refine ev_ ?_)) | with_reducible exact ti_)
   all_goals first | (simp only [enc,encs];done) | (exfalso;omega) | skip
theorem qbdt (c:K) (hg:c.good) (hr:rest c≤b):qb2 Try.prog 77 (curE c) (curE (qcz rec c).1) [.ptr 0 0] (resB (qcz rec c).2):=by
 have g1:(qd c [92]).1.good:=(qn _ _).1 hg
 have g2:(qd c [108,101,116]).1.good:=(qn _ _).1 hg
 have g3:(qd c [99,97,115,101]).1.good:=(qn _ _).1 hg
 have g4:(qd c [105,102]).1.good:=(qn _ _).1 hg
 refine ql c0f 1 (by simp) (by simp) ?_
 unfold qcz
 by_cases t1:(qd c [92]).2 = true
 ·rw [if_pos t1]
  have l1:=qch t1
  by_cases hk:(qi (qd c [92]).1).kind = 1
  ·rw [if_pos hk]
   have hl:=qsq ih [45,62] (rest (qd c [92]).1 + 1) _ g1 (by omega) (Nat.lt_succ_self _)
   repeat' (first | refine vs_ ?_ | ((first | refine vrr_ ?_ | fail)<;>(try simp only [t1,hk,ne_eq,not_true_eq_false,decide_false,go_sem,↓reduceIte])) | ((first | (refine cs_ ?_ ?_<;>intro hc) | refine cj_ ?_ | fail | refine qbv ?_ | refine qdt hg.ok ?_ | refine qkb hl rfl ?_)<;>(try refine ev_ ?_)) | with_reducible exact ti_)
  ·rw [if_neg hk]
   repeat' (first | refine vs_ ?_ | ((first | refine vrr_ ?_ | fail)<;>(try simp only [t1,hk,ne_eq,not_false_eq_true,decide_true,go_sem,↓reduceIte])) | ((first | (refine cs_ ?_ ?_<;>intro hc) | refine cj_ ?_ | fail | refine qbv ?_ | refine qdt hg.ok ?_ | refine qfh ?_)<;>(try refine ev_ ?_)) | with_reducible exact ti_)
   rw [qh1]
 ·have t1f:(qd c [92]).2 = false:=by simpa using t1
  have e1:=qc2 t1f
  rw [if_neg t1]
  by_cases t2:(qd c [108,101,116]).2 = true
  ·rw [if_pos t2]
   have l2:=qch t2
   have hl:=qbrc hm ih (qi c).pos _ g2 (by omega)
   unfold posZ at hl
   repeat' (first | refine vs_ ?_ | ((first | refine vrr_ ?_ | fail)<;>(try simp only [t1f,e1,t2,go_sem,↓reduceIte])) | ((first | (refine cs_ ?_ ?_<;>intro hc) | refine cj_ ?_ | fail | refine qbv ?_ | refine qdt hg.ok ?_ | refine qkb hl rfl ?_)<;>(try refine ev_ ?_)) | with_reducible exact ti_)
  ·have t2f:(qd c [108,101,116]).2 = false:=by simpa using t2
   have e2:=qc2 t2f
   rw [if_neg t2]
   by_cases t3:(qd c [99,97,115,101]).2 = true
   ·rw [if_pos t3]
    have l2:=qch t3
    have hl:=q84 hm ih (qi c).pos _ g3 (by omega)
    unfold posZ at hl
    repeat' (first | refine vs_ ?_ | ((first | refine vrr_ ?_ | fail)<;>(try simp only [t1f,e1,t2f,e2,t3,go_sem,↓reduceIte])) | ((first | (refine cs_ ?_ ?_<;>intro hc) | refine cj_ ?_ | fail | refine qbv ?_ | refine qdt hg.ok ?_ | refine qkb hl rfl ?_)<;>(try refine ev_ ?_)) | with_reducible exact ti_)
   ·have t3f:(qd c [99,97,115,101]).2 = false:=by simpa using t3
    have e3:=qc2 t3f
    rw [if_neg t3]
    by_cases t4:(qd c [105,102]).2 = true
    ·rw [if_pos t4]
     have l2:=qch t4
     have hl:=qbtq hm ih (qi c).pos _ g4 (by omega)
     unfold posZ at hl
     repeat' (first | refine vs_ ?_ | ((first | refine vrr_ ?_ | fail)<;>(try simp only [t1f,e1,t2f,e2,t3f,e3,t4,go_sem,↓reduceIte])) | ((first | (refine cs_ ?_ ?_<;>intro hc) | refine cj_ ?_ | fail | refine qbv ?_ | refine qdt hg.ok ?_ | refine qkb hl rfl ?_)<;>(try refine ev_ ?_)) | with_reducible exact ti_)
    ·have t4f:(qd c [105,102]).2 = false:=by simpa using t4
     have e4:=qc2 t4f
     rw [if_neg t4]
     have hl:=qbda hm ih _ hg hr
     repeat' (first | refine vs_ ?_ | ((first | refine vrr_ ?_ | fail)<;>(try simp only [t1f,e1,t2f,e2,t3f,e3,t4f,e4,go_sem,↓reduceIte])) | ((first | (refine cs_ ?_ ?_<;>intro hc) | refine cj_ ?_ | fail | refine qbv ?_ | refine qdt hg.ok ?_ | refine qkb hl rfl ?_)<;>(try refine ev_ ?_)) | with_reducible exact ti_)
end
end Go.Proofs.Ytfjbmjplnmaclaa
