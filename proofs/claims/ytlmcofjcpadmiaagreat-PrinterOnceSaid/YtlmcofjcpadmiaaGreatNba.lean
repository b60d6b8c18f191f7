/- Texts of this proof, joined. -/
import Derived.Test.YtlmcofjcpadmiaaGreatNaz
set_option linter.unusedVariables false
set_option linter.unusedSimpArgs false

/- expressions: what is read (plain) -/
namespace Go.Proofs.YtlmcofjcpadmiaaGreat
open Go Go.RowKit Go.V

def qgm (c:K):Option N :=
 if (qp c).kind = 1 then some (qgr c 21 [])
 else if (qp c).kind = 2 then some (qgr c 22 [])
 else if (qp c).kind = 3 then some (.mk 23 (qp c).pos (qp c).num [] [])
 else none
def begE (c:K):Bool:=(qgm c).isSome || isK c [40]
def qu (rec:K->K×Option N) (c:K):K×Option N :=
 if (qgm c).isSome = true then (qg c,qgm c)
 else if isK c [40] = true then
  if (qb c).2 = true then
   if (rec (qg (qb c).1)).2.isSome = true then
    if (qh (rec (qg (qb c).1)).1 [41]).2 = true then (qcn (qh (rec (qg (qb c).1)).1 [41]).1,(rec (qg (qb c).1)).2)
    else ((qh (rec (qg (qb c).1)).1 [41]).1,none)
   else ((rec (qg (qb c).1)).1,none)
  else ((qb c).1,none)
 else (qd9 c 5,none)
abbrev R3:=K×N×Bool
def ofO (r:K×Option N):R3:=(r.1,r.2.getD N0,r.2.isSome)
def toO (r:R3):K×Option N:=(r.1,if r.2.2 = true then some r.2.1 else none)
def appN (n k:N):N:=.mk 24 n.pos 0 [] [n,k]
def qdm (rec:K->K×Option N):Nat->K->N->R3
 | 0,c,n=>(c,n,false)
 | f + 1, c, n =>
   if begE c = true then
    if (qu rec c).2.isSome = true then qdm rec f (qu rec c).1 (appN n ((qu rec c).2.getD N0))
    else ((qu rec c).1,appN n ((qu rec c).2.getD N0),false)
   else (c,n,true)
def qe1 (rec:K->K×Option N) (c:K):R3 :=
 if (qu rec c).2.isSome = true then qdm rec (rest (qu rec c).1 + 1) (qu rec c).1 ((qu rec c).2.getD N0)
 else ((qu rec c).1,(qu rec c).2.getD N0,false)
def lamN (t:T) (n:N):N:=.mk 25 t.pos 0 t.text [n]
def qb0 (rec:K->K×Option N) (x:List UInt8):Nat->K->R3
 | 0,c=>(c,N0,false)
 | f + 1, c =>
   if (qp c).kind = 1 then ((qb0 rec x f (qg c)).1,lamN (qp c) (qb0 rec x f (qg c)).2.1,(qb0 rec x f (qg c)).2.2)
   else if (qh c x).2 = true then ofO (rec (qh c x).1)
   else ((qh c x).1,N0,false)
def qm9 (k:Int) (t:T) (n:N):N:=.mk k t.pos 0 t.text [n]
def qbm (rec:K->K×Option N) (c:K):K×Option N :=
 if (kindK c 1).2 = true then
  if (qf (kindK c 1).1 [58,58]).2 = true then
   ((qdq (rest (qf (kindK c 1).1 [58,58]).1 + 2) (qf (kindK c 1).1 [58,58]).1).1,(qdq (rest (qf (kindK c 1).1 [58,58]).1 + 2) (qf (kindK c 1).1 [58,58]).1).2.map (qm9 32 (qen c 1)))
  else ((qb0 rec [61] (rest (kindK c 1).1 + 1) (kindK c 1).1).1,(toO (qb0 rec [61] (rest (kindK c 1).1 + 1) (kindK c 1).1)).2.map (qm9 31 (qen c 1)))
 else ((kindK c 1).1,none)
abbrev RL:=K×List N×Bool
def qbn (rd:K->R3):Nat->K->List N->RL
 | 0,c,_=>(c,[],false)
 | f + 1, c, acc =>
   if (rd c).2.2 = true then
    if ((qf (rd c).1 [59]).2 && !isK (qf (rd c).1 [59]).1 [125]) = true then qbn rd f (qf (rd c).1 [59]).1 (acc ++ [(rd c).2.1])
    else ((qh (qf (rd c).1 [59]).1 [125]).1,acc ++ [(rd c).2.1],(qh (qf (rd c).1 [59]).1 [125]).2)
   else ((rd c).1,[],false)
def q8 (rd:K->R3) (c:K):RL :=
 if (qh c [123]).2 = true then qbn rd (rest (qh c [123]).1 + 1) (qh c [123]).1 [] else ((qh c [123]).1,[],false)
def posN (p:Int):N:=.mk 0 p 0 [] []
def letC (rec:K->K×Option N) (p:Int) (l:List N) (w:K×Bool):R3 :=
 if w.2 = true then ((rec w.1).1,.mk 26 p 0 [] (l ++ [(rec w.1).2.getD N0]),(rec w.1).2.isSome) else (w.1,posN p,false)
def letB (rec:K->K×Option N) (p:Int) (l:RL):R3 :=
 if l.2.2 = true then letC rec p l.2.1 (qh l.1 [105,110]) else (l.1,posN p,false)
def qgo (rec:K->K×Option N) (p:Int) (c:K):R3:=letB rec p (q8 (fun c=>ofO (qbm rec c)) c)
def altN (p e:N):N:=.mk 15 p.pos 0 [] [p,e]
def altC (rec:K->K×Option N) (p:N) (w:K×Bool):R3 :=
 if w.2 = true then ((rec w.1).1,altN p ((rec w.1).2.getD N0),(rec w.1).2.isSome) else (w.1,p,false)
def altB (rec:K->K×Option N) (r:K×Option N):R3 :=
 if r.2.isSome = true then altC rec (r.2.getD N0) (qh r.1 [45,62]) else (r.1,r.2.getD N0,false)
def qdv (rec:K->K×Option N) (c:K):R3:=altB rec (qb6 (rest c + 2) c)
def q02 (p:Int) (x:N) (l:RL):R3:=(l.1,.mk 27 p 0 [] (x :: l.2.1),l.2.2)
def qy1 (rec:K->K×Option N) (p:Int) (x:N) (w:K×Bool):R3 :=
 if w.2 = true then q02 p x (q8 (qdv rec) w.1) else (w.1,posN p,false)
def qeh (rec:K->K×Option N) (p:Int) (c:K):R3 :=
 if (rec c).2.isSome = true then qy1 rec p ((rec c).2.getD N0) (qh (rec c).1 [111,102]) else ((rec c).1,posN p,false)
def ifsK (c:K) (w:List UInt8):K×Bool:=if w = [] then (c,true) else qh c w
def qda (rec:K->K×Option N) (p:Int):List (List UInt8)->K->List N->R3
 | [],c,acc=>(c,.mk 28 p 0 [] acc,true)
 | w :: r, c, acc =>
   if (ifsK c w).2 = true then
    if (rec (ifsK c w).1).2.isSome = true then qda rec p r (rec (ifsK c w).1).1 (acc ++ [(rec (ifsK c w).1).2.getD N0])
    else ((rec (ifsK c w).1).1,.mk 28 p 0 [] acc,false)
   else ((ifsK c w).1,.mk 28 p 0 [] acc,false)
def ifsW:List (List UInt8):=[[],[116,104,101,110],[101,108,115,101]]
def qc8 (rec:K->K×Option N) (c:K):R3 :=
 if (qf c [92]).2 = true then
  if (qp (qf c [92]).1).kind = 1 then qb0 rec [45,62] (rest (qf c [92]).1 + 1) (qf c [92]).1
  else (qd9 (qf c [92]).1 5,posN (qp c).pos,false)
 else if (qf c [108,101,116]).2 = true then qgo rec (qp c).pos (qf c [108,101,116]).1
 else if (qf c [99,97,115,101]).2 = true then qeh rec (qp c).pos (qf c [99,97,115,101]).1
 else if (qf c [105,102]).2 = true then qda rec (qp c).pos ifsW (qf c [105,102]).1 []
 else qe1 rec c
def qfo:Nat->K->K×Option N
 | 0,c=>(c,none)
 | f + 1, c =>
   if (qb c).2 = true then (qcn (qc8 (qfo f) (qb c).1).1,(toO (qc8 (qfo f) (qb c).1)).2)
   else ((qb c).1,none)

theorem qoi {c:K} (h:(qgm c).isSome = true):(qp c).kind≠0:=by
 unfold qgm at h
 split at h
 ·omega
 ·split at h
  ·omega
  ·split at h
   ·omega
   ·cases h
theorem qyq {c:K} (h:begE c = true):(qp c).kind≠0:=by
 simp only [begE,Bool.or_eq_true] at h
 rcases h with h | h
 ·exact qoi h
 ·exact qdp h
theorem qcv {c:K} {x:List UInt8} (h:(qf c x).2 = true):rest (qf c x).1 < rest c:=by
 unfold qf at h ⊢
 split at h
 ·rename_i h1
  rw [if_pos h1]
  have:=qbb (qdp h1)
  simp only;omega
 ·cases h
theorem qhn {c:K} {x:List UInt8} (h:(qh c x).2 = true):rest (qh c x).1 < rest c:=by
 unfold qh at h ⊢
 split at h
 ·rename_i h1
  rw [if_pos h1]
  have:=qbb (qdp h1)
  simp only;omega
 ·cases h
theorem q1v {c:K} (h:(kindK c 1).2 = true):rest (kindK c 1).1 < rest c:=by
 obtain ⟨h1,h2⟩:=qg7 h
 rw [(qj9 h).1]
 have:=qbb (c:=c) (by omega)
 simp only;omega
section
variable {rec:K->K×Option N} (hm:∀ c,Mon c (rec c).1)
include hm
theorem qc6 (c:K):Mon c (qu rec c).1:=by
 unfold qu
 split
 ·exact qbj c
 ·split
  ·split
   ·have h1:=((qo c).trans (qbj _)).trans (hm _)
    split
    ·split
     ·exact (h1.trans (qe _ _)).trans (qba _)
     ·exact h1.trans (qe _ _)
    ·exact h1
   ·exact qo c
  ·exact qc3 c 5
theorem qk8 {c:K} (h:(qu rec c).2.isSome = true):rest (qu rec c).1 < rest c:=by
 unfold qu at h ⊢
 split at h
 ·rename_i hl
  rw [if_pos hl]
  have:=qbb (qoi hl)
  simp only;omega
 ·rename_i hl
  rw [if_neg hl]
  split at h
  ·rename_i hk
   rw [if_pos hk]
   split at h
   ·rename_i he
    rw [if_pos he]
    have hp:=qbb (c:=(qb c).1) (by rw [qev he];exact qdp hk)
    have h0:=(qo c).2.1
    have h1:=(hm (qg (qb c).1)).2.1
    split at h
    ·rename_i hr
     rw [if_pos hr]
     have h2:=(qe (rec (qg (qb c).1)).1 [41]).2.1
     split at h
     ·rename_i hw
      rw [if_pos hw]
      have h3:=(qba (qh (rec (qg (qb c).1)).1 [41]).1).2.1
      simp only;omega
     ·cases h
    ·cases h
   ·cases h
  ·cases h
theorem qtu:∀ (f:Nat) (c:K) (n:N),Mon c (qdm rec f c n).1
 | 0,c,n=>Mon.refl c
 | f + 1, c, n => by
   rw [qdm]
   split
   ·split
    ·exact (qc6 hm c).trans (qtu f _ _)
    ·exact qc6 hm c
   ·exact Mon.refl c
theorem q8n (c:K):Mon c (qe1 rec c).1:=by
 unfold qe1
 split
 ·exact (qc6 hm c).trans (qtu hm _ _ _)
 ·exact qc6 hm c
theorem qjr (x:List UInt8):∀ (f:Nat) (c:K),Mon c (qb0 rec x f c).1
 | 0,c=>Mon.refl c
 | f + 1, c => by
   rw [qb0]
   split
   ·exact (qbj c).trans (qjr x f _)
   ·split
    ·exact (qe c x).trans (hm _)
    ·exact qe c x
theorem qe7 (c:K):Mon c (qbm rec c).1:=by
 unfold qbm
 split
 ·split
  ·exact ((qbp c 1).trans (qm _ _)).trans (qmj _ _)
  ·exact (qbp c 1).trans (qjr hm _ _ _)
 ·exact qbp c 1
theorem qk7 {c:K} (h:(qbm rec c).2.isSome = true):rest (qbm rec c).1 < rest c:=by
 unfold qbm at h ⊢
 split at h
 ·rename_i h1
  rw [if_pos h1]
  have h2:=q1v h1
  split
  ·have h3:=((qm (kindK c 1).1 [58,58]).trans (qmj (rest (qf (kindK c 1).1 [58,58]).1 + 2) _)).2.1
   simp only;omega
  ·have h3:=(qjr hm [61] (rest (kindK c 1).1 + 1) (kindK c 1).1).2.1
   simp only;omega
 ·cases h
omit hm in
theorem qpd {rd:K->R3} (hd:∀ c,Mon c (rd c).1):∀ (f:Nat) (c:K) (acc:List N),Mon c (qbn rd f c acc).1
 | 0,c,acc=>Mon.refl c
 | f + 1, c, acc => by
   rw [qbn]
   split
   ·split
    ·exact ((hd c).trans (qm _ _)).trans (qpd hd f _ _)
    ·exact ((hd c).trans (qm _ _)).trans (qe _ _)
   ·exact hd c
omit hm in
theorem qfu {rd:K->R3} (hd:∀ c,Mon c (rd c).1) (c:K):Mon c (q8 rd c).1:=by
 unfold q8
 split
 ·exact (qe c _).trans (qpd hd _ _ _)
 ·exact qe c _
theorem q7i (p:Int) (c:K):Mon c (qgo rec p c).1:=by
 unfold qgo letB letC
 have h:=qfu (rd:=fun c=>ofO (qbm rec c)) (fun c=>qe7 hm c) c
 split
 ·split
  ·exact (h.trans (qe _ _)).trans (hm _)
  ·exact h.trans (qe _ _)
 ·exact h
theorem qly (c:K):Mon c (qdv rec c).1:=by
 unfold qdv altB altC
 have h:=qes (rest c + 2) c
 split
 ·split
  ·exact (h.trans (qe _ _)).trans (hm _)
  ·exact h.trans (qe _ _)
 ·exact h
theorem qrf {c:K} (h:(qdv rec c).2.2 = true):rest (qdv rec c).1 < rest c:=by
 unfold qdv altB altC at h ⊢
 have h1:=(qes (rest c + 2) c).2.1
 split at h
 ·rename_i h2
  rw [if_pos h2]
  split at h
  ·rename_i h3
   rw [if_pos h3]
   have h4:=qhn h3
   have h5:=(hm (qh (qb6 (rest c + 2) c).1 [45,62]).1).2.1
   simp only;omega
  ·cases h
 ·cases h
theorem q2z (p:Int) (c:K):Mon c (qeh rec p c).1:=by
 unfold qeh qy1 q02
 have h:=hm c
 split
 ·split
  ·exact (h.trans (qe _ _)).trans (qfu (fun c=>qly hm c) _)
  ·exact h.trans (qe _ _)
 ·exact h
omit hm in
theorem qlt (c:K) (w:List UInt8):Mon c (ifsK c w).1:=by
 unfold ifsK
 split
 ·exact Mon.refl c
 ·exact qe c w
theorem qvv (p:Int):∀ (l:List (List UInt8)) (c:K) (acc:List N),Mon c (qda rec p l c acc).1
 | [],c,acc=>Mon.refl c
 | w :: r, c, acc => by
   rw [qda]
   split
   ·split
    ·exact ((qlt c w).trans (hm _)).trans (qvv p r _ _)
    ·exact (qlt c w).trans (hm _)
   ·exact qlt c w
theorem qri (c:K):Mon c (qc8 rec c).1:=by
 unfold qc8
 split
 ·split
  ·exact (qm c _).trans (qjr hm _ _ _)
  ·exact (qm c _).trans (qc3 _ 5)
 ·split
  ·exact (qm c _).trans (q7i hm _ _)
  ·split
   ·exact (qm c _).trans (q2z hm _ _)
   ·split
    ·exact (qm c _).trans (qvv hm _ _ _ _)
    ·exact q8n hm c
end
theorem qi9:∀ (f:Nat) (c:K),Mon c (qfo f c).1
 | 0,c=>Mon.refl c
 | f + 1, c => by
   rw [qfo]
   split
   ·exact ((qo c).trans (qri (qi9 f) _)).trans (qba _)
   ·exact qo c
set_option maxRecDepth 4000

def resB (r:N×Bool):AV:=.tup [enc r.1,.bool r.2]
attribute [go_sem] resB
theorem qoo (k:Nat) (r:N×Bool):(resB r).bd k = true:=by simp only [resB,AV.bd,AV.bds,qne,Bool.and_true]
theorem ql7 {P:Program} {f:FuncId} {c c':K} {L:List Ent} {args:List AV} {r:N×Bool} {Q:List Ent->VO->Prop} (h:qb7 P f (curE c) (curE c') args (resB r)) (ha:AV.bds 1 args = true) (hq:Q (curE c' :: L) (.val (resB r))):VApp P (curE c :: L) (.fn f [] []) args Q :=
 qb4 h (q9 _ _) (q9 _ _) ha (qoo _ _) fun _=>hq
theorem qbjg (c:K):qb7 Tryz.prog 198 (curE c) (curE c) [.ptr 0 0] (resP (qgm c)):=by
 refine qq c0dn 1 (by simp) (by simp) ?_
 repeat' (first | refine vs_ ?_ | ((first | refine vr_ ?_ | refine qb2 ?_ | refine a_Is ?_ | (refine cs_ ?_ ?_<;>intro hc) | refine cj_ ?_ | fail)<;>(try refine ev_ ?_)) | with_reducible exact ti_)
 all_goals (unfold qgm qgr;simp_all [enc,encs,N0])
theorem qbbj {c:K} {L:List Ent} {Q:List Ent->VO->Prop} (hq:Q (curE c :: L) (.val (resP (qgm c)))):VApp Tryz.prog (curE c :: L) (.fn 198 [] []) [.ptr 0 0] Q:=qcs (qbjg c) rfl hq
section
variable {rec:K->K×Option N} {b:Nat} (hm:∀ c,Mon c (rec c).1) (ih:∀ c,c.good->rest c < b->qb7 Tryz.prog 58 (curE c) (curE (rec c).1) [.ptr 0 0] (resP (rec c).2))
include hm ih
theorem q5r (c:K) (hg:c.good) (hr:rest c≤b):qb7 Tryz.prog 197 (curE c) (curE (qu rec c).1) [.ptr 0 0] (resP (qu rec c).2):=by
 have g1:(qb c).1.good:=(qo c).1 hg
 have g2:(qg (qb c).1).good:=(qbj _).1 g1
 have g3:(rec (qg (qb c).1)).1.good:=(hm _).1 g2
 have g4:(qh (rec (qg (qb c).1)).1 [41]).1.good:=(qe _ _).1 g3
 have hrr:isK c [40] = true->(qb c).2 = true->rest (qg (qb c).1) < b:=fun h1 h2=>by
  have:=qbb (c:=(qb c).1) (by rw [qev h2];exact qdp h1)
  have:=(qo c).2.1
  omega
 refine qq c0do 1 (by simp) (by simp) ?_
 repeat' (first | refine vs_ ?_ | ((first | refine vr_ ?_ | refine qbbj ?_ | refine a_Is ?_ | refine qvm ?_ | refine qiq ?_ | refine qk5 hg.ok ?_ | refine qk5 g1.ok ?_ | refine qcs (ih _ g2 (hrr (by assumption) (by assumption))) rfl ?_ | refine qcc g3.ok ?_ | refine qfx g4.2.2 ?_ | (refine cs_ ?_ ?_<;>intro hc) | refine cj_ ?_ | fail)<;>(try refine ev_ ?_)) | with_reducible exact ti_)
 all_goals (unfold qu;simp only [*,qed,Int.reduceEq,if_true,if_false,reduceIte,Bool.false_eq_true,Option.getD_none,Option.getD_some,Option.isSome_none,Option.isSome_some,and_self,true_and,and_true];try rfl)
end
def qbdx (fl:Bool) (n:N):Ent:=.blk [.int .i64 n.kind,.int .i64 n.pos,.int .i64 n.num,.str n.text,if fl = true then .lit 5 (encs n.kids) else .sl 5 (encs n.kids)]
theorem qbi4 {P:Program} {fr:Option Nat} {k m:Nat} {a:IC} {Q:VE->AF->List Ent->Prop} {af:AF} {A B:Ent} {L:List Ent} {fl:Bool} {n:N} (h:VI P fr k m a Q af (A :: B :: .blk (enc n).cells :: L)):VI P fr k m a Q af (A :: B :: qbdx fl n :: L):=by
 cases n
 cases fl with
 | false=>exact h
 | true =>
   refine qbaj 2 4 (.sl 5) (by rfl) ?_
   simp only [List.getD_cons_succ,List.getD_cons_zero,if_true,qz6,List.set_cons_succ,List.set_cons_zero]
   exact h
section
variable {rec:K->K×Option N} {b:Nat} (hm:∀ c,Mon c (rec c).1) (ih:∀ c,c.good->rest c < b->qb7 Tryz.prog 58 (curE c) (curE (rec c).1) [.ptr 0 0] (resP (rec c).2))
include hm ih
def qbd0 (x:Bool×Nat×K×N×Bool):AF×List Ent :=
 (⟨[(0,.ptr 0 0),(2,.ptr 1 0),(4,.ptr 2 0),(5,.bool x.2.2.2.2)],[]⟩,[curE x.2.2.1,.blk [.int .i64 0,.int .i64 0,.int .i64 0,.str [],.nils],qbdx x.1 x.2.2.2.1])
theorem qbip (c:K) (hg:c.good) (hr:rest c≤b):qb7 Tryz.prog 162 (curE c) (curE (qe1 rec c).1) [.ptr 0 0] (resB (qe1 rec c).2):=by
 refine qq c0dp 1 (by simp) (by simp) ?_
 have g0:(qu rec c).1.good:=(qc6 hm c).1 hg
 have hr0:rest (qu rec c).1≤b:=by have:=(qc6 hm c).2.1;omega
 generalize htg:qe1 rec c = tg
 repeat' (first | refine vs_ ?_ | ((first | refine vr_ ?_ | refine qcs (q5r hm ih _ hg hr) rfl ?_ | (refine cs_ ?_ ?_<;>intro hc) | refine cj_ ?_ | fail)<;>(try refine ev_ ?_)) | with_reducible exact ti_)
 refine qcm (S:=Bool×Nat×K×N×Bool) (fun x=>x.2.2.1.good∧rest x.2.2.1≤b∧(x.2.2.2.2 = true->qdm rec x.2.1 x.2.2.1 x.2.2.2.1 = tg∧rest x.2.2.1 < x.2.1)∧(x.2.2.2.2 = false->tg = (x.2.2.1,x.2.2.2.1,false)))
  qbd0 (fun x=>if x.2.2.2.2 = true then rest x.2.2.1 + 1 else 0) ?_ ?_
 ·refine qb1 (false,rest (qu rec c).1 + 1,(qu rec c).1,(qu rec c).2.getD N0,(qu rec c).2.isSome) [0,1,2] ⟨g0,hr0,fun h=>⟨?_,Nat.lt_succ_self _⟩,fun h=>?_⟩ rfl (by simp) ?_ ?_ ?_
  ·simp only at h;rw [← htg,qe1,if_pos h]
  ·simp only at h;rw [← htg,qe1,if_neg (by rw [h];simp)]
  all_goals simp only [qbd0,qbdx]
  all_goals (refine ev_ ?_;(try with_reducible exact ti_))
 ·rintro ⟨fl,fu,d,n,ok⟩ ⟨i1,i2,i3,i4⟩
  simp only at i1 i2 i3 i4
  unfold qbd0
  refine qbi4 ?_
  cases ok with
  | false =>
    have i4:=i4 rfl
    subst i4
    repeat' (first | refine vs_ ?_ | ((first | refine vr_ ?_ | (refine cs_ ?_ ?_<;>intro hc) | refine cj_ ?_ | fail)<;>(try refine ev_ ?_)) | with_reducible exact ti_)
  | true =>
    obtain ⟨i3,i5⟩:=i3 rfl
    clear i4
    obtain ⟨fu,rfl⟩:∃ k,fu = k + 1:=⟨fu - 1,by omega⟩
    rw [qdm] at i3
    have j1:(qu rec d).1.good:=(qc6 hm d).1 i1
    have j2:rest (qu rec d).1≤rest d:=(qc6 hm d).2.1
    have key:begE d = true->(((qu rec d).2.isSome = true->qdm rec fu (qu rec d).1 (appN n ((qu rec d).2.getD N0)) = tg∧rest (qu rec d).1 < fu)∧((qu rec d).2.isSome = false->tg = ((qu rec d).1,appN n ((qu rec d).2.getD N0),false))) ∧
     (if (qu rec d).2.isSome = true then rest (qu rec d).1 + 1 else 0) < rest d + 1:=fun hb=>by
     rw [if_pos hb] at i3
     refine ⟨⟨fun h=>?_,fun h=>?_⟩,?_⟩
     ·rw [if_pos h] at i3
      have:=qk8 hm h
      exact ⟨i3,by omega⟩
     ·rw [if_neg (by rw [h];simp)] at i3
      exact i3.symm
     ·split
      ·rename_i h
       have:=qk8 hm h
       omega
      ·omega
    have e1:(qgm d).isSome = true->begE d = true:=fun h=>by rw [begE,h];rfl
    have e2:isK d [40] = true->begE d = true:=fun h=>by rw [begE,h,Bool.or_true]
    repeat' (first | refine vs_ ?_ | ((first | refine vr_ ?_ | refine qbbj ?_ | refine a_Is ?_ | refine qcs (q5r hm ih _ i1 i2) rfl ?_ | (refine cs_ ?_ ?_<;>intro hc) | refine cj_ ?_ | fail)<;>(try refine ev_ ?_)) | with_reducible exact ti_)
    ·have hb:¬ begE d = true:=by rw [begE];simp_all
     rw [if_neg hb] at i3
     subst i3
     exact ⟨rfl,rfl⟩
    ·obtain ⟨k1,k2⟩:=key (e2 (by assumption))
     refine qb1 (true,fu,(qu rec d).1,appN n ((qu rec d).2.getD N0),(qu rec d).2.isSome) [0,1,2] ⟨⟨j1,by simp only;omega,k1⟩,by simpa using k2⟩ rfl (by simp) ?_ ?_ ?_
     all_goals simp only [qbd0,qbdx,appN,encs,N.kind,N.pos,N.num,N.text,N.kids]
     all_goals (refine ev_ ?_;(try with_reducible exact ti_))
    ·obtain ⟨k1,k2⟩:=key (e1 (by assumption))
     refine qb1 (true,fu,(qu rec d).1,appN n ((qu rec d).2.getD N0),(qu rec d).2.isSome) [0,1,2] ⟨⟨j1,by simp only;omega,k1⟩,by simpa using k2⟩ rfl (by simp) ?_ ?_ ?_
     all_goals simp only [qbd0,qbdx,appN,encs,N.kind,N.pos,N.num,N.text,N.kids]
     all_goals (refine ev_ ?_;(try with_reducible exact ti_))
end
set_option maxRecDepth 4000

theorem q20 (t:T) (n:N):AV.agg [.int .i64 25,.int .i64 t.pos,.int .i64 0,.str t.text,.sl 5 [enc n]] = enc (lamN t n):=by simp only [lamN,enc,encs]
theorem qlu (k:Int) (t:T) (n:N):AV.agg [.int .i64 k,.int .i64 t.pos,.int .i64 0,.str t.text,.sl 5 [enc n]] = enc (qm9 k t n):=by simp only [qm9,enc,encs]
section
variable {rec:K->K×Option N} {b:Nat} (ih:∀ c,c.good->rest c < b->qb7 Tryz.prog 58 (curE c) (curE (rec c).1) [.ptr 0 0] (resP (rec c).2))
include ih
theorem qwb (x:List UInt8):∀ (f:Nat) (c:K),c.good->rest c≤b->rest c < f->qb7 Tryz.prog 158 (curE c) (curE (qb0 rec x f c).1) [.ptr 0 0,.str x] (resB (qb0 rec x f c).2)
 | 0,c=>fun _ _ h=>absurd h (by omega)
 | f + 1, c => fun hg hb hf => by
   have g1:(qg c).good:=(qbj c).1 hg
   have g2:(qh c x).1.good:=(qe c x).1 hg
   refine qq c0dl 1 (by simp) (by simp) ?_
   by_cases hk:(qp c).kind = 1
   ·have hrn:=qbb (c:=c) (by omega)
    have hl:=qwb x f (qg c) g1 (by omega) (by omega)
    have hpa:qb0 rec x (f + 1) c = ((qb0 rec x f (qg c)).1,lamN (qp c) (qb0 rec x f (qg c)).2.1,(qb0 rec x f (qg c)).2.2):=by rw [qb0,if_pos hk]
    rw [hpa]
    clear hpa
    generalize qb0 rec x f (qg c) = r at *
    repeat' (first | refine vs_ ?_ | ((first | refine vr_ ?_ | fail)<;>(try simp only [hk,ne_eq,not_true_eq_false,decide_false,go_sem,↓reduceIte])) | ((first | (refine cs_ ?_ ?_<;>intro hc) | refine cj_ ?_ | fail | refine qb2 ?_ | refine qk5 hg.ok ?_ | refine ql7 hl rfl ?_)<;>(try refine ev_ ?_)) | with_reducible exact ti_)
    all_goals first | (rw [q20];done) | (rw [q20];rfl) | (rw [q20];exact ⟨rfl,rfl⟩)
   ·by_cases hw:(qh c x).2 = true
    ·have hlt:=qhn hw
     have hpa:qb0 rec x (f + 1) c = ofO (rec (qh c x).1):=by rw [qb0,if_neg hk,if_pos hw]
     rw [hpa,ofO]
     repeat' (first | refine vs_ ?_ | ((first | refine vr_ ?_ | fail)<;>(try simp only [hk,hw,ne_eq,not_false_eq_true,decide_true,go_sem,↓reduceIte])) | ((first | (refine cs_ ?_ ?_<;>intro hc) | refine cj_ ?_ | fail | refine qb2 ?_ | refine qcc hg.ok ?_ | refine qcs (ih _ g2 (by omega)) rfl ?_)<;>(try refine ev_ ?_)) | with_reducible exact ti_)
    ·have hpa:qb0 rec x (f + 1) c = ((qh c x).1,N0,false):=by rw [qb0,if_neg hk,if_neg hw]
     rw [hpa]
     repeat' (first | refine vs_ ?_ | ((first | refine vr_ ?_ | fail)<;>(try simp only [hk,hw,ne_eq,not_false_eq_true,decide_true,go_sem,↓reduceIte])) | ((first | (refine cs_ ?_ ?_<;>intro hc) | refine cj_ ?_ | fail | refine qb2 ?_ | refine qcc hg.ok ?_)<;>(try refine ev_ ?_)) | with_reducible exact ti_)
     all_goals first | (rw [qed];done) | (rw [qed];rfl) | (rw [qed];exact ⟨rfl,rfl⟩)
theorem qvt (c:K) (hg:c.good) (hr:rest c≤b):qb7 Tryz.prog 108 (curE c) (curE (qbm rec c).1) [.ptr 0 0] (resP (qbm rec c).2):=by
 have g1:(kindK c 1).1.good:=(qbp c 1).1 hg
 have hr1:rest (kindK c 1).1≤b:=by have:=(qbp c 1).2.1;omega
 have g2:(qf (kindK c 1).1 [58,58]).1.good:=(qm _ _).1 g1
 have hl:=qwb ih [61] (rest (kindK c 1).1 + 1) (kindK c 1).1 g1 hr1 (Nat.lt_succ_self _)
 have hq:=q7l (rest (qf (kindK c 1).1 [58,58]).1 + 2) (qf (kindK c 1).1 [58,58]).1 g2 (by omega)
 have ht0:(qf (kindK c 1).1 [58,58]).2 = false->(qf (kindK c 1).1 [58,58]).1 = (kindK c 1).1:=fun h=>qdh h
 refine qq c0dm 1 (by simp) (by simp) ?_
 unfold qbm
 generalize qb0 rec [61] (rest (kindK c 1).1 + 1) (kindK c 1).1 = r at *
 generalize qdq (rest (qf (kindK c 1).1 [58,58]).1 + 2) (qf (kindK c 1).1 [58,58]).1 = q at *
 by_cases hk:(kindK c 1).2 = true
 ·rw [if_pos hk]
  by_cases ht:(qf (kindK c 1).1 [58,58]).2 = true
  ·rw [if_pos ht]
   cases ho:q.2 with
   | none =>
     rw [ho] at hq
     repeat' (first | refine vs_ ?_ | ((first | refine vr_ ?_ | fail)<;>(try simp (disch:=first | omega | (simp only [List.length_set,List.length_append,List.length_cons,List.length_nil];done) | (simp only [List.length_set,List.length_append,List.length_cons,List.length_nil];omega)) only [hk,ht,Option.isSome_none,Option.getD_none,go_sem,↓reduceIte])) | ((first | (refine cs_ ?_ ?_<;>intro hc) | refine cj_ ?_ | fail | refine qdb hg.ok ?_ | refine qef g1.ok ?_ | refine qcs hq rfl ?_)<;>(try refine ev_ ?_)) | with_reducible exact ti_)
     all_goals first | (rw [qed];done) | (rw [qed];rfl) | (rw [qed];exact ⟨rfl,rfl⟩)
   | some n =>
     rw [ho] at hq
     repeat' (first | refine vs_ ?_ | ((first | refine vr_ ?_ | fail)<;>(try simp (disch:=first | omega | (simp only [List.length_set,List.length_append,List.length_cons,List.length_nil];done) | (simp only [List.length_set,List.length_append,List.length_cons,List.length_nil];omega)) only [hk,ht,Option.isSome_some,Option.getD_some,go_sem,↓reduceIte])) | ((first | (refine cs_ ?_ ?_<;>intro hc) | refine cj_ ?_ | fail | refine qdb hg.ok ?_ | refine qef g1.ok ?_ | refine qcs hq rfl ?_)<;>(try refine ev_ ?_)) | with_reducible exact ti_)
     all_goals first | (rw [qlu];done) | (rw [qlu];rfl) | (rw [qlu];exact ⟨rfl,rfl⟩)
  ·rw [if_neg ht]
   have ht:(qf (kindK c 1).1 [58,58]).2 = false:=by simpa using ht
   have ht0:=ht0 ht
   obtain ⟨d,n,ok⟩:=r
   simp only [toO] at hl ⊢
   rw [← ht0] at hl
   cases ok with
   | false =>
     repeat' (first | refine vs_ ?_ | ((first | refine vr_ ?_ | fail)<;>(try simp only [hk,ht,go_sem,↓reduceIte])) | ((first | (refine cs_ ?_ ?_<;>intro hc) | refine cj_ ?_ | fail | refine qdb hg.ok ?_ | refine qef g1.ok ?_ | refine ql7 hl rfl ?_)<;>(try refine ev_ ?_)) | with_reducible exact ti_)
     all_goals first | (rw [qed];done) | (rw [qed];rfl) | (rw [qed];exact ⟨rfl,rfl⟩)
   | true =>
     repeat' (first | refine vs_ ?_ | ((first | refine vr_ ?_ | fail)<;>(try simp only [hk,ht,go_sem,↓reduceIte])) | ((first | (refine cs_ ?_ ?_<;>intro hc) | refine cj_ ?_ | fail | refine qdb hg.ok ?_ | refine qef g1.ok ?_ | refine ql7 hl rfl ?_)<;>(try refine ev_ ?_)) | with_reducible exact ti_)
     all_goals first | (rw [qlu];done) | (rw [qlu];rfl) | (rw [qlu];exact ⟨rfl,rfl⟩)
 ·rw [if_neg hk]
  repeat' (first | refine vs_ ?_ | ((first | refine vr_ ?_ | fail)<;>(try simp only [hk,go_sem,↓reduceIte])) | ((first | (refine cs_ ?_ ?_<;>intro hc) | refine cj_ ?_ | fail | refine qdb hg.ok ?_)<;>(try refine ev_ ?_)) | with_reducible exact ti_)
  all_goals first | (rw [qed];done) | (rw [qed];rfl) | (rw [qed];exact ⟨rfl,rfl⟩)
end
set_option maxRecDepth 4000

def VClo (g:FuncId) (c c':K) (r:N×Bool):Prop:=VCalls Tryz.prog g [curE c,.blk [.ptr 0 0]] [.ptr 1 0] fun H' o=>H' = [curE c',.blk [.ptr 0 0]]∧o = .val (resB r)
theorem ql1 (c:K):[curE c,.blk [.ptr 0 0]].all (Ent.bd 2) = true:=by
 simp only [List.all_cons,List.all_nil,q9,Bool.true_and,Bool.and_true];rfl
theorem qxo {g:FuncId} {c c':K} {r:N×Bool} {L:List Ent} {Q:List Ent->VO->Prop} (h:VClo g c c' r) (hq:Q (curE c' :: .blk [.ptr 0 0] :: L) (.val (resB r))):VApp Tryz.prog (curE c :: .blk [.ptr 0 0] :: L) (.fn g [] [.ptr 1 0]) [] Q :=
 qb3 (first:=[]) (caps:=[.ptr 1 0]) (by
  simp only [List.nil_append]
  refine qde (H0:=[curE c,.blk [.ptr 0 0]]) (L:=L) h (ql1 c) rfl ?_
  rintro H1 o ⟨rfl,rfl⟩
  exact ⟨rfl,ql1 c',qoo _ _,hq⟩)
def qq4 (rd:K->R3) (g:FuncId) (c:K):Prop:=VCalls Tryz.prog 194 [curE c,.blk [.ptr 0 0]] [.ptr 0 0,.fn g [] [.ptr 1 0]] fun H' o =>
 H' = curE (q8 rd c).1 :: .blk [.ptr 0 0] :: accE 5 (encs (q8 rd c).2.1)∧o = .val (.tup [accV 2 (encs (q8 rd c).2.1),.bool (q8 rd c).2.2])
def qzh (g:FuncId) (x:Nat×K×List N):AF×List Ent :=
 (⟨[(0,.ptr 0 0),(1,.fn g [] [.ptr 1 0]),(6,accV 2 (encs x.2.2))],[]⟩,curE x.2.1 :: .blk [.ptr 0 0] :: accE 5 (encs x.2.2))
theorem q57 {rd:K->R3} {g:FuncId} {b:Nat} (hd:∀ c,Mon c (rd c).1) (hl:∀ c,(rd c).2.2 = true->rest (rd c).1 < rest c) (ih:∀ c,c.good->rest c≤b->VClo g c (rd c).1 (rd c).2) (c:K) (hg:c.good) (hr:rest c≤b):qq4 rd g c:=by
 unfold qq4
 obtain ⟨kk,hk1,hk2,hk0⟩:∃ k:Nat,((q8 rd c).2.1 = []->k = 2)∧((q8 rd c).2.1≠[]->k = 3)∧2≤k:=by
  by_cases h:(q8 rd c).2.1 = []
  ·exact ⟨2,fun _=>rfl,fun g=>absurd h g,by omega⟩
  ·exact ⟨3,fun g=>absurd g h,fun _=>rfl,by omega⟩
 refine qdx c0dk kk (by simpa using hk0) (by simp) ?_
 have g1:(qh c [123]).1.good:=(qe c _).1 hg
 have hr1:rest (qh c [123]).1≤b:=by have:=(qe c [123]).2.1;omega
 by_cases hw:(qh c [123]).2 = true
 ·have hpa:q8 rd c = qbn rd (rest (qh c [123]).1 + 1) (qh c [123]).1 []:=by rw [q8,if_pos hw]
  rw [hpa] at hk1 hk2 ⊢
  clear hpa
  generalize htg:qbn rd (rest (qh c [123]).1 + 1) (qh c [123]).1 [] = tg at hk1 hk2 ⊢
  repeat' (first | refine vs_ ?_ | ((first | refine vr_ ?_ | fail)<;>(try simp only [hw,go_sem,↓reduceIte])) | ((first | (refine cs_ ?_ ?_<;>intro hc) | refine cj_ ?_ | fail | refine qcc hg.ok ?_)<;>(try refine ev_ ?_)) | with_reducible exact ti_)
  refine qcm (S:=Nat×K×List N) (fun x=>x.2.1.good∧rest x.2.1≤b∧qbn rd x.1 x.2.1 x.2.2 = tg∧rest x.2.1 < x.1∧x.2.2.length + rest x.2.1≤1048577)
   (qzh g) (fun x=>rest x.2.1) ?_ ?_
  ·refine qb1 (rest (qh c [123]).1 + 1,(qh c [123]).1,[]) [0,1] ⟨g1,hr1,htg,Nat.lt_succ_self _,?_⟩ rfl (by simp) ?_ ?_ ?_
   ·have h9:=g1.rest
    unfold rest
    simp only [List.length_nil]
    omega
   all_goals simp only [qzh,encs,qbl,qbo]
   all_goals (refine ev_ ?_;(try with_reducible exact ti_))
  ·rintro ⟨fu,d,acc⟩ ⟨i1,i2,i3,i4,i5⟩
   simp only at i1 i2 i3 i4 i5
   obtain ⟨fu,rfl⟩:∃ k,fu = k + 1:=⟨fu - 1,by omega⟩
   rw [qbn] at i3
   have hcap:qfe (acc.length + 1) 64:=capN (by omega)
   have hclo:=ih d i1 i2
   have hlt:=hl d
   have j1:(rd d).1.good:=(hd d).1 i1
   have j2:=(hd d).2.1
   generalize rd d = r at *
   obtain ⟨d',n,ok⟩:=r
   simp only at j1 j2 hlt i3 hclo
   unfold qzh qbdb
   generalize h9:qbc9 = R9
   cases ok with
   | false =>
     rw [if_neg (by simp)] at i3
     subst i3
     obtain rfl:=hk1 rfl
     by_cases h0:acc = []
     ·subst h0
      simp only [encs,qbl,qbo]
      repeat' (first | refine vs_ ?_ | ((first | refine vr_ ?_ | refine qxo hclo ?_ | (refine cs_ ?_ ?_<;>intro hc) | refine cj_ ?_ | fail)<;>(try refine ev_ ?_)) | with_reducible exact ti_)
      all_goals first | exact ⟨rfl,rfl⟩
     ·have hne:=qbf h0
      simp only [qbt hne,qbu hne,qbc]
      repeat' (first | refine vs_ ?_ | ((first | refine vr_ ?_ | refine qxo hclo ?_ | (refine cs_ ?_ ?_<;>intro hc) | refine cj_ ?_ | fail)<;>(try refine ev_ ?_)) | with_reducible exact ti_)
      all_goals first | exact ⟨rfl,rfl⟩
   | true =>
     have hlt:=hlt rfl
     rw [if_pos rfl] at i3
     by_cases h0:acc = []
     ·subst h0
      simp only [encs,qbl,qbo]
      repeat' (first | refine vs_ ?_ | ((first | refine vr_ ?_ | refine qxo hclo ?_ | (refine cs_ ?_ ?_<;>intro hc) | refine cj_ ?_ | fail)<;>(try refine ev_ ?_)) | with_reducible exact ti_)
      refine qblu (af':=⟨[(0,.ptr 0 0),(1,.fn g [] [.ptr 1 0]),(6,.row 2 1)],[]⟩) (H':=[curE d',.blk [.ptr 0 0],.app 5 (encs ([] ++ [n]))]) ?_ (qbkg [0,1,3] rfl (by simp) ?_ ?_ ?_)
      rotate_left
      all_goals (try simp only [← ql,List.nil_append,encs,List.length_nil])
      all_goals (try (refine ev_ ?_;(try with_reducible exact ti_)))
      all_goals (try (rw [ql,q7,qbs];exact ⟨rfl,rfl⟩))
      subst h9
      have hta:(qf d' [59]).1.good:=(qm _ _).1 j1
      have htr:=(qm d' [59]).2.1
      have hne3:¬ [] ++ [n] = []:=by simp
      have hlen:([] ++ [n]).length = 1:=by simp
      repeat' (first | refine vs_ ?_ | ((first | refine vr_ ?_ | refine qef j1.ok ?_ | refine a_Is ?_ | refine qcc hta.ok ?_ | (refine cs_ ?_ ?_<;>intro hc) | refine cj_ ?_ | fail)<;>(try refine ev_ ?_)) | with_reducible exact ti_)
      ·have ht:(qf d' [59]).2 = false:=by assumption
       rw [ht,Bool.false_and,if_neg (by simp)] at i3
       subst i3
       obtain rfl:=hk2 (by simp)
       simp only [qbu (qbf hne3),qbt (qbf hne3),qbc,hlen,← ql]
       (refine ev_ ?_;(try with_reducible exact ti_))
       all_goals first | (rw [ql];exact q7 _ _) | exact ⟨rfl,rfl⟩ | rfl | (rw [ql,q7,qbs];exact ⟨rfl,rfl⟩)
      ·have ht:(qf d' [59]).2 = true:=by assumption
       have hi:isK (qf d' [59]).1 [125] = true:=by assumption
       rw [ht,hi,Bool.true_and,Bool.not_true,if_neg (by simp)] at i3
       subst i3
       obtain rfl:=hk2 (by simp)
       simp only [qbu (qbf hne3),qbt (qbf hne3),qbc,hlen,← ql]
       (refine ev_ ?_;(try with_reducible exact ti_))
       all_goals first | (rw [ql];exact q7 _ _) | exact ⟨rfl,rfl⟩ | rfl | (rw [ql,q7,qbs];exact ⟨rfl,rfl⟩)
      ·have ht:(qf d' [59]).2 = true:=by assumption
       have hi:isK (qf d' [59]).1 [125] = false:=by assumption
       rw [ht,hi,Bool.true_and,Bool.not_false,if_pos rfl] at i3
       have htl:=qcv ht
       refine qb1 (fu,(qf d' [59]).1,[] ++ [n]) [0,1,2] ⟨⟨hta,by simp only;omega,i3,by simp only;omega,by simp only [hlen];omega⟩,by simp only;omega⟩ rfl (by simp) ?_ ?_ ?_
       all_goals simp only [qzh,qbu (qbf hne3),qbt (qbf hne3),qbc,hlen,← ql]
       all_goals (refine ev_ ?_;(try with_reducible exact ti_))
       all_goals first | (rw [ql];exact q7 _ _) | exact ⟨rfl,rfl⟩ | rfl | (rw [ql,q7,qbs];exact ⟨rfl,rfl⟩)
     ·have hne:=qbf h0
      simp only [qbt hne,qbu hne,qbc]
      repeat' (first | refine vs_ ?_ | ((first | refine vr_ ?_ | refine qxo hclo ?_ | (refine cs_ ?_ ?_<;>intro hc) | refine cj_ ?_ | fail)<;>(try refine ev_ ?_)) | with_reducible exact ti_)
      refine qblu (af':=⟨[(0,.ptr 0 0),(1,.fn g [] [.ptr 1 0]),(6,.row 2 (acc.length + 1))],[]⟩) (H':=[curE d',.blk [.ptr 0 0],.app 5 (encs (acc ++ [n]))]) ?_ (qbkg [0,1,4] rfl (by simp) ?_ ?_ ?_)
      rotate_left
      all_goals (try simp only [← ql,List.nil_append,encs,List.length_nil])
      all_goals (try (refine ev_ ?_;(try with_reducible exact ti_)))
      all_goals (try (rw [ql,q7,qbs];exact ⟨rfl,rfl⟩))
      subst h9
      have hta:(qf d' [59]).1.good:=(qm _ _).1 j1
      have htr:=(qm d' [59]).2.1
      have hne3:¬ acc ++ [n] = []:=by simp
      have hlen:(acc ++ [n]).length = acc.length + 1:=by simp
      repeat' (first | refine vs_ ?_ | ((first | refine vr_ ?_ | refine qef j1.ok ?_ | refine a_Is ?_ | refine qcc hta.ok ?_ | (refine cs_ ?_ ?_<;>intro hc) | refine cj_ ?_ | fail)<;>(try refine ev_ ?_)) | with_reducible exact ti_)
      ·have ht:(qf d' [59]).2 = false:=by assumption
       rw [ht,Bool.false_and,if_neg (by simp)] at i3
       subst i3
       obtain rfl:=hk2 (by simp)
       simp only [qbu (qbf hne3),qbt (qbf hne3),qbc,hlen,← ql]
       (refine ev_ ?_;(try with_reducible exact ti_))
       all_goals first | (rw [ql];exact q7 _ _) | exact ⟨rfl,rfl⟩ | rfl | (rw [ql,q7,qbs];exact ⟨rfl,rfl⟩)
      ·have ht:(qf d' [59]).2 = true:=by assumption
       have hi:isK (qf d' [59]).1 [125] = true:=by assumption
       rw [ht,hi,Bool.true_and,Bool.not_true,if_neg (by simp)] at i3
       subst i3
       obtain rfl:=hk2 (by simp)
       simp only [qbu (qbf hne3),qbt (qbf hne3),qbc,hlen,← ql]
       (refine ev_ ?_;(try with_reducible exact ti_))
       all_goals first | (rw [ql];exact q7 _ _) | exact ⟨rfl,rfl⟩ | rfl | (rw [ql,q7,qbs];exact ⟨rfl,rfl⟩)
      ·have ht:(qf d' [59]).2 = true:=by assumption
       have hi:isK (qf d' [59]).1 [125] = false:=by assumption
       rw [ht,hi,Bool.true_and,Bool.not_false,if_pos rfl] at i3
       have htl:=qcv ht
       refine qb1 (fu,(qf d' [59]).1,acc ++ [n]) [0,1,2] ⟨⟨hta,by simp only;omega,i3,by simp only;omega,by simp only [hlen];omega⟩,by simp only;omega⟩ rfl (by simp) ?_ ?_ ?_
       all_goals simp only [qzh,qbu (qbf hne3),qbt (qbf hne3),qbc,hlen,← ql]
       all_goals (refine ev_ ?_;(try with_reducible exact ti_))
       all_goals first | (rw [ql];exact q7 _ _) | exact ⟨rfl,rfl⟩ | rfl | (rw [ql,q7,qbs];exact ⟨rfl,rfl⟩)
 ·have hpa:q8 rd c = ((qh c [123]).1,[],false):=by rw [q8,if_neg hw]
  rw [hpa] at hk1 hk2 ⊢
  obtain rfl:=hk1 rfl
  repeat' (first | refine vs_ ?_ | ((first | refine vr_ ?_ | fail)<;>(try simp only [hw,go_sem,↓reduceIte])) | ((first | (refine cs_ ?_ ?_<;>intro hc) | refine cj_ ?_ | fail | refine qcc hg.ok ?_)<;>(try refine ev_ ?_)) | with_reducible exact ti_)
  exact ⟨rfl,rfl⟩
set_option maxRecDepth 4000

theorem qpa {rd:K->R3} (hd:∀ c,Mon c (rd c).1) (hl:∀ c,(rd c).2.2 = true->rest (rd c).1 < rest c):∀ (f:Nat) (c:K) (acc:List N),(qbn rd f c acc).2.1.length≤acc.length + rest c
 | 0,c,acc=>by simp [qbn]
 | f + 1, c, acc => by
   rw [qbn]
   split
   ·rename_i h
    have h1:=hl c h
    split
    ·have h2:=qpa hd hl f (qf (rd c).1 [59]).1 (acc ++ [(rd c).2.1])
     have h3:=(qm (rd c).1 [59]).2.1
     simp only [List.length_append,List.length_cons,List.length_nil] at h2
     omega
    ·simp only [List.length_append,List.length_cons,List.length_nil];omega
   ·simp
theorem qsg {rd:K->R3} (hd:∀ c,Mon c (rd c).1) (hl:∀ c,(rd c).2.2 = true->rest (rd c).1 < rest c) (c:K):(q8 rd c).2.1.length≤rest c:=by
 unfold q8
 split
 ·have h1:=qpa hd hl (rest (qh c [123]).1 + 1) (qh c [123]).1 []
  have h2:=(qe c [123]).2.1
  simp only [List.length_nil] at h1
  omega
 ·simp
theorem qt5 {rd:K->R3}:∀ (f:Nat) (c:K) (acc:List N),(qbn rd f c acc).2.2 = true->(qbn rd f c acc).2.1≠[]
 | 0,c,acc=>fun h=>by cases h
 | f + 1, c, acc => fun h => by
   rw [qbn] at h ⊢
   split at h
   ·rename_i h1
    rw [if_pos h1]
    split at h
    ·rename_i h2
     rw [if_pos h2]
     exact qt5 f _ _ h
    ·rename_i h2
     rw [if_neg h2]
     simp
   ·cases h
theorem qop {rd:K->R3} {c:K} (h:(q8 rd c).2.2 = true):(q8 rd c).2.1≠[]:=by
 unfold q8 at h ⊢
 split at h
 ·rename_i h1
  rw [if_pos h1]
  exact qt5 _ _ _ h
 ·cases h
theorem q1d {rd:K->R3} {g:FuncId} {c:K} (h:qq4 rd g c) (h0:(q8 rd c).2.1 = []) {L:List Ent} {Q:List Ent->VO->Prop} (hq:Q (curE (q8 rd c).1 :: .blk [.ptr 0 0] :: L) (.val (.tup [.nils,.bool (q8 rd c).2.2]))) :
 VApp Tryz.prog (curE c :: .blk [.ptr 0 0] :: L) (.fn 194 [] []) [.ptr 0 0,.fn g [] [.ptr 1 0]] Q :=
 qb3 (first:=[]) (caps:=[]) (by
  simp only [List.nil_append,List.append_nil]
  refine qde (H0:=[curE c,.blk [.ptr 0 0]]) (L:=L) h (ql1 c) rfl ?_
  rintro H1 o ⟨rfl,rfl⟩
  rw [h0]
  exact ⟨rfl,ql1 _,rfl,hq⟩)
theorem qz1 {rd:K->R3} {g:FuncId} {c:K} (h:qq4 rd g c) (h0:(q8 rd c).2.1≠[]) {L:List Ent} {Q:List Ent->VO->Prop}
 (hq:Q (curE (q8 rd c).1 :: .blk [.ptr 0 0] :: (L ++ [.app 5 (encs (q8 rd c).2.1)])) (.val (.tup [.row (L.length + 2) (q8 rd c).2.1.length,.bool (q8 rd c).2.2]))) :
 VApp Tryz.prog (curE c :: .blk [.ptr 0 0] :: L) (.fn 194 [] []) [.ptr 0 0,.fn g [] [.ptr 1 0]] Q :=
 qb3 (first:=[]) (caps:=[]) (by
  simp only [List.nil_append,List.append_nil]
  have hne:=qbf h0
  have hs:AV.rens (sg [0,1]) [.ptr 0 0,.fn g [] [.ptr 1 0]] = [.ptr 0 0,.fn g [] [.ptr 1 0]]:=rfl
  rw [← hs]
  have ha:AV.bds 2 [.ptr 0 0,.fn g [] [.ptr 1 0]] = true:=rfl
  have napp_ren:∀ σ:Nat->Nat,(Ent.app 5 (encs (q8 rd c).2.1)).ren σ = .app 5 (encs (q8 rd c).2.1):=fun σ=>Ent.ren_same (m:=0) (fun i hi=>by omega) _ (by simp [Ent.bd,q7])
  have hp:∀ σ:Nat->Nat,σ 0 = 0->(Ent.blk [.ptr 0 0]).ren σ = .blk [.ptr 0 0]:=fun σ h=>by simp [Ent.ren,AV.rens,AV.ren,h]
  refine qhd (H0:=[curE c,.blk [.ptr 0 0]]) [0,1] h (by simp) (by simp) rfl ?_ ha ?_
  ·intro j e2 hj
   have hj2:j < 2:=by have:=(List.getElem?_eq_some_iff.1 hj).1;simpa using this
   have:j = 0∨j = 1:=by omega
   rcases this with rfl | rfl
   ·simp only [List.getElem?_cons_zero,Option.some.injEq] at hj
    subst hj
    exact .inr ⟨q9 _ _,by rw [qc4];rfl⟩
   ·simp only [List.getElem?_cons_succ,List.getElem?_cons_zero,Option.some.injEq] at hj
    subst hj
    exact .inr ⟨rfl,rfl⟩
  rintro H1 o ⟨rfl,rfl⟩
  have hq2:(Ent.blk [.ptr 0 0]).ren (sg' [0,1] (L.length + 1 + 1)) = .blk [.ptr 0 0]:=hp _ rfl
  simp only [qbu hne,qbt hne,qbc,List.length_cons,List.length_nil,List.take_succ_cons,List.take_zero,List.map_nil,qbw,List.drop_zero,List.drop_succ_cons,List.map_cons,qc4,napp_ren,hq2,VO.ren,AV.ren,AV.rens,List.set_cons_zero,List.set_cons_succ]
  exact hq)
def posZ (p:Int):AV:=.agg [.int .i64 0,.int .i64 p,.int .i64 0,.str [],.nils]
theorem qjq (p:Int):AV.agg [.int .i64 0,.int .i64 p,.int .i64 0,.str [],.sl 5 []] = enc (posN p):=by simp only [posN,enc,encs]
theorem q39 (p e:N):AV.agg [.int .i64 15,.int .i64 p.pos,.int .i64 0,.str [],.sl 5 [enc p,enc e]] = enc (altN p e):=by simp only [altN,enc,encs]
section
variable {rec:K->K×Option N} {b:Nat} (ih:∀ c,c.good->rest c < b->qb7 Tryz.prog 58 (curE c) (curE (rec c).1) [.ptr 0 0] (resP (rec c).2))
include ih
theorem qbjf (c:K) (hg:c.good) (hr:rest c≤b):VClo 195 c (ofO (qbm rec c)).1 (ofO (qbm rec c)).2:=by
 refine qq c0di 2 (by simp) (by simp) ?_
 repeat' (first | refine vs_ ?_ | ((first | refine vr_ ?_ | refine qcs (qvt ih c hg hr) rfl ?_ | (refine cs_ ?_ ?_<;>intro hc) | refine cj_ ?_ | fail)<;>(try refine ev_ ?_)) | with_reducible exact ti_)
 exact ⟨rfl,rfl⟩
theorem q75 (c:K) (hg:c.good) (hr:rest c≤b):VClo 196 c (qdv rec c).1 (qdv rec c).2:=by
 have hp:=qbx5 (rest c + 2) c hg (by omega)
 have g1:(qb6 (rest c + 2) c).1.good:=(qes _ c).1 hg
 have hr1:rest (qb6 (rest c + 2) c).1≤b:=by have:=(qes (rest c + 2) c).2.1;omega
 refine qq c0dj 2 (by simp) (by simp) ?_
 unfold qdv
 generalize qb6 (rest c + 2) c = r at *
 obtain ⟨d,o⟩:=r
 simp only at hp g1 hr1 ⊢
 have g2:(qh d [45,62]).1.good:=(qe _ _).1 g1
 have hlt:(qh d [45,62]).2 = true->rest (qh d [45,62]).1 < b:=fun h=>by have:=qhn h;omega
 unfold altB altC
 cases o with
 | none =>
   repeat' (first | refine vs_ ?_ | ((first | refine vr_ ?_ | fail)<;>(try simp (disch:=first | omega | (simp only [List.length_set,List.length_append,List.length_cons,List.length_nil];done) | (simp only [List.length_set,List.length_append,List.length_cons,List.length_nil];omega)) only [Option.isSome_none,Option.getD_none,go_sem,↓reduceIte])) | ((first | (refine cs_ ?_ ?_<;>intro hc) | refine cj_ ?_ | fail | refine qcs hp rfl ?_)<;>(try refine ev_ ?_)) | with_reducible exact ti_)
   all_goals (try rfl)
 | some p =>
   by_cases hw:(qh d [45,62]).2 = true
   ·have hr:=ih _ g2 (hlt hw)
    repeat' (first | refine vs_ ?_ | ((first | refine vr_ ?_ | fail)<;>(try simp (disch:=first | omega | (simp only [List.length_set,List.length_append,List.length_cons,List.length_nil];done) | (simp only [List.length_set,List.length_append,List.length_cons,List.length_nil];omega)) only [hw,Option.isSome_some,Option.getD_some,go_sem,↓reduceIte])) | ((first | (refine cs_ ?_ ?_<;>intro hc) | refine cj_ ?_ | fail | refine qcs hp rfl ?_ | refine qcc g1.ok ?_ | refine qcs hr rfl ?_)<;>(try refine ev_ ?_)) | with_reducible exact ti_)
    all_goals first | (rw [q39];done) | (rw [q39];rfl) | (rw [q39];exact ⟨rfl,rfl⟩)
   ·repeat' (first | refine vs_ ?_ | ((first | refine vr_ ?_ | fail)<;>(try simp (disch:=first | omega | (simp only [List.length_set,List.length_append,List.length_cons,List.length_nil];done) | (simp only [List.length_set,List.length_append,List.length_cons,List.length_nil];omega)) only [hw,Option.isSome_some,Option.getD_some,go_sem,↓reduceIte])) | ((first | (refine cs_ ?_ ?_<;>intro hc) | refine cj_ ?_ | fail | refine qcs hp rfl ?_ | refine qcc g1.ok ?_)<;>(try refine ev_ ?_)) | with_reducible exact ti_)
    all_goals (try rfl)
end
set_option maxRecDepth 4000

theorem qcb0 (p:Int) (l:List N) (k:N):AV.agg [.int .i64 26,.int .i64 p,.int .i64 0,.str [],.sl 5 (encs l ++ [enc k])] = enc (.mk 26 p 0 [] (l ++ [k])):=by simp only [enc,ql]
section
variable {rec:K->K×Option N} {b:Nat} (hm:∀ c,Mon c (rec c).1) (ih:∀ c,c.good->rest c < b->qb7 Tryz.prog 58 (curE c) (curE (rec c).1) [.ptr 0 0] (resP (rec c).2))
include hm ih
theorem qbzu (p:Int) (c:K) (hg:c.good) (hr:rest c≤b):qb7 Tryz.prog 159 (curE c) (curE (qgo rec p c).1) [.ptr 0 0,posZ p] (resB (qgo rec p c).2):=by
 have hd:∀ c,Mon c (ofO (qbm rec c)).1:=fun c=>qe7 hm c
 have hl:∀ c,(ofO (qbm rec c)).2.2 = true->rest (ofO (qbm rec c)).1 < rest c:=fun c h=>qk7 hm h
 have hS:=q57 (g:=195) hd hl (fun c g r=>qbjf ih c g r) c hg hr
 have hlen:=qsg hd hl c
 have hne:=@qop (fun c=>ofO (qbm rec c)) c
 have g1:(q8 (fun c=>ofO (qbm rec c)) c).1.good:=(qfu hd c).1 hg
 have hr1:rest (q8 (fun c=>ofO (qbm rec c)) c).1≤b:=by have:=(qfu hd c).2.1;omega
 have happ0:=@q1d _ _ _ hS
 have happ1:=@qz1 _ _ _ hS
 have hgr:=hg.rest
 clear hS hd hl
 refine qq c0de 1 (by simp) (by simp [posZ]) ?_
 unfold qgo posZ
 generalize q8 (fun c=>ofO (qbm rec c)) c = L at *
 obtain ⟨d,l,ok⟩:=L
 simp only at hlen hne g1 hr1 happ0 happ1
 have g2:(qh d [105,110]).1.good:=(qe _ _).1 g1
 have hlt:(qh d [105,110]).2 = true->rest (qh d [105,110]).1 < b:=fun h=>by have:=qhn h;omega
 have hcap:qfe (l.length + 1) 64:=capN (by unfold rest at hlen;omega)
 unfold letB letC
 by_cases h0:l = []
 ·subst h0
  have ok0:ok = false:=by cases ok with | false=>rfl | true=>exact absurd rfl (hne rfl)
  subst ok0
  repeat' (first | refine vs_ ?_ | ((first | refine vr_ ?_ | refine happ0 rfl ?_ | (refine cs_ ?_ ?_<;>intro hc) | refine cj_ ?_ | fail)<;>(try refine ev_ ?_)) | with_reducible exact ti_)
  all_goals (try rw [qjq])
  all_goals (try exact ⟨rfl,rfl⟩)
 ·cases ok with
  | false =>
    repeat' (first | refine vs_ ?_ | ((first | refine vr_ ?_ | refine happ1 h0 ?_ | (refine cs_ ?_ ?_<;>intro hc) | refine cj_ ?_ | fail)<;>(try refine ev_ ?_)) | with_reducible exact ti_)
    all_goals (try rw [qjq])
    all_goals (try exact ⟨rfl,rfl⟩)
  | true =>
    by_cases hw:(qh d [105,110]).2 = true
    ·have hr:=ih _ g2 (hlt hw)
     repeat' (first | refine vs_ ?_ | ((first | refine vr_ ?_ | fail)<;>(try simp only [hw,go_sem,↓reduceIte])) | ((first | (refine cs_ ?_ ?_<;>intro hc) | refine cj_ ?_ | fail | refine happ1 h0 ?_ | refine qcc g1.ok ?_ | refine qcs hr rfl ?_)<;>(try refine ev_ ?_)) | with_reducible exact ti_)
     all_goals (try rw [qcb0])
     all_goals exact ⟨by rw [ql,q7],rfl⟩
    ·repeat' (first | refine vs_ ?_ | ((first | refine vr_ ?_ | fail)<;>(try simp only [hw,go_sem,↓reduceIte])) | ((first | (refine cs_ ?_ ?_<;>intro hc) | refine cj_ ?_ | fail | refine happ1 h0 ?_ | refine qcc g1.ok ?_)<;>(try refine ev_ ?_)) | with_reducible exact ti_)
     all_goals (try rw [qjq])
     all_goals (try exact ⟨rfl,rfl⟩)
theorem qbes (p:Int) (c:K) (hg:c.good) (hr:rest c < b):qb7 Tryz.prog 160 (curE c) (curE (qeh rec p c).1) [.ptr 0 0,posZ p] (resB (qeh rec p c).2):=by
 have hd:∀ c,Mon c (qdv rec c).1:=fun c=>qly hm c
 have hl:∀ c,(qdv rec c).2.2 = true->rest (qdv rec c).1 < rest c:=fun c h=>qrf hm h
 have hx:=ih c hg hr
 have g1:(rec c).1.good:=(hm c).1 hg
 have hr1:=(hm c).2.1
 refine qq c0df 1 (by simp) (by simp [posZ]) ?_
 unfold qeh posZ
 generalize rec c = r0 at *
 obtain ⟨d0,o⟩:=r0
 simp only at g1 hr1 hx ⊢
 have g2:(qh d0 [111,102]).1.good:=(qe _ _).1 g1
 have hr2:rest (qh d0 [111,102]).1≤b:=by have:=(qe d0 [111,102]).2.1;omega
 have hS:=q57 (g:=196) hd hl (fun c g r=>q75 ih c g r) (qh d0 [111,102]).1 g2 hr2
 have hlen:=qsg hd hl (qh d0 [111,102]).1
 have happ0:=@q1d _ _ _ hS
 have happ1:=@qz1 _ _ _ hS
 have hgr:=g2.rest
 clear hS hd hl
 unfold qy1 q02
 cases o with
 | none =>
   repeat' (first | refine vs_ ?_ | ((first | refine vr_ ?_ | fail)<;>(try simp (disch:=first | omega | (simp only [List.length_set,List.length_append,List.length_cons,List.length_nil];done) | (simp only [List.length_set,List.length_append,List.length_cons,List.length_nil];omega)) only [Option.isSome_none,Option.getD_none,go_sem,↓reduceIte])) | ((first | (refine cs_ ?_ ?_<;>intro hc) | refine cj_ ?_ | fail | refine qcs hx rfl ?_)<;>(try refine ev_ ?_)) | with_reducible exact ti_)
   all_goals (try rw [qjq])
   all_goals (try exact ⟨rfl,rfl⟩)
 | some x =>
   by_cases hw:(qh d0 [111,102]).2 = true
   ·generalize q8 (qdv rec) (qh d0 [111,102]).1 = L at *
    obtain ⟨d,l,ok⟩:=L
    simp only at hlen happ0 happ1 ⊢
    have hcap:qfe (1 + l.length) 64:=capN (by unfold rest at hlen;omega)
    by_cases h0:l = []
    ·subst h0
     repeat' (first | refine vs_ ?_ | ((first | refine vr_ ?_ | fail)<;>(try simp (disch:=first | omega | (simp only [List.length_set,List.length_append,List.length_cons,List.length_nil];done) | (simp only [List.length_set,List.length_append,List.length_cons,List.length_nil];omega)) only [hw,Option.isSome_some,Option.getD_some,go_sem,↓reduceIte])) | ((first | (refine cs_ ?_ ?_<;>intro hc) | refine cj_ ?_ | fail | refine qcs hx rfl ?_ | refine qcc g1.ok ?_ | refine happ0 rfl ?_)<;>(try refine ev_ ?_)) | with_reducible exact ti_)
     all_goals (try simp only [enc,encs])
    ·have hnl:¬ l.length = 0:=fun h=>h0 (List.length_eq_zero_iff.1 h)
     repeat' (first | refine vs_ ?_ | ((first | refine vr_ ?_ | fail)<;>(try simp (disch:=first | omega | (simp only [List.length_set,List.length_append,List.length_cons,List.length_nil];done) | (simp only [List.length_set,List.length_append,List.length_cons,List.length_nil];omega)) only [hw,hnl,hcap,Option.isSome_some,Option.getD_some,go_sem,↓reduceIte])) | ((first | (refine cs_ ?_ ?_<;>intro hc) | refine cj_ ?_ | fail | refine qcs hx rfl ?_ | refine qcc g1.ok ?_ | refine happ1 h0 ?_)<;>(try refine ev_ ?_)) | with_reducible exact ti_)
     have hcm:l.length + 1 = 1 + l.length:=Nat.add_comm _ _
     simp only [hcm,if_true,enc,encs,AV.bd,AV.bds,qne,q7,Bool.and_true,and_self]
   ·repeat' (first | refine vs_ ?_ | ((first | refine vr_ ?_ | fail)<;>(try simp (disch:=first | omega | (simp only [List.length_set,List.length_append,List.length_cons,List.length_nil];done) | (simp only [List.length_set,List.length_append,List.length_cons,List.length_nil];omega)) only [hw,Option.isSome_some,Option.getD_some,go_sem,↓reduceIte])) | ((first | (refine cs_ ?_ ?_<;>intro hc) | refine cj_ ?_ | fail | refine qcs hx rfl ?_ | refine qcc g1.ok ?_)<;>(try refine ev_ ?_)) | with_reducible exact ti_)
    all_goals (try rw [qjq])
    all_goals (try exact ⟨rfl,rfl⟩)
def qbe1 (p:Int) (x:Nat×K×List N):AF×List Ent :=
 (⟨[(0, .ptr 0 0), (3, .ptr 1 0), (4, .ptr 2 0), (11, .agg (ifsW.map AV.str)), (12, .int .i64 x.1)], []⟩,
   curE x.2.1 :: .blk [.int .i64 28,.int .i64 p,.int .i64 0,.str [],accV 3 (encs x.2.2)] :: .blk [.int .i64 0,.int .i64 0,.int .i64 0,.str [],.nils] :: accE 5 (encs x.2.2))
theorem qbqi (p:Int) (c:K) (hg:c.good) (hr:rest c < b):qb7 Tryz.prog 161 (curE c) (curE (qda rec p ifsW c []).1) [.ptr 0 0,posZ p] (resB (qda rec p ifsW c []).2):=by
 refine qq c0dg 1 (by simp) (by simp [posZ]) ?_
 unfold posZ
 generalize htg:qda rec p ifsW c [] = tg
 have hW:AV.agg (ifsW.map AV.str) = .agg [.str [],.str [116,104,101,110],.str [101,108,115,101]]:=rfl
 repeat' (first | refine vs_ ?_ | ((first | refine vr_ ?_ | (refine cs_ ?_ ?_<;>intro hc) | refine cj_ ?_ | simp (disch:=omega) only [qc,qs])<;>(try refine ev_ ?_)) | with_reducible exact ti_)
 refine qcm (S:=Nat×K×List N) (fun x=>x.1≤3∧x.2.1.good∧rest x.2.1 < b∧qda rec p (ifsW.drop x.1) x.2.1 x.2.2 = tg∧x.2.2.length = x.1)
  (qbe1 p) (fun x=>3 - x.1) ?_ ?_
 ·refine qb1 (0,c,[]) [0,1,2] ⟨by simp,hg,hr,htg,rfl⟩ rfl (by simp) ?_ ?_ ?_
  all_goals simp only [qbe1,hW,encs,qbl,qbo]
  all_goals (refine ev_ ?_;(try with_reducible exact ti_))
 ·rintro ⟨i,d,acc⟩ ⟨i1,i2,i3,i4,i5⟩
  simp only at i1 i2 i3 i4 i5
  unfold qbe1
  by_cases hlt:i < 3
  ·have hil:(i:Int) < 3:=by omega
   have hd:=qrq (ls:=ifsW) (i:=i) (by simpa [ifsW] using hlt)
   rw [hd,qda] at i4
   have hw0:ifsW.getD i [] = [] ↔ i = 0:=by
    have:i = 0∨i = 1∨i = 2:=by omega
    rcases this with rfl | rfl | rfl<;>simp [ifsW]
   have hln:(ifsW.map AV.str).length = 3:=rfl
   have hln2:i < ifsW.length:=hlt
   have hget:(ifsW.map AV.str).getD i .junk = .str (ifsW.getD i []):=q1r hln2
   clear hd
   generalize ifsW.getD i [] = w at *
   have hab:∀ k,AV.bds k (ifsW.map AV.str) = true:=fun k=>qv4 k _
   have har:∀ σ:Nat->Nat,AV.rens σ (ifsW.map AV.str) = ifsW.map AV.str:=fun σ=>q41 σ _
   generalize hW2:ifsW.map AV.str = aw at *
   by_cases h0:i = 0
   ·subst h0
    have hw:w = []:=hw0.2 rfl
    have ha:acc = []:=List.length_eq_zero_iff.1 i5
    subst hw ha
    have hx:=ih d i2 i3
    have g1:(rec d).1.good:=(hm d).1 i2
    have hr1:=(hm d).2.1
    rw [ifsK,if_pos rfl] at i4
    simp only [if_true] at i4
    generalize rec d = r at *
    obtain ⟨d',o⟩:=r
    simp only at g1 hr1 hx i4
    have hcap:qfe 1 64:=capN (by omega)
    simp only [encs,qbl,qbo]
    cases o with
    | none =>
      rw [if_neg (by simp)] at i4
      subst i4
      repeat' (first | refine vs_ ?_ | ((first | refine vr_ ?_ | fail)<;>(try simp (disch:=first | omega | (simp only [List.length_set,List.length_append,List.length_cons,List.length_nil];done) | (simp only [List.length_set,List.length_append,List.length_cons,List.length_nil];omega)) only [hil,hget,hln,ne_eq,not_true_eq_false,not_false_eq_true,decide_true,decide_false,Option.isSome_none,Option.isSome_some,Option.getD_none,Option.getD_some,go_sem,↓reduceIte])) | ((first | (refine cs_ ?_ ?_<;>intro hc) | refine cj_ ?_ | simp (disch:=omega) only [qc,qs] | refine qcs hx rfl ?_)<;>(try refine ev_ ?_)) | with_reducible exact ti_)
      all_goals first | (simp only [enc,encs];done) | (exfalso;omega)
    | some n =>
      rw [if_pos (by rfl)] at i4
      repeat' (first | refine vs_ ?_ | ((first | refine vr_ ?_ | fail)<;>(try simp (disch:=first | omega | (simp only [List.length_set,List.length_append,List.length_cons,List.length_nil];done) | (simp only [List.length_set,List.length_append,List.length_cons,List.length_nil];omega)) only [hil,hget,hln,ne_eq,not_true_eq_false,not_false_eq_true,decide_true,decide_false,Option.isSome_none,Option.isSome_some,Option.getD_none,Option.getD_some,go_sem,↓reduceIte])) | ((first | (refine cs_ ?_ ?_<;>intro hc) | refine cj_ ?_ | simp (disch:=omega) only [qc,qs] | refine qcs hx rfl ?_)<;>(try refine ev_ ?_)) | with_reducible exact ti_)
      ·refine qb1 (1,d',[n]) [0,1,2,4] ⟨⟨by simp,g1,by simp only;omega,by simpa using i4,rfl⟩,by simp⟩ rfl (by simp) ?_ ?_ ?_
       all_goals simp only [qbe1,hW2,encs,qh5,qig]
       all_goals (refine ev_ ?_;(try with_reducible exact ti_))
       all_goals (try simp only [hab,har,show IntKind.i64.wrap (0 + 1) = ((1:Nat):Int) by rfl,and_self,true_and])
       all_goals (try rfl)
      ·exfalso;omega
   ·have hwn:(w = []) = False:=eq_false (fun h=>h0 (hw0.1 h))
    have ha:acc≠[]:=fun h=>h0 (by rw [← i5,h];rfl)
    have hne:=qbf ha
    have hik:ifsK d w = qh d w:=by rw [ifsK,if_neg (fun h=>h0 (hw0.1 h))]
    rw [hik] at i4
    have g1:(qh d w).1.good:=(qe d w).1 i2
    have hr1:=(qe d w).2.1
    have hx:=ih (qh d w).1 g1 (by omega)
    have g2:(rec (qh d w).1).1.good:=(hm _).1 g1
    have hr2:=(hm (qh d w).1).2.1
    have hcap:qfe (acc.length + 1) 64:=capN (by omega)
    simp only [qbt hne,qbu hne,qbc]
    by_cases hwt:(qh d w).2 = true
    ·rw [if_pos hwt] at i4
     generalize rec (qh d w).1 = r at *
     obtain ⟨d',o⟩:=r
     simp only at g2 hr2 hx i4
     cases o with
     | none =>
       rw [if_neg (by simp)] at i4
       subst i4
       repeat' (first | refine vs_ ?_ | ((first | refine vr_ ?_ | fail)<;>(try simp (disch:=first | omega | (simp only [List.length_set,List.length_append,List.length_cons,List.length_nil];done) | (simp only [List.length_set,List.length_append,List.length_cons,List.length_nil];omega)) only [hil,hwn,Nat.mul_one,hget,hln,ne_eq,not_true_eq_false,not_false_eq_true,decide_true,decide_false,Option.isSome_none,Option.isSome_some,Option.getD_none,Option.getD_some,hwt,go_sem,↓reduceIte])) | ((first | (refine cs_ ?_ ?_<;>intro hc) | refine cj_ ?_ | simp (disch:=omega) only [qc,qs] | refine qcs hx rfl ?_ | refine qcc i2.ok ?_)<;>(try refine ev_ ?_)) | with_reducible exact ti_)
       all_goals (simp only [enc,encs])
     | some n =>
       rw [if_pos (by rfl)] at i4
       repeat' (first | refine vs_ ?_ | ((first | refine vr_ ?_ | fail)<;>(try simp (disch:=first | omega | (simp only [List.length_set,List.length_append,List.length_cons,List.length_nil];done) | (simp only [List.length_set,List.length_append,List.length_cons,List.length_nil];omega)) only [hil,hwn,Nat.mul_one,hget,hln,ne_eq,not_true_eq_false,not_false_eq_true,decide_true,decide_false,Option.isSome_none,Option.isSome_some,Option.getD_none,Option.getD_some,hwt,go_sem,↓reduceIte])) | ((first | (refine cs_ ?_ ?_<;>intro hc) | refine cj_ ?_ | simp (disch:=omega) only [qc,qs] | refine qcs hx rfl ?_ | refine qcc i2.ok ?_)<;>(try refine ev_ ?_)) | with_reducible exact ti_)
       refine qb1 (i + 1,d',acc ++ [n]) [0,1,2,5] ⟨⟨by simp only;omega,g2,by simp only;omega,by simpa using i4,by simp [i5]⟩,by simp only;omega⟩ rfl (by simp) ?_ ?_ ?_
       all_goals simp only [qbe1,hW2,← ql,qgi,qgc]
       all_goals (refine ev_ ?_;(try with_reducible exact ti_))
       all_goals (try simp only [hab,har,and_self,true_and])
       all_goals (try (rw [ql,q7,qbs];exact ⟨rfl,rfl⟩))
       all_goals (try (rw [qs (by unfold maxLen;omega)]))
    ·rw [if_neg hwt] at i4
     subst i4
     repeat' (first | refine vs_ ?_ | ((first | refine vr_ ?_ | fail)<;>(try simp (disch:=first | omega | (simp only [List.length_set,List.length_append,List.length_cons,List.length_nil];done) | (simp only [List.length_set,List.length_append,List.length_cons,List.length_nil];omega)) only [hil,hwn,Nat.mul_one,hget,hln,ne_eq,not_true_eq_false,not_false_eq_true,decide_true,decide_false,Option.isSome_none,Option.isSome_some,Option.getD_none,Option.getD_some,hwt,go_sem,↓reduceIte])) | ((first | (refine cs_ ?_ ?_<;>intro hc) | refine cj_ ?_ | simp (disch:=omega) only [qc,qs] | refine qcc i2.ok ?_)<;>(try refine ev_ ?_)) | with_reducible exact ti_)
     all_goals (simp only [enc,encs])
  ·obtain rfl:i = 3:=by omega
   have hil:¬ (3:Int) < 3:=by omega
   have ha:acc≠[]:=fun h=>by rw [h] at i5;cases i5
   have hne:=qbf ha
   rw [show ifsW.drop 3 = [] from rfl,qda] at i4
   subst i4
   simp only [qbt hne,qbu hne,qbc]
   repeat' (first | refine vs_ ?_ | ((first | refine vr_ ?_ | fail)<;>(try simp only [hil,go_sem,↓reduceIte])) | ((first | (refine cs_ ?_ ?_<;>intro hc) | refine cj_ ?_ | simp (disch:=omega) only [qc,qs])<;>(try refine ev_ ?_)) | with_reducible exact ti_)
   all_goals first | (simp only [enc,encs];done) | (exfalso;omega) | skip
theorem qbkr (c:K) (hg:c.good) (hr:rest c≤b):qb7 Tryz.prog 103 (curE c) (curE (qc8 rec c).1) [.ptr 0 0] (resB (qc8 rec c).2):=by
 have g1:(qf c [92]).1.good:=(qm _ _).1 hg
 have g2:(qf c [108,101,116]).1.good:=(qm _ _).1 hg
 have g3:(qf c [99,97,115,101]).1.good:=(qm _ _).1 hg
 have g4:(qf c [105,102]).1.good:=(qm _ _).1 hg
 refine qq c0dh 1 (by simp) (by simp) ?_
 unfold qc8
 by_cases t1:(qf c [92]).2 = true
 ·rw [if_pos t1]
  have l1:=qcv t1
  by_cases hk:(qp (qf c [92]).1).kind = 1
  ·rw [if_pos hk]
   have hl:=qwb ih [45,62] (rest (qf c [92]).1 + 1) _ g1 (by omega) (Nat.lt_succ_self _)
   repeat' (first | refine vs_ ?_ | ((first | refine vrr_ ?_ | fail)<;>(try simp only [t1,hk,ne_eq,not_true_eq_false,decide_false,go_sem,↓reduceIte])) | ((first | (refine cs_ ?_ ?_<;>intro hc) | refine cj_ ?_ | fail | refine qb2 ?_ | refine qef hg.ok ?_ | refine ql7 hl rfl ?_)<;>(try refine ev_ ?_)) | with_reducible exact ti_)
  ·rw [if_neg hk]
   repeat' (first | refine vs_ ?_ | ((first | refine vrr_ ?_ | fail)<;>(try simp only [t1,hk,ne_eq,not_false_eq_true,decide_true,go_sem,↓reduceIte])) | ((first | (refine cs_ ?_ ?_<;>intro hc) | refine cj_ ?_ | fail | refine qb2 ?_ | refine qef hg.ok ?_ | refine qgk ?_)<;>(try refine ev_ ?_)) | with_reducible exact ti_)
   rw [qjq]
 ·have t1f:(qf c [92]).2 = false:=by simpa using t1
  have e1:=qdh t1f
  rw [if_neg t1]
  by_cases t2:(qf c [108,101,116]).2 = true
  ·rw [if_pos t2]
   have l2:=qcv t2
   have hl:=qbzu hm ih (qp c).pos _ g2 (by omega)
   unfold posZ at hl
   repeat' (first | refine vs_ ?_ | ((first | refine vrr_ ?_ | fail)<;>(try simp only [t1f,e1,t2,go_sem,↓reduceIte])) | ((first | (refine cs_ ?_ ?_<;>intro hc) | refine cj_ ?_ | fail | refine qb2 ?_ | refine qef hg.ok ?_ | refine ql7 hl rfl ?_)<;>(try refine ev_ ?_)) | with_reducible exact ti_)
  ·have t2f:(qf c [108,101,116]).2 = false:=by simpa using t2
   have e2:=qdh t2f
   rw [if_neg t2]
   by_cases t3:(qf c [99,97,115,101]).2 = true
   ·rw [if_pos t3]
    have l2:=qcv t3
    have hl:=qbes hm ih (qp c).pos _ g3 (by omega)
    unfold posZ at hl
    repeat' (first | refine vs_ ?_ | ((first | refine vrr_ ?_ | fail)<;>(try simp only [t1f,e1,t2f,e2,t3,go_sem,↓reduceIte])) | ((first | (refine cs_ ?_ ?_<;>intro hc) | refine cj_ ?_ | fail | refine qb2 ?_ | refine qef hg.ok ?_ | refine ql7 hl rfl ?_)<;>(try refine ev_ ?_)) | with_reducible exact ti_)
   ·have t3f:(qf c [99,97,115,101]).2 = false:=by simpa using t3
    have e3:=qdh t3f
    rw [if_neg t3]
    by_cases t4:(qf c [105,102]).2 = true
    ·rw [if_pos t4]
     have l2:=qcv t4
     have hl:=qbqi hm ih (qp c).pos _ g4 (by omega)
     unfold posZ at hl
     repeat' (first | refine vs_ ?_ | ((first | refine vrr_ ?_ | fail)<;>(try simp only [t1f,e1,t2f,e2,t3f,e3,t4,go_sem,↓reduceIte])) | ((first | (refine cs_ ?_ ?_<;>intro hc) | refine cj_ ?_ | fail | refine qb2 ?_ | refine qef hg.ok ?_ | refine ql7 hl rfl ?_)<;>(try refine ev_ ?_)) | with_reducible exact ti_)
    ·have t4f:(qf c [105,102]).2 = false:=by simpa using t4
     have e4:=qdh t4f
     rw [if_neg t4]
     have hl:=qbip hm ih _ hg hr
     repeat' (first | refine vs_ ?_ | ((first | refine vrr_ ?_ | fail)<;>(try simp only [t1f,e1,t2f,e2,t3f,e3,t4f,e4,go_sem,↓reduceIte])) | ((first | (refine cs_ ?_ ?_<;>intro hc) | refine cj_ ?_ | fail | refine qb2 ?_ | refine qef hg.ok ?_ | refine ql7 hl rfl ?_)<;>(try refine ev_ ?_)) | with_reducible exact ti_)
end
end Go.Proofs.YtlmcofjcpadmiaaGreat
