/- Texts of this proof, joined. -/
import Derived.Test.YtlmcofjcpadmiaaGreatDaz
set_option linter.unusedVariables false
set_option linter.unusedSimpArgs false

/- expressions: what is read (plain) -/
namespace Go.Proofs.YtlmcofjcpadmiaaGreat
open Go Go.RowKit Go.V

def qh9 (c:K):Option N :=
 if (qs c).kind = 1 then some (qkc c 21 [])
 else if (qs c).kind = 2 then some (qkc c 22 [])
 else if (qs c).kind = 3 then some (.mk 23 (qs c).pos (qs c).num [] [])
 else none
def begE (c:K):Bool:=(qh9 c).isSome || isK c [40]
def qx (rec:K->K×Option N) (c:K):K×Option N :=
 if (qh9 c).isSome = true then (qi c,qh9 c)
 else if isK c [40] = true then
  if (qd c).2 = true then
   if (rec (qi (qd c).1)).2.isSome = true then
    if (qr (rec (qi (qd c).1)).1 [41]).2 = true then (qdh (qr (rec (qi (qd c).1)).1 [41]).1,(rec (qi (qd c).1)).2)
    else ((qr (rec (qi (qd c).1)).1 [41]).1,none)
   else ((rec (qi (qd c).1)).1,none)
  else ((qd c).1,none)
 else (qev c 5,none)
abbrev R3:=K×N×Bool
def ofO (r:K×Option N):R3:=(r.1,r.2.getD N0,r.2.isSome)
def toO (r:R3):K×Option N:=(r.1,if r.2.2 = true then some r.2.1 else none)
def appN (n k:N):N:=.mk 24 n.pos 0 [] [n,k]
def qey (rec:K->K×Option N):Nat->K->N->R3
 | 0,c,n=>(c,n,false)
 | f + 1, c, n =>
   if begE c = true then
    if (qx rec c).2.isSome = true then qey rec f (qx rec c).1 (appN n ((qx rec c).2.getD N0))
    else ((qx rec c).1,appN n ((qx rec c).2.getD N0),false)
   else (c,n,true)
def qg7 (rec:K->K×Option N) (c:K):R3 :=
 if (qx rec c).2.isSome = true then qey rec (rest (qx rec c).1 + 1) (qx rec c).1 ((qx rec c).2.getD N0)
 else ((qx rec c).1,(qx rec c).2.getD N0,false)
def lamN (t:T) (n:N):N:=.mk 25 t.pos 0 t.text [n]
def qcq (rec:K->K×Option N) (x:List UInt8):Nat->K->R3
 | 0,c=>(c,N0,false)
 | f + 1, c =>
   if (qs c).kind = 1 then ((qcq rec x f (qi c)).1,lamN (qs c) (qcq rec x f (qi c)).2.1,(qcq rec x f (qi c)).2.2)
   else if (qr c x).2 = true then ofO (rec (qr c x).1)
   else ((qr c x).1,N0,false)
def q1y (k:Int) (t:T) (n:N):N:=.mk k t.pos 0 t.text [n]
def qb9 (rec:K->K×Option N) (c:K):K×Option N :=
 if (kindK c 1).2 = true then
  if (qn (kindK c 1).1 [58,58]).2 = true then
   ((qee (rest (qn (kindK c 1).1 [58,58]).1 + 2) (qn (kindK c 1).1 [58,58]).1).1,(qee (rest (qn (kindK c 1).1 [58,58]).1 + 2) (qn (kindK c 1).1 [58,58]).1).2.map (q1y 32 (qi7 c 1)))
  else ((qcq rec [61] (rest (kindK c 1).1 + 1) (kindK c 1).1).1,(toO (qcq rec [61] (rest (kindK c 1).1 + 1) (kindK c 1).1)).2.map (q1y 31 (qi7 c 1)))
 else ((kindK c 1).1,none)
abbrev RL:=K×List N×Bool
def qca (rd:K->R3):Nat->K->List N->RL
 | 0,c,_=>(c,[],false)
 | f + 1, c, acc =>
   if (rd c).2.2 = true then
    if ((qn (rd c).1 [59]).2 && !isK (qn (rd c).1 [59]).1 [125]) = true then qca rd f (qn (rd c).1 [59]).1 (acc ++ [(rd c).2.1])
    else ((qr (qn (rd c).1 [59]).1 [125]).1,acc ++ [(rd c).2.1],(qr (qn (rd c).1 [59]).1 [125]).2)
   else ((rd c).1,[],false)
def qbe (rd:K->R3) (c:K):RL :=
 if (qr c [123]).2 = true then qca rd (rest (qr c [123]).1 + 1) (qr c [123]).1 [] else ((qr c [123]).1,[],false)
def posN (p:Int):N:=.mk 0 p 0 [] []
def letC (rec:K->K×Option N) (p:Int) (l:List N) (w:K×Bool):R3 :=
 if w.2 = true then ((rec w.1).1,.mk 26 p 0 [] (l ++ [(rec w.1).2.getD N0]),(rec w.1).2.isSome) else (w.1,posN p,false)
def letB (rec:K->K×Option N) (p:Int) (l:RL):R3 :=
 if l.2.2 = true then letC rec p l.2.1 (qr l.1 [105,110]) else (l.1,posN p,false)
def qkm (rec:K->K×Option N) (p:Int) (c:K):R3:=letB rec p (qbe (fun c=>ofO (qb9 rec c)) c)
def altN (p e:N):N:=.mk 15 p.pos 0 [] [p,e]
def altC (rec:K->K×Option N) (p:N) (w:K×Bool):R3 :=
 if w.2 = true then ((rec w.1).1,altN p ((rec w.1).2.getD N0),(rec w.1).2.isSome) else (w.1,p,false)
def altB (rec:K->K×Option N) (r:K×Option N):R3 :=
 if r.2.isSome = true then altC rec (r.2.getD N0) (qr r.1 [45,62]) else (r.1,r.2.getD N0,false)
def qep (rec:K->K×Option N) (c:K):R3:=altB rec (qcg (rest c + 2) c)
def q9e (p:Int) (x:N) (l:RL):R3:=(l.1,.mk 27 p 0 [] (x :: l.2.1),l.2.2)
def q7o (rec:K->K×Option N) (p:Int) (x:N) (w:K×Bool):R3 :=
 if w.2 = true then q9e p x (qbe (qep rec) w.1) else (w.1,posN p,false)
def qhw (rec:K->K×Option N) (p:Int) (c:K):R3 :=
 if (rec c).2.isSome = true then q7o rec p ((rec c).2.getD N0) (qr (rec c).1 [111,102]) else ((rec c).1,posN p,false)
def ifsK (c:K) (w:List UInt8):K×Bool:=if w = [] then (c,true) else qr c w
def qei (rec:K->K×Option N) (p:Int):List (List UInt8)->K->List N->R3
 | [],c,acc=>(c,.mk 28 p 0 [] acc,true)
 | w :: r, c, acc =>
   if (ifsK c w).2 = true then
    if (rec (ifsK c w).1).2.isSome = true then qei rec p r (rec (ifsK c w).1).1 (acc ++ [(rec (ifsK c w).1).2.getD N0])
    else ((rec (ifsK c w).1).1,.mk 28 p 0 [] acc,false)
   else ((ifsK c w).1,.mk 28 p 0 [] acc,false)
def ifsW:List (List UInt8):=[[],[116,104,101,110],[101,108,115,101]]
def qen (rec:K->K×Option N) (c:K):R3 :=
 if (qn c [92]).2 = true then
  if (qs (qn c [92]).1).kind = 1 then qcq rec [45,62] (rest (qn c [92]).1 + 1) (qn c [92]).1
  else (qev (qn c [92]).1 5,posN (qs c).pos,false)
 else if (qn c [108,101,116]).2 = true then qkm rec (qs c).pos (qn c [108,101,116]).1
 else if (qn c [99,97,115,101]).2 = true then qhw rec (qs c).pos (qn c [99,97,115,101]).1
 else if (qn c [105,102]).2 = true then qei rec (qs c).pos ifsW (qn c [105,102]).1 []
 else qg7 rec c
def qe6:Nat->K->K×Option N
 | 0,c=>(c,none)
 | f + 1, c =>
   if (qd c).2 = true then (qdh (qen (qe6 f) (qd c).1).1,(toO (qen (qe6 f) (qd c).1)).2)
   else ((qd c).1,none)

theorem qq9 {c:K} (h:(qh9 c).isSome = true):(qs c).kind≠0:=by
 unfold qh9 at h
 split at h
 ·omega
 ·split at h
  ·omega
  ·split at h
   ·omega
   ·cases h
theorem qcr {c:K} {x:List UInt8} (h:(qn c x).2 = true):rest (qn c x).1 < rest c:=by
 unfold qn at h ⊢
 split at h
 ·rename_i h1
  rw [if_pos h1]
  have:=qbd (qdy h1)
  simp only;omega
 ·cases h
theorem qf9 {c:K} {x:List UInt8} (h:(qr c x).2 = true):rest (qr c x).1 < rest c:=by
 unfold qr at h ⊢
 split at h
 ·rename_i h1
  rw [if_pos h1]
  have:=qbd (qdy h1)
  simp only;omega
 ·cases h
theorem qu1 {c:K} (h:(kindK c 1).2 = true):rest (kindK c 1).1 < rest c:=by
 obtain ⟨h1,h2⟩:=qni h
 rw [(qym h).1]
 have:=qbd (c:=c) (by omega)
 simp only;omega
section
variable {rec:K->K×Option N} (hm:∀ c,Mon c (rec c).1)
include hm
theorem qdw (c:K):Mon c (qx rec c).1:=by
 unfold qx
 split
 ·exact qcu c
 ·split
  ·split
   ·have h1:=((q7 c).trans (qcu _)).trans (hm _)
    split
    ·split
     ·exact (h1.trans (ql _ _)).trans (qb3 _)
     ·exact h1.trans (ql _ _)
    ·exact h1
   ·exact q7 c
  ·exact qe2 c 5
theorem qmk {c:K} (h:(qx rec c).2.isSome = true):rest (qx rec c).1 < rest c:=by
 unfold qx at h ⊢
 split at h
 ·rename_i hl
  rw [if_pos hl]
  have:=qbd (qq9 hl)
  simp only;omega
 ·rename_i hl
  rw [if_neg hl]
  split at h
  ·rename_i hk
   rw [if_pos hk]
   split at h
   ·rename_i he
    rw [if_pos he]
    have hp:=qbd (c:=(qd c).1) (by rw [qd0 he];exact qdy hk)
    have h0:=(q7 c).2.1
    have h1:=(hm (qi (qd c).1)).2.1
    split at h
    ·rename_i hr
     rw [if_pos hr]
     have h2:=(ql (rec (qi (qd c).1)).1 [41]).2.1
     split at h
     ·rename_i hw
      rw [if_pos hw]
      have h3:=(qb3 (qr (rec (qi (qd c).1)).1 [41]).1).2.1
      simp only;omega
     ·cases h
    ·cases h
   ·cases h
  ·cases h
theorem qn4:∀ (f:Nat) (c:K) (n:N),Mon c (qey rec f c n).1
 | 0,c,n=>Mon.refl c
 | f + 1, c, n => by
   rw [qey]
   split
   ·split
    ·exact (qdw hm c).trans (qn4 f _ _)
    ·exact qdw hm c
   ·exact Mon.refl c
theorem q1f (c:K):Mon c (qg7 rec c).1:=by
 unfold qg7
 split
 ·exact (qdw hm c).trans (qn4 hm _ _ _)
 ·exact qdw hm c
theorem qh3 (x:List UInt8):∀ (f:Nat) (c:K),Mon c (qcq rec x f c).1
 | 0,c=>Mon.refl c
 | f + 1, c => by
   rw [qcq]
   split
   ·exact (qcu c).trans (qh3 x f _)
   ·split
    ·exact (ql c x).trans (hm _)
    ·exact ql c x
theorem qke (c:K):Mon c (qb9 rec c).1:=by
 unfold qb9
 split
 ·split
  ·exact ((qch c 1).trans (qv _ _)).trans (qhl _ _)
  ·exact (qch c 1).trans (qh3 hm _ _ _)
 ·exact qch c 1
theorem qmj {c:K} (h:(qb9 rec c).2.isSome = true):rest (qb9 rec c).1 < rest c:=by
 unfold qb9 at h ⊢
 split at h
 ·rename_i h1
  rw [if_pos h1]
  have h2:=qu1 h1
  split
  ·have h3:=((qv (kindK c 1).1 [58,58]).trans (qhl (rest (qn (kindK c 1).1 [58,58]).1 + 2) _)).2.1
   simp only;omega
  ·have h3:=(qh3 hm [61] (rest (kindK c 1).1 + 1) (kindK c 1).1).2.1
   simp only;omega
 ·cases h
omit hm in
theorem qmm {rd:K->R3} (hd:∀ c,Mon c (rd c).1):∀ (f:Nat) (c:K) (acc:List N),Mon c (qca rd f c acc).1
 | 0,c,acc=>Mon.refl c
 | f + 1, c, acc => by
   rw [qca]
   split
   ·split
    ·exact ((hd c).trans (qv _ _)).trans (qmm hd f _ _)
    ·exact ((hd c).trans (qv _ _)).trans (ql _ _)
   ·exact hd c
omit hm in
theorem qhz {rd:K->R3} (hd:∀ c,Mon c (rd c).1) (c:K):Mon c (qbe rd c).1:=by
 unfold qbe
 split
 ·exact (ql c _).trans (qmm hd _ _ _)
 ·exact ql c _
theorem q1x (p:Int) (c:K):Mon c (qkm rec p c).1:=by
 unfold qkm letB letC
 have h:=qhz (rd:=fun c=>ofO (qb9 rec c)) (fun c=>qke hm c) c
 split
 ·split
  ·exact (h.trans (ql _ _)).trans (hm _)
  ·exact h.trans (ql _ _)
 ·exact h
theorem qrx (c:K):Mon c (qep rec c).1:=by
 unfold qep altB altC
 have h:=qe8 (rest c + 2) c
 split
 ·split
  ·exact (h.trans (ql _ _)).trans (hm _)
  ·exact h.trans (ql _ _)
 ·exact h
theorem qxe {c:K} (h:(qep rec c).2.2 = true):rest (qep rec c).1 < rest c:=by
 unfold qep altB altC at h ⊢
 have h1:=(qe8 (rest c + 2) c).2.1
 split at h
 ·rename_i h2
  rw [if_pos h2]
  split at h
  ·rename_i h3
   rw [if_pos h3]
   have h4:=qf9 h3
   have h5:=(hm (qr (qcg (rest c + 2) c).1 [45,62]).1).2.1
   simp only;omega
  ·cases h
 ·cases h
theorem qx1 (p:Int) (c:K):Mon c (qhw rec p c).1:=by
 unfold qhw q7o q9e
 have h:=hm c
 split
 ·split
  ·exact (h.trans (ql _ _)).trans (qhz (fun c=>qrx hm c) _)
  ·exact h.trans (ql _ _)
 ·exact h
omit hm in
theorem qno (c:K) (w:List UInt8):Mon c (ifsK c w).1:=by
 unfold ifsK
 split
 ·exact Mon.refl c
 ·exact ql c w
theorem qr2 (p:Int):∀ (l:List (List UInt8)) (c:K) (acc:List N),Mon c (qei rec p l c acc).1
 | [],c,acc=>Mon.refl c
 | w :: r, c, acc => by
   rw [qei]
   split
   ·split
    ·exact ((qno c w).trans (hm _)).trans (qr2 p r _ _)
    ·exact (qno c w).trans (hm _)
   ·exact qno c w
theorem qpr (c:K):Mon c (qen rec c).1:=by
 unfold qen
 split
 ·split
  ·exact (qv c _).trans (qh3 hm _ _ _)
  ·exact (qv c _).trans (qe2 _ 5)
 ·split
  ·exact (qv c _).trans (q1x hm _ _)
  ·split
   ·exact (qv c _).trans (qx1 hm _ _)
   ·split
    ·exact (qv c _).trans (qr2 hm _ _ _ _)
    ·exact q1f hm c
end
theorem qiq:∀ (f:Nat) (c:K),Mon c (qe6 f c).1
 | 0,c=>Mon.refl c
 | f + 1, c => by
   rw [qe6]
   split
   ·exact ((q7 c).trans (qpr (qiq f) _)).trans (qb3 _)
   ·exact q7 c
set_option maxRecDepth 4000

def resB (r:N×Bool):AV:=.tup [enc r.1,.bool r.2]
attribute [go_sem] resB
theorem ql3 (k:Nat) (r:N×Bool):(resB r).bd k = true:=by simp only [resB,AV.bd,AV.bds,qj2,Bool.and_true]
theorem qjr {P:Program} {f:FuncId} {c c':K} {L:List Ent} {args:List AV} {r:N×Bool} {Q:List Ent->VO->Prop} (h:qbt P f (curE c) (curE c') args (resB r)) (ha:AV.bds 1 args = true) (hq:Q (curE c' :: L) (.val (resB r))):VApp P (curE c :: L) (.fn f [] []) args Q :=
 qbu h (qp _ _) (qp _ _) ha (ql3 _ _) fun _=>hq
theorem qbge (c:K):qbt Tryz.prog 198 (curE c) (curE c) [.ptr 0 0] (resP (qh9 c)):=by
 refine qj c0dp 1 (by simp) (by simp) ?_
 repeat' (first | refine vs_ ?_ | ((first | refine vr_ ?_ | refine qbq ?_ | refine a_Is ?_ | (refine cs_ ?_ ?_<;>intro hc) | refine cj_ ?_ | fail)<;>(try refine ev_ ?_)) | with_reducible exact ti_)
 all_goals (unfold qh9 qkc;simp_all [enc,encs,N0])
theorem q4t {c:K} {L:List Ent} {Q:List Ent->VO->Prop} (hq:Q (curE c :: L) (.val (resP (qh9 c)))):VApp Tryz.prog (curE c :: L) (.fn 198 [] []) [.ptr 0 0] Q:=qb7 (qbge c) rfl hq
section
variable {rec:K->K×Option N} {b:Nat} (hm:∀ c,Mon c (rec c).1) (ih:∀ c,c.good->rest c < b->qbt Tryz.prog 58 (curE c) (curE (rec c).1) [.ptr 0 0] (resP (rec c).2))
include hm ih
theorem qy3 (c:K) (hg:c.good) (hr:rest c≤b):qbt Tryz.prog 197 (curE c) (curE (qx rec c).1) [.ptr 0 0] (resP (qx rec c).2):=by
 have g1:(qd c).1.good:=(q7 c).1 hg
 have g2:(qi (qd c).1).good:=(qcu _).1 g1
 have g3:(rec (qi (qd c).1)).1.good:=(hm _).1 g2
 have g4:(qr (rec (qi (qd c).1)).1 [41]).1.good:=(ql _ _).1 g3
 have hrr:isK c [40] = true->(qd c).2 = true->rest (qi (qd c).1) < b:=fun h1 h2=>by
  have:=qbd (c:=(qd c).1) (by rw [qd0 h2];exact qdy h1)
  have:=(q7 c).2.1
  omega
 refine qj c0dq 1 (by simp) (by simp) ?_
 repeat' (first | refine vs_ ?_ | ((first | refine vr_ ?_ | refine q4t ?_ | refine a_Is ?_ | refine qq7 ?_ | refine qg2 ?_ | refine qjb hg.ok ?_ | refine qjb g1.ok ?_ | refine qb7 (ih _ g2 (hrr (by assumption) (by assumption))) rfl ?_ | refine qbz g3.ok ?_ | refine qet g4.2.2 ?_ | (refine cs_ ?_ ?_<;>intro hc) | refine cj_ ?_ | fail)<;>(try refine ev_ ?_)) | with_reducible exact ti_)
 all_goals (unfold qx;simp only [*,qdf,Int.reduceEq,if_true,if_false,reduceIte,Bool.false_eq_true,Option.getD_none,Option.getD_some,Option.isSome_none,Option.isSome_some,and_self,true_and,and_true];try rfl)
end
def q9h (fl:Bool) (n:N):Ent:=.blk [.int .i64 n.kind,.int .i64 n.pos,.int .i64 n.num,.str n.text,if fl = true then .lit 5 (encs n.kids) else .sl 5 (encs n.kids)]
theorem qbau {P:Program} {fr:Option Nat} {k m:Nat} {a:IC} {Q:VE->AF->List Ent->Prop} {af:AF} {A B:Ent} {L:List Ent} {fl:Bool} {n:N} (h:VI P fr k m a Q af (A :: B :: .blk (enc n).cells :: L)):VI P fr k m a Q af (A :: B :: q9h fl n :: L):=by
 cases n
 cases fl with
 | false=>exact h
 | true =>
   refine q4i 2 4 (.sl 5) (by rfl) ?_
   simp only [List.getD_cons_succ,List.getD_cons_zero,if_true,quv,List.set_cons_succ,List.set_cons_zero]
   exact h
section
variable {rec:K->K×Option N} {b:Nat} (hm:∀ c,Mon c (rec c).1) (ih:∀ c,c.good->rest c < b->qbt Tryz.prog 58 (curE c) (curE (rec c).1) [.ptr 0 0] (resP (rec c).2))
include hm ih
def q9s (x:Bool×Nat×K×N×Bool):AF×List Ent :=
 (⟨[(0,.ptr 0 0),(2,.ptr 1 0),(4,.ptr 2 0),(5,.bool x.2.2.2.2)],[]⟩,[curE x.2.2.1,.blk [.int .i64 0,.int .i64 0,.int .i64 0,.str [],.nils],q9h x.1 x.2.2.2.1])
theorem qbeq (c:K) (hg:c.good) (hr:rest c≤b):qbt Tryz.prog 162 (curE c) (curE (qg7 rec c).1) [.ptr 0 0] (resB (qg7 rec c).2):=by
 refine qj c0dr 1 (by simp) (by simp) ?_
 have g0:(qx rec c).1.good:=(qdw hm c).1 hg
 have hr0:rest (qx rec c).1≤b:=by have:=(qdw hm c).2.1;omega
 generalize htg:qg7 rec c = tg
 repeat' (first | refine vs_ ?_ | ((first | refine vr_ ?_ | refine qb7 (qy3 hm ih _ hg hr) rfl ?_ | (refine cs_ ?_ ?_<;>intro hc) | refine cj_ ?_ | fail)<;>(try refine ev_ ?_)) | with_reducible exact ti_)
 refine qcc (S:=Bool×Nat×K×N×Bool) (fun x=>x.2.2.1.good∧rest x.2.2.1≤b∧(x.2.2.2.2 = true->qey rec x.2.1 x.2.2.1 x.2.2.2.1 = tg∧rest x.2.2.1 < x.2.1)∧(x.2.2.2.2 = false->tg = (x.2.2.1,x.2.2.2.1,false)))
  q9s (fun x=>if x.2.2.2.2 = true then rest x.2.2.1 + 1 else 0) ?_ ?_
 ·refine qbl (false,rest (qx rec c).1 + 1,(qx rec c).1,(qx rec c).2.getD N0,(qx rec c).2.isSome) [0,1,2] ⟨g0,hr0,fun h=>⟨?_,Nat.lt_succ_self _⟩,fun h=>?_⟩ rfl (by simp) ?_ ?_ ?_
  ·simp only at h;rw [← htg,qg7,if_pos h]
  ·simp only at h;rw [← htg,qg7,if_neg (by rw [h];simp)]
  all_goals simp only [q9s,q9h]
  all_goals (refine ev_ ?_;(try with_reducible exact ti_))
 ·rintro ⟨fl,fu,d,n,ok⟩ ⟨i1,i2,i3,i4⟩
  simp only at i1 i2 i3 i4
  unfold q9s
  refine qbau ?_
  cases ok with
  | false =>
    have i4:=i4 rfl
    subst i4
    repeat' (first | refine vs_ ?_ | ((first | refine vr_ ?_ | (refine cs_ ?_ ?_<;>intro hc) | refine cj_ ?_ | fail)<;>(try refine ev_ ?_)) | with_reducible exact ti_)
  | true =>
    obtain ⟨i3,i5⟩:=i3 rfl
    clear i4
    obtain ⟨fu,rfl⟩:∃ k,fu = k + 1:=⟨fu - 1,by omega⟩
    rw [qey] at i3
    have j1:(qx rec d).1.good:=(qdw hm d).1 i1
    have j2:rest (qx rec d).1≤rest d:=(qdw hm d).2.1
    have key:begE d = true->(((qx rec d).2.isSome = true->qey rec fu (qx rec d).1 (appN n ((qx rec d).2.getD N0)) = tg∧rest (qx rec d).1 < fu)∧((qx rec d).2.isSome = false->tg = ((qx rec d).1,appN n ((qx rec d).2.getD N0),false))) ∧
     (if (qx rec d).2.isSome = true then rest (qx rec d).1 + 1 else 0) < rest d + 1:=fun hb=>by
     rw [if_pos hb] at i3
     refine ⟨⟨fun h=>?_,fun h=>?_⟩,?_⟩
     ·rw [if_pos h] at i3
      have:=qmk hm h
      exact ⟨i3,by omega⟩
     ·rw [if_neg (by rw [h];simp)] at i3
      exact i3.symm
     ·split
      ·rename_i h
       have:=qmk hm h
       omega
      ·omega
    have e1:(qh9 d).isSome = true->begE d = true:=fun h=>by rw [begE,h];rfl
    have e2:isK d [40] = true->begE d = true:=fun h=>by rw [begE,h,Bool.or_true]
    repeat' (first | refine vs_ ?_ | ((first | refine vr_ ?_ | refine q4t ?_ | refine a_Is ?_ | refine qb7 (qy3 hm ih _ i1 i2) rfl ?_ | (refine cs_ ?_ ?_<;>intro hc) | refine cj_ ?_ | fail)<;>(try refine ev_ ?_)) | with_reducible exact ti_)
    ·have hb:¬ begE d = true:=by rw [begE];simp_all
     rw [if_neg hb] at i3
     subst i3
     exact ⟨rfl,rfl⟩
    ·obtain ⟨k1,k2⟩:=key (e2 (by assumption))
     refine qbl (true,fu,(qx rec d).1,appN n ((qx rec d).2.getD N0),(qx rec d).2.isSome) [0,1,2] ⟨⟨j1,by simp only;omega,k1⟩,by simpa using k2⟩ rfl (by simp) ?_ ?_ ?_
     all_goals simp only [q9s,q9h,appN,encs,N.kind,N.pos,N.num,N.text,N.kids]
     all_goals (refine ev_ ?_;(try with_reducible exact ti_))
    ·obtain ⟨k1,k2⟩:=key (e1 (by assumption))
     refine qbl (true,fu,(qx rec d).1,appN n ((qx rec d).2.getD N0),(qx rec d).2.isSome) [0,1,2] ⟨⟨j1,by simp only;omega,k1⟩,by simpa using k2⟩ rfl (by simp) ?_ ?_ ?_
     all_goals simp only [q9s,q9h,appN,encs,N.kind,N.pos,N.num,N.text,N.kids]
     all_goals (refine ev_ ?_;(try with_reducible exact ti_))
end
set_option maxRecDepth 4000

theorem qyl (t:T) (n:N):AV.agg [.int .i64 25,.int .i64 t.pos,.int .i64 0,.str t.text,.sl 5 [enc n]] = enc (lamN t n):=by simp only [lamN,enc,encs]
theorem qji (k:Int) (t:T) (n:N):AV.agg [.int .i64 k,.int .i64 t.pos,.int .i64 0,.str t.text,.sl 5 [enc n]] = enc (q1y k t n):=by simp only [q1y,enc,encs]
section
variable {rec:K->K×Option N} {b:Nat} (ih:∀ c,c.good->rest c < b->qbt Tryz.prog 58 (curE c) (curE (rec c).1) [.ptr 0 0] (resP (rec c).2))
include ih
theorem qtd (x:List UInt8):∀ (f:Nat) (c:K),c.good->rest c≤b->rest c < f->qbt Tryz.prog 158 (curE c) (curE (qcq rec x f c).1) [.ptr 0 0,.str x] (resB (qcq rec x f c).2)
 | 0,c=>fun _ _ h=>absurd h (by omega)
 | f + 1, c => fun hg hb hf => by
   have g1:(qi c).good:=(qcu c).1 hg
   have g2:(qr c x).1.good:=(ql c x).1 hg
   refine qj c0dn 1 (by simp) (by simp) ?_
   by_cases hk:(qs c).kind = 1
   ·have hrn:=qbd (c:=c) (by omega)
    have hl:=qtd x f (qi c) g1 (by omega) (by omega)
    have hpa:qcq rec x (f + 1) c = ((qcq rec x f (qi c)).1,lamN (qs c) (qcq rec x f (qi c)).2.1,(qcq rec x f (qi c)).2.2):=by rw [qcq,if_pos hk]
    rw [hpa]
    clear hpa
    generalize qcq rec x f (qi c) = r at *
    repeat' (first | refine vs_ ?_ | ((first | refine vr_ ?_ | fail)<;>(try simp only [hk,ne_eq,not_true_eq_false,decide_false,go_sem,↓reduceIte])) | ((first | (refine cs_ ?_ ?_<;>intro hc) | refine cj_ ?_ | fail | refine qbq ?_ | refine qjb hg.ok ?_ | refine qjr hl rfl ?_)<;>(try refine ev_ ?_)) | with_reducible exact ti_)
    all_goals first | (rw [qyl];done) | (rw [qyl];rfl) | (rw [qyl];exact ⟨rfl,rfl⟩)
   ·by_cases hw:(qr c x).2 = true
    ·have hlt:=qf9 hw
     have hpa:qcq rec x (f + 1) c = ofO (rec (qr c x).1):=by rw [qcq,if_neg hk,if_pos hw]
     rw [hpa,ofO]
     repeat' (first | refine vs_ ?_ | ((first | refine vr_ ?_ | fail)<;>(try simp only [hk,hw,ne_eq,not_false_eq_true,decide_true,go_sem,↓reduceIte])) | ((first | (refine cs_ ?_ ?_<;>intro hc) | refine cj_ ?_ | fail | refine qbq ?_ | refine qbz hg.ok ?_ | refine qb7 (ih _ g2 (by omega)) rfl ?_)<;>(try refine ev_ ?_)) | with_reducible exact ti_)
    ·have hpa:qcq rec x (f + 1) c = ((qr c x).1,N0,false):=by rw [qcq,if_neg hk,if_neg hw]
     rw [hpa]
     repeat' (first | refine vs_ ?_ | ((first | refine vr_ ?_ | fail)<;>(try simp only [hk,hw,ne_eq,not_false_eq_true,decide_true,go_sem,↓reduceIte])) | ((first | (refine cs_ ?_ ?_<;>intro hc) | refine cj_ ?_ | fail | refine qbq ?_ | refine qbz hg.ok ?_)<;>(try refine ev_ ?_)) | with_reducible exact ti_)
     all_goals first | (rw [qdf];done) | (rw [qdf];rfl) | (rw [qdf];exact ⟨rfl,rfl⟩)
theorem qrq (c:K) (hg:c.good) (hr:rest c≤b):qbt Tryz.prog 108 (curE c) (curE (qb9 rec c).1) [.ptr 0 0] (resP (qb9 rec c).2):=by
 have g1:(kindK c 1).1.good:=(qch c 1).1 hg
 have hr1:rest (kindK c 1).1≤b:=by have:=(qch c 1).2.1;omega
 have g2:(qn (kindK c 1).1 [58,58]).1.good:=(qv _ _).1 g1
 have hl:=qtd ih [61] (rest (kindK c 1).1 + 1) (kindK c 1).1 g1 hr1 (Nat.lt_succ_self _)
 have hq:=qry (rest (qn (kindK c 1).1 [58,58]).1 + 2) (qn (kindK c 1).1 [58,58]).1 g2 (by omega)
 have ht0:(qn (kindK c 1).1 [58,58]).2 = false->(qn (kindK c 1).1 [58,58]).1 = (kindK c 1).1:=fun h=>qda h
 refine qj c0do 1 (by simp) (by simp) ?_
 unfold qb9
 generalize qcq rec [61] (rest (kindK c 1).1 + 1) (kindK c 1).1 = r at *
 generalize qee (rest (qn (kindK c 1).1 [58,58]).1 + 2) (qn (kindK c 1).1 [58,58]).1 = q at *
 by_cases hk:(kindK c 1).2 = true
 ·rw [if_pos hk]
  by_cases ht:(qn (kindK c 1).1 [58,58]).2 = true
  ·rw [if_pos ht]
   cases ho:q.2 with
   | none =>
     rw [ho] at hq
     repeat' (first | refine vs_ ?_ | ((first | refine vr_ ?_ | fail)<;>(try simp (disch:=first | omega | (simp only [List.length_set,List.length_append,List.length_cons,List.length_nil];done) | (simp only [List.length_set,List.length_append,List.length_cons,List.length_nil];omega)) only [hk,ht,Option.isSome_none,Option.getD_none,go_sem,↓reduceIte])) | ((first | (refine cs_ ?_ ?_<;>intro hc) | refine cj_ ?_ | fail | refine qcz hg.ok ?_ | refine qdp g1.ok ?_ | refine qb7 hq rfl ?_)<;>(try refine ev_ ?_)) | with_reducible exact ti_)
     all_goals first | (rw [qdf];done) | (rw [qdf];rfl) | (rw [qdf];exact ⟨rfl,rfl⟩)
   | some n =>
     rw [ho] at hq
     repeat' (first | refine vs_ ?_ | ((first | refine vr_ ?_ | fail)<;>(try simp (disch:=first | omega | (simp only [List.length_set,List.length_append,List.length_cons,List.length_nil];done) | (simp only [List.length_set,List.length_append,List.length_cons,List.length_nil];omega)) only [hk,ht,Option.isSome_some,Option.getD_some,go_sem,↓reduceIte])) | ((first | (refine cs_ ?_ ?_<;>intro hc) | refine cj_ ?_ | fail | refine qcz hg.ok ?_ | refine qdp g1.ok ?_ | refine qb7 hq rfl ?_)<;>(try refine ev_ ?_)) | with_reducible exact ti_)
     all_goals first | (rw [qji];done) | (rw [qji];rfl) | (rw [qji];exact ⟨rfl,rfl⟩)
  ·rw [if_neg ht]
   have ht:(qn (kindK c 1).1 [58,58]).2 = false:=by simpa using ht
   have ht0:=ht0 ht
   obtain ⟨d,n,ok⟩:=r
   simp only [toO] at hl ⊢
   rw [← ht0] at hl
   cases ok with
   | false =>
     repeat' (first | refine vs_ ?_ | ((first | refine vr_ ?_ | fail)<;>(try simp only [hk,ht,go_sem,↓reduceIte])) | ((first | (refine cs_ ?_ ?_<;>intro hc) | refine cj_ ?_ | fail | refine qcz hg.ok ?_ | refine qdp g1.ok ?_ | refine qjr hl rfl ?_)<;>(try refine ev_ ?_)) | with_reducible exact ti_)
     all_goals first | (rw [qdf];done) | (rw [qdf];rfl) | (rw [qdf];exact ⟨rfl,rfl⟩)
   | true =>
     repeat' (first | refine vs_ ?_ | ((first | refine vr_ ?_ | fail)<;>(try simp only [hk,ht,go_sem,↓reduceIte])) | ((first | (refine cs_ ?_ ?_<;>intro hc) | refine cj_ ?_ | fail | refine qcz hg.ok ?_ | refine qdp g1.ok ?_ | refine qjr hl rfl ?_)<;>(try refine ev_ ?_)) | with_reducible exact ti_)
     all_goals first | (rw [qji];done) | (rw [qji];rfl) | (rw [qji];exact ⟨rfl,rfl⟩)
 ·rw [if_neg hk]
  repeat' (first | refine vs_ ?_ | ((first | refine vr_ ?_ | fail)<;>(try simp only [hk,go_sem,↓reduceIte])) | ((first | (refine cs_ ?_ ?_<;>intro hc) | refine cj_ ?_ | fail | refine qcz hg.ok ?_)<;>(try refine ev_ ?_)) | with_reducible exact ti_)
  all_goals first | (rw [qdf];done) | (rw [qdf];rfl) | (rw [qdf];exact ⟨rfl,rfl⟩)
end
set_option maxRecDepth 4000

def VClo (g:FuncId) (c c':K) (r:N×Bool):Prop:=VCalls Tryz.prog g [curE c,.blk [.ptr 0 0]] [.ptr 1 0] fun H' o=>H' = [curE c',.blk [.ptr 0 0]]∧o = .val (resB r)
theorem qjf (c:K):[curE c,.blk [.ptr 0 0]].all (Ent.bd 2) = true:=by
 simp only [List.all_cons,List.all_nil,qp,Bool.true_and,Bool.and_true];rfl
theorem qs4 {g:FuncId} {c c':K} {r:N×Bool} {L:List Ent} {Q:List Ent->VO->Prop} (h:VClo g c c' r) (hq:Q (curE c' :: .blk [.ptr 0 0] :: L) (.val (resB r))):VApp Tryz.prog (curE c :: .blk [.ptr 0 0] :: L) (.fn g [] [.ptr 1 0]) [] Q :=
 qbr (first:=[]) (caps:=[.ptr 1 0]) (by
  simp only [List.nil_append]
  refine qc1 (H0:=[curE c,.blk [.ptr 0 0]]) (L:=L) h (qjf c) rfl ?_
  rintro H1 o ⟨rfl,rfl⟩
  exact ⟨rfl,qjf c',ql3 _ _,hq⟩)
def qnx (rd:K->R3) (g:FuncId) (c:K):Prop:=VCalls Tryz.prog 194 [curE c,.blk [.ptr 0 0]] [.ptr 0 0,.fn g [] [.ptr 1 0]] fun H' o =>
 H' = curE (qbe rd c).1 :: .blk [.ptr 0 0] :: accE 5 (encs (qbe rd c).2.1)∧o = .val (.tup [accV 2 (encs (qbe rd c).2.1),.bool (qbe rd c).2.2])
def qu0 (g:FuncId) (x:Nat×K×List N):AF×List Ent :=
 (⟨[(0,.ptr 0 0),(1,.fn g [] [.ptr 1 0]),(6,accV 2 (encs x.2.2))],[]⟩,curE x.2.1 :: .blk [.ptr 0 0] :: accE 5 (encs x.2.2))
theorem qy0 {rd:K->R3} {g:FuncId} {b:Nat} (hd:∀ c,Mon c (rd c).1) (hl:∀ c,(rd c).2.2 = true->rest (rd c).1 < rest c) (ih:∀ c,c.good->rest c≤b->VClo g c (rd c).1 (rd c).2) (c:K) (hg:c.good) (hr:rest c≤b):qnx rd g c:=by
 unfold qnx
 obtain ⟨kk,hk1,hk2,hk0⟩:∃ k:Nat,((qbe rd c).2.1 = []->k = 2)∧((qbe rd c).2.1≠[]->k = 3)∧2≤k:=by
  by_cases h:(qbe rd c).2.1 = []
  ·exact ⟨2,fun _=>rfl,fun g=>absurd h g,by omega⟩
  ·exact ⟨3,fun g=>absurd g h,fun _=>rfl,by omega⟩
 refine qdd c0dm kk (by simpa using hk0) (by simp) ?_
 have g1:(qr c [123]).1.good:=(ql c _).1 hg
 have hr1:rest (qr c [123]).1≤b:=by have:=(ql c [123]).2.1;omega
 by_cases hw:(qr c [123]).2 = true
 ·have hpa:qbe rd c = qca rd (rest (qr c [123]).1 + 1) (qr c [123]).1 []:=by rw [qbe,if_pos hw]
  rw [hpa] at hk1 hk2 ⊢
  clear hpa
  generalize htg:qca rd (rest (qr c [123]).1 + 1) (qr c [123]).1 [] = tg at hk1 hk2 ⊢
  repeat' (first | refine vs_ ?_ | ((first | refine vr_ ?_ | fail)<;>(try simp only [hw,go_sem,↓reduceIte])) | ((first | (refine cs_ ?_ ?_<;>intro hc) | refine cj_ ?_ | fail | refine qbz hg.ok ?_)<;>(try refine ev_ ?_)) | with_reducible exact ti_)
  refine qcc (S:=Nat×K×List N) (fun x=>x.2.1.good∧rest x.2.1≤b∧qca rd x.1 x.2.1 x.2.2 = tg∧rest x.2.1 < x.1∧x.2.2.length + rest x.2.1≤1048577)
   (qu0 g) (fun x=>rest x.2.1) ?_ ?_
  ·refine qbl (rest (qr c [123]).1 + 1,(qr c [123]).1,[]) [0,1] ⟨g1,hr1,htg,Nat.lt_succ_self _,?_⟩ rfl (by simp) ?_ ?_ ?_
   ·have h9:=g1.rest
    unfold rest
    simp only [List.length_nil]
    omega
   all_goals simp only [qu0,encs,qbb,qbc]
   all_goals (refine ev_ ?_;(try with_reducible exact ti_))
  ·rintro ⟨fu,d,acc⟩ ⟨i1,i2,i3,i4,i5⟩
   simp only at i1 i2 i3 i4 i5
   obtain ⟨fu,rfl⟩:∃ k,fu = k + 1:=⟨fu - 1,by omega⟩
   rw [qca] at i3
   have hcap:qec (acc.length + 1) 64:=capN (by omega)
   have hclo:=ih d i1 i2
   have hlt:=hl d
   have j1:(rd d).1.good:=(hd d).1 i1
   have j2:=(hd d).2.1
   generalize rd d = r at *
   obtain ⟨d',n,ok⟩:=r
   simp only at j1 j2 hlt i3 hclo
   unfold qu0 q9c
   generalize h9:q7g = R9
   cases ok with
   | false =>
     rw [if_neg (by simp)] at i3
     subst i3
     obtain rfl:=hk1 rfl
     by_cases h0:acc = []
     ·subst h0
      simp only [encs,qbb,qbc]
      repeat' (first | refine vs_ ?_ | ((first | refine vr_ ?_ | refine qs4 hclo ?_ | (refine cs_ ?_ ?_<;>intro hc) | refine cj_ ?_ | fail)<;>(try refine ev_ ?_)) | with_reducible exact ti_)
      all_goals first | exact ⟨rfl,rfl⟩
     ·have hne:=q9 h0
      simp only [qbi hne,qbh hne,q8]
      repeat' (first | refine vs_ ?_ | ((first | refine vr_ ?_ | refine qs4 hclo ?_ | (refine cs_ ?_ ?_<;>intro hc) | refine cj_ ?_ | fail)<;>(try refine ev_ ?_)) | with_reducible exact ti_)
      all_goals first | exact ⟨rfl,rfl⟩
   | true =>
     have hlt:=hlt rfl
     rw [if_pos rfl] at i3
     by_cases h0:acc = []
     ·subst h0
      simp only [encs,qbb,qbc]
      repeat' (first | refine vs_ ?_ | ((first | refine vr_ ?_ | refine qs4 hclo ?_ | (refine cs_ ?_ ?_<;>intro hc) | refine cj_ ?_ | fail)<;>(try refine ev_ ?_)) | with_reducible exact ti_)
      refine qbab (af':=⟨[(0,.ptr 0 0),(1,.fn g [] [.ptr 1 0]),(6,.row 2 1)],[]⟩) (H':=[curE d',.blk [.ptr 0 0],.app 5 (encs ([] ++ [n]))]) ?_ (qba1 [0,1,3] rfl (by simp) ?_ ?_ ?_)
      rotate_left
      all_goals (try simp only [← qh,List.nil_append,encs,List.length_nil])
      all_goals (try (refine ev_ ?_;(try with_reducible exact ti_)))
      all_goals (try (rw [qh,qu,qbf];exact ⟨rfl,rfl⟩))
      subst h9
      have hta:(qn d' [59]).1.good:=(qv _ _).1 j1
      have htr:=(qv d' [59]).2.1
      have hne3:¬ [] ++ [n] = []:=by simp
      have hlen:([] ++ [n]).length = 1:=by simp
      repeat' (first | refine vs_ ?_ | ((first | refine vr_ ?_ | refine qdp j1.ok ?_ | refine a_Is ?_ | refine qbz hta.ok ?_ | (refine cs_ ?_ ?_<;>intro hc) | refine cj_ ?_ | fail)<;>(try refine ev_ ?_)) | with_reducible exact ti_)
      ·have ht:(qn d' [59]).2 = false:=by assumption
       rw [ht,Bool.false_and,if_neg (by simp)] at i3
       subst i3
       obtain rfl:=hk2 (by simp)
       simp only [qbh (q9 hne3),qbi (q9 hne3),q8,hlen,← qh]
       (refine ev_ ?_;(try with_reducible exact ti_))
       all_goals first | (rw [qh];exact qu _ _) | exact ⟨rfl,rfl⟩ | rfl | (rw [qh,qu,qbf];exact ⟨rfl,rfl⟩)
      ·have ht:(qn d' [59]).2 = true:=by assumption
       have hi:isK (qn d' [59]).1 [125] = true:=by assumption
       rw [ht,hi,Bool.true_and,Bool.not_true,if_neg (by simp)] at i3
       subst i3
       obtain rfl:=hk2 (by simp)
       simp only [qbh (q9 hne3),qbi (q9 hne3),q8,hlen,← qh]
       (refine ev_ ?_;(try with_reducible exact ti_))
       all_goals first | (rw [qh];exact qu _ _) | exact ⟨rfl,rfl⟩ | rfl | (rw [qh,qu,qbf];exact ⟨rfl,rfl⟩)
      ·have ht:(qn d' [59]).2 = true:=by assumption
       have hi:isK (qn d' [59]).1 [125] = false:=by assumption
       rw [ht,hi,Bool.true_and,Bool.not_false,if_pos rfl] at i3
       have htl:=qcr ht
       refine qbl (fu,(qn d' [59]).1,[] ++ [n]) [0,1,2] ⟨⟨hta,by simp only;omega,i3,by simp only;omega,by simp only [hlen];omega⟩,by simp only;omega⟩ rfl (by simp) ?_ ?_ ?_
       all_goals simp only [qu0,qbh (q9 hne3),qbi (q9 hne3),q8,hlen,← qh]
       all_goals (refine ev_ ?_;(try with_reducible exact ti_))
       all_goals first | (rw [qh];exact qu _ _) | exact ⟨rfl,rfl⟩ | rfl | (rw [qh,qu,qbf];exact ⟨rfl,rfl⟩)
     ·have hne:=q9 h0
      simp only [qbi hne,qbh hne,q8]
      repeat' (first | refine vs_ ?_ | ((first | refine vr_ ?_ | refine qs4 hclo ?_ | (refine cs_ ?_ ?_<;>intro hc) | refine cj_ ?_ | fail)<;>(try refine ev_ ?_)) | with_reducible exact ti_)
      refine qbab (af':=⟨[(0,.ptr 0 0),(1,.fn g [] [.ptr 1 0]),(6,.row 2 (acc.length + 1))],[]⟩) (H':=[curE d',.blk [.ptr 0 0],.app 5 (encs (acc ++ [n]))]) ?_ (qba1 [0,1,4] rfl (by simp) ?_ ?_ ?_)
      rotate_left
      all_goals (try simp only [← qh,List.nil_append,encs,List.length_nil])
      all_goals (try (refine ev_ ?_;(try with_reducible exact ti_)))
      all_goals (try (rw [qh,qu,qbf];exact ⟨rfl,rfl⟩))
      subst h9
      have hta:(qn d' [59]).1.good:=(qv _ _).1 j1
      have htr:=(qv d' [59]).2.1
      have hne3:¬ acc ++ [n] = []:=by simp
      have hlen:(acc ++ [n]).length = acc.length + 1:=by simp
      repeat' (first | refine vs_ ?_ | ((first | refine vr_ ?_ | refine qdp j1.ok ?_ | refine a_Is ?_ | refine qbz hta.ok ?_ | (refine cs_ ?_ ?_<;>intro hc) | refine cj_ ?_ | fail)<;>(try refine ev_ ?_)) | with_reducible exact ti_)
      ·have ht:(qn d' [59]).2 = false:=by assumption
       rw [ht,Bool.false_and,if_neg (by simp)] at i3
       subst i3
       obtain rfl:=hk2 (by simp)
       simp only [qbh (q9 hne3),qbi (q9 hne3),q8,hlen,← qh]
       (refine ev_ ?_;(try with_reducible exact ti_))
       all_goals first | (rw [qh];exact qu _ _) | exact ⟨rfl,rfl⟩ | rfl | (rw [qh,qu,qbf];exact ⟨rfl,rfl⟩)
      ·have ht:(qn d' [59]).2 = true:=by assumption
       have hi:isK (qn d' [59]).1 [125] = true:=by assumption
       rw [ht,hi,Bool.true_and,Bool.not_true,if_neg (by simp)] at i3
       subst i3
       obtain rfl:=hk2 (by simp)
       simp only [qbh (q9 hne3),qbi (q9 hne3),q8,hlen,← qh]
       (refine ev_ ?_;(try with_reducible exact ti_))
       all_goals first | (rw [qh];exact qu _ _) | exact ⟨rfl,rfl⟩ | rfl | (rw [qh,qu,qbf];exact ⟨rfl,rfl⟩)
      ·have ht:(qn d' [59]).2 = true:=by assumption
       have hi:isK (qn d' [59]).1 [125] = false:=by assumption
       rw [ht,hi,Bool.true_and,Bool.not_false,if_pos rfl] at i3
       have htl:=qcr ht
       refine qbl (fu,(qn d' [59]).1,acc ++ [n]) [0,1,2] ⟨⟨hta,by simp only;omega,i3,by simp only;omega,by simp only [hlen];omega⟩,by simp only;omega⟩ rfl (by simp) ?_ ?_ ?_
       all_goals simp only [qu0,qbh (q9 hne3),qbi (q9 hne3),q8,hlen,← qh]
       all_goals (refine ev_ ?_;(try with_reducible exact ti_))
       all_goals first | (rw [qh];exact qu _ _) | exact ⟨rfl,rfl⟩ | rfl | (rw [qh,qu,qbf];exact ⟨rfl,rfl⟩)
 ·have hpa:qbe rd c = ((qr c [123]).1,[],false):=by rw [qbe,if_neg hw]
  rw [hpa] at hk1 hk2 ⊢
  obtain rfl:=hk1 rfl
  repeat' (first | refine vs_ ?_ | ((first | refine vr_ ?_ | fail)<;>(try simp only [hw,go_sem,↓reduceIte])) | ((first | (refine cs_ ?_ ?_<;>intro hc) | refine cj_ ?_ | fail | refine qbz hg.ok ?_)<;>(try refine ev_ ?_)) | with_reducible exact ti_)
  exact ⟨rfl,rfl⟩
set_option maxRecDepth 4000

theorem qmu {rd:K->R3} (hd:∀ c,Mon c (rd c).1) (hl:∀ c,(rd c).2.2 = true->rest (rd c).1 < rest c):∀ (f:Nat) (c:K) (acc:List N),(qca rd f c acc).2.1.length≤acc.length + rest c
 | 0,c,acc=>by simp [qca]
 | f + 1, c, acc => by
   rw [qca]
   split
   ·rename_i h
    have h1:=hl c h
    split
    ·have h2:=qmu hd hl f (qn (rd c).1 [59]).1 (acc ++ [(rd c).2.1])
     have h3:=(qv (rd c).1 [59]).2.1
     simp only [List.length_append,List.length_cons,List.length_nil] at h2
     omega
    ·simp only [List.length_append,List.length_cons,List.length_nil];omega
   ·simp
theorem qpy {rd:K->R3} (hd:∀ c,Mon c (rd c).1) (hl:∀ c,(rd c).2.2 = true->rest (rd c).1 < rest c) (c:K):(qbe rd c).2.1.length≤rest c:=by
 unfold qbe
 split
 ·have h1:=qmu hd hl (rest (qr c [123]).1 + 1) (qr c [123]).1 []
  have h2:=(ql c [123]).2.1
  simp only [List.length_nil] at h1
  omega
 ·simp
theorem qp7 {rd:K->R3}:∀ (f:Nat) (c:K) (acc:List N),(qca rd f c acc).2.2 = true->(qca rd f c acc).2.1≠[]
 | 0,c,acc=>fun h=>by cases h
 | f + 1, c, acc => fun h => by
   rw [qca] at h ⊢
   split at h
   ·rename_i h1
    rw [if_pos h1]
    split at h
    ·rename_i h2
     rw [if_pos h2]
     exact qp7 f _ _ h
    ·rename_i h2
     rw [if_neg h2]
     simp
   ·cases h
theorem q1k {rd:K->R3} {c:K} (h:(qbe rd c).2.2 = true):(qbe rd c).2.1≠[]:=by
 unfold qbe at h ⊢
 split at h
 ·rename_i h1
  rw [if_pos h1]
  exact qp7 _ _ _ h
 ·cases h
theorem qv7 {rd:K->R3} {g:FuncId} {c:K} (h:qnx rd g c) (h0:(qbe rd c).2.1 = []) {L:List Ent} {Q:List Ent->VO->Prop} (hq:Q (curE (qbe rd c).1 :: .blk [.ptr 0 0] :: L) (.val (.tup [.nils,.bool (qbe rd c).2.2]))) :
 VApp Tryz.prog (curE c :: .blk [.ptr 0 0] :: L) (.fn 194 [] []) [.ptr 0 0,.fn g [] [.ptr 1 0]] Q :=
 qbr (first:=[]) (caps:=[]) (by
  simp only [List.nil_append,List.append_nil]
  refine qc1 (H0:=[curE c,.blk [.ptr 0 0]]) (L:=L) h (qjf c) rfl ?_
  rintro H1 o ⟨rfl,rfl⟩
  rw [h0]
  exact ⟨rfl,qjf _,rfl,hq⟩)
theorem qwn {rd:K->R3} {g:FuncId} {c:K} (h:qnx rd g c) (h0:(qbe rd c).2.1≠[]) {L:List Ent} {Q:List Ent->VO->Prop}
 (hq:Q (curE (qbe rd c).1 :: .blk [.ptr 0 0] :: (L ++ [.app 5 (encs (qbe rd c).2.1)])) (.val (.tup [.row (L.length + 2) (qbe rd c).2.1.length,.bool (qbe rd c).2.2]))) :
 VApp Tryz.prog (curE c :: .blk [.ptr 0 0] :: L) (.fn 194 [] []) [.ptr 0 0,.fn g [] [.ptr 1 0]] Q :=
 qbr (first:=[]) (caps:=[]) (by
  simp only [List.nil_append,List.append_nil]
  have hne:=q9 h0
  have hs:AV.rens (sg [0,1]) [.ptr 0 0,.fn g [] [.ptr 1 0]] = [.ptr 0 0,.fn g [] [.ptr 1 0]]:=rfl
  rw [← hs]
  have ha:AV.bds 2 [.ptr 0 0,.fn g [] [.ptr 1 0]] = true:=rfl
  have napp_ren:∀ σ:Nat->Nat,(Ent.app 5 (encs (qbe rd c).2.1)).ren σ = .app 5 (encs (qbe rd c).2.1):=fun σ=>Ent.ren_same (m:=0) (fun i hi=>by omega) _ (by simp [Ent.bd,qu])
  have hp:∀ σ:Nat->Nat,σ 0 = 0->(Ent.blk [.ptr 0 0]).ren σ = .blk [.ptr 0 0]:=fun σ h=>by simp [Ent.ren,AV.rens,AV.ren,h]
  refine qe0 (H0:=[curE c,.blk [.ptr 0 0]]) [0,1] h (by simp) (by simp) rfl ?_ ha ?_
  ·intro j e2 hj
   have hj2:j < 2:=by have:=(List.getElem?_eq_some_iff.1 hj).1;simpa using this
   have:j = 0∨j = 1:=by omega
   rcases this with rfl | rfl
   ·simp only [List.getElem?_cons_zero,Option.some.injEq] at hj
    subst hj
    exact .inr ⟨qp _ _,by rw [qcv];rfl⟩
   ·simp only [List.getElem?_cons_succ,List.getElem?_cons_zero,Option.some.injEq] at hj
    subst hj
    exact .inr ⟨rfl,rfl⟩
  rintro H1 o ⟨rfl,rfl⟩
  have hq2:(Ent.blk [.ptr 0 0]).ren (sg' [0,1] (L.length + 1 + 1)) = .blk [.ptr 0 0]:=hp _ rfl
  simp only [qbh hne,qbi hne,q8,List.length_cons,List.length_nil,List.take_succ_cons,List.take_zero,List.map_nil,qbg,List.drop_zero,List.drop_succ_cons,List.map_cons,qcv,napp_ren,hq2,VO.ren,AV.ren,AV.rens,List.set_cons_zero,List.set_cons_succ]
  exact hq)
def posZ (p:Int):AV:=.agg [.int .i64 0,.int .i64 p,.int .i64 0,.str [],.nils]
theorem qhn (p:Int):AV.agg [.int .i64 0,.int .i64 p,.int .i64 0,.str [],.sl 5 []] = enc (posN p):=by simp only [posN,enc,encs]
theorem qxa (p e:N):AV.agg [.int .i64 15,.int .i64 p.pos,.int .i64 0,.str [],.sl 5 [enc p,enc e]] = enc (altN p e):=by simp only [altN,enc,encs]
section
variable {rec:K->K×Option N} {b:Nat} (ih:∀ c,c.good->rest c < b->qbt Tryz.prog 58 (curE c) (curE (rec c).1) [.ptr 0 0] (resP (rec c).2))
include ih
theorem qbcu (c:K) (hg:c.good) (hr:rest c≤b):VClo 195 c (ofO (qb9 rec c)).1 (ofO (qb9 rec c)).2:=by
 refine qj c0dk 2 (by simp) (by simp) ?_
 repeat' (first | refine vs_ ?_ | ((first | refine vr_ ?_ | refine qb7 (qrq ih c hg hr) rfl ?_ | (refine cs_ ?_ ?_<;>intro hc) | refine cj_ ?_ | fail)<;>(try refine ev_ ?_)) | with_reducible exact ti_)
 exact ⟨rfl,rfl⟩
theorem q2e (c:K) (hg:c.good) (hr:rest c≤b):VClo 196 c (qep rec c).1 (qep rec c).2:=by
 have hp:=q52 (rest c + 2) c hg (by omega)
 have g1:(qcg (rest c + 2) c).1.good:=(qe8 _ c).1 hg
 have hr1:rest (qcg (rest c + 2) c).1≤b:=by have:=(qe8 (rest c + 2) c).2.1;omega
 refine qj c0dl 2 (by simp) (by simp) ?_
 unfold qep
 generalize qcg (rest c + 2) c = r at *
 obtain ⟨d,o⟩:=r
 simp only at hp g1 hr1 ⊢
 have g2:(qr d [45,62]).1.good:=(ql _ _).1 g1
 have hlt:(qr d [45,62]).2 = true->rest (qr d [45,62]).1 < b:=fun h=>by have:=qf9 h;omega
 unfold altB altC
 cases o with
 | none =>
   repeat' (first | refine vs_ ?_ | ((first | refine vr_ ?_ | fail)<;>(try simp (disch:=first | omega | (simp only [List.length_set,List.length_append,List.length_cons,List.length_nil];done) | (simp only [List.length_set,List.length_append,List.length_cons,List.length_nil];omega)) only [Option.isSome_none,Option.getD_none,go_sem,↓reduceIte])) | ((first | (refine cs_ ?_ ?_<;>intro hc) | refine cj_ ?_ | fail | refine qb7 hp rfl ?_)<;>(try refine ev_ ?_)) | with_reducible exact ti_)
   all_goals (try rfl)
 | some p =>
   by_cases hw:(qr d [45,62]).2 = true
   ·have hr:=ih _ g2 (hlt hw)
    repeat' (first | refine vs_ ?_ | ((first | refine vr_ ?_ | fail)<;>(try simp (disch:=first | omega | (simp only [List.length_set,List.length_append,List.length_cons,List.length_nil];done) | (simp only [List.length_set,List.length_append,List.length_cons,List.length_nil];omega)) only [hw,Option.isSome_some,Option.getD_some,go_sem,↓reduceIte])) | ((first | (refine cs_ ?_ ?_<;>intro hc) | refine cj_ ?_ | fail | refine qb7 hp rfl ?_ | refine qbz g1.ok ?_ | refine qb7 hr rfl ?_)<;>(try refine ev_ ?_)) | with_reducible exact ti_)
    all_goals first | (rw [qxa];done) | (rw [qxa];rfl) | (rw [qxa];exact ⟨rfl,rfl⟩)
   ·repeat' (first | refine vs_ ?_ | ((first | refine vr_ ?_ | fail)<;>(try simp (disch:=first | omega | (simp only [List.length_set,List.length_append,List.length_cons,List.length_nil];done) | (simp only [List.length_set,List.length_append,List.length_cons,List.length_nil];omega)) only [hw,Option.isSome_some,Option.getD_some,go_sem,↓reduceIte])) | ((first | (refine cs_ ?_ ?_<;>intro hc) | refine cj_ ?_ | fail | refine qb7 hp rfl ?_ | refine qbz g1.ok ?_)<;>(try refine ev_ ?_)) | with_reducible exact ti_)
    all_goals (try rfl)
end
set_option maxRecDepth 4000

theorem qbpv (p:Int) (l:List N) (k:N):AV.agg [.int .i64 26,.int .i64 p,.int .i64 0,.str [],.sl 5 (encs l ++ [enc k])] = enc (.mk 26 p 0 [] (l ++ [k])):=by simp only [enc,qh]
section
variable {rec:K->K×Option N} {b:Nat} (hm:∀ c,Mon c (rec c).1) (ih:∀ c,c.good->rest c < b->qbt Tryz.prog 58 (curE c) (curE (rec c).1) [.ptr 0 0] (resP (rec c).2))
include hm ih
theorem qbmg (p:Int) (c:K) (hg:c.good) (hr:rest c≤b):qbt Tryz.prog 159 (curE c) (curE (qkm rec p c).1) [.ptr 0 0,posZ p] (resB (qkm rec p c).2):=by
 have hd:∀ c,Mon c (ofO (qb9 rec c)).1:=fun c=>qke hm c
 have hl:∀ c,(ofO (qb9 rec c)).2.2 = true->rest (ofO (qb9 rec c)).1 < rest c:=fun c h=>qmj hm h
 have hS:=qy0 (g:=195) hd hl (fun c g r=>qbcu ih c g r) c hg hr
 have hlen:=qpy hd hl c
 have hne:=@q1k (fun c=>ofO (qb9 rec c)) c
 have g1:(qbe (fun c=>ofO (qb9 rec c)) c).1.good:=(qhz hd c).1 hg
 have hr1:rest (qbe (fun c=>ofO (qb9 rec c)) c).1≤b:=by have:=(qhz hd c).2.1;omega
 have happ0:=@qv7 _ _ _ hS
 have happ1:=@qwn _ _ _ hS
 have hgr:=hg.rest
 clear hS hd hl
 refine qj c0dg 1 (by simp) (by simp [posZ]) ?_
 unfold qkm posZ
 generalize qbe (fun c=>ofO (qb9 rec c)) c = L at *
 obtain ⟨d,l,ok⟩:=L
 simp only at hlen hne g1 hr1 happ0 happ1
 have g2:(qr d [105,110]).1.good:=(ql _ _).1 g1
 have hlt:(qr d [105,110]).2 = true->rest (qr d [105,110]).1 < b:=fun h=>by have:=qf9 h;omega
 have hcap:qec (l.length + 1) 64:=capN (by unfold rest at hlen;omega)
 unfold letB letC
 by_cases h0:l = []
 ·subst h0
  have ok0:ok = false:=by cases ok with | false=>rfl | true=>exact absurd rfl (hne rfl)
  subst ok0
  repeat' (first | refine vs_ ?_ | ((first | refine vr_ ?_ | refine happ0 rfl ?_ | (refine cs_ ?_ ?_<;>intro hc) | refine cj_ ?_ | fail)<;>(try refine ev_ ?_)) | with_reducible exact ti_)
  all_goals (try rw [qhn])
  all_goals (try exact ⟨rfl,rfl⟩)
 ·cases ok with
  | false =>
    repeat' (first | refine vs_ ?_ | ((first | refine vr_ ?_ | refine happ1 h0 ?_ | (refine cs_ ?_ ?_<;>intro hc) | refine cj_ ?_ | fail)<;>(try refine ev_ ?_)) | with_reducible exact ti_)
    all_goals (try rw [qhn])
    all_goals (try exact ⟨rfl,rfl⟩)
  | true =>
    by_cases hw:(qr d [105,110]).2 = true
    ·have hr:=ih _ g2 (hlt hw)
     repeat' (first | refine vs_ ?_ | ((first | refine vr_ ?_ | fail)<;>(try simp only [hw,go_sem,↓reduceIte])) | ((first | (refine cs_ ?_ ?_<;>intro hc) | refine cj_ ?_ | fail | refine happ1 h0 ?_ | refine qbz g1.ok ?_ | refine qb7 hr rfl ?_)<;>(try refine ev_ ?_)) | with_reducible exact ti_)
     all_goals (try rw [qbpv])
     all_goals exact ⟨by rw [qh,qu],rfl⟩
    ·repeat' (first | refine vs_ ?_ | ((first | refine vr_ ?_ | fail)<;>(try simp only [hw,go_sem,↓reduceIte])) | ((first | (refine cs_ ?_ ?_<;>intro hc) | refine cj_ ?_ | fail | refine happ1 h0 ?_ | refine qbz g1.ok ?_)<;>(try refine ev_ ?_)) | with_reducible exact ti_)
     all_goals (try rw [qhn])
     all_goals (try exact ⟨rfl,rfl⟩)
theorem q6y (p:Int) (c:K) (hg:c.good) (hr:rest c < b):qbt Tryz.prog 160 (curE c) (curE (qhw rec p c).1) [.ptr 0 0,posZ p] (resB (qhw rec p c).2):=by
 have hd:∀ c,Mon c (qep rec c).1:=fun c=>qrx hm c
 have hl:∀ c,(qep rec c).2.2 = true->rest (qep rec c).1 < rest c:=fun c h=>qxe hm h
 have hx:=ih c hg hr
 have g1:(rec c).1.good:=(hm c).1 hg
 have hr1:=(hm c).2.1
 refine qj c0dh 1 (by simp) (by simp [posZ]) ?_
 unfold qhw posZ
 generalize rec c = r0 at *
 obtain ⟨d0,o⟩:=r0
 simp only at g1 hr1 hx ⊢
 have g2:(qr d0 [111,102]).1.good:=(ql _ _).1 g1
 have hr2:rest (qr d0 [111,102]).1≤b:=by have:=(ql d0 [111,102]).2.1;omega
 have hS:=qy0 (g:=196) hd hl (fun c g r=>q2e ih c g r) (qr d0 [111,102]).1 g2 hr2
 have hlen:=qpy hd hl (qr d0 [111,102]).1
 have happ0:=@qv7 _ _ _ hS
 have happ1:=@qwn _ _ _ hS
 have hgr:=g2.rest
 clear hS hd hl
 unfold q7o q9e
 cases o with
 | none =>
   repeat' (first | refine vs_ ?_ | ((first | refine vr_ ?_ | fail)<;>(try simp (disch:=first | omega | (simp only [List.length_set,List.length_append,List.length_cons,List.length_nil];done) | (simp only [List.length_set,List.length_append,List.length_cons,List.length_nil];omega)) only [Option.isSome_none,Option.getD_none,go_sem,↓reduceIte])) | ((first | (refine cs_ ?_ ?_<;>intro hc) | refine cj_ ?_ | fail | refine qb7 hx rfl ?_)<;>(try refine ev_ ?_)) | with_reducible exact ti_)
   all_goals (try rw [qhn])
   all_goals (try exact ⟨rfl,rfl⟩)
 | some x =>
   by_cases hw:(qr d0 [111,102]).2 = true
   ·generalize qbe (qep rec) (qr d0 [111,102]).1 = L at *
    obtain ⟨d,l,ok⟩:=L
    simp only at hlen happ0 happ1 ⊢
    have hcap:qec (1 + l.length) 64:=capN (by unfold rest at hlen;omega)
    by_cases h0:l = []
    ·subst h0
     repeat' (first | refine vs_ ?_ | ((first | refine vr_ ?_ | fail)<;>(try simp (disch:=first | omega | (simp only [List.length_set,List.length_append,List.length_cons,List.length_nil];done) | (simp only [List.length_set,List.length_append,List.length_cons,List.length_nil];omega)) only [hw,Option.isSome_some,Option.getD_some,go_sem,↓reduceIte])) | ((first | (refine cs_ ?_ ?_<;>intro hc) | refine cj_ ?_ | fail | refine qb7 hx rfl ?_ | refine qbz g1.ok ?_ | refine happ0 rfl ?_)<;>(try refine ev_ ?_)) | with_reducible exact ti_)
     all_goals (try simp only [enc,encs])
    ·have hnl:¬ l.length = 0:=fun h=>h0 (List.length_eq_zero_iff.1 h)
     repeat' (first | refine vs_ ?_ | ((first | refine vr_ ?_ | fail)<;>(try simp (disch:=first | omega | (simp only [List.length_set,List.length_append,List.length_cons,List.length_nil];done) | (simp only [List.length_set,List.length_append,List.length_cons,List.length_nil];omega)) only [hw,hnl,hcap,Option.isSome_some,Option.getD_some,go_sem,↓reduceIte])) | ((first | (refine cs_ ?_ ?_<;>intro hc) | refine cj_ ?_ | fail | refine qb7 hx rfl ?_ | refine qbz g1.ok ?_ | refine happ1 h0 ?_)<;>(try refine ev_ ?_)) | with_reducible exact ti_)
     have hcm:l.length + 1 = 1 + l.length:=Nat.add_comm _ _
     simp only [hcm,if_true,enc,encs,AV.bd,AV.bds,qj2,qu,Bool.and_true,and_self]
   ·repeat' (first | refine vs_ ?_ | ((first | refine vr_ ?_ | fail)<;>(try simp (disch:=first | omega | (simp only [List.length_set,List.length_append,List.length_cons,List.length_nil];done) | (simp only [List.length_set,List.length_append,List.length_cons,List.length_nil];omega)) only [hw,Option.isSome_some,Option.getD_some,go_sem,↓reduceIte])) | ((first | (refine cs_ ?_ ?_<;>intro hc) | refine cj_ ?_ | fail | refine qb7 hx rfl ?_ | refine qbz g1.ok ?_)<;>(try refine ev_ ?_)) | with_reducible exact ti_)
    all_goals (try rw [qhn])
    all_goals (try exact ⟨rfl,rfl⟩)
def q28 (p:Int) (x:Nat×K×List N):AF×List Ent :=
 (⟨[(0, .ptr 0 0), (3, .ptr 1 0), (4, .ptr 2 0), (11, .agg (ifsW.map AV.str)), (12, .int .i64 x.1)], []⟩,
   curE x.2.1 :: .blk [.int .i64 28,.int .i64 p,.int .i64 0,.str [],accV 3 (encs x.2.2)] :: .blk [.int .i64 0,.int .i64 0,.int .i64 0,.str [],.nils] :: accE 5 (encs x.2.2))
theorem qbn3 (p:Int) (c:K) (hg:c.good) (hr:rest c < b):qbt Tryz.prog 161 (curE c) (curE (qei rec p ifsW c []).1) [.ptr 0 0,posZ p] (resB (qei rec p ifsW c []).2):=by
 refine qj c0di 1 (by simp) (by simp [posZ]) ?_
 unfold posZ
 generalize htg:qei rec p ifsW c [] = tg
 have hW:AV.agg (ifsW.map AV.str) = .agg [.str [],.str [116,104,101,110],.str [101,108,115,101]]:=rfl
 repeat' (first | refine vs_ ?_ | ((first | refine vr_ ?_ | (refine cs_ ?_ ?_<;>intro hc) | refine cj_ ?_ | simp (disch:=omega) only [qb,qm])<;>(try refine ev_ ?_)) | with_reducible exact ti_)
 refine qcc (S:=Nat×K×List N) (fun x=>x.1≤3∧x.2.1.good∧rest x.2.1 < b∧qei rec p (ifsW.drop x.1) x.2.1 x.2.2 = tg∧x.2.2.length = x.1)
  (q28 p) (fun x=>3 - x.1) ?_ ?_
 ·refine qbl (0,c,[]) [0,1,2] ⟨by simp,hg,hr,htg,rfl⟩ rfl (by simp) ?_ ?_ ?_
  all_goals simp only [q28,hW,encs,qbb,qbc]
  all_goals (refine ev_ ?_;(try with_reducible exact ti_))
 ·rintro ⟨i,d,acc⟩ ⟨i1,i2,i3,i4,i5⟩
  simp only at i1 i2 i3 i4 i5
  unfold q28
  by_cases hlt:i < 3
  ·have hil:(i:Int) < 3:=by omega
   have hd:=qog (ls:=ifsW) (i:=i) (by simpa [ifsW] using hlt)
   rw [hd,qei] at i4
   have hw0:ifsW.getD i [] = [] ↔ i = 0:=by
    have:i = 0∨i = 1∨i = 2:=by omega
    rcases this with rfl | rfl | rfl<;>simp [ifsW]
   have hln:(ifsW.map AV.str).length = 3:=rfl
   have hln2:i < ifsW.length:=hlt
   have hget:(ifsW.map AV.str).getD i .junk = .str (ifsW.getD i []):=qt6 hln2
   clear hd
   generalize ifsW.getD i [] = w at *
   have hab:∀ k,AV.bds k (ifsW.map AV.str) = true:=fun k=>qtq k _
   have har:∀ σ:Nat->Nat,AV.rens σ (ifsW.map AV.str) = ifsW.map AV.str:=fun σ=>qyz σ _
   generalize hW2:ifsW.map AV.str = aw at *
   by_cases h0:i = 0
   ·subst h0
    have hw:w = []:=hw0.2 rfl
    have ha:acc = []:=List.length_eq_zero_iff.1 i5
    subst hw ha
    have hx:=ih d i2 i3
    have g1:(rec d).1.good:=(hm d).1 i2
    have hr1:=(hm d).2.1
    rw [ifsK,if_pos rfl] at i4
    simp only [if_true] at i4
    generalize rec d = r at *
    obtain ⟨d',o⟩:=r
    simp only at g1 hr1 hx i4
    have hcap:qec 1 64:=capN (by omega)
    simp only [encs,qbb,qbc]
    cases o with
    | none =>
      rw [if_neg (by simp)] at i4
      subst i4
      repeat' (first | refine vs_ ?_ | ((first | refine vr_ ?_ | fail)<;>(try simp (disch:=first | omega | (simp only [List.length_set,List.length_append,List.length_cons,List.length_nil];done) | (simp only [List.length_set,List.length_append,List.length_cons,List.length_nil];omega)) only [hil,hget,hln,ne_eq,not_true_eq_false,not_false_eq_true,decide_true,decide_false,Option.isSome_none,Option.isSome_some,Option.getD_none,Option.getD_some,go_sem,↓reduceIte])) | ((first | (refine cs_ ?_ ?_<;>intro hc) | refine cj_ ?_ | simp (disch:=omega) only [qb,qm] | refine qb7 hx rfl ?_)<;>(try refine ev_ ?_)) | with_reducible exact ti_)
      all_goals first | (simp only [enc,encs];done) | (exfalso;omega)
    | some n =>
      rw [if_pos (by rfl)] at i4
      repeat' (first | refine vs_ ?_ | ((first | refine vr_ ?_ | fail)<;>(try simp (disch:=first | omega | (simp only [List.length_set,List.length_append,List.length_cons,List.length_nil];done) | (simp only [List.length_set,List.length_append,List.length_cons,List.length_nil];omega)) only [hil,hget,hln,ne_eq,not_true_eq_false,not_false_eq_true,decide_true,decide_false,Option.isSome_none,Option.isSome_some,Option.getD_none,Option.getD_some,go_sem,↓reduceIte])) | ((first | (refine cs_ ?_ ?_<;>intro hc) | refine cj_ ?_ | simp (disch:=omega) only [qb,qm] | refine qb7 hx rfl ?_)<;>(try refine ev_ ?_)) | with_reducible exact ti_)
      ·refine qbl (1,d',[n]) [0,1,2,4] ⟨⟨by simp,g1,by simp only;omega,by simpa using i4,rfl⟩,by simp⟩ rfl (by simp) ?_ ?_ ?_
       all_goals simp only [q28,hW2,encs,qgo,qgv]
       all_goals (refine ev_ ?_;(try with_reducible exact ti_))
       all_goals (try simp only [hab,har,show IntKind.i64.wrap (0 + 1) = ((1:Nat):Int) by rfl,and_self,true_and])
       all_goals (try rfl)
      ·exfalso;omega
   ·have hwn:(w = []) = False:=eq_false (fun h=>h0 (hw0.1 h))
    have ha:acc≠[]:=fun h=>h0 (by rw [← i5,h];rfl)
    have hne:=q9 ha
    have hik:ifsK d w = qr d w:=by rw [ifsK,if_neg (fun h=>h0 (hw0.1 h))]
    rw [hik] at i4
    have g1:(qr d w).1.good:=(ql d w).1 i2
    have hr1:=(ql d w).2.1
    have hx:=ih (qr d w).1 g1 (by omega)
    have g2:(rec (qr d w).1).1.good:=(hm _).1 g1
    have hr2:=(hm (qr d w).1).2.1
    have hcap:qec (acc.length + 1) 64:=capN (by omega)
    simp only [qbi hne,qbh hne,q8]
    by_cases hwt:(qr d w).2 = true
    ·rw [if_pos hwt] at i4
     generalize rec (qr d w).1 = r at *
     obtain ⟨d',o⟩:=r
     simp only at g2 hr2 hx i4
     cases o with
     | none =>
       rw [if_neg (by simp)] at i4
       subst i4
       repeat' (first | refine vs_ ?_ | ((first | refine vr_ ?_ | fail)<;>(try simp (disch:=first | omega | (simp only [List.length_set,List.length_append,List.length_cons,List.length_nil];done) | (simp only [List.length_set,List.length_append,List.length_cons,List.length_nil];omega)) only [hil,hwn,Nat.mul_one,hget,hln,ne_eq,not_true_eq_false,not_false_eq_true,decide_true,decide_false,Option.isSome_none,Option.isSome_some,Option.getD_none,Option.getD_some,hwt,go_sem,↓reduceIte])) | ((first | (refine cs_ ?_ ?_<;>intro hc) | refine cj_ ?_ | simp (disch:=omega) only [qb,qm] | refine qb7 hx rfl ?_ | refine qbz i2.ok ?_)<;>(try refine ev_ ?_)) | with_reducible exact ti_)
       all_goals (simp only [enc,encs])
     | some n =>
       rw [if_pos (by rfl)] at i4
       repeat' (first | refine vs_ ?_ | ((first | refine vr_ ?_ | fail)<;>(try simp (disch:=first | omega | (simp only [List.length_set,List.length_append,List.length_cons,List.length_nil];done) | (simp only [List.length_set,List.length_append,List.length_cons,List.length_nil];omega)) only [hil,hwn,Nat.mul_one,hget,hln,ne_eq,not_true_eq_false,not_false_eq_true,decide_true,decide_false,Option.isSome_none,Option.isSome_some,Option.getD_none,Option.getD_some,hwt,go_sem,↓reduceIte])) | ((first | (refine cs_ ?_ ?_<;>intro hc) | refine cj_ ?_ | simp (disch:=omega) only [qb,qm] | refine qb7 hx rfl ?_ | refine qbz i2.ok ?_)<;>(try refine ev_ ?_)) | with_reducible exact ti_)
       refine qbl (i + 1,d',acc ++ [n]) [0,1,2,5] ⟨⟨by simp only;omega,g2,by simp only;omega,by simpa using i4,by simp [i5]⟩,by simp only;omega⟩ rfl (by simp) ?_ ?_ ?_
       all_goals simp only [q28,hW2,← qh,qfe,qfc]
       all_goals (refine ev_ ?_;(try with_reducible exact ti_))
       all_goals (try simp only [hab,har,and_self,true_and])
       all_goals (try (rw [qh,qu,qbf];exact ⟨rfl,rfl⟩))
       all_goals (try (rw [qm (by unfold maxLen;omega)]))
    ·rw [if_neg hwt] at i4
     subst i4
     repeat' (first | refine vs_ ?_ | ((first | refine vr_ ?_ | fail)<;>(try simp (disch:=first | omega | (simp only [List.length_set,List.length_append,List.length_cons,List.length_nil];done) | (simp only [List.length_set,List.length_append,List.length_cons,List.length_nil];omega)) only [hil,hwn,Nat.mul_one,hget,hln,ne_eq,not_true_eq_false,not_false_eq_true,decide_true,decide_false,Option.isSome_none,Option.isSome_some,Option.getD_none,Option.getD_some,hwt,go_sem,↓reduceIte])) | ((first | (refine cs_ ?_ ?_<;>intro hc) | refine cj_ ?_ | simp (disch:=omega) only [qb,qm] | refine qbz i2.ok ?_)<;>(try refine ev_ ?_)) | with_reducible exact ti_)
     all_goals (simp only [enc,encs])
  ·obtain rfl:i = 3:=by omega
   have hil:¬ (3:Int) < 3:=by omega
   have ha:acc≠[]:=fun h=>by rw [h] at i5;cases i5
   have hne:=q9 ha
   rw [show ifsW.drop 3 = [] from rfl,qei] at i4
   subst i4
   simp only [qbi hne,qbh hne,q8]
   repeat' (first | refine vs_ ?_ | ((first | refine vr_ ?_ | fail)<;>(try simp only [hil,go_sem,↓reduceIte])) | ((first | (refine cs_ ?_ ?_<;>intro hc) | refine cj_ ?_ | simp (disch:=omega) only [qb,qm])<;>(try refine ev_ ?_)) | with_reducible exact ti_)
   all_goals first | (simp only [enc,encs];done) | (exfalso;omega) | skip
theorem qbb9 (c:K) (hg:c.good) (hr:rest c≤b):qbt Tryz.prog 103 (curE c) (curE (qen rec c).1) [.ptr 0 0] (resB (qen rec c).2):=by
 have g1:(qn c [92]).1.good:=(qv _ _).1 hg
 have g2:(qn c [108,101,116]).1.good:=(qv _ _).1 hg
 have g3:(qn c [99,97,115,101]).1.good:=(qv _ _).1 hg
 have g4:(qn c [105,102]).1.good:=(qv _ _).1 hg
 refine qj c0dj 1 (by simp) (by simp) ?_
 unfold qen
 by_cases t1:(qn c [92]).2 = true
 ·rw [if_pos t1]
  have l1:=qcr t1
  by_cases hk:(qs (qn c [92]).1).kind = 1
  ·rw [if_pos hk]
   have hl:=qtd ih [45,62] (rest (qn c [92]).1 + 1) _ g1 (by omega) (Nat.lt_succ_self _)
   repeat' (first | refine vs_ ?_ | ((first | refine vrr_ ?_ | fail)<;>(try simp only [t1,hk,ne_eq,not_true_eq_false,decide_false,go_sem,↓reduceIte])) | ((first | (refine cs_ ?_ ?_<;>intro hc) | refine cj_ ?_ | fail | refine qbq ?_ | refine qdp hg.ok ?_ | refine qjr hl rfl ?_)<;>(try refine ev_ ?_)) | with_reducible exact ti_)
  ·rw [if_neg hk]
   repeat' (first | refine vs_ ?_ | ((first | refine vrr_ ?_ | fail)<;>(try simp only [t1,hk,ne_eq,not_false_eq_true,decide_true,go_sem,↓reduceIte])) | ((first | (refine cs_ ?_ ?_<;>intro hc) | refine cj_ ?_ | fail | refine qbq ?_ | refine qdp hg.ok ?_ | refine qfa ?_)<;>(try refine ev_ ?_)) | with_reducible exact ti_)
   rw [qhn]
 ·have t1f:(qn c [92]).2 = false:=by simpa using t1
  have e1:=qda t1f
  rw [if_neg t1]
  by_cases t2:(qn c [108,101,116]).2 = true
  ·rw [if_pos t2]
   have l2:=qcr t2
   have hl:=qbmg hm ih (qs c).pos _ g2 (by omega)
   unfold posZ at hl
   repeat' (first | refine vs_ ?_ | ((first | refine vrr_ ?_ | fail)<;>(try simp only [t1f,e1,t2,go_sem,↓reduceIte])) | ((first | (refine cs_ ?_ ?_<;>intro hc) | refine cj_ ?_ | fail | refine qbq ?_ | refine qdp hg.ok ?_ | refine qjr hl rfl ?_)<;>(try refine ev_ ?_)) | with_reducible exact ti_)
  ·have t2f:(qn c [108,101,116]).2 = false:=by simpa using t2
   have e2:=qda t2f
   rw [if_neg t2]
   by_cases t3:(qn c [99,97,115,101]).2 = true
   ·rw [if_pos t3]
    have l2:=qcr t3
    have hl:=q6y hm ih (qs c).pos _ g3 (by omega)
    unfold posZ at hl
    repeat' (first | refine vs_ ?_ | ((first | refine vrr_ ?_ | fail)<;>(try simp only [t1f,e1,t2f,e2,t3,go_sem,↓reduceIte])) | ((first | (refine cs_ ?_ ?_<;>intro hc) | refine cj_ ?_ | fail | refine qbq ?_ | refine qdp hg.ok ?_ | refine qjr hl rfl ?_)<;>(try refine ev_ ?_)) | with_reducible exact ti_)
   ·have t3f:(qn c [99,97,115,101]).2 = false:=by simpa using t3
    have e3:=qda t3f
    rw [if_neg t3]
    by_cases t4:(qn c [105,102]).2 = true
    ·rw [if_pos t4]
     have l2:=qcr t4
     have hl:=qbn3 hm ih (qs c).pos _ g4 (by omega)
     unfold posZ at hl
     repeat' (first | refine vs_ ?_ | ((first | refine vrr_ ?_ | fail)<;>(try simp only [t1f,e1,t2f,e2,t3f,e3,t4,go_sem,↓reduceIte])) | ((first | (refine cs_ ?_ ?_<;>intro hc) | refine cj_ ?_ | fail | refine qbq ?_ | refine qdp hg.ok ?_ | refine qjr hl rfl ?_)<;>(try refine ev_ ?_)) | with_reducible exact ti_)
    ·have t4f:(qn c [105,102]).2 = false:=by simpa using t4
     have e4:=qda t4f
     rw [if_neg t4]
     have hl:=qbeq hm ih _ hg hr
     repeat' (first | refine vs_ ?_ | ((first | refine vrr_ ?_ | fail)<;>(try simp only [t1f,e1,t2f,e2,t3f,e3,t4f,e4,go_sem,↓reduceIte])) | ((first | (refine cs_ ?_ ?_<;>intro hc) | refine cj_ ?_ | fail | refine qbq ?_ | refine qdp hg.ok ?_ | refine qjr hl rfl ?_)<;>(try refine ev_ ?_)) | with_reducible exact ti_)
end
end Go.Proofs.YtlmcofjcpadmiaaGreat
