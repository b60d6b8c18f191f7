/- Texts of this proof, joined. -/
import Derived.Test.YtfjbmjplnmaclaaJar
import Derived.Test.YtfjbmjplnmaclaaJas
set_option linter.unusedVariables false
set_option linter.unusedSimpArgs false

/- the cursor: in other places; texts; trees that are whole -/
namespace Go.Proofs.Ytfjbmjplnmaclaa
open Go Go.RowKit Go.V

section
variable {P:Program} {f:FuncId} {e e':Ent} {L:List Ent} {args0 args:List AV} {r:AV} {Q:List Ent->VO->Prop}
theorem qze (k:Nat) (h:qb2 P f e e' args0 r) (hk:L[k]? = some e) (hb:e.bd 0 = true) (hb':e'.bd 0 = true) (ha:AV.bds 1 args0 = true) (hr:r.bd 0 = true) (hs:AV.rens (sg [k]) args0 = args) (hq:r.wf->Q (L.set k e') (.val r)) :
 VApp P L (.fn f [] []) args Q :=
 qb0 (first:=[]) (caps:=[]) (by
  simp only [List.nil_append,List.append_nil]
  rw [← hs]
  have hlt:k < L.length:=(List.getElem?_eq_some_iff.1 hk).1
  refine qf7 (H0:=[e]) [k] (h.mono' (Q':=fun H' o=>(H' = [e']∧o = .val r)∧r.wf) fun H' o hw ho=>⟨ho,by have:=ho.2;subst this;exact hw⟩) (by simp) (by simpa using hlt) rfl ?_ ha ?_
  ·intro j e2 hj
   obtain rfl:j = 0:=by have:=(List.getElem?_eq_some_iff.1 hj).1;simp at this;omega
   simp only [List.getElem?_cons_zero,Option.some.injEq] at hj
   subst hj
   exact .inr ⟨Ent.bd_le (Nat.zero_le _) _ hb,by rw [Ent.ren_same (m:=0) (fun i hi=>by omega) _ hb];exact hk⟩
  ·rintro H1 o ⟨⟨rfl,rfl⟩,hw⟩
   have h1:e'.ren (sg' [k] L.length) = e':=Ent.ren_same (m:=0) (fun i hi=>by omega) _ hb'
   have h2:r.ren (sg' [k] L.length) = r:=ren_same (m:=0) (fun i hi=>by omega) _ hr
   simp only [List.length_cons,List.length_nil,List.take_succ_cons,List.take_zero,List.map_cons,List.map_nil,qbo,h1,VO.ren,h2,List.drop_succ_cons,List.drop_nil,List.append_nil]
   exact hq hw)
theorem qbei (h:VCalls P f [] args fun H' o=>H' = [e]∧o = .val (.ptr 0 0)) (hb:e.bd 0 = true) (ha:AV.bds 0 args = true) (hq:Q (L ++ [e]) (.val (.ptr L.length 0))):VApp P L (.fn f [] []) args Q :=
 qb0 (first:=[]) (caps:=[]) (by
  simp only [List.nil_append,List.append_nil]
  have hs:AV.rens (sg []) args = args:=qb9 (m:=0) (fun i hi=>by omega) _ ha
  rw [← hs]
  refine qf7 (H0:=[]) [] h (by simp) (by simp) rfl (fun j e2 hj=>by simp at hj) ha ?_
  rintro H1 o ⟨rfl,rfl⟩
  have h1:e.ren (sg' [] L.length) = e:=Ent.ren_same (m:=0) (fun i hi=>by omega) _ hb
  simp only [List.length_nil,List.take_zero,List.map_nil,qbo,List.drop_zero,List.map_cons,h1,VO.ren,AV.ren,sg',Nat.not_lt_zero,if_false,Nat.sub_zero,Nat.add_zero]
  exact hq)
end
theorem qio (s:List UInt8):(lexV s).1.length≤1048577∧(lexV s).1.length≤s.length + 1:=by
 by_cases h:1048576 < (s.length:Int)
 ·rw [q1m h];simp
 ·have hll:(lexG s (qbr s)).1.length≤s.length:=by have:=qtv (s:=s) (s.length - qbr s) (qbr s);unfold lexG;omega
  by_cases he:(lexG s (qbr s)).2.2 = 0
  ·rw [q72 h he];simp only [List.length_append,List.length_cons,List.length_nil];omega
  ·rw [q01 h he];simp
theorem q15 {n:N} (h:sz n≤1000000):(qe2 (fun (k:Int) l _=>(if l > k then l else k,true)) n 1 0).1 = depR n:=by
 show (qe2 dpF n 1 0).1 = depR n
 rw [qbob n 1 0 (by omega) (by omega),qsm n (by omega)]
 have:=qxi n
 simp only;omega

/-! The cursor: it has gone on, if it has gone; a failure stays. -/
def K.good (c:K):Prop:=c.at'≤c.l.length∧c.l.length≤1048577∧c.nest≤200
def rest (c:K):Nat:=c.l.length - c.at'
theorem K.good.ok {c:K} (h:c.good):c.ok:=⟨h.1,Nat.le_trans h.2.1 (by unfold maxLen;omega)⟩
theorem K.good.rest {c:K} (h:c.good):c.l.length - c.at'≤1048577:=by have:=h.2.1;omega
theorem capN {n:Nat} (h:n≤1048580):qeb n 64:=by unfold qeb;omega
def Wi (B:Int) (c:K):Prop:=(∀ t∈c.l,0≤t.pos∧t.pos≤B)∧0≤c.ep∧c.ep≤B∧(c.err≠0->0≤c.pos∧c.pos≤B∧(c.err = 2∨c.err = 5))
def Mon (c c':K):Prop:=(c.good->c'.good)∧rest c'≤rest c∧(c.err≠0->c'.err = c.err)∧c'.l = c.l∧∀ B,Wi B c->Wi B c'
theorem Mon.refl (c:K):Mon c c:=⟨id,Nat.le_refl _,fun _=>rfl,rfl,fun _ h=>h⟩
theorem Mon.trans {a b c:K} (h:Mon a b) (k:Mon b c):Mon a c:=⟨fun g=>k.1 (h.1 g),Nat.le_trans k.2.1 h.2.1,fun e=>(k.2.2.1 (by rw [h.2.2.1 e];exact e)).trans (h.2.2.1 e),k.2.2.2.1.trans h.2.2.2.1,fun B g=>k.2.2.2.2 B (h.2.2.2.2 B g)⟩
def em (c:K):Nat:=if c.err = 0 then rest c + 1 else 0
theorem Mon.em {c c':K} (h:Mon c c'):em c'≤em c:=by
 unfold Go.Proofs.Ytfjbmjplnmaclaa.em
 have:=h.2.1
 split
 ·split
  ·omega
  ·rename_i h1 h2;exact absurd h1 (by rw [h.2.2.1 h2];exact h2)
 ·omega
theorem qu5 (c:K):em c≤rest c + 1:=by unfold em;split<;>omega
theorem qbxl {c:K} (h:c.err≠0):em c = 0:=if_neg h
theorem qbtk {c:K} (h:c.err = 0):em c = rest c + 1:=if_pos h
theorem qfa (c:K) {e:Int}:(qdy c e).err≠0:=by
 unfold qdy
 split
 ·simp only;split
  ·simp
  ·assumption
 ·assumption
theorem qbd (c:K):Mon c (qg c):=by
 unfold qg
 split
 ·split
  ·exact ⟨fun h=>⟨by simp only;omega,h.2⟩,by unfold rest;simp only;omega,fun _=>rfl,rfl,fun _ h=>h⟩
  ·exact Mon.refl c
 ·exact Mon.refl c
theorem qbgr {B:Int} {c:K} (h:Wi B c) (he:c.err = 0):0≤(qi c).pos∧(qi c).pos≤B:=by
 by_cases hl:c.at' < c.l.length
 ·rw [qsr he (by omega)]
  refine h.1 _ ?_
  rw [List.getD_eq_getElem?_getD,List.getElem?_eq_getElem hl]
  exact List.getElem_mem hl
 ·rw [qwq he (by omega)]
  exact ⟨h.2.1,h.2.2.1⟩
theorem qdx (c:K) (e:Int) (he:e = 2∨e = 5:=by decide):Mon c (qdy c e):=by
 refine ⟨?_,?_,fun h=>by rw [qeq h],?_,?_⟩
 ·unfold qdy;split<;>exact id
 ·unfold qdy;split<;>exact Nat.le_refl _
 ·unfold qdy;split<;>rfl
 ·intro B h
  unfold qdy
  split
  ·rename_i h0
   have h1:=qbgr h h0
   refine ⟨h.1,h.2.1,h.2.2.1,fun _=>⟨h1.1,h1.2,?_⟩⟩
   simp only
   rw [if_neg (by omega)];exact he
  ·exact h
theorem qo (c:K):Mon c (qa c).1:=by
 unfold qa
 split
 ·split
  ·rename_i h1;exact ⟨fun h=>⟨h.1,h.2.1,by simp only;omega⟩,Nat.le_refl _,fun _=>rfl,rfl,fun _ h=>h⟩
  ·exact qdx c 2
 ·exact Mon.refl c
theorem qx (c:K):Mon c (qb4 c):=by
 unfold qb4
 split
 ·split
  ·exact ⟨fun h=>⟨h.1,h.2.1,by have:=h.2.2;simp only;omega⟩,Nat.le_refl _,fun _=>rfl,rfl,fun _ h=>h⟩
  ·exact Mon.refl c
 ·exact Mon.refl c
theorem qn (c:K) (x:List UInt8):Mon c (qd c x).1:=by
 unfold qd
 split
 ·exact qbd c
 ·exact Mon.refl c
theorem qe (c:K) (x:List UInt8):Mon c (qc c x).1:=by
 unfold qc
 split
 ·exact qbd c
 ·exact qdx c 5
theorem qe8 {c:K} (h:(qi c).kind≠0):c.err = 0∧c.at' < c.l.length:=by
 unfold qi at h
 split at h
 ·rename_i h1
  split at h
  ·rename_i h2;exact ⟨h1,h2⟩
  ·exact absurd rfl h
 ·exact absurd rfl h
theorem qy {c:K} (h:(qi c).kind≠0):rest (qg c) + 1 = rest c:=by
 obtain ⟨h1,h2⟩:=qe8 h
 rw [q1w h1 (by omega)]
 unfold rest;simp only;omega
theorem qda {c:K} {x:List UInt8} (h:isK c x = true):(qi c).kind≠0:=by
 simp only [isK,qfm,Bool.and_eq_true,Bool.or_eq_true,decide_eq_true_eq] at h
 omega
theorem qxk {c:K} {x:List UInt8} (h:isK c x = true):c.err = 0:=by
 simp only [isK,Bool.and_eq_true,decide_eq_true_eq] at h
 exact h.1
theorem qlb {c:K} (h:(qa c).2 = true):c.err = 0∧(qa c).1.err = 0∧(qa c).1 = { c with nest:=c.nest + 1 }:=by
 unfold qa at h ⊢
 split at h
 ·rename_i h1
  split at h
  ·rename_i h2;rw [if_pos h1,if_pos h2];exact ⟨h1,h1,rfl⟩
  ·cases h
 ·cases h
theorem qd5 {c:K} (h:(qa c).2 = true):qi (qa c).1 = qi c:=by rw [(qlb h).2.2];rfl
theorem qfb {c:K} {x:List UInt8} (h:(qa c).2 = true):isK (qa c).1 x = isK c x:=by rw [(qlb h).2.2];rfl
theorem qfi {c:K} (h:(qa c).2 = false):(qa c).1.err≠0:=by
 unfold qa at h ⊢
 split at h
 ·rename_i h1
  split at h
  ·cases h
  ·rename_i h2;rw [if_pos h1,if_neg h2];exact qfa c
 ·rename_i h1;rw [if_neg h1];exact h1
theorem qc4 {c:K} {x:List UInt8} (h:(qc c x).2 = false):(qc c x).1.err≠0:=by
 unfold qc at h ⊢
 split at h
 ·cases h
 ·rename_i h1;rw [if_neg h1];exact qfa c
theorem qb8 {c:K} (h:c.err≠0):qb4 c = c:=if_neg h
theorem qxf {c:K} {x:List UInt8} (h:c.err≠0):isK c x = false:=by
 simp only [isK,decide_eq_false h,Bool.false_and]
theorem qbj {c:K} {x:List UInt8} (h:c.err≠0):qc c x = (c,false):=by
 rw [qc,if_neg (by rw [qxf h];simp),qeq h]
theorem qd9 {c:K} {x:List UInt8} (h:c.err≠0):qd c x = (c,false):=qe3 (qxf h)
theorem qib {c:K} {x:List UInt8} (h:isK c x = true):qc c x = (qg c,true):=if_pos h

/-! Types: the program. -/
def begT (c:K):Bool:=decide ((qi c).kind = 1) || decide ((qi c).kind = 2) || isK c [40]
def qhq (c:K) (k:Int) (ks:List N):N:=.mk k (qi c).pos 0 (qi c).text ks
def qbc (rec:K->K×Option N) (c:K):K×Option N :=
 if (qi c).kind = 1 then (qg c,some (qhq c 1 []))
 else if (qi c).kind = 2 then (qg c,some (qhq c 2 []))
 else if isK c [40] = true then
  if (qa c).2 = true then
   if (rec (qg (qa c).1)).2.isSome = true then
    (qb4 (qc (rec (qg (qa c).1)).1 [41]).1,if (qc (rec (qg (qa c).1)).1 [41]).2 = true then (rec (qg (qa c).1)).2 else none)
   else (qb4 (rec (qg (qa c).1)).1,none)
  else ((qa c).1,none)
 else (qdy c 5,none)
def qcu (rec:K->K×Option N):Nat->K->List N->K×Option (List N)
 | 0,c,acc=>(c,none)
 | f + 1, c, acc =>
   if begT c = true then
    if (qbc rec c).2.isSome = true then qcu rec f (qbc rec c).1 (acc ++ [(qbc rec c).2.getD N0])
    else ((qbc rec c).1,none)
   else (c,some acc)
def qbt (rec:K->K×Option N) (c:K):K×Option N :=
 if (qi c).kind = 2 then ((qcu rec (rest c + 1) (qg c) []).1,(qcu rec (rest c + 1) (qg c) []).2.map (qhq c 2))
 else qbc rec c
def qkg (n m:N):N:=.mk 2 n.pos 0 [45,62] [n,m]
def qbg:Nat->K->K×Option N
 | 0,c=>(c,none)
 | f + 1, c =>
   if (qa c).2 = true then
    if (qbt (qbg f) (qa c).1).2.isSome = true then
     if (qd (qbt (qbg f) (qa c).1).1 [45,62]).2 = true then
      (qb4 (qbg f (qd (qbt (qbg f) (qa c).1).1 [45,62]).1).1,(qbg f (qd (qbt (qbg f) (qa c).1).1 [45,62]).1).2.map (qkg ((qbt (qbg f) (qa c).1).2.getD N0)))
     else (qb4 (qbt (qbg f) (qa c).1).1,(qbt (qbg f) (qa c).1).2)
    else (qb4 (qbt (qbg f) (qa c).1).1,none)
   else ((qa c).1,none)
section
variable {rec:K->K×Option N} (hm:∀ c,Mon c (rec c).1)
include hm
theorem qd0 (c:K):Mon c (qbc rec c).1:=by
 unfold qbc
 split
 ·exact qbd c
 ·split
  ·exact qbd c
  ·split
   ·split
    ·have h1:=((qo c).trans (qbd _)).trans (hm _)
     split
     ·exact (h1.trans (qe _ _)).trans (qx _)
     ·exact h1.trans (qx _)
    ·exact qo c
   ·exact qdx c 5
theorem qdk {c:K} (h:(qbc rec c).2.isSome = true):rest (qbc rec c).1 < rest c:=by
 unfold qbc at h ⊢
 split at h
 ·rename_i h1;rw [if_pos h1];have:=qy (c:=c) (by omega);simp only;omega
 ·rename_i h1
  rw [if_neg h1]
  split at h
  ·rename_i h2;rw [if_pos h2];have:=qy (c:=c) (by omega);simp only;omega
  ·rename_i h2
   rw [if_neg h2]
   split at h
   ·rename_i hk
    rw [if_pos hk]
    split at h
    ·rename_i he
     rw [if_pos he]
     have hp:=qy (c:=(qa c).1) (by rw [qd5 he];exact qda hk)
     have h0:=(qo c).2.1
     have h1:=(hm (qg (qa c).1)).2.1
     split at h
     ·rename_i hr
      rw [if_pos hr]
      have h2:=(qe (rec (qg (qa c).1)).1 [41]).2.1
      have h3:=(qx (qc (rec (qg (qa c).1)).1 [41]).1).2.1
      simp only;omega
     ·cases h
    ·cases h
   ·cases h
theorem qig:∀ (f:Nat) (c:K) (acc:List N),Mon c (qcu rec f c acc).1
 | 0,c,acc=>Mon.refl c
 | f + 1, c, acc => by
   rw [qcu]
   split
   ·split
    ·exact (qd0 hm c).trans (qig f _ _)
    ·exact qd0 hm c
   ·exact Mon.refl c
theorem qq0 (c:K):Mon c (qbt rec c).1:=by
 unfold qbt
 split
 ·exact (qbd c).trans (qig hm _ _ _)
 ·exact qd0 hm c
theorem qy3 {c:K} (h:(qbt rec c).2.isSome = true):rest (qbt rec c).1 < rest c:=by
 unfold qbt at h ⊢
 split at h
 ·rename_i h1
  rw [if_pos h1]
  have:=qy (c:=c) (by omega)
  have:=(qig hm (rest c + 1) (qg c) []).2.1
  simp only;omega
 ·rename_i h1
  rw [if_neg h1]
  exact qdk hm h
end
theorem qcg:∀ (f:Nat) (c:K),Mon c (qbg f c).1
 | 0,c=>Mon.refl c
 | f + 1, c => by
   have hr:=(qo c).trans (qq0 (qcg f) (qa c).1)
   rw [qbg]
   split
   ·split
    ·split
     ·exact ((hr.trans (qn _ _)).trans (qcg f _)).trans (qx _)
     ·exact hr.trans (qx _)
    ·exact hr.trans (qx _)
   ·exact qo c
theorem q5v {c:K} (h:begT c = true):c.err = 0:=by
 simp only [begT,Bool.or_eq_true,decide_eq_true_eq] at h
 rcases h with (h | h) | h
 ·exact (qe8 (by omega)).1
 ·exact (qe8 (by omega)).1
 ·exact qxk h
theorem q87 {c:K} (h:c.err≠0):begT c = false:=by
 cases hb:begT c with
 | false=>rfl
 | true=>exact absurd (q5v hb) h
set_option maxRecDepth 4000

def resP (r:Option N):AV:=.tup [enc (r.getD N0),.bool r.isSome]
attribute [go_sem] resP
theorem qblj (k:Nat) (r:Option N):(resP r).bd k = true:=by simp only [resP,AV.bd,AV.bds,qmt,Bool.and_true]
theorem qce {P:Program} {f:FuncId} {c c':K} {L:List Ent} {args:List AV} {r:Option N} {Q:List Ent->VO->Prop} (h:qb2 P f (curE c) (curE c') args (resP r)) (ha:AV.bds 1 args = true) (hq:Q (curE c' :: L) (.val (resP r))):VApp P (curE c :: L) (.fn f [] []) args Q :=
 qby h (qu _ _) (qu _ _) ha (qblj _ _) fun _=>hq
theorem qds:AV.agg [.int .i64 0,.int .i64 0,.int .i64 0,.str [],.sl 5 []] = enc N0:=by simp [N0,enc,encs]
def ql9 (n:N) (b:Bool):Option N:=if b = true then some n else none
theorem qbfv (n:N):ql9 n false = none:=rfl
theorem q6u {r:Option N} {b:Bool} (h:r.isSome = true):ql9 (r.getD N0) b = if b = true then r else none:=by
 cases r with
 | none=>cases h
 | some n=>rfl
theorem qbdl (c:K) (n:N) (b:Bool):qb2 Try.prog 56 (curE c) (curE c) [.ptr 0 0,enc n,.bool b] (resP (ql9 n b)):=by
 refine ql c0w 1 (by simp) (by simp) ?_
 repeat' (first | refine vs_ ?_ | ((first | refine vr_ ?_ | (refine cs_ ?_ ?_<;>intro hc) | refine cj_ ?_ | fail)<;>(try refine ev_ ?_)) | with_reducible exact ti_)
 all_goals (unfold ql9;simp_all [qds])
theorem qv2 {c:K} {L:List Ent} {n:N} {b:Bool} {Q:List Ent->VO->Prop} (hq:Q (curE c :: L) (.val (resP (ql9 n b)))):VApp Try.prog (curE c :: L) (.fn 56 [] []) [.ptr 0 0,enc n,.bool b] Q:=qce (qbdl c n b) (by simp only [AV.bds,AV.bd,qmt];rfl) hq
theorem qy4 {c:K} {L:List Ent} {n m:N} {b:Bool} {Q:List Ent->VO->Prop} (hq:Q (curE c :: L) (.val (resP (ql9 (qkg n m) b)))) :
 VApp Try.prog (curE c :: L) (.fn 56 [] []) [.ptr 0 0,.agg [.int .i64 2,.int .i64 n.pos,.int .i64 0,.str [45,62],.sl 5 [enc n,enc m]],.bool b] Q:=by
 have h:=qv2 (n:=qkg n m) hq
 simpa only [qkg,enc,encs] using h
theorem qs2 {r:Option N} {g:N->N}:ql9 (g (r.getD N0)) r.isSome = r.map g:=by cases r<;>rfl
theorem q3i {r:Option N} {n:N}:ql9 (qkg n (r.getD N0)) r.isSome = r.map (qkg n):=qs2
theorem qc2 {c:K} {x:List UInt8} (h:(qd c x).2 = false):(qd c x).1 = c:=by
 unfold qd at *
 split at h
 ·cases h
 ·rename_i h1;rw [if_neg h1]
theorem q2f (c:K):qb2 Try.prog 81 (curE c) (curE c) [.ptr 0 0] (.bool (begT c)):=by
 refine ql c0x 1 (by simp) (by simp) ?_
 repeat' (first | refine vs_ ?_ | ((first | refine vr_ ?_ | refine qbv ?_ | refine a_Is ?_ | (refine cs_ ?_ ?_<;>intro hc) | refine cj_ ?_ | fail)<;>(try refine ev_ ?_)) | with_reducible exact ti_)
 all_goals (unfold begT;simp_all)
theorem qbfq {c:K} {L:List Ent} {Q:List Ent->VO->Prop} (hq:Q (curE c :: L) (.val (.bool (begT c)))):VApp Try.prog (curE c :: L) (.fn 81 [] []) [.ptr 0 0] Q:=qby (q2f c) (qu _ _) (qu _ _) rfl rfl fun _=>hq
theorem q8 {l:List N} (h:l≠[]):encs l≠[]:=by cases l with | nil=>exact absurd rfl h | cons _ _=>simp [encs]
def q4x (p:Int) (t:List UInt8) (c:K) (acc:List N):AF×List Ent :=
 (⟨[(0, .ptr 0 0), (2, .ptr 1 0), (5, .ptr 2 0)], []⟩,
   curE c :: .blk [.int .i64 0,.int .i64 0,.int .i64 0,.str [],.nils] :: .blk [.int .i64 2,.int .i64 p,.int .i64 0,.str t,accV 3 (encs acc)] :: accE 5 (encs acc))
section
variable {rec:K->K×Option N} {b:Nat} (hm:∀ c,Mon c (rec c).1) (ih:∀ c,c.good->rest c < b->qb2 Try.prog 54 (curE c) (curE (rec c).1) [.ptr 0 0] (resP (rec c).2))
include hm ih
theorem qhl (c:K) (hg:c.good) (hr:rest c≤b):qb2 Try.prog 37 (curE c) (curE (qbc rec c).1) [.ptr 0 0] (resP (qbc rec c).2):=by
 have g1:(qa c).1.good:=(qo c).1 hg
 have g2:(qg (qa c).1).good:=(qbd _).1 g1
 have g3:(rec (qg (qa c).1)).1.good:=(hm _).1 g2
 have g4:(qc (rec (qg (qa c).1)).1 [41]).1.good:=(qe _ _).1 g3
 have hrr:isK c [40] = true->(qa c).2 = true->rest (qg (qa c).1) < b:=fun h1 h2=>by
  have:=qy (c:=(qa c).1) (by rw [qd5 h2];exact qda h1)
  have:=(qo c).2.1
  omega
 refine ql c0y 1 (by simp) (by simp) ?_
 repeat' (first | refine vs_ ?_ | ((first | refine vr_ ?_ | refine qbv ?_ | refine a_Is ?_ | refine qq5 ?_ | refine qha ?_ | refine qi2 hg.ok ?_ | refine qi2 g1.ok ?_ | refine qce (ih _ g2 (hrr (by assumption) (by assumption))) rfl ?_ | refine qb5 g3.ok ?_ | refine qe6 g4.2.2 ?_ | refine qe6 g3.2.2 ?_ | refine qv2 ?_ | (refine cs_ ?_ ?_<;>intro hc) | refine cj_ ?_ | fail)<;>(try refine ev_ ?_)) | with_reducible exact ti_)
 all_goals (try simp only [q6u (r:=(rec (qg (qa c).1)).2) (by assumption)])
 all_goals (try simp only [qbfv])
 all_goals (unfold qbc qhq;simp only [*,qds,Int.reduceEq,if_true,if_false,reduceIte,Bool.false_eq_true,Option.getD_none,Option.getD_some,Option.isSome_none,Option.isSome_some,and_self,true_and,and_true];try rfl)
theorem qbqc (c:K) (hg:c.good) (hr:rest c≤b):qb2 Try.prog 76 (curE c) (curE (qbt rec c).1) [.ptr 0 0] (resP (qbt rec c).2):=by
 refine ql c0z 1 (by simp) (by simp) ?_
 by_cases hk:(qi c).kind = 2
 ·have g1:(qg c).good:=(qbd _).1 hg
  have hpa:qbt rec c = ((qcu rec (rest c + 1) (qg c) []).1,(qcu rec (rest c + 1) (qg c) []).2.map (qhq c 2)):=by rw [qbt,if_pos hk]
  rw [hpa]
  clear hpa
  generalize htg:qcu rec (rest c + 1) (qg c) [] = tg
  have hmt:Mon (qg c) tg.1:=htg ▸ qig hm _ _ _
  have hrn:=qy (c:=c) (by omega)
  repeat' (first | refine vs_ ?_ | ((first | refine vr_ ?_ | fail)<;>(try simp only [hk,Int.reduceEq,go_sem,↓reduceIte])) | ((first | (refine cs_ ?_ ?_<;>intro hc) | refine cj_ ?_ | fail | refine qbv ?_ | refine qi2 hg.ok ?_)<;>(try refine ev_ ?_)) | with_reducible exact ti_)
  refine qct (S:=Nat×K×List N) (fun x=>x.2.1.good∧rest x.2.1≤b∧qcu rec x.1 x.2.1 x.2.2 = tg∧rest x.2.1 < x.1∧x.2.2.length + rest x.2.1≤1048577)
   (fun x=>q4x (qi c).pos (qi c).text x.2.1 x.2.2) (fun x=>rest x.2.1 + 1) ?_ ?_
  ·refine qb1 (rest c + 1,qg c,[]) [0,1,3] ⟨g1,by simp only;omega,htg,by simp only;omega,?_⟩ rfl (by simp) ?_ ?_ ?_
   ·have h9:=g1.rest
    unfold rest
    simp only [List.length_nil]
    omega
   all_goals simp only [q4x,encs,qbf,qbi]
   all_goals (refine ev_ ?_;(try with_reducible exact ti_))
  ·rintro ⟨fu,d,acc⟩ ⟨i1,i2,i3,i4,i5⟩
   simp only at i1 i2 i3 i4 i5
   unfold q4x
   obtain ⟨fu,rfl⟩:∃ k,fu = k + 1:=⟨fu - 1,by omega⟩
   rw [qcu] at i3
   have hcap:qeb (acc.length + 1) 64:=capN (by omega)
   have j1:(qbc rec d).1.good:=(qd0 hm d).1 i1
   have j2:rest (qbc rec d).1≤rest d:=(qd0 hm d).2.1
   by_cases h0:acc = []
   ·subst h0
    simp only [encs,qbf,qbi]
    repeat' (first | refine vs_ ?_ | ((first | refine vr_ ?_ | refine qbfq ?_ | refine qce (qhl hm ih _ i1 i2) rfl ?_ | (refine cs_ ?_ ?_<;>intro hc) | refine cj_ ?_ | fail)<;>(try refine ev_ ?_)) | with_reducible exact ti_)
    ·have hb:begT d = true:=by assumption
     have hs:(qbc rec d).2.isSome = false:=by assumption
     rw [if_pos hb,if_neg (by rw [hs];simp)] at i3
     subst i3
     exact ⟨rfl,by rw [qds];rfl⟩
    ·have hb:begT d = true:=by assumption
     have hs:(qbc rec d).2.isSome = true:=by assumption
     rw [if_pos hb,if_pos hs] at i3
     have hlt:=qdk hm hs
     refine qb1 (fu,(qbc rec d).1,[] ++ [(qbc rec d).2.getD N0]) [0,1,2,4] ⟨⟨j1,by simp only;omega,i3,by simp only;omega,?_⟩,by simp only;omega⟩ rfl (by simp) ?_ ?_ ?_
     ·simp only [List.length_append,List.length_cons,List.length_nil];omega
     all_goals simp only [q4x,← qh,qfj,qfn,List.nil_append,encs,qgx,qgu]
     all_goals (refine ev_ ?_;(try with_reducible exact ti_))
    ·have hb:begT d = false:=by assumption
     rw [if_neg (by rw [hb];simp)] at i3
     subst i3
     simp only [Option.map_some,Option.getD_some,Option.isSome_some,enc,encs,qhq,and_self]
   ·have hne:=q8 h0
    simp only [qbk hne,qbl hne,q9]
    repeat' (first | refine vs_ ?_ | ((first | refine vr_ ?_ | refine qbfq ?_ | refine qce (qhl hm ih _ i1 i2) rfl ?_ | (refine cs_ ?_ ?_<;>intro hc) | refine cj_ ?_ | fail)<;>(try refine ev_ ?_)) | with_reducible exact ti_)
    ·have hb:begT d = true:=by assumption
     have hs:(qbc rec d).2.isSome = false:=by assumption
     rw [if_pos hb,if_neg (by rw [hs];simp)] at i3
     subst i3
     exact ⟨rfl,by rw [qds];rfl⟩
    ·have hb:begT d = true:=by assumption
     have hs:(qbc rec d).2.isSome = true:=by assumption
     rw [if_pos hb,if_pos hs] at i3
     have hlt:=qdk hm hs
     refine qb1 (fu,(qbc rec d).1,acc ++ [(qbc rec d).2.getD N0]) [0,1,2,5] ⟨⟨j1,by simp only;omega,i3,by simp only;omega,?_⟩,by simp only;omega⟩ rfl (by simp) ?_ ?_ ?_
     ·simp only [List.length_append,List.length_cons,List.length_nil];omega
     all_goals simp only [q4x,← qh,qfj,qfn,List.nil_append,encs,qgx,qgu]
     all_goals (refine ev_ ?_;(try with_reducible exact ti_))
     rw [qh,qr,q6];exact ⟨rfl,rfl⟩
    ·have hb:begT d = false:=by assumption
     rw [if_neg (by rw [hb];simp)] at i3
     subst i3
     simp only [Option.map_some,Option.getD_some,Option.isSome_some,enc,encs,qhq,and_self]
 ·repeat' (first | refine vs_ ?_ | ((first | refine vr_ ?_ | fail)<;>(try simp only [hk,go_sem,↓reduceIte])) | ((first | (refine cs_ ?_ ?_<;>intro hc) | refine cj_ ?_ | fail | refine qbv ?_ | refine qce (qhl hm ih c hg hr) rfl ?_)<;>(try refine ev_ ?_)) | with_reducible exact ti_)
  rw [qbt,if_neg hk];exact ⟨rfl,rfl⟩
end
theorem qw6 {f:Nat} (ih:∀ c,c.good->rest c < f->qb2 Try.prog 54 (curE c) (curE (qbg f c).1) [.ptr 0 0] (resP (qbg f c).2)) (c:K) (hg:c.good) (hr:rest c < f + 1) :
 qb2 Try.prog 54 (curE c) (curE (qbg (f + 1) c).1) [.ptr 0 0] (resP (qbg (f + 1) c).2):=by
 have hm:=qcg f
 have g1:(qa c).1.good:=(qo c).1 hg
 have hr1:rest (qa c).1≤f:=by have:=(qo c).2.1;omega
 have hrow:=qbqc hm ih _ g1 hr1
 have mrow:=qq0 hm (qa c).1
 have lrow:=qy3 hm (c:=(qa c).1)
 have hpa:qbg (f + 1) c = if (qa c).2 = true then
  if (qbt (qbg f) (qa c).1).2.isSome = true then
   if (qd (qbt (qbg f) (qa c).1).1 [45,62]).2 = true then
    (qb4 (qbg f (qd (qbt (qbg f) (qa c).1).1 [45,62]).1).1,(qbg f (qd (qbt (qbg f) (qa c).1).1 [45,62]).1).2.map (qkg ((qbt (qbg f) (qa c).1).2.getD N0)))
   else (qb4 (qbt (qbg f) (qa c).1).1,(qbt (qbg f) (qa c).1).2)
  else (qb4 (qbt (qbg f) (qa c).1).1,none)
  else ((qa c).1,none):=by rw [qbg]
 rw [hpa]
 clear hpa
 generalize qbt (qbg f) (qa c).1 = r at *
 have g2:r.1.good:=mrow.1 g1
 have g3:(qd r.1 [45,62]).1.good:=(qn _ _).1 g2
 have g4:(qbg f (qd r.1 [45,62]).1).1.good:=(hm _).1 g3
 have hlt:r.2.isSome = true->rest (qd r.1 [45,62]).1 < f:=fun h=>by
  have:=lrow h
  have:=(qn r.1 [45,62]).2.1
  omega
 refine ql c0ba 1 (by simp) (by simp) ?_
 repeat' (first | refine vs_ ?_ | ((first | refine vr_ ?_ | refine qha ?_ | refine qce hrow rfl ?_ | refine qdt g2.ok ?_ | refine qce (ih _ g3 (hlt (by assumption))) rfl ?_ | refine qe6 g4.2.2 ?_ | refine qe6 g3.2.2 ?_ | refine qe6 g2.2.2 ?_ | refine qv2 ?_ | refine qy4 ?_ | (refine cs_ ?_ ?_<;>intro hc) | refine cj_ ?_ | fail)<;>(try refine ev_ ?_)) | with_reducible exact ti_)
 all_goals (try simp only [qc2 (c:=r.1) (by assumption)])
 all_goals (try simp only [q6u (r:=r.2) (by assumption)])
 all_goals (try simp only [qbfv,q3i])
 all_goals (simp only [*,qds,if_true,if_false,reduceIte,Bool.false_eq_true,Option.getD_none,Option.getD_some,Option.isSome_none,Option.isSome_some,and_self,true_and,and_true];try rfl)
theorem qu2 (f:Nat):∀ c:K,c.good->rest c < f->qb2 Try.prog 54 (curE c) (curE (qbg f c).1) [.ptr 0 0] (resP (qbg f c).2):=by
 induction f with
 | zero=>exact fun c _ h=>absurd h (by omega)
 | succ f ih=>exact qw6 ih
set_option maxRecDepth 4000

def kindK (c:K) (k:Int):K×Bool:=if (decide (c.err = 0) && decide ((qi c).kind = k)) = true then (qg c,true) else (qdy c 5,false)
def qex (c:K) (k:Int):T:=if (kindK c k).2 = true then qi c else T0
theorem qkj {c:K} {k:Int} (h1:c.err = 0) (h2:(qi c).kind = k):kindK c k = (qg c,true):=by rw [kindK,decide_eq_true h1,decide_eq_true h2];rfl
theorem q7d {c:K} {k:Int} (h2:¬ (qi c).kind = k):kindK c k = (qdy c 5,false):=by rw [kindK,decide_eq_false h2,Bool.and_false];rfl
theorem qyz {c:K} {k:Int} (h1:¬ c.err = 0):kindK c k = (qdy c 5,false):=by rw [kindK,decide_eq_false h1];rfl
theorem qob {c:K} {k:Int} (h1:c.err = 0) (h2:(qi c).kind = k):qex c k = qi c:=by rw [qex,qkj h1 h2];rfl
theorem qblz {c:K} {k:Int} (h2:¬ (qi c).kind = k):qex c k = T0:=by rw [qex,q7d h2];rfl
theorem qbo2 {c:K} {k:Int} (h1:¬ c.err = 0):qex c k = T0:=by rw [qex,qyz h1];rfl
theorem qbb4 (c:K) (hk:c.ok) (k:Int):qb2 Try.prog 35 (curE c) (curE (kindK c k).1) [.ptr 0 0,.int .i64 k] (.tup [encT (qex c k),.bool (kindK c k).2]):=by
 refine ql c0cm 1 (by simp) (by simp) ?_
 repeat' (first | refine vs_ ?_ | ((first | refine vr_ ?_ | refine qgy ?_ | refine qbv ?_ | refine qq5 ?_ | refine qi2 hk ?_ | (refine cs_ ?_ ?_<;>intro hc) | refine cj_ ?_ | fail)<;>(try refine ev_ ?_)) | with_reducible exact ti_)
 ·rw [qyz (qhf (by assumption)),qbo2 (qhf (by assumption))];exact ⟨rfl,rfl⟩
 ·rw [q7d (by assumption),qblz (by assumption)];exact ⟨rfl,rfl⟩
 ·rw [qkj (qg8 (by assumption)) (by assumption),qob (qg8 (by assumption)) (by assumption)];exact ⟨rfl,rfl⟩
theorem qcw {c:K} {L:List Ent} {k:Int} {Q:List Ent->VO->Prop} (hk:c.ok) (h:Q (curE (kindK c k).1 :: L) (.val (.tup [encT (qex c k),.bool (kindK c k).2]))) :
 VApp Try.prog (curE c :: L) (.fn 35 [] []) [.ptr 0 0,.int .i64 k] Q:=qby (qbb4 c hk k) (qu _ _) (qu _ _) rfl rfl fun _=>h
def qfl (x:List UInt8):List T->Int->Bool
 | [],_=>false
 | t :: r, d =>
   if qck t [[40],[123]] = true then qfl x r (d + 1)
   else if qck t [[41],[125]] = true then (if d - 1 < 0 then false else qfl x r (d - 1))
   else if 0 < d then qfl x r d
   else if qfm t [59] = true then false
   else if qfm t x = true then true
   else qfl x r d
def qgv (c:K) (x:List UInt8):Bool:=if c.err = 0 then qfl x (c.l.drop c.at') 0 else false
theorem q50 (t:T) (x y:List UInt8):qc9 Try.prog 52 [encT t,.sl 1 [.str x,.str y]] (.bool (qck t [x,y])):=q75 t [x,y]
theorem qb2y {d:Int} (h0:-1≤d) (h1:d≤2000000):IntKind.i64.wrap d = d:=by
 simp [IntKind.wrap,IntKind.signed,IntKind.bits]
 omega
theorem qe4 {b:Bool} (h:b = false):¬ b = true:=by rw [h];simp
theorem q8o (c:K) (hk:c.ok) (hl:c.l.length≤1048577) (x:List UInt8):qb2 Try.prog 60 (curE c) (curE c) [.ptr 0 0,.str x] (.bool (qgv c x)):=by
 refine ql c0cn 1 (by simp) (by simp) ?_
 have hmx:(1048577:Nat)≤maxLen:=by unfold maxLen;omega
 have h1:=hk.1
 obtain ⟨l,hll⟩:∃ l,l = c.l.drop c.at':=⟨_,rfl⟩
 have hln:l.length = c.l.length - c.at':=by rw [hll,List.length_drop]
 repeat' (first | refine vs_ ?_ | ((first | refine vr_ ?_ | refine qgy ?_ | (refine cs_ ?_ ?_<;>intro hc) | refine cj_ ?_ | simp (disch:=omega) only [qk,qbb])<;>(try refine ev_ ?_)) | with_reducible exact ti_)
 ·rw [qgv,if_neg (qhf (by assumption))]
 ·rw [qgv,if_pos (qg8 (by assumption)),← hll]
  refine qct (S:=Nat×Int) (fun y=>y.1≤l.length∧0≤y.2∧y.2≤y.1∧qfl x l 0 = qfl x (l.drop y.1) y.2)
   (fun y=>(⟨[(1,.str x),(5,.int .i64 y.2),(18,.sl 4 (qdq l)),(19,.int .i64 l.length),(20,.int .i64 y.1)],[]⟩,[curE c])) (fun y=>l.length - y.1) ?_ ?_
  ·refine qb1 (0,0) [0] ⟨Nat.zero_le _,Int.le_refl _,Int.le_refl _,rfl⟩ rfl (by simp) ?_ ?_ ?_<;>(try refine ev_ ?_)<;>(try with_reducible exact ti_)<;>(try simp (disch:=omega) only [qbb,and_true,true_and])
  ·rintro ⟨i,d⟩ ⟨i1,i2,i3,i4⟩
   simp only at i1 i2 i3 i4
   by_cases hlt:i < l.length
   ·have hil:(i:Int) < l.length:=by omega
    rw [qbaw hlt,qfl] at i4
    have hT:AV.agg [.int .i64 (l.getD i T0).kind,.int .i64 (l.getD i T0).pos,.int .i64 (l.getD i T0).num,.str (l.getD i T0).text] = encT (l.getD i T0):=rfl
    repeat' (first | refine vs_ ?_ | ((first | refine vr_ ?_ | fail)<;>(try simp (disch:=first | omega | (simp only [List.length_set,List.length_append,List.length_cons,List.length_nil];done) | (simp only [List.length_set,List.length_append,List.length_cons,List.length_nil];omega)) only [hil,qb2y,go_sem,↓reduceIte])) | ((first | simp (disch:=omega) only [qf8] | (refine cs_ ?_ ?_<;>intro hc) | refine cj_ ?_ | simp (disch:=omega) only [qk,qbb] | refine qf (q50 (l.getD i T0) _ _) fun _=>?_ | refine qf (qyn (l.getD i T0) _) fun _=>?_ | refine qbm (q50 (l.getD i T0) _ _) ?_ | refine qbm (qyn (l.getD i T0) _) ?_)<;>(try refine ev_ ?_)) | with_reducible exact ti_)
    ·have g:qck (l.getD i T0) [[40],[123]] = true:=by assumption
     rw [if_pos g] at i4
     refine qb1 (i + 1,d + 1) [0] ⟨⟨by simp only;omega,by simp only;omega,by simp only;omega,i4⟩,by simp only;omega⟩ rfl (by simp) ?_ ?_ ?_<;>(try refine ev_ ?_)<;>(try with_reducible exact ti_)<;>(try simp (disch:=omega) only [qbb,and_true,true_and])<;>(try rfl)
    ·have g:¬ qck (l.getD i T0) [[40],[123]] = true:=qe4 (by assumption)
     have g2:qck (l.getD i T0) [[41],[125]] = true:=by assumption
     rw [i4,if_neg g,if_pos g2,if_pos (by assumption)]
    ·have g:¬ qck (l.getD i T0) [[40],[123]] = true:=qe4 (by assumption)
     have g2:qck (l.getD i T0) [[41],[125]] = true:=by assumption
     rw [if_neg g,if_pos g2,if_neg (by assumption)] at i4
     refine qb1 (i + 1,d - 1) [0] ⟨⟨by simp only;omega,by simp only;omega,by simp only;omega,i4⟩,by simp only;omega⟩ rfl (by simp) ?_ ?_ ?_<;>(try refine ev_ ?_)<;>(try with_reducible exact ti_)<;>(try simp (disch:=omega) only [qbb,and_true,true_and])<;>(try rfl)
    ·have g:¬ qck (l.getD i T0) [[40],[123]] = true:=qe4 (by assumption)
     have g2:¬ qck (l.getD i T0) [[41],[125]] = true:=qe4 (by assumption)
     rw [if_neg g,if_neg g2,if_pos (by assumption)] at i4
     refine qb1 (i + 1,d) [0] ⟨⟨by simp only;omega,by simp only;omega,by simp only;omega,i4⟩,by simp only;omega⟩ rfl (by simp) ?_ ?_ ?_<;>(try refine ev_ ?_)<;>(try with_reducible exact ti_)<;>(try simp (disch:=omega) only [qbb,and_true,true_and])<;>(try rfl)
    ·have g:¬ qck (l.getD i T0) [[40],[123]] = true:=qe4 (by assumption)
     have g2:¬ qck (l.getD i T0) [[41],[125]] = true:=qe4 (by assumption)
     rw [i4,if_neg g,if_neg g2,if_neg (by assumption),if_pos (by assumption)]
    ·have g:¬ qck (l.getD i T0) [[40],[123]] = true:=qe4 (by assumption)
     have g2:¬ qck (l.getD i T0) [[41],[125]] = true:=qe4 (by assumption)
     have g3:¬ qfm (l.getD i T0) [59] = true:=qe4 (by assumption)
     rw [i4,if_neg g,if_neg g2,if_neg (by assumption),if_neg g3,if_pos (by assumption)]
    ·have g:¬ qck (l.getD i T0) [[40],[123]] = true:=qe4 (by assumption)
     have g2:¬ qck (l.getD i T0) [[41],[125]] = true:=qe4 (by assumption)
     have g3:¬ qfm (l.getD i T0) [59] = true:=qe4 (by assumption)
     have g4:¬ qfm (l.getD i T0) x = true:=qe4 (by assumption)
     rw [if_neg g,if_neg g2,if_neg (by assumption),if_neg g3,if_neg g4] at i4
     refine qb1 (i + 1,d) [0] ⟨⟨by simp only;omega,by simp only;omega,by simp only;omega,i4⟩,by simp only;omega⟩ rfl (by simp) ?_ ?_ ?_<;>(try refine ev_ ?_)<;>(try with_reducible exact ti_)<;>(try simp (disch:=omega) only [qbb,and_true,true_and])<;>(try rfl)
   ·have hil:¬ (i:Int) < l.length:=by omega
    rw [List.drop_of_length_le (by omega),qfl] at i4
    repeat' (first | refine vs_ ?_ | ((first | refine vr_ ?_ | fail)<;>(try simp only [hil,go_sem,↓reduceIte])) | ((first | (refine cs_ ?_ ?_<;>intro hc) | refine cj_ ?_ | simp (disch:=omega) only [qk,qbb])<;>(try refine ev_ ?_)) | with_reducible exact ti_)
    rw [i4]
theorem q54 {c:K} {L:List Ent} {x:List UInt8} {Q:List Ent->VO->Prop} (hk:c.ok) (hl:c.l.length≤1048577) (h:Q (curE c :: L) (.val (.bool (qgv c x)))) :
 VApp Try.prog (curE c :: L) (.fn 60 [] []) [.ptr 0 0,.str x] Q:=qby (q8o c hk hl x) (qu _ _) (qu _ _) rfl rfl fun _=>h
end Go.Proofs.Ytfjbmjplnmaclaa
