/- Texts of this proof, joined. -/
import Derived.Test.YtlmcofjcpadmiaaGreatDaw
import Derived.Test.YtlmcofjcpadmiaaGreatDap
set_option linter.unusedVariables false
set_option linter.unusedSimpArgs false

/- the cursor: in other places; texts; trees that are whole -/
namespace Go.Proofs.YtlmcofjcpadmiaaGreat
open Go Go.RowKit Go.V

section
variable {P:Program} {f:FuncId} {e e':Ent} {L:List Ent} {args0 args:List AV} {r:AV} {Q:List Ent->VO->Prop}
theorem qh7 (k:Nat) (h:qbt P f e e' args0 r) (hk:L[k]? = some e) (hb:e.bd 0 = true) (hb':e'.bd 0 = true) (ha:AV.bds 1 args0 = true) (hr:r.bd 0 = true) (hs:AV.rens (sg [k]) args0 = args) (hq:r.wf->Q (L.set k e') (.val r)) :
 VApp P L (.fn f [] []) args Q :=
 qbr (first:=[]) (caps:=[]) (by
  simp only [List.nil_append,List.append_nil]
  rw [← hs]
  have hlt:k < L.length:=(List.getElem?_eq_some_iff.1 hk).1
  refine qe0 (H0:=[e]) [k] (h.mono' (Q':=fun H' o=>(H' = [e']∧o = .val r)∧r.wf) fun H' o hw ho=>⟨ho,by have:=ho.2;subst this;exact hw⟩) (by simp) (by simpa using hlt) rfl ?_ ha ?_
  ·intro j e2 hj
   obtain rfl:j = 0:=by have:=(List.getElem?_eq_some_iff.1 hj).1;simp at this;omega
   simp only [List.getElem?_cons_zero,Option.some.injEq] at hj
   subst hj
   exact .inr ⟨Ent.bd_le (Nat.zero_le _) _ hb,by rw [Ent.ren_same (m:=0) (fun i hi=>by omega) _ hb];exact hk⟩
  ·rintro H1 o ⟨⟨rfl,rfl⟩,hw⟩
   have h1:e'.ren (sg' [k] L.length) = e':=Ent.ren_same (m:=0) (fun i hi=>by omega) _ hb'
   have h2:r.ren (sg' [k] L.length) = r:=ren_same (m:=0) (fun i hi=>by omega) _ hr
   simp only [List.length_cons,List.length_nil,List.take_succ_cons,List.take_zero,List.map_cons,List.map_nil,qbg,h1,VO.ren,h2,List.drop_succ_cons,List.drop_nil,List.append_nil]
   exact hq hw)
theorem qns (h:VCalls P f [] args fun H' o=>H' = [e]∧o = .val (.ptr 0 0)) (hb:e.bd 0 = true) (ha:AV.bds 0 args = true) (hq:Q (L ++ [e]) (.val (.ptr L.length 0))):VApp P L (.fn f [] []) args Q :=
 qbr (first:=[]) (caps:=[]) (by
  simp only [List.nil_append,List.append_nil]
  have hs:AV.rens (sg []) args = args:=qbw (m:=0) (fun i hi=>by omega) _ ha
  rw [← hs]
  refine qe0 (H0:=[]) [] h (by simp) (by simp) rfl (fun j e2 hj=>by simp at hj) ha ?_
  rintro H1 o ⟨rfl,rfl⟩
  have h1:e.ren (sg' [] L.length) = e:=Ent.ren_same (m:=0) (fun i hi=>by omega) _ hb
  simp only [List.length_nil,List.take_zero,List.map_nil,qbg,List.drop_zero,List.map_cons,h1,VO.ren,AV.ren,sg',Nat.not_lt_zero,if_false,Nat.sub_zero,Nat.add_zero]
  exact hq)
end
theorem qeg (s:List UInt8):(lexV s).1.length≤1048577∧(lexV s).1.length≤s.length + 1:=by
 by_cases h:1048576 < (s.length:Int)
 ·rw [qzc h];simp
 ·have hll:(lexG s (qcj s)).1.length≤s.length:=by have:=qs2 (s:=s) (s.length - qcj s) (qcj s);unfold lexG;omega
  by_cases he:(lexG s (qcj s)).2.2 = 0
  ·rw [qxs h he];simp only [List.length_append,List.length_cons,List.length_nil];omega
  ·rw [qzy h he];simp
theorem qlq {n:N} (h:sz n≤1000000):(qc7 (fun (k:Int) l _=>(if l > k then l else k,true)) n 1 0).1 = depR n:=by
 show (qc7 dpF n 1 0).1 = depR n
 rw [q3f n 1 0 (by omega) (by omega),qn5 n (by omega)]
 have:=qks n
 simp only;omega

/-! The cursor: it has gone on, if it has gone; a failure stays. -/
def K.good (c:K):Prop:=c.at'≤c.l.length∧c.l.length≤1048577∧c.nest≤200
def rest (c:K):Nat:=c.l.length - c.at'
theorem K.good.ok {c:K} (h:c.good):c.ok:=⟨h.1,Nat.le_trans h.2.1 (by unfold maxLen;omega)⟩
theorem K.good.rest {c:K} (h:c.good):c.l.length - c.at'≤1048577:=by have:=h.2.1;omega
theorem capN {n:Nat} (h:n≤1048580):qec n 64:=by unfold qec;omega
def Wi (B:Int) (c:K):Prop:=(∀ t∈c.l,0≤t.pos∧t.pos≤B)∧0≤c.ep∧c.ep≤B∧(c.err≠0->0≤c.pos∧c.pos≤B∧(c.err = 2∨c.err = 5))
def Mon (c c':K):Prop:=(c.good->c'.good)∧rest c'≤rest c∧(c.err≠0->c'.err = c.err)∧c'.l = c.l∧∀ B,Wi B c->Wi B c'
theorem Mon.refl (c:K):Mon c c:=⟨id,Nat.le_refl _,fun _=>rfl,rfl,fun _ h=>h⟩
theorem Mon.trans {a b c:K} (h:Mon a b) (k:Mon b c):Mon a c:=⟨fun g=>k.1 (h.1 g),Nat.le_trans k.2.1 h.2.1,fun e=>(k.2.2.1 (by rw [h.2.2.1 e];exact e)).trans (h.2.2.1 e),k.2.2.2.1.trans h.2.2.2.1,fun B g=>k.2.2.2.2 B (h.2.2.2.2 B g)⟩
def em (c:K):Nat:=if c.err = 0 then rest c + 1 else 0
theorem qcu (c:K):Mon c (qi c):=by
 unfold qi
 split
 ·split
  ·exact ⟨fun h=>⟨by simp only;omega,h.2⟩,by unfold rest;simp only;omega,fun _=>rfl,rfl,fun _ h=>h⟩
  ·exact Mon.refl c
 ·exact Mon.refl c
theorem qbuw {B:Int} {c:K} (h:Wi B c) (he:c.err = 0):0≤(qs c).pos∧(qs c).pos≤B:=by
 by_cases hl:c.at' < c.l.length
 ·rw [qsb he (by omega)]
  refine h.1 _ ?_
  rw [List.getD_eq_getElem?_getD,List.getElem?_eq_getElem hl]
  exact List.getElem_mem hl
 ·rw [qoc he (by omega)]
  exact ⟨h.2.1,h.2.2.1⟩
theorem qe2 (c:K) (e:Int) (he:e = 2∨e = 5:=by decide):Mon c (qev c e):=by
 refine ⟨?_,?_,fun h=>by rw [qoi h],?_,?_⟩
 ·unfold qev;split<;>exact id
 ·unfold qev;split<;>exact Nat.le_refl _
 ·unfold qev;split<;>rfl
 ·intro B h
  unfold qev
  split
  ·rename_i h0
   have h1:=qbuw h h0
   refine ⟨h.1,h.2.1,h.2.2.1,fun _=>⟨h1.1,h1.2,?_⟩⟩
   simp only
   rw [if_neg (by omega)];exact he
  ·exact h
theorem q7 (c:K):Mon c (qd c).1:=by
 unfold qd
 split
 ·split
  ·rename_i h1;exact ⟨fun h=>⟨h.1,h.2.1,by simp only;omega⟩,Nat.le_refl _,fun _=>rfl,rfl,fun _ h=>h⟩
  ·exact qe2 c 2
 ·exact Mon.refl c
theorem qb3 (c:K):Mon c (qdh c):=by
 unfold qdh
 split
 ·split
  ·exact ⟨fun h=>⟨h.1,h.2.1,by have:=h.2.2;simp only;omega⟩,Nat.le_refl _,fun _=>rfl,rfl,fun _ h=>h⟩
  ·exact Mon.refl c
 ·exact Mon.refl c
theorem qv (c:K) (x:List UInt8):Mon c (qn c x).1:=by
 unfold qn
 split
 ·exact qcu c
 ·exact Mon.refl c
theorem ql (c:K) (x:List UInt8):Mon c (qr c x).1:=by
 unfold qr
 split
 ·exact qcu c
 ·exact qe2 c 5
theorem q07 {c:K} (h:(qs c).kind≠0):c.err = 0∧c.at' < c.l.length:=by
 unfold qs at h
 split at h
 ·rename_i h1
  split at h
  ·rename_i h2;exact ⟨h1,h2⟩
  ·exact absurd rfl h
 ·exact absurd rfl h
theorem qbd {c:K} (h:(qs c).kind≠0):rest (qi c) + 1 = rest c:=by
 obtain ⟨h1,h2⟩:=q07 h
 rw [qss h1 (by omega)]
 unfold rest;simp only;omega
theorem qdy {c:K} {x:List UInt8} (h:isK c x = true):(qs c).kind≠0:=by
 simp only [isK,qce,Bool.and_eq_true,Bool.or_eq_true,decide_eq_true_eq] at h
 omega
theorem q42 {c:K} (h:(qd c).2 = true):c.err = 0∧(qd c).1.err = 0∧(qd c).1 = { c with nest:=c.nest + 1 }:=by
 unfold qd at h ⊢
 split at h
 ·rename_i h1
  split at h
  ·rename_i h2;rw [if_pos h1,if_pos h2];exact ⟨h1,h1,rfl⟩
  ·cases h
 ·cases h
theorem qd0 {c:K} (h:(qd c).2 = true):qs (qd c).1 = qs c:=by rw [(q42 h).2.2];rfl
/-! Types: the program. -/
def begT (c:K):Bool:=decide ((qs c).kind = 1) || decide ((qs c).kind = 2) || isK c [40]
def qkc (c:K) (k:Int) (ks:List N):N:=.mk k (qs c).pos 0 (qs c).text ks
def qbv (rec:K->K×Option N) (c:K):K×Option N :=
 if (qs c).kind = 1 then (qi c,some (qkc c 1 []))
 else if (qs c).kind = 2 then (qi c,some (qkc c 2 []))
 else if isK c [40] = true then
  if (qd c).2 = true then
   if (rec (qi (qd c).1)).2.isSome = true then
    (qdh (qr (rec (qi (qd c).1)).1 [41]).1,if (qr (rec (qi (qd c).1)).1 [41]).2 = true then (rec (qi (qd c).1)).2 else none)
   else (qdh (rec (qi (qd c).1)).1,none)
  else ((qd c).1,none)
 else (qev c 5,none)
def qdn (rec:K->K×Option N):Nat->K->List N->K×Option (List N)
 | 0,c,acc=>(c,none)
 | f + 1, c, acc =>
   if begT c = true then
    if (qbv rec c).2.isSome = true then qdn rec f (qbv rec c).1 (acc ++ [(qbv rec c).2.getD N0])
    else ((qbv rec c).1,none)
   else (c,some acc)
def qb5 (rec:K->K×Option N) (c:K):K×Option N :=
 if (qs c).kind = 2 then ((qdn rec (rest c + 1) (qi c) []).1,(qdn rec (rest c + 1) (qi c) []).2.map (qkc c 2))
 else qbv rec c
def qjw (n m:N):N:=.mk 2 n.pos 0 [45,62] [n,m]
def qbn:Nat->K->K×Option N
 | 0,c=>(c,none)
 | f + 1, c =>
   if (qd c).2 = true then
    if (qb5 (qbn f) (qd c).1).2.isSome = true then
     if (qn (qb5 (qbn f) (qd c).1).1 [45,62]).2 = true then
      (qdh (qbn f (qn (qb5 (qbn f) (qd c).1).1 [45,62]).1).1,(qbn f (qn (qb5 (qbn f) (qd c).1).1 [45,62]).1).2.map (qjw ((qb5 (qbn f) (qd c).1).2.getD N0)))
     else (qdh (qb5 (qbn f) (qd c).1).1,(qb5 (qbn f) (qd c).1).2)
    else (qdh (qb5 (qbn f) (qd c).1).1,none)
   else ((qd c).1,none)
section
variable {rec:K->K×Option N} (hm:∀ c,Mon c (rec c).1)
include hm
theorem qdx (c:K):Mon c (qbv rec c).1:=by
 unfold qbv
 split
 ·exact qcu c
 ·split
  ·exact qcu c
  ·split
   ·split
    ·have h1:=((q7 c).trans (qcu _)).trans (hm _)
     split
     ·exact (h1.trans (ql _ _)).trans (qb3 _)
     ·exact h1.trans (qb3 _)
    ·exact q7 c
   ·exact qe2 c 5
theorem qdv {c:K} (h:(qbv rec c).2.isSome = true):rest (qbv rec c).1 < rest c:=by
 unfold qbv at h ⊢
 split at h
 ·rename_i h1;rw [if_pos h1];have:=qbd (c:=c) (by omega);simp only;omega
 ·rename_i h1
  rw [if_neg h1]
  split at h
  ·rename_i h2;rw [if_pos h2];have:=qbd (c:=c) (by omega);simp only;omega
  ·rename_i h2
   rw [if_neg h2]
   split at h
   ·rename_i hk
    rw [if_pos hk]
    split at h
    ·rename_i he
     rw [if_pos he]
     have hp:=qbd (c:=(qd c).1) (by rw [qd0 he];exact qdy hk)
     have h0:=(q7 c).2.1
     have h1:=(hm (qi (qd c).1)).2.1
     split at h
     ·rename_i hr
      rw [if_pos hr]
      have h2:=(ql (rec (qi (qd c).1)).1 [41]).2.1
      have h3:=(qb3 (qr (rec (qi (qd c).1)).1 [41]).1).2.1
      simp only;omega
     ·cases h
    ·cases h
   ·cases h
theorem qhm:∀ (f:Nat) (c:K) (acc:List N),Mon c (qdn rec f c acc).1
 | 0,c,acc=>Mon.refl c
 | f + 1, c, acc => by
   rw [qdn]
   split
   ·split
    ·exact (qdx hm c).trans (qhm f _ _)
    ·exact qdx hm c
   ·exact Mon.refl c
theorem qrj (c:K):Mon c (qb5 rec c).1:=by
 unfold qb5
 split
 ·exact (qcu c).trans (qhm hm _ _ _)
 ·exact qdx hm c
theorem qw5 {c:K} (h:(qb5 rec c).2.isSome = true):rest (qb5 rec c).1 < rest c:=by
 unfold qb5 at h ⊢
 split at h
 ·rename_i h1
  rw [if_pos h1]
  have:=qbd (c:=c) (by omega)
  have:=(qhm hm (rest c + 1) (qi c) []).2.1
  simp only;omega
 ·rename_i h1
  rw [if_neg h1]
  exact qdv hm h
end
theorem qcx:∀ (f:Nat) (c:K),Mon c (qbn f c).1
 | 0,c=>Mon.refl c
 | f + 1, c => by
   have hr:=(q7 c).trans (qrj (qcx f) (qd c).1)
   rw [qbn]
   split
   ·split
    ·split
     ·exact ((hr.trans (qv _ _)).trans (qcx f _)).trans (qb3 _)
     ·exact hr.trans (qb3 _)
    ·exact hr.trans (qb3 _)
   ·exact q7 c
set_option maxRecDepth 4000

def resP (r:Option N):AV:=.tup [enc (r.getD N0),.bool r.isSome]
attribute [go_sem] resP
theorem qsx (k:Nat) (r:Option N):(resP r).bd k = true:=by simp only [resP,AV.bd,AV.bds,qj2,Bool.and_true]
theorem qb7 {P:Program} {f:FuncId} {c c':K} {L:List Ent} {args:List AV} {r:Option N} {Q:List Ent->VO->Prop} (h:qbt P f (curE c) (curE c') args (resP r)) (ha:AV.bds 1 args = true) (hq:Q (curE c' :: L) (.val (resP r))):VApp P (curE c :: L) (.fn f [] []) args Q :=
 qbu h (qp _ _) (qp _ _) ha (qsx _ _) fun _=>hq
theorem qdf:AV.agg [.int .i64 0,.int .i64 0,.int .i64 0,.str [],.sl 5 []] = enc N0:=by simp [N0,enc,encs]
def qlr (n:N) (b:Bool):Option N:=if b = true then some n else none
theorem qbhn (n:N):qlr n false = none:=rfl
theorem q78 {r:Option N} {b:Bool} (h:r.isSome = true):qlr (r.getD N0) b = if b = true then r else none:=by
 cases r with
 | none=>cases h
 | some n=>rfl
theorem qbew (c:K) (n:N) (b:Bool):qbt Tryz.prog 147 (curE c) (curE c) [.ptr 0 0,enc n,.bool b] (resP (qlr n b)):=by
 refine qj c0ed 1 (by simp) (by simp) ?_
 repeat' (first | refine vs_ ?_ | ((first | refine vr_ ?_ | (refine cs_ ?_ ?_<;>intro hc) | refine cj_ ?_ | fail)<;>(try refine ev_ ?_)) | with_reducible exact ti_)
 all_goals (unfold qlr;simp_all [qdf])
theorem qug {c:K} {L:List Ent} {n:N} {b:Bool} {Q:List Ent->VO->Prop} (hq:Q (curE c :: L) (.val (resP (qlr n b)))):VApp Tryz.prog (curE c :: L) (.fn 147 [] []) [.ptr 0 0,enc n,.bool b] Q:=qb7 (qbew c n b) (by simp only [AV.bds,AV.bd,qj2];rfl) hq
theorem qx0 {c:K} {L:List Ent} {n m:N} {b:Bool} {Q:List Ent->VO->Prop} (hq:Q (curE c :: L) (.val (resP (qlr (qjw n m) b)))) :
 VApp Tryz.prog (curE c :: L) (.fn 147 [] []) [.ptr 0 0,.agg [.int .i64 2,.int .i64 n.pos,.int .i64 0,.str [45,62],.sl 5 [enc n,enc m]],.bool b] Q:=by
 have h:=qug (n:=qjw n m) hq
 simpa only [qjw,enc,encs] using h
theorem qsn {r:Option N} {g:N->N}:qlr (g (r.getD N0)) r.isSome = r.map g:=by cases r<;>rfl
theorem q2r {r:Option N} {n:N}:qlr (qjw n (r.getD N0)) r.isSome = r.map (qjw n):=qsn
theorem qda {c:K} {x:List UInt8} (h:(qn c x).2 = false):(qn c x).1 = c:=by
 unfold qn at *
 split at h
 ·cases h
 ·rename_i h1;rw [if_neg h1]
theorem q0z (c:K):qbt Tryz.prog 183 (curE c) (curE c) [.ptr 0 0] (.bool (begT c)):=by
 refine qj c0ee 1 (by simp) (by simp) ?_
 repeat' (first | refine vs_ ?_ | ((first | refine vr_ ?_ | refine qbq ?_ | refine a_Is ?_ | (refine cs_ ?_ ?_<;>intro hc) | refine cj_ ?_ | fail)<;>(try refine ev_ ?_)) | with_reducible exact ti_)
 all_goals (unfold begT;simp_all)
theorem qbhq {c:K} {L:List Ent} {Q:List Ent->VO->Prop} (hq:Q (curE c :: L) (.val (.bool (begT c)))):VApp Tryz.prog (curE c :: L) (.fn 183 [] []) [.ptr 0 0] Q:=qbu (q0z c) (qp _ _) (qp _ _) rfl rfl fun _=>hq
theorem q9 {l:List N} (h:l≠[]):encs l≠[]:=by cases l with | nil=>exact absurd rfl h | cons _ _=>simp [encs]
def q66 (p:Int) (t:List UInt8) (c:K) (acc:List N):AF×List Ent :=
 (⟨[(0, .ptr 0 0), (2, .ptr 1 0), (5, .ptr 2 0)], []⟩,
   curE c :: .blk [.int .i64 0,.int .i64 0,.int .i64 0,.str [],.nils] :: .blk [.int .i64 2,.int .i64 p,.int .i64 0,.str t,accV 3 (encs acc)] :: accE 5 (encs acc))
section
variable {rec:K->K×Option N} {b:Nat} (hm:∀ c,Mon c (rec c).1) (ih:∀ c,c.good->rest c < b->qbt Tryz.prog 93 (curE c) (curE (rec c).1) [.ptr 0 0] (resP (rec c).2))
include hm ih
theorem qhg (c:K) (hg:c.good) (hr:rest c≤b):qbt Tryz.prog 165 (curE c) (curE (qbv rec c).1) [.ptr 0 0] (resP (qbv rec c).2):=by
 have g1:(qd c).1.good:=(q7 c).1 hg
 have g2:(qi (qd c).1).good:=(qcu _).1 g1
 have g3:(rec (qi (qd c).1)).1.good:=(hm _).1 g2
 have g4:(qr (rec (qi (qd c).1)).1 [41]).1.good:=(ql _ _).1 g3
 have hrr:isK c [40] = true->(qd c).2 = true->rest (qi (qd c).1) < b:=fun h1 h2=>by
  have:=qbd (c:=(qd c).1) (by rw [qd0 h2];exact qdy h1)
  have:=(q7 c).2.1
  omega
 refine qj c0ef 1 (by simp) (by simp) ?_
 repeat' (first | refine vs_ ?_ | ((first | refine vr_ ?_ | refine qbq ?_ | refine a_Is ?_ | refine qq7 ?_ | refine qg2 ?_ | refine qjb hg.ok ?_ | refine qjb g1.ok ?_ | refine qb7 (ih _ g2 (hrr (by assumption) (by assumption))) rfl ?_ | refine qbz g3.ok ?_ | refine qet g4.2.2 ?_ | refine qet g3.2.2 ?_ | refine qug ?_ | (refine cs_ ?_ ?_<;>intro hc) | refine cj_ ?_ | fail)<;>(try refine ev_ ?_)) | with_reducible exact ti_)
 all_goals (try simp only [q78 (r:=(rec (qi (qd c).1)).2) (by assumption)])
 all_goals (try simp only [qbhn])
 all_goals (unfold qbv qkc;simp only [*,qdf,Int.reduceEq,if_true,if_false,reduceIte,Bool.false_eq_true,Option.getD_none,Option.getD_some,Option.isSome_none,Option.isSome_some,and_self,true_and,and_true];try rfl)
theorem qboz (c:K) (hg:c.good) (hr:rest c≤b):qbt Tryz.prog 148 (curE c) (curE (qb5 rec c).1) [.ptr 0 0] (resP (qb5 rec c).2):=by
 refine qj c0eg 1 (by simp) (by simp) ?_
 by_cases hk:(qs c).kind = 2
 ·have g1:(qi c).good:=(qcu _).1 hg
  have hpa:qb5 rec c = ((qdn rec (rest c + 1) (qi c) []).1,(qdn rec (rest c + 1) (qi c) []).2.map (qkc c 2)):=by rw [qb5,if_pos hk]
  rw [hpa]
  clear hpa
  generalize htg:qdn rec (rest c + 1) (qi c) [] = tg
  have hmt:Mon (qi c) tg.1:=htg ▸ qhm hm _ _ _
  have hrn:=qbd (c:=c) (by omega)
  repeat' (first | refine vs_ ?_ | ((first | refine vr_ ?_ | fail)<;>(try simp only [hk,Int.reduceEq,go_sem,↓reduceIte])) | ((first | (refine cs_ ?_ ?_<;>intro hc) | refine cj_ ?_ | fail | refine qbq ?_ | refine qjb hg.ok ?_)<;>(try refine ev_ ?_)) | with_reducible exact ti_)
  refine qcc (S:=Nat×K×List N) (fun x=>x.2.1.good∧rest x.2.1≤b∧qdn rec x.1 x.2.1 x.2.2 = tg∧rest x.2.1 < x.1∧x.2.2.length + rest x.2.1≤1048577)
   (fun x=>q66 (qs c).pos (qs c).text x.2.1 x.2.2) (fun x=>rest x.2.1 + 1) ?_ ?_
  ·refine qbl (rest c + 1,qi c,[]) [0,1,3] ⟨g1,by simp only;omega,htg,by simp only;omega,?_⟩ rfl (by simp) ?_ ?_ ?_
   ·have h9:=g1.rest
    unfold rest
    simp only [List.length_nil]
    omega
   all_goals simp only [q66,encs,qbb,qbc]
   all_goals (refine ev_ ?_;(try with_reducible exact ti_))
  ·rintro ⟨fu,d,acc⟩ ⟨i1,i2,i3,i4,i5⟩
   simp only at i1 i2 i3 i4 i5
   unfold q66
   obtain ⟨fu,rfl⟩:∃ k,fu = k + 1:=⟨fu - 1,by omega⟩
   rw [qdn] at i3
   have hcap:qec (acc.length + 1) 64:=capN (by omega)
   have j1:(qbv rec d).1.good:=(qdx hm d).1 i1
   have j2:rest (qbv rec d).1≤rest d:=(qdx hm d).2.1
   by_cases h0:acc = []
   ·subst h0
    simp only [encs,qbb,qbc]
    repeat' (first | refine vs_ ?_ | ((first | refine vr_ ?_ | refine qbhq ?_ | refine qb7 (qhg hm ih _ i1 i2) rfl ?_ | (refine cs_ ?_ ?_<;>intro hc) | refine cj_ ?_ | fail)<;>(try refine ev_ ?_)) | with_reducible exact ti_)
    ·have hb:begT d = true:=by assumption
     have hs:(qbv rec d).2.isSome = false:=by assumption
     rw [if_pos hb,if_neg (by rw [hs];simp)] at i3
     subst i3
     exact ⟨rfl,by rw [qdf];rfl⟩
    ·have hb:begT d = true:=by assumption
     have hs:(qbv rec d).2.isSome = true:=by assumption
     rw [if_pos hb,if_pos hs] at i3
     have hlt:=qdv hm hs
     refine qbl (fu,(qbv rec d).1,[] ++ [(qbv rec d).2.getD N0]) [0,1,2,4] ⟨⟨j1,by simp only;omega,i3,by simp only;omega,?_⟩,by simp only;omega⟩ rfl (by simp) ?_ ?_ ?_
     ·simp only [List.length_append,List.length_cons,List.length_nil];omega
     all_goals simp only [q66,← qh,qfe,qfc,List.nil_append,encs,qgo,qgv]
     all_goals (refine ev_ ?_;(try with_reducible exact ti_))
    ·have hb:begT d = false:=by assumption
     rw [if_neg (by rw [hb];simp)] at i3
     subst i3
     simp only [Option.map_some,Option.getD_some,Option.isSome_some,enc,encs,qkc,and_self]
   ·have hne:=q9 h0
    simp only [qbi hne,qbh hne,q8]
    repeat' (first | refine vs_ ?_ | ((first | refine vr_ ?_ | refine qbhq ?_ | refine qb7 (qhg hm ih _ i1 i2) rfl ?_ | (refine cs_ ?_ ?_<;>intro hc) | refine cj_ ?_ | fail)<;>(try refine ev_ ?_)) | with_reducible exact ti_)
    ·have hb:begT d = true:=by assumption
     have hs:(qbv rec d).2.isSome = false:=by assumption
     rw [if_pos hb,if_neg (by rw [hs];simp)] at i3
     subst i3
     exact ⟨rfl,by rw [qdf];rfl⟩
    ·have hb:begT d = true:=by assumption
     have hs:(qbv rec d).2.isSome = true:=by assumption
     rw [if_pos hb,if_pos hs] at i3
     have hlt:=qdv hm hs
     refine qbl (fu,(qbv rec d).1,acc ++ [(qbv rec d).2.getD N0]) [0,1,2,5] ⟨⟨j1,by simp only;omega,i3,by simp only;omega,?_⟩,by simp only;omega⟩ rfl (by simp) ?_ ?_ ?_
     ·simp only [List.length_append,List.length_cons,List.length_nil];omega
     all_goals simp only [q66,← qh,qfe,qfc,List.nil_append,encs,qgo,qgv]
     all_goals (refine ev_ ?_;(try with_reducible exact ti_))
     rw [qh,qu,qbf];exact ⟨rfl,rfl⟩
    ·have hb:begT d = false:=by assumption
     rw [if_neg (by rw [hb];simp)] at i3
     subst i3
     simp only [Option.map_some,Option.getD_some,Option.isSome_some,enc,encs,qkc,and_self]
 ·repeat' (first | refine vs_ ?_ | ((first | refine vr_ ?_ | fail)<;>(try simp only [hk,go_sem,↓reduceIte])) | ((first | (refine cs_ ?_ ?_<;>intro hc) | refine cj_ ?_ | fail | refine qbq ?_ | refine qb7 (qhg hm ih c hg hr) rfl ?_)<;>(try refine ev_ ?_)) | with_reducible exact ti_)
  rw [qb5,if_neg hk];exact ⟨rfl,rfl⟩
end
theorem qx4 {f:Nat} (ih:∀ c,c.good->rest c < f->qbt Tryz.prog 93 (curE c) (curE (qbn f c).1) [.ptr 0 0] (resP (qbn f c).2)) (c:K) (hg:c.good) (hr:rest c < f + 1) :
 qbt Tryz.prog 93 (curE c) (curE (qbn (f + 1) c).1) [.ptr 0 0] (resP (qbn (f + 1) c).2):=by
 have hm:=qcx f
 have g1:(qd c).1.good:=(q7 c).1 hg
 have hr1:rest (qd c).1≤f:=by have:=(q7 c).2.1;omega
 have hrow:=qboz hm ih _ g1 hr1
 have mrow:=qrj hm (qd c).1
 have lrow:=qw5 hm (c:=(qd c).1)
 have hpa:qbn (f + 1) c = if (qd c).2 = true then
  if (qb5 (qbn f) (qd c).1).2.isSome = true then
   if (qn (qb5 (qbn f) (qd c).1).1 [45,62]).2 = true then
    (qdh (qbn f (qn (qb5 (qbn f) (qd c).1).1 [45,62]).1).1,(qbn f (qn (qb5 (qbn f) (qd c).1).1 [45,62]).1).2.map (qjw ((qb5 (qbn f) (qd c).1).2.getD N0)))
   else (qdh (qb5 (qbn f) (qd c).1).1,(qb5 (qbn f) (qd c).1).2)
  else (qdh (qb5 (qbn f) (qd c).1).1,none)
  else ((qd c).1,none):=by rw [qbn]
 rw [hpa]
 clear hpa
 generalize qb5 (qbn f) (qd c).1 = r at *
 have g2:r.1.good:=mrow.1 g1
 have g3:(qn r.1 [45,62]).1.good:=(qv _ _).1 g2
 have g4:(qbn f (qn r.1 [45,62]).1).1.good:=(hm _).1 g3
 have hlt:r.2.isSome = true->rest (qn r.1 [45,62]).1 < f:=fun h=>by
  have:=lrow h
  have:=(qv r.1 [45,62]).2.1
  omega
 refine qj c0eh 1 (by simp) (by simp) ?_
 repeat' (first | refine vs_ ?_ | ((first | refine vr_ ?_ | refine qg2 ?_ | refine qb7 hrow rfl ?_ | refine qdp g2.ok ?_ | refine qb7 (ih _ g3 (hlt (by assumption))) rfl ?_ | refine qet g4.2.2 ?_ | refine qet g3.2.2 ?_ | refine qet g2.2.2 ?_ | refine qug ?_ | refine qx0 ?_ | (refine cs_ ?_ ?_<;>intro hc) | refine cj_ ?_ | fail)<;>(try refine ev_ ?_)) | with_reducible exact ti_)
 all_goals (try simp only [qda (c:=r.1) (by assumption)])
 all_goals (try simp only [q78 (r:=r.2) (by assumption)])
 all_goals (try simp only [qbhn,q2r])
 all_goals (simp only [*,qdf,if_true,if_false,reduceIte,Bool.false_eq_true,Option.getD_none,Option.getD_some,Option.isSome_none,Option.isSome_some,and_self,true_and,and_true];try rfl)
theorem qqs (f:Nat):∀ c:K,c.good->rest c < f->qbt Tryz.prog 93 (curE c) (curE (qbn f c).1) [.ptr 0 0] (resP (qbn f c).2):=by
 induction f with
 | zero=>exact fun c _ h=>absurd h (by omega)
 | succ f ih=>exact qx4 ih
set_option maxRecDepth 4000

def kindK (c:K) (k:Int):K×Bool:=if (decide (c.err = 0) && decide ((qs c).kind = k)) = true then (qi c,true) else (qev c 5,false)
def qi7 (c:K) (k:Int):T:=if (kindK c k).2 = true then qs c else T0
theorem qsr {c:K} {k:Int} (h1:c.err = 0) (h2:(qs c).kind = k):kindK c k = (qi c,true):=by rw [kindK,decide_eq_true h1,decide_eq_true h2];rfl
theorem q7a {c:K} {k:Int} (h2:¬ (qs c).kind = k):kindK c k = (qev c 5,false):=by rw [kindK,decide_eq_false h2,Bool.and_false];rfl
theorem q6g {c:K} {k:Int} (h1:¬ c.err = 0):kindK c k = (qev c 5,false):=by rw [kindK,decide_eq_false h1];rfl
theorem qxp {c:K} {k:Int} (h1:c.err = 0) (h2:(qs c).kind = k):qi7 c k = qs c:=by rw [qi7,qsr h1 h2];rfl
theorem qb0g {c:K} {k:Int} (h2:¬ (qs c).kind = k):qi7 c k = T0:=by rw [qi7,q7a h2];rfl
theorem qbvc {c:K} {k:Int} (h1:¬ c.err = 0):qi7 c k = T0:=by rw [qi7,q6g h1];rfl
theorem qbe1 (c:K) (hk:c.ok) (k:Int):qbt Tryz.prog 163 (curE c) (curE (kindK c k).1) [.ptr 0 0,.int .i64 k] (.tup [encT (qi7 c k),.bool (kindK c k).2]):=by
 refine qj c0eu 1 (by simp) (by simp) ?_
 repeat' (first | refine vs_ ?_ | ((first | refine vr_ ?_ | refine qgl ?_ | refine qbq ?_ | refine qq7 ?_ | refine qjb hk ?_ | (refine cs_ ?_ ?_<;>intro hc) | refine cj_ ?_ | fail)<;>(try refine ev_ ?_)) | with_reducible exact ti_)
 ·rw [q6g (qg1 (by assumption)),qbvc (qg1 (by assumption))];exact ⟨rfl,rfl⟩
 ·rw [q7a (by assumption),qb0g (by assumption)];exact ⟨rfl,rfl⟩
 ·rw [qsr (qgx (by assumption)) (by assumption),qxp (qgx (by assumption)) (by assumption)];exact ⟨rfl,rfl⟩
theorem qcz {c:K} {L:List Ent} {k:Int} {Q:List Ent->VO->Prop} (hk:c.ok) (h:Q (curE (kindK c k).1 :: L) (.val (.tup [encT (qi7 c k),.bool (kindK c k).2]))) :
 VApp Tryz.prog (curE c :: L) (.fn 163 [] []) [.ptr 0 0,.int .i64 k] Q:=qbu (qbe1 c hk k) (qp _ _) (qp _ _) rfl rfl fun _=>h
def qck (x:List UInt8):List T->Int->Bool
 | [],_=>false
 | t :: r, d =>
   if qcd t [[40],[123]] = true then qck x r (d + 1)
   else if qcd t [[41],[125]] = true then (if d - 1 < 0 then false else qck x r (d - 1))
   else if 0 < d then qck x r d
   else if qce t [59] = true then false
   else if qce t x = true then true
   else qck x r d
def qk3 (c:K) (x:List UInt8):Bool:=if c.err = 0 then qck x (c.l.drop c.at') 0 else false
theorem q7s (t:T) (x y:List UInt8):qq Tryz.prog 193 [encT t,.sl 1 [.str x,.str y]] (.bool (qcd t [x,y])):=q63 t [x,y]
theorem qcdt {d:Int} (h0:-1≤d) (h1:d≤2000000):IntKind.i64.wrap d = d:=by
 simp [IntKind.wrap,IntKind.signed,IntKind.bits]
 omega
theorem qeu {b:Bool} (h:b = false):¬ b = true:=by rw [h];simp
theorem q6j (c:K) (hk:c.ok) (hl:c.l.length≤1048577) (x:List UInt8):qbt Tryz.prog 180 (curE c) (curE c) [.ptr 0 0,.str x] (.bool (qk3 c x)):=by
 refine qj c0ev 1 (by simp) (by simp) ?_
 have hmx:(1048577:Nat)≤maxLen:=by unfold maxLen;omega
 have h1:=hk.1
 obtain ⟨l,hll⟩:∃ l,l = c.l.drop c.at':=⟨_,rfl⟩
 have hln:l.length = c.l.length - c.at':=by rw [hll,List.length_drop]
 repeat' (first | refine vs_ ?_ | ((first | refine vr_ ?_ | refine qgl ?_ | (refine cs_ ?_ ?_<;>intro hc) | refine cj_ ?_ | simp (disch:=omega) only [qb,qm])<;>(try refine ev_ ?_)) | with_reducible exact ti_)
 ·rw [qk3,if_neg (qg1 (by assumption))]
 ·rw [qk3,if_pos (qgx (by assumption)),← hll]
  refine qcc (S:=Nat×Int) (fun y=>y.1≤l.length∧0≤y.2∧y.2≤y.1∧qck x l 0 = qck x (l.drop y.1) y.2)
   (fun y=>(⟨[(1,.str x),(5,.int .i64 y.2),(18,.sl 4 (qdo l)),(19,.int .i64 l.length),(20,.int .i64 y.1)],[]⟩,[curE c])) (fun y=>l.length - y.1) ?_ ?_
  ·refine qbl (0,0) [0] ⟨Nat.zero_le _,Int.le_refl _,Int.le_refl _,rfl⟩ rfl (by simp) ?_ ?_ ?_<;>(try refine ev_ ?_)<;>(try with_reducible exact ti_)<;>(try simp (disch:=omega) only [qm,and_true,true_and])
  ·rintro ⟨i,d⟩ ⟨i1,i2,i3,i4⟩
   simp only at i1 i2 i3 i4
   by_cases hlt:i < l.length
   ·have hil:(i:Int) < l.length:=by omega
    rw [qbrw hlt,qck] at i4
    have hT:AV.agg [.int .i64 (l.getD i T0).kind,.int .i64 (l.getD i T0).pos,.int .i64 (l.getD i T0).num,.str (l.getD i T0).text] = encT (l.getD i T0):=rfl
    repeat' (first | refine vs_ ?_ | ((first | refine vr_ ?_ | fail)<;>(try simp (disch:=first | omega | (simp only [List.length_set,List.length_append,List.length_cons,List.length_nil];done) | (simp only [List.length_set,List.length_append,List.length_cons,List.length_nil];omega)) only [hil,qcdt,go_sem,↓reduceIte])) | ((first | simp (disch:=omega) only [qf0] | (refine cs_ ?_ ?_<;>intro hc) | refine cj_ ?_ | simp (disch:=omega) only [qb,qm] | refine qa (q7s (l.getD i T0) _ _) fun _=>?_ | refine qa (qwx (l.getD i T0) _) fun _=>?_ | refine qe (q7s (l.getD i T0) _ _) ?_ | refine qe (qwx (l.getD i T0) _) ?_)<;>(try refine ev_ ?_)) | with_reducible exact ti_)
    ·have g:qcd (l.getD i T0) [[40],[123]] = true:=by assumption
     rw [if_pos g] at i4
     refine qbl (i + 1,d + 1) [0] ⟨⟨by simp only;omega,by simp only;omega,by simp only;omega,i4⟩,by simp only;omega⟩ rfl (by simp) ?_ ?_ ?_<;>(try refine ev_ ?_)<;>(try with_reducible exact ti_)<;>(try simp (disch:=omega) only [qm,and_true,true_and])<;>(try rfl)
    ·have g:¬ qcd (l.getD i T0) [[40],[123]] = true:=qeu (by assumption)
     have g2:qcd (l.getD i T0) [[41],[125]] = true:=by assumption
     rw [i4,if_neg g,if_pos g2,if_pos (by assumption)]
    ·have g:¬ qcd (l.getD i T0) [[40],[123]] = true:=qeu (by assumption)
     have g2:qcd (l.getD i T0) [[41],[125]] = true:=by assumption
     rw [if_neg g,if_pos g2,if_neg (by assumption)] at i4
     refine qbl (i + 1,d - 1) [0] ⟨⟨by simp only;omega,by simp only;omega,by simp only;omega,i4⟩,by simp only;omega⟩ rfl (by simp) ?_ ?_ ?_<;>(try refine ev_ ?_)<;>(try with_reducible exact ti_)<;>(try simp (disch:=omega) only [qm,and_true,true_and])<;>(try rfl)
    ·have g:¬ qcd (l.getD i T0) [[40],[123]] = true:=qeu (by assumption)
     have g2:¬ qcd (l.getD i T0) [[41],[125]] = true:=qeu (by assumption)
     rw [if_neg g,if_neg g2,if_pos (by assumption)] at i4
     refine qbl (i + 1,d) [0] ⟨⟨by simp only;omega,by simp only;omega,by simp only;omega,i4⟩,by simp only;omega⟩ rfl (by simp) ?_ ?_ ?_<;>(try refine ev_ ?_)<;>(try with_reducible exact ti_)<;>(try simp (disch:=omega) only [qm,and_true,true_and])<;>(try rfl)
    ·have g:¬ qcd (l.getD i T0) [[40],[123]] = true:=qeu (by assumption)
     have g2:¬ qcd (l.getD i T0) [[41],[125]] = true:=qeu (by assumption)
     rw [i4,if_neg g,if_neg g2,if_neg (by assumption),if_pos (by assumption)]
    ·have g:¬ qcd (l.getD i T0) [[40],[123]] = true:=qeu (by assumption)
     have g2:¬ qcd (l.getD i T0) [[41],[125]] = true:=qeu (by assumption)
     have g3:¬ qce (l.getD i T0) [59] = true:=qeu (by assumption)
     rw [i4,if_neg g,if_neg g2,if_neg (by assumption),if_neg g3,if_pos (by assumption)]
    ·have g:¬ qcd (l.getD i T0) [[40],[123]] = true:=qeu (by assumption)
     have g2:¬ qcd (l.getD i T0) [[41],[125]] = true:=qeu (by assumption)
     have g3:¬ qce (l.getD i T0) [59] = true:=qeu (by assumption)
     have g4:¬ qce (l.getD i T0) x = true:=qeu (by assumption)
     rw [if_neg g,if_neg g2,if_neg (by assumption),if_neg g3,if_neg g4] at i4
     refine qbl (i + 1,d) [0] ⟨⟨by simp only;omega,by simp only;omega,by simp only;omega,i4⟩,by simp only;omega⟩ rfl (by simp) ?_ ?_ ?_<;>(try refine ev_ ?_)<;>(try with_reducible exact ti_)<;>(try simp (disch:=omega) only [qm,and_true,true_and])<;>(try rfl)
   ·have hil:¬ (i:Int) < l.length:=by omega
    rw [List.drop_of_length_le (by omega),qck] at i4
    repeat' (first | refine vs_ ?_ | ((first | refine vr_ ?_ | fail)<;>(try simp only [hil,go_sem,↓reduceIte])) | ((first | (refine cs_ ?_ ?_<;>intro hc) | refine cj_ ?_ | simp (disch:=omega) only [qb,qm])<;>(try refine ev_ ?_)) | with_reducible exact ti_)
    rw [i4]
theorem q4n {c:K} {L:List Ent} {x:List UInt8} {Q:List Ent->VO->Prop} (hk:c.ok) (hl:c.l.length≤1048577) (h:Q (curE c :: L) (.val (.bool (qk3 c x)))) :
 VApp Tryz.prog (curE c :: L) (.fn 180 [] []) [.ptr 0 0,.str x] Q:=qbu (q6j c hk hl x) (qp _ _) (qp _ _) rfl rfl fun _=>h
end Go.Proofs.YtlmcofjcpadmiaaGreat
