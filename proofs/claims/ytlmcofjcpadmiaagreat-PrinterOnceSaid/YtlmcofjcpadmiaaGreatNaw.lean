/- Texts of this proof, joined. -/
import Derived.Test.YtlmcofjcpadmiaaGreatNav
import Derived.Test.YtlmcofjcpadmiaaGreatNao
set_option linter.unusedVariables false
set_option linter.unusedSimpArgs false

/- the cursor: in other places; texts; trees that are whole -/
namespace Go.Proofs.YtlmcofjcpadmiaaGreat
open Go Go.RowKit Go.V

section
variable {P:Program} {f:FuncId} {e e':Ent} {L:List Ent} {args0 args:List AV} {r:AV} {Q:List Ent->VO->Prop}
theorem q48 (k:Nat) (h:qb7 P f e e' args0 r) (hk:L[k]? = some e) (hb:e.bd 0 = true) (hb':e'.bd 0 = true) (ha:AV.bds 1 args0 = true) (hr:r.bd 0 = true) (hs:AV.rens (sg [k]) args0 = args) (hq:r.wf->Q (L.set k e') (.val r)) :
 VApp P L (.fn f [] []) args Q :=
 qb3 (first:=[]) (caps:=[]) (by
  simp only [List.nil_append,List.append_nil]
  rw [← hs]
  have hlt:k < L.length:=(List.getElem?_eq_some_iff.1 hk).1
  refine qhd (H0:=[e]) [k] (h.mono' (Q':=fun H' o=>(H' = [e']∧o = .val r)∧r.wf) fun H' o hw ho=>⟨ho,by have:=ho.2;subst this;exact hw⟩) (by simp) (by simpa using hlt) rfl ?_ ha ?_
  ·intro j e2 hj
   obtain rfl:j = 0:=by have:=(List.getElem?_eq_some_iff.1 hj).1;simp at this;omega
   simp only [List.getElem?_cons_zero,Option.some.injEq] at hj
   subst hj
   exact .inr ⟨Ent.bd_le (Nat.zero_le _) _ hb,by rw [Ent.ren_same (m:=0) (fun i hi=>by omega) _ hb];exact hk⟩
  ·rintro H1 o ⟨⟨rfl,rfl⟩,hw⟩
   have h1:e'.ren (sg' [k] L.length) = e':=Ent.ren_same (m:=0) (fun i hi=>by omega) _ hb'
   have h2:r.ren (sg' [k] L.length) = r:=ren_same (m:=0) (fun i hi=>by omega) _ hr
   simp only [List.length_cons,List.length_nil,List.take_succ_cons,List.take_zero,List.map_cons,List.map_nil,qbw,h1,VO.ren,h2,List.drop_succ_cons,List.drop_nil,List.append_nil]
   exact hq hw)
theorem qbmj (h:VCalls P f [] args fun H' o=>H' = [e]∧o = .val (.ptr 0 0)) (hb:e.bd 0 = true) (ha:AV.bds 0 args = true) (hq:Q (L ++ [e]) (.val (.ptr L.length 0))):VApp P L (.fn f [] []) args Q :=
 qb3 (first:=[]) (caps:=[]) (by
  simp only [List.nil_append,List.append_nil]
  have hs:AV.rens (sg []) args = args:=qb9 (m:=0) (fun i hi=>by omega) _ ha
  rw [← hs]
  refine qhd (H0:=[]) [] h (by simp) (by simp) rfl (fun j e2 hj=>by simp at hj) ha ?_
  rintro H1 o ⟨rfl,rfl⟩
  have h1:e.ren (sg' [] L.length) = e:=Ent.ren_same (m:=0) (fun i hi=>by omega) _ hb
  simp only [List.length_nil,List.take_zero,List.map_nil,qbw,List.drop_zero,List.map_cons,h1,VO.ren,AV.ren,sg',Nat.not_lt_zero,if_false,Nat.sub_zero,Nat.add_zero]
  exact hq)
end
theorem qqm (s:List UInt8):(lexV s).1.length≤1048577∧(lexV s).1.length≤s.length + 1:=by
 by_cases h:1048576 < (s.length:Int)
 ·rw [qqg h];simp
 ·have hll:(lexG s (qck s)).1.length≤s.length:=by have:=qxb (s:=s) (s.length - qck s) (qck s);unfold lexG;omega
  by_cases he:(lexG s (qck s)).2.2 = 0
  ·rw [qrz h he];simp only [List.length_append,List.length_cons,List.length_nil];omega
  ·rw [qqc h he];simp

/-! The cursor: it has gone on, if it has gone; a failure stays. -/
def K.good (c:K):Prop:=c.at'≤c.l.length∧c.l.length≤1048577∧c.nest≤200
def rest (c:K):Nat:=c.l.length - c.at'
theorem K.good.ok {c:K} (h:c.good):c.ok:=⟨h.1,Nat.le_trans h.2.1 (by unfold maxLen;omega)⟩
theorem K.good.rest {c:K} (h:c.good):c.l.length - c.at'≤1048577:=by have:=h.2.1;omega
theorem capN {n:Nat} (h:n≤1048580):qfe n 64:=by unfold qfe;omega
def Wi (B:Int) (c:K):Prop:=(∀ t∈c.l,0≤t.pos∧t.pos≤B)∧0≤c.ep∧c.ep≤B∧(c.err≠0->0≤c.pos∧c.pos≤B∧(c.err = 2∨c.err = 5))
def Mon (c c':K):Prop:=(c.good->c'.good)∧rest c'≤rest c∧(c.err≠0->c'.err = c.err)∧c'.l = c.l∧∀ B,Wi B c->Wi B c'
theorem Mon.refl (c:K):Mon c c:=⟨id,Nat.le_refl _,fun _=>rfl,rfl,fun _ h=>h⟩
theorem Mon.trans {a b c:K} (h:Mon a b) (k:Mon b c):Mon a c:=⟨fun g=>k.1 (h.1 g),Nat.le_trans k.2.1 h.2.1,fun e=>(k.2.2.1 (by rw [h.2.2.1 e];exact e)).trans (h.2.2.1 e),k.2.2.2.1.trans h.2.2.2.1,fun B g=>k.2.2.2.2 B (h.2.2.2.2 B g)⟩
def em (c:K):Nat:=if c.err = 0 then rest c + 1 else 0
theorem Mon.em {c c':K} (h:Mon c c'):em c'≤em c:=by
 unfold Go.Proofs.YtlmcofjcpadmiaaGreat.em
 have:=h.2.1
 split
 ·split
  ·omega
  ·rename_i h1 h2;exact absurd h1 (by rw [h.2.2.1 h2];exact h2)
 ·omega
theorem q04 (c:K):em c≤rest c + 1:=by unfold em;split<;>omega
theorem qceg {c:K} (h:c.err≠0):em c = 0:=if_neg h
theorem qbwo {c:K} (h:c.err = 0):em c = rest c + 1:=if_pos h
theorem qf8 (c:K) {e:Int}:(qd9 c e).err≠0:=by
 unfold qd9
 split
 ·simp only;split
  ·simp
  ·assumption
 ·assumption
theorem qbj (c:K):Mon c (qg c):=by
 unfold qg
 split
 ·split
  ·exact ⟨fun h=>⟨by simp only;omega,h.2⟩,by unfold rest;simp only;omega,fun _=>rfl,rfl,fun _ h=>h⟩
  ·exact Mon.refl c
 ·exact Mon.refl c
theorem qbyh {B:Int} {c:K} (h:Wi B c) (he:c.err = 0):0≤(qp c).pos∧(qp c).pos≤B:=by
 by_cases hl:c.at' < c.l.length
 ·rw [qm5 he (by omega)]
  refine h.1 _ ?_
  rw [List.getD_eq_getElem?_getD,List.getElem?_eq_getElem hl]
  exact List.getElem_mem hl
 ·rw [qt4 he (by omega)]
  exact ⟨h.2.1,h.2.2.1⟩
theorem qc3 (c:K) (e:Int) (he:e = 2∨e = 5:=by decide):Mon c (qd9 c e):=by
 refine ⟨?_,?_,fun h=>by rw [qfj h],?_,?_⟩
 ·unfold qd9;split<;>exact id
 ·unfold qd9;split<;>exact Nat.le_refl _
 ·unfold qd9;split<;>rfl
 ·intro B h
  unfold qd9
  split
  ·rename_i h0
   have h1:=qbyh h h0
   refine ⟨h.1,h.2.1,h.2.2.1,fun _=>⟨h1.1,h1.2,?_⟩⟩
   simp only
   rw [if_neg (by omega)];exact he
  ·exact h
theorem qo (c:K):Mon c (qb c).1:=by
 unfold qb
 split
 ·split
  ·rename_i h1;exact ⟨fun h=>⟨h.1,h.2.1,by simp only;omega⟩,Nat.le_refl _,fun _=>rfl,rfl,fun _ h=>h⟩
  ·exact qc3 c 2
 ·exact Mon.refl c
theorem qba (c:K):Mon c (qcn c):=by
 unfold qcn
 split
 ·split
  ·exact ⟨fun h=>⟨h.1,h.2.1,by have:=h.2.2;simp only;omega⟩,Nat.le_refl _,fun _=>rfl,rfl,fun _ h=>h⟩
  ·exact Mon.refl c
 ·exact Mon.refl c
theorem qm (c:K) (x:List UInt8):Mon c (qf c x).1:=by
 unfold qf
 split
 ·exact qbj c
 ·exact Mon.refl c
theorem qe (c:K) (x:List UInt8):Mon c (qh c x).1:=by
 unfold qh
 split
 ·exact qbj c
 ·exact qc3 c 5
theorem qfa {c:K} (h:(qp c).kind≠0):c.err = 0∧c.at' < c.l.length:=by
 unfold qp at h
 split at h
 ·rename_i h1
  split at h
  ·rename_i h2;exact ⟨h1,h2⟩
  ·exact absurd rfl h
 ·exact absurd rfl h
theorem qbb {c:K} (h:(qp c).kind≠0):rest (qg c) + 1 = rest c:=by
 obtain ⟨h1,h2⟩:=qfa h
 rw [qxr h1 (by omega)]
 unfold rest;simp only;omega
theorem qdp {c:K} {x:List UInt8} (h:isK c x = true):(qp c).kind≠0:=by
 simp only [isK,qcg,Bool.and_eq_true,Bool.or_eq_true,decide_eq_true_eq] at h
 omega
theorem q3e {c:K} {x:List UInt8} (h:isK c x = true):c.err = 0:=by
 simp only [isK,Bool.and_eq_true,decide_eq_true_eq] at h
 exact h.1
theorem q1p {c:K} (h:(qb c).2 = true):c.err = 0∧(qb c).1.err = 0∧(qb c).1 = { c with nest:=c.nest + 1 }:=by
 unfold qb at h ⊢
 split at h
 ·rename_i h1
  split at h
  ·rename_i h2;rw [if_pos h1,if_pos h2];exact ⟨h1,h1,rfl⟩
  ·cases h
 ·cases h
theorem qev {c:K} (h:(qb c).2 = true):qp (qb c).1 = qp c:=by rw [(q1p h).2.2];rfl
theorem qqn {c:K} {x:List UInt8} (h:(qb c).2 = true):isK (qb c).1 x = isK c x:=by rw [(q1p h).2.2];rfl
theorem qgf {c:K} (h:(qb c).2 = false):(qb c).1.err≠0:=by
 unfold qb at h ⊢
 split at h
 ·rename_i h1
  split at h
  ·cases h
  ·rename_i h2;rw [if_pos h1,if_neg h2];exact qf8 c
 ·rename_i h1;rw [if_neg h1];exact h1
theorem qdk {c:K} {x:List UInt8} (h:(qh c x).2 = false):(qh c x).1.err≠0:=by
 unfold qh at h ⊢
 split at h
 ·cases h
 ·rename_i h1;rw [if_neg h1];exact qf8 c
theorem qci {c:K} (h:c.err≠0):qcn c = c:=if_neg h
theorem q3m {c:K} {x:List UInt8} (h:c.err≠0):isK c x = false:=by
 simp only [isK,decide_eq_false h,Bool.false_and]
theorem qbr {c:K} {x:List UInt8} (h:c.err≠0):qh c x = (c,false):=by
 rw [qh,if_neg (by rw [q3m h];simp),qfj h]
theorem qer {c:K} {x:List UInt8} (h:c.err≠0):qf c x = (c,false):=qkq (q3m h)
theorem qqu {c:K} {x:List UInt8} (h:isK c x = true):qh c x = (qg c,true):=if_pos h

/-! Types: the program. -/
def begT (c:K):Bool:=decide ((qp c).kind = 1) || decide ((qp c).kind = 2) || isK c [40]
def qgr (c:K) (k:Int) (ks:List N):N:=.mk k (qp c).pos 0 (qp c).text ks
def qbg (rec:K->K×Option N) (c:K):K×Option N :=
 if (qp c).kind = 1 then (qg c,some (qgr c 1 []))
 else if (qp c).kind = 2 then (qg c,some (qgr c 2 []))
 else if isK c [40] = true then
  if (qb c).2 = true then
   if (rec (qg (qb c).1)).2.isSome = true then
    (qcn (qh (rec (qg (qb c).1)).1 [41]).1,if (qh (rec (qg (qb c).1)).1 [41]).2 = true then (rec (qg (qb c).1)).2 else none)
   else (qcn (rec (qg (qb c).1)).1,none)
  else ((qb c).1,none)
 else (qd9 c 5,none)
def qcq (rec:K->K×Option N):Nat->K->List N->K×Option (List N)
 | 0,c,acc=>(c,none)
 | f + 1, c, acc =>
   if begT c = true then
    if (qbg rec c).2.isSome = true then qcq rec f (qbg rec c).1 (acc ++ [(qbg rec c).2.getD N0])
    else ((qbg rec c).1,none)
   else (c,some acc)
def qbq (rec:K->K×Option N) (c:K):K×Option N :=
 if (qp c).kind = 2 then ((qcq rec (rest c + 1) (qg c) []).1,(qcq rec (rest c + 1) (qg c) []).2.map (qgr c 2))
 else qbg rec c
def qiz (n m:N):N:=.mk 2 n.pos 0 [45,62] [n,m]
def qbe:Nat->K->K×Option N
 | 0,c=>(c,none)
 | f + 1, c =>
   if (qb c).2 = true then
    if (qbq (qbe f) (qb c).1).2.isSome = true then
     if (qf (qbq (qbe f) (qb c).1).1 [45,62]).2 = true then
      (qcn (qbe f (qf (qbq (qbe f) (qb c).1).1 [45,62]).1).1,(qbe f (qf (qbq (qbe f) (qb c).1).1 [45,62]).1).2.map (qiz ((qbq (qbe f) (qb c).1).2.getD N0)))
     else (qcn (qbq (qbe f) (qb c).1).1,(qbq (qbe f) (qb c).1).2)
    else (qcn (qbq (qbe f) (qb c).1).1,none)
   else ((qb c).1,none)
section
variable {rec:K->K×Option N} (hm:∀ c,Mon c (rec c).1)
include hm
theorem qdr (c:K):Mon c (qbg rec c).1:=by
 unfold qbg
 split
 ·exact qbj c
 ·split
  ·exact qbj c
  ·split
   ·split
    ·have h1:=((qo c).trans (qbj _)).trans (hm _)
     split
     ·exact (h1.trans (qe _ _)).trans (qba _)
     ·exact h1.trans (qba _)
    ·exact qo c
   ·exact qc3 c 5
theorem qd0 {c:K} (h:(qbg rec c).2.isSome = true):rest (qbg rec c).1 < rest c:=by
 unfold qbg at h ⊢
 split at h
 ·rename_i h1;rw [if_pos h1];have:=qbb (c:=c) (by omega);simp only;omega
 ·rename_i h1
  rw [if_neg h1]
  split at h
  ·rename_i h2;rw [if_pos h2];have:=qbb (c:=c) (by omega);simp only;omega
  ·rename_i h2
   rw [if_neg h2]
   split at h
   ·rename_i hk
    rw [if_pos hk]
    split at h
    ·rename_i he
     rw [if_pos he]
     have hp:=qbb (c:=(qb c).1) (by rw [qev he];exact qdp hk)
     have h0:=(qo c).2.1
     have h1:=(hm (qg (qb c).1)).2.1
     split at h
     ·rename_i hr
      rw [if_pos hr]
      have h2:=(qe (rec (qg (qb c).1)).1 [41]).2.1
      have h3:=(qba (qh (rec (qg (qb c).1)).1 [41]).1).2.1
      simp only;omega
     ·cases h
    ·cases h
   ·cases h
theorem qhs:∀ (f:Nat) (c:K) (acc:List N),Mon c (qcq rec f c acc).1
 | 0,c,acc=>Mon.refl c
 | f + 1, c, acc => by
   rw [qcq]
   split
   ·split
    ·exact (qdr hm c).trans (qhs f _ _)
    ·exact qdr hm c
   ·exact Mon.refl c
theorem qlq (c:K):Mon c (qbq rec c).1:=by
 unfold qbq
 split
 ·exact (qbj c).trans (qhs hm _ _ _)
 ·exact qdr hm c
theorem q3j {c:K} (h:(qbq rec c).2.isSome = true):rest (qbq rec c).1 < rest c:=by
 unfold qbq at h ⊢
 split at h
 ·rename_i h1
  rw [if_pos h1]
  have:=qbb (c:=c) (by omega)
  have:=(qhs hm (rest c + 1) (qg c) []).2.1
  simp only;omega
 ·rename_i h1
  rw [if_neg h1]
  exact qd0 hm h
end
theorem qbv:∀ (f:Nat) (c:K),Mon c (qbe f c).1
 | 0,c=>Mon.refl c
 | f + 1, c => by
   have hr:=(qo c).trans (qlq (qbv f) (qb c).1)
   rw [qbe]
   split
   ·split
    ·split
     ·exact ((hr.trans (qm _ _)).trans (qbv f _)).trans (qba _)
     ·exact hr.trans (qba _)
    ·exact hr.trans (qba _)
   ·exact qo c
theorem qbga {c:K} (h:begT c = true):c.err = 0:=by
 simp only [begT,Bool.or_eq_true,decide_eq_true_eq] at h
 rcases h with (h | h) | h
 ·exact (qfa (by omega)).1
 ·exact (qfa (by omega)).1
 ·exact q3e h
theorem qbfb {c:K} (h:c.err≠0):begT c = false:=by
 cases hb:begT c with
 | false=>rfl
 | true=>exact absurd (qbga hb) h
set_option maxRecDepth 4000

def resP (r:Option N):AV:=.tup [enc (r.getD N0),.bool r.isSome]
attribute [go_sem] resP
theorem qbx7 (k:Nat) (r:Option N):(resP r).bd k = true:=by simp only [resP,AV.bd,AV.bds,qne,Bool.and_true]
theorem qcs {P:Program} {f:FuncId} {c c':K} {L:List Ent} {args:List AV} {r:Option N} {Q:List Ent->VO->Prop} (h:qb7 P f (curE c) (curE c') args (resP r)) (ha:AV.bds 1 args = true) (hq:Q (curE c' :: L) (.val (resP r))):VApp P (curE c :: L) (.fn f [] []) args Q :=
 qb4 h (q9 _ _) (q9 _ _) ha (qbx7 _ _) fun _=>hq
theorem qed:AV.agg [.int .i64 0,.int .i64 0,.int .i64 0,.str [],.sl 5 []] = enc N0:=by simp [N0,enc,encs]
def qof (n:N) (b:Bool):Option N:=if b = true then some n else none
theorem qbo7 (n:N):qof n false = none:=rfl
theorem q9u {r:Option N} {b:Bool} (h:r.isSome = true):qof (r.getD N0) b = if b = true then r else none:=by
 cases r with
 | none=>cases h
 | some n=>rfl
theorem qbkk (c:K) (n:N) (b:Bool):qb7 Tryz.prog 147 (curE c) (curE c) [.ptr 0 0,enc n,.bool b] (resP (qof n b)):=by
 refine qq c0dy 1 (by simp) (by simp) ?_
 repeat' (first | refine vs_ ?_ | ((first | refine vr_ ?_ | (refine cs_ ?_ ?_<;>intro hc) | refine cj_ ?_ | fail)<;>(try refine ev_ ?_)) | with_reducible exact ti_)
 all_goals (unfold qof;simp_all [qed])
theorem qzj {c:K} {L:List Ent} {n:N} {b:Bool} {Q:List Ent->VO->Prop} (hq:Q (curE c :: L) (.val (resP (qof n b)))):VApp Tryz.prog (curE c :: L) (.fn 147 [] []) [.ptr 0 0,enc n,.bool b] Q:=qcs (qbkk c n b) (by simp only [AV.bds,AV.bd,qne];rfl) hq
theorem q2x {c:K} {L:List Ent} {n m:N} {b:Bool} {Q:List Ent->VO->Prop} (hq:Q (curE c :: L) (.val (resP (qof (qiz n m) b)))) :
 VApp Tryz.prog (curE c :: L) (.fn 147 [] []) [.ptr 0 0,.agg [.int .i64 2,.int .i64 n.pos,.int .i64 0,.str [45,62],.sl 5 [enc n,enc m]],.bool b] Q:=by
 have h:=qzj (n:=qiz n m) hq
 simpa only [qiz,enc,encs] using h
theorem qxl {r:Option N} {g:N->N}:qof (g (r.getD N0)) r.isSome = r.map g:=by cases r<;>rfl
theorem q80 {r:Option N} {n:N}:qof (qiz n (r.getD N0)) r.isSome = r.map (qiz n):=qxl
theorem qdh {c:K} {x:List UInt8} (h:(qf c x).2 = false):(qf c x).1 = c:=by
 unfold qf at *
 split at h
 ·cases h
 ·rename_i h1;rw [if_neg h1]
theorem q9e (c:K):qb7 Tryz.prog 183 (curE c) (curE c) [.ptr 0 0] (.bool (begT c)):=by
 refine qq c0dz 1 (by simp) (by simp) ?_
 repeat' (first | refine vs_ ?_ | ((first | refine vr_ ?_ | refine qb2 ?_ | refine a_Is ?_ | (refine cs_ ?_ ?_<;>intro hc) | refine cj_ ?_ | fail)<;>(try refine ev_ ?_)) | with_reducible exact ti_)
 all_goals (unfold begT;simp_all)
theorem qbpy {c:K} {L:List Ent} {Q:List Ent->VO->Prop} (hq:Q (curE c :: L) (.val (.bool (begT c)))):VApp Tryz.prog (curE c :: L) (.fn 183 [] []) [.ptr 0 0] Q:=qb4 (q9e c) (q9 _ _) (q9 _ _) rfl rfl fun _=>hq
theorem qbf {l:List N} (h:l≠[]):encs l≠[]:=by cases l with | nil=>exact absurd rfl h | cons _ _=>simp [encs]
def qbe6 (p:Int) (t:List UInt8) (c:K) (acc:List N):AF×List Ent :=
 (⟨[(0, .ptr 0 0), (2, .ptr 1 0), (5, .ptr 2 0)], []⟩,
   curE c :: .blk [.int .i64 0,.int .i64 0,.int .i64 0,.str [],.nils] :: .blk [.int .i64 2,.int .i64 p,.int .i64 0,.str t,accV 3 (encs acc)] :: accE 5 (encs acc))
section
variable {rec:K->K×Option N} {b:Nat} (hm:∀ c,Mon c (rec c).1) (ih:∀ c,c.good->rest c < b->qb7 Tryz.prog 93 (curE c) (curE (rec c).1) [.ptr 0 0] (resP (rec c).2))
include hm ih
theorem qjd (c:K) (hg:c.good) (hr:rest c≤b):qb7 Tryz.prog 165 (curE c) (curE (qbg rec c).1) [.ptr 0 0] (resP (qbg rec c).2):=by
 have g1:(qb c).1.good:=(qo c).1 hg
 have g2:(qg (qb c).1).good:=(qbj _).1 g1
 have g3:(rec (qg (qb c).1)).1.good:=(hm _).1 g2
 have g4:(qh (rec (qg (qb c).1)).1 [41]).1.good:=(qe _ _).1 g3
 have hrr:isK c [40] = true->(qb c).2 = true->rest (qg (qb c).1) < b:=fun h1 h2=>by
  have:=qbb (c:=(qb c).1) (by rw [qev h2];exact qdp h1)
  have:=(qo c).2.1
  omega
 refine qq c0ea 1 (by simp) (by simp) ?_
 repeat' (first | refine vs_ ?_ | ((first | refine vr_ ?_ | refine qb2 ?_ | refine a_Is ?_ | refine qvm ?_ | refine qiq ?_ | refine qk5 hg.ok ?_ | refine qk5 g1.ok ?_ | refine qcs (ih _ g2 (hrr (by assumption) (by assumption))) rfl ?_ | refine qcc g3.ok ?_ | refine qfx g4.2.2 ?_ | refine qfx g3.2.2 ?_ | refine qzj ?_ | (refine cs_ ?_ ?_<;>intro hc) | refine cj_ ?_ | fail)<;>(try refine ev_ ?_)) | with_reducible exact ti_)
 all_goals (try simp only [q9u (r:=(rec (qg (qb c).1)).2) (by assumption)])
 all_goals (try simp only [qbo7])
 all_goals (unfold qbg qgr;simp only [*,qed,Int.reduceEq,if_true,if_false,reduceIte,Bool.false_eq_true,Option.getD_none,Option.getD_some,Option.isSome_none,Option.isSome_some,and_self,true_and,and_true];try rfl)
theorem qbsr (c:K) (hg:c.good) (hr:rest c≤b):qb7 Tryz.prog 148 (curE c) (curE (qbq rec c).1) [.ptr 0 0] (resP (qbq rec c).2):=by
 refine qq c0eb 1 (by simp) (by simp) ?_
 by_cases hk:(qp c).kind = 2
 ·have g1:(qg c).good:=(qbj _).1 hg
  have hpa:qbq rec c = ((qcq rec (rest c + 1) (qg c) []).1,(qcq rec (rest c + 1) (qg c) []).2.map (qgr c 2)):=by rw [qbq,if_pos hk]
  rw [hpa]
  clear hpa
  generalize htg:qcq rec (rest c + 1) (qg c) [] = tg
  have hmt:Mon (qg c) tg.1:=htg ▸ qhs hm _ _ _
  have hrn:=qbb (c:=c) (by omega)
  repeat' (first | refine vs_ ?_ | ((first | refine vr_ ?_ | fail)<;>(try simp only [hk,Int.reduceEq,go_sem,↓reduceIte])) | ((first | (refine cs_ ?_ ?_<;>intro hc) | refine cj_ ?_ | fail | refine qb2 ?_ | refine qk5 hg.ok ?_)<;>(try refine ev_ ?_)) | with_reducible exact ti_)
  refine qcm (S:=Nat×K×List N) (fun x=>x.2.1.good∧rest x.2.1≤b∧qcq rec x.1 x.2.1 x.2.2 = tg∧rest x.2.1 < x.1∧x.2.2.length + rest x.2.1≤1048577)
   (fun x=>qbe6 (qp c).pos (qp c).text x.2.1 x.2.2) (fun x=>rest x.2.1 + 1) ?_ ?_
  ·refine qb1 (rest c + 1,qg c,[]) [0,1,3] ⟨g1,by simp only;omega,htg,by simp only;omega,?_⟩ rfl (by simp) ?_ ?_ ?_
   ·have h9:=g1.rest
    unfold rest
    simp only [List.length_nil]
    omega
   all_goals simp only [qbe6,encs,qbl,qbo]
   all_goals (refine ev_ ?_;(try with_reducible exact ti_))
  ·rintro ⟨fu,d,acc⟩ ⟨i1,i2,i3,i4,i5⟩
   simp only at i1 i2 i3 i4 i5
   unfold qbe6
   obtain ⟨fu,rfl⟩:∃ k,fu = k + 1:=⟨fu - 1,by omega⟩
   rw [qcq] at i3
   have hcap:qfe (acc.length + 1) 64:=capN (by omega)
   have j1:(qbg rec d).1.good:=(qdr hm d).1 i1
   have j2:rest (qbg rec d).1≤rest d:=(qdr hm d).2.1
   by_cases h0:acc = []
   ·subst h0
    simp only [encs,qbl,qbo]
    repeat' (first | refine vs_ ?_ | ((first | refine vr_ ?_ | refine qbpy ?_ | refine qcs (qjd hm ih _ i1 i2) rfl ?_ | (refine cs_ ?_ ?_<;>intro hc) | refine cj_ ?_ | fail)<;>(try refine ev_ ?_)) | with_reducible exact ti_)
    ·have hb:begT d = true:=by assumption
     have hs:(qbg rec d).2.isSome = false:=by assumption
     rw [if_pos hb,if_neg (by rw [hs];simp)] at i3
     subst i3
     exact ⟨rfl,by rw [qed];rfl⟩
    ·have hb:begT d = true:=by assumption
     have hs:(qbg rec d).2.isSome = true:=by assumption
     rw [if_pos hb,if_pos hs] at i3
     have hlt:=qd0 hm hs
     refine qb1 (fu,(qbg rec d).1,[] ++ [(qbg rec d).2.getD N0]) [0,1,2,4] ⟨⟨j1,by simp only;omega,i3,by simp only;omega,?_⟩,by simp only;omega⟩ rfl (by simp) ?_ ?_ ?_
     ·simp only [List.length_append,List.length_cons,List.length_nil];omega
     all_goals simp only [qbe6,← ql,qgi,qgc,List.nil_append,encs,qh5,qig]
     all_goals (refine ev_ ?_;(try with_reducible exact ti_))
    ·have hb:begT d = false:=by assumption
     rw [if_neg (by rw [hb];simp)] at i3
     subst i3
     simp only [Option.map_some,Option.getD_some,Option.isSome_some,enc,encs,qgr,and_self]
   ·have hne:=qbf h0
    simp only [qbt hne,qbu hne,qbc]
    repeat' (first | refine vs_ ?_ | ((first | refine vr_ ?_ | refine qbpy ?_ | refine qcs (qjd hm ih _ i1 i2) rfl ?_ | (refine cs_ ?_ ?_<;>intro hc) | refine cj_ ?_ | fail)<;>(try refine ev_ ?_)) | with_reducible exact ti_)
    ·have hb:begT d = true:=by assumption
     have hs:(qbg rec d).2.isSome = false:=by assumption
     rw [if_pos hb,if_neg (by rw [hs];simp)] at i3
     subst i3
     exact ⟨rfl,by rw [qed];rfl⟩
    ·have hb:begT d = true:=by assumption
     have hs:(qbg rec d).2.isSome = true:=by assumption
     rw [if_pos hb,if_pos hs] at i3
     have hlt:=qd0 hm hs
     refine qb1 (fu,(qbg rec d).1,acc ++ [(qbg rec d).2.getD N0]) [0,1,2,5] ⟨⟨j1,by simp only;omega,i3,by simp only;omega,?_⟩,by simp only;omega⟩ rfl (by simp) ?_ ?_ ?_
     ·simp only [List.length_append,List.length_cons,List.length_nil];omega
     all_goals simp only [qbe6,← ql,qgi,qgc,List.nil_append,encs,qh5,qig]
     all_goals (refine ev_ ?_;(try with_reducible exact ti_))
     rw [ql,q7,qbs];exact ⟨rfl,rfl⟩
    ·have hb:begT d = false:=by assumption
     rw [if_neg (by rw [hb];simp)] at i3
     subst i3
     simp only [Option.map_some,Option.getD_some,Option.isSome_some,enc,encs,qgr,and_self]
 ·repeat' (first | refine vs_ ?_ | ((first | refine vr_ ?_ | fail)<;>(try simp only [hk,go_sem,↓reduceIte])) | ((first | (refine cs_ ?_ ?_<;>intro hc) | refine cj_ ?_ | fail | refine qb2 ?_ | refine qcs (qjd hm ih c hg hr) rfl ?_)<;>(try refine ev_ ?_)) | with_reducible exact ti_)
  rw [qbq,if_neg hk];exact ⟨rfl,rfl⟩
end
theorem q2w {f:Nat} (ih:∀ c,c.good->rest c < f->qb7 Tryz.prog 93 (curE c) (curE (qbe f c).1) [.ptr 0 0] (resP (qbe f c).2)) (c:K) (hg:c.good) (hr:rest c < f + 1) :
 qb7 Tryz.prog 93 (curE c) (curE (qbe (f + 1) c).1) [.ptr 0 0] (resP (qbe (f + 1) c).2):=by
 have hm:=qbv f
 have g1:(qb c).1.good:=(qo c).1 hg
 have hr1:rest (qb c).1≤f:=by have:=(qo c).2.1;omega
 have hrow:=qbsr hm ih _ g1 hr1
 have mrow:=qlq hm (qb c).1
 have lrow:=q3j hm (c:=(qb c).1)
 have hpa:qbe (f + 1) c = if (qb c).2 = true then
  if (qbq (qbe f) (qb c).1).2.isSome = true then
   if (qf (qbq (qbe f) (qb c).1).1 [45,62]).2 = true then
    (qcn (qbe f (qf (qbq (qbe f) (qb c).1).1 [45,62]).1).1,(qbe f (qf (qbq (qbe f) (qb c).1).1 [45,62]).1).2.map (qiz ((qbq (qbe f) (qb c).1).2.getD N0)))
   else (qcn (qbq (qbe f) (qb c).1).1,(qbq (qbe f) (qb c).1).2)
  else (qcn (qbq (qbe f) (qb c).1).1,none)
  else ((qb c).1,none):=by rw [qbe]
 rw [hpa]
 clear hpa
 generalize qbq (qbe f) (qb c).1 = r at *
 have g2:r.1.good:=mrow.1 g1
 have g3:(qf r.1 [45,62]).1.good:=(qm _ _).1 g2
 have g4:(qbe f (qf r.1 [45,62]).1).1.good:=(hm _).1 g3
 have hlt:r.2.isSome = true->rest (qf r.1 [45,62]).1 < f:=fun h=>by
  have:=lrow h
  have:=(qm r.1 [45,62]).2.1
  omega
 refine qq c0ec 1 (by simp) (by simp) ?_
 repeat' (first | refine vs_ ?_ | ((first | refine vr_ ?_ | refine qiq ?_ | refine qcs hrow rfl ?_ | refine qef g2.ok ?_ | refine qcs (ih _ g3 (hlt (by assumption))) rfl ?_ | refine qfx g4.2.2 ?_ | refine qfx g3.2.2 ?_ | refine qfx g2.2.2 ?_ | refine qzj ?_ | refine q2x ?_ | (refine cs_ ?_ ?_<;>intro hc) | refine cj_ ?_ | fail)<;>(try refine ev_ ?_)) | with_reducible exact ti_)
 all_goals (try simp only [qdh (c:=r.1) (by assumption)])
 all_goals (try simp only [q9u (r:=r.2) (by assumption)])
 all_goals (try simp only [qbo7,q80])
 all_goals (simp only [*,qed,if_true,if_false,reduceIte,Bool.false_eq_true,Option.getD_none,Option.getD_some,Option.isSome_none,Option.isSome_some,and_self,true_and,and_true];try rfl)
theorem qyj (f:Nat):∀ c:K,c.good->rest c < f->qb7 Tryz.prog 93 (curE c) (curE (qbe f c).1) [.ptr 0 0] (resP (qbe f c).2):=by
 induction f with
 | zero=>exact fun c _ h=>absurd h (by omega)
 | succ f ih=>exact q2w ih
set_option maxRecDepth 4000

def kindK (c:K) (k:Int):K×Bool:=if (decide (c.err = 0) && decide ((qp c).kind = k)) = true then (qg c,true) else (qd9 c 5,false)
def qen (c:K) (k:Int):T:=if (kindK c k).2 = true then qp c else T0
theorem qs3 {c:K} {k:Int} (h1:c.err = 0) (h2:(qp c).kind = k):kindK c k = (qg c,true):=by rw [kindK,decide_eq_true h1,decide_eq_true h2];rfl
theorem qbcx {c:K} {k:Int} (h2:¬ (qp c).kind = k):kindK c k = (qd9 c 5,false):=by rw [kindK,decide_eq_false h2,Bool.and_false];rfl
theorem q33 {c:K} {k:Int} (h1:¬ c.err = 0):kindK c k = (qd9 c 5,false):=by rw [kindK,decide_eq_false h1];rfl
theorem qx7 {c:K} {k:Int} (h1:c.err = 0) (h2:(qp c).kind = k):qen c k = qp c:=by rw [qen,qs3 h1 h2];rfl
theorem qbsk {c:K} {k:Int} (h2:¬ (qp c).kind = k):qen c k = T0:=by rw [qen,qbcx h2];rfl
theorem qb2k {c:K} {k:Int} (h1:¬ c.err = 0):qen c k = T0:=by rw [qen,q33 h1];rfl
theorem qbmy (c:K) (hk:c.ok) (k:Int):qb7 Tryz.prog 163 (curE c) (curE (kindK c k).1) [.ptr 0 0,.int .i64 k] (.tup [encT (qen c k),.bool (kindK c k).2]):=by
 refine qq c0ep 1 (by simp) (by simp) ?_
 repeat' (first | refine vs_ ?_ | ((first | refine vr_ ?_ | refine qh9 ?_ | refine qb2 ?_ | refine qvm ?_ | refine qk5 hk ?_ | (refine cs_ ?_ ?_<;>intro hc) | refine cj_ ?_ | fail)<;>(try refine ev_ ?_)) | with_reducible exact ti_)
 ·rw [q33 (qip (by assumption)),qb2k (qip (by assumption))];exact ⟨rfl,rfl⟩
 ·rw [qbcx (by assumption),qbsk (by assumption)];exact ⟨rfl,rfl⟩
 ·rw [qs3 (qic (by assumption)) (by assumption),qx7 (qic (by assumption)) (by assumption)];exact ⟨rfl,rfl⟩
theorem qdb {c:K} {L:List Ent} {k:Int} {Q:List Ent->VO->Prop} (hk:c.ok) (h:Q (curE (kindK c k).1 :: L) (.val (.tup [encT (qen c k),.bool (kindK c k).2]))) :
 VApp Tryz.prog (curE c :: L) (.fn 163 [] []) [.ptr 0 0,.int .i64 k] Q:=qb4 (qbmy c hk k) (q9 _ _) (q9 _ _) rfl rfl fun _=>h
def qcw (x:List UInt8):List T->Int->Bool
 | [],_=>false
 | t :: r, d =>
   if qcl t [[40],[123]] = true then qcw x r (d + 1)
   else if qcl t [[41],[125]] = true then (if d - 1 < 0 then false else qcw x r (d - 1))
   else if 0 < d then qcw x r d
   else if qcg t [59] = true then false
   else if qcg t x = true then true
   else qcw x r d
def qll (c:K) (x:List UInt8):Bool:=if c.err = 0 then qcw x (c.l.drop c.at') 0 else false
theorem qbb6 (t:T) (x y:List UInt8):qx Tryz.prog 193 [encT t,.sl 1 [.str x,.str y]] (.bool (qcl t [x,y])):=qbci t [x,y]
theorem qckh {d:Int} (h0:-1≤d) (h1:d≤2000000):IntKind.i64.wrap d = d:=by
 simp [IntKind.wrap,IntKind.signed,IntKind.bits]
 omega
theorem qfz {b:Bool} (h:b = false):¬ b = true:=by rw [h];simp
theorem qbgt (c:K) (hk:c.ok) (hl:c.l.length≤1048577) (x:List UInt8):qb7 Tryz.prog 180 (curE c) (curE c) [.ptr 0 0,.str x] (.bool (qll c x)):=by
 refine qq c0eq 1 (by simp) (by simp) ?_
 have hmx:(1048577:Nat)≤maxLen:=by unfold maxLen;omega
 have h1:=hk.1
 obtain ⟨l,hll⟩:∃ l,l = c.l.drop c.at':=⟨_,rfl⟩
 have hln:l.length = c.l.length - c.at':=by rw [hll,List.length_drop]
 repeat' (first | refine vs_ ?_ | ((first | refine vr_ ?_ | refine qh9 ?_ | (refine cs_ ?_ ?_<;>intro hc) | refine cj_ ?_ | simp (disch:=omega) only [qc,qs])<;>(try refine ev_ ?_)) | with_reducible exact ti_)
 ·rw [qll,if_neg (qip (by assumption))]
 ·rw [qll,if_pos (qic (by assumption)),← hll]
  refine qcm (S:=Nat×Int) (fun y=>y.1≤l.length∧0≤y.2∧y.2≤y.1∧qcw x l 0 = qcw x (l.drop y.1) y.2)
   (fun y=>(⟨[(1,.str x),(5,.int .i64 y.2),(18,.sl 4 (qec l)),(19,.int .i64 l.length),(20,.int .i64 y.1)],[]⟩,[curE c])) (fun y=>l.length - y.1) ?_ ?_
  ·refine qb1 (0,0) [0] ⟨Nat.zero_le _,Int.le_refl _,Int.le_refl _,rfl⟩ rfl (by simp) ?_ ?_ ?_<;>(try refine ev_ ?_)<;>(try with_reducible exact ti_)<;>(try simp (disch:=omega) only [qs,and_true,true_and])
  ·rintro ⟨i,d⟩ ⟨i1,i2,i3,i4⟩
   simp only at i1 i2 i3 i4
   by_cases hlt:i < l.length
   ·have hil:(i:Int) < l.length:=by omega
    rw [qbk5 hlt,qcw] at i4
    have hT:AV.agg [.int .i64 (l.getD i T0).kind,.int .i64 (l.getD i T0).pos,.int .i64 (l.getD i T0).num,.str (l.getD i T0).text] = encT (l.getD i T0):=rfl
    repeat' (first | refine vs_ ?_ | ((first | refine vr_ ?_ | fail)<;>(try simp (disch:=first | omega | (simp only [List.length_set,List.length_append,List.length_cons,List.length_nil];done) | (simp only [List.length_set,List.length_append,List.length_cons,List.length_nil];omega)) only [hil,qckh,go_sem,↓reduceIte])) | ((first | simp (disch:=omega) only [qhe] | (refine cs_ ?_ ?_<;>intro hc) | refine cj_ ?_ | simp (disch:=omega) only [qc,qs] | refine qa (qbb6 (l.getD i T0) _ _) fun _=>?_ | refine qa (q2b (l.getD i T0) _) fun _=>?_ | refine qj (qbb6 (l.getD i T0) _ _) ?_ | refine qj (q2b (l.getD i T0) _) ?_)<;>(try refine ev_ ?_)) | with_reducible exact ti_)
    ·have g:qcl (l.getD i T0) [[40],[123]] = true:=by assumption
     rw [if_pos g] at i4
     refine qb1 (i + 1,d + 1) [0] ⟨⟨by simp only;omega,by simp only;omega,by simp only;omega,i4⟩,by simp only;omega⟩ rfl (by simp) ?_ ?_ ?_<;>(try refine ev_ ?_)<;>(try with_reducible exact ti_)<;>(try simp (disch:=omega) only [qs,and_true,true_and])<;>(try rfl)
    ·have g:¬ qcl (l.getD i T0) [[40],[123]] = true:=qfz (by assumption)
     have g2:qcl (l.getD i T0) [[41],[125]] = true:=by assumption
     rw [i4,if_neg g,if_pos g2,if_pos (by assumption)]
    ·have g:¬ qcl (l.getD i T0) [[40],[123]] = true:=qfz (by assumption)
     have g2:qcl (l.getD i T0) [[41],[125]] = true:=by assumption
     rw [if_neg g,if_pos g2,if_neg (by assumption)] at i4
     refine qb1 (i + 1,d - 1) [0] ⟨⟨by simp only;omega,by simp only;omega,by simp only;omega,i4⟩,by simp only;omega⟩ rfl (by simp) ?_ ?_ ?_<;>(try refine ev_ ?_)<;>(try with_reducible exact ti_)<;>(try simp (disch:=omega) only [qs,and_true,true_and])<;>(try rfl)
    ·have g:¬ qcl (l.getD i T0) [[40],[123]] = true:=qfz (by assumption)
     have g2:¬ qcl (l.getD i T0) [[41],[125]] = true:=qfz (by assumption)
     rw [if_neg g,if_neg g2,if_pos (by assumption)] at i4
     refine qb1 (i + 1,d) [0] ⟨⟨by simp only;omega,by simp only;omega,by simp only;omega,i4⟩,by simp only;omega⟩ rfl (by simp) ?_ ?_ ?_<;>(try refine ev_ ?_)<;>(try with_reducible exact ti_)<;>(try simp (disch:=omega) only [qs,and_true,true_and])<;>(try rfl)
    ·have g:¬ qcl (l.getD i T0) [[40],[123]] = true:=qfz (by assumption)
     have g2:¬ qcl (l.getD i T0) [[41],[125]] = true:=qfz (by assumption)
     rw [i4,if_neg g,if_neg g2,if_neg (by assumption),if_pos (by assumption)]
    ·have g:¬ qcl (l.getD i T0) [[40],[123]] = true:=qfz (by assumption)
     have g2:¬ qcl (l.getD i T0) [[41],[125]] = true:=qfz (by assumption)
     have g3:¬ qcg (l.getD i T0) [59] = true:=qfz (by assumption)
     rw [i4,if_neg g,if_neg g2,if_neg (by assumption),if_neg g3,if_pos (by assumption)]
    ·have g:¬ qcl (l.getD i T0) [[40],[123]] = true:=qfz (by assumption)
     have g2:¬ qcl (l.getD i T0) [[41],[125]] = true:=qfz (by assumption)
     have g3:¬ qcg (l.getD i T0) [59] = true:=qfz (by assumption)
     have g4:¬ qcg (l.getD i T0) x = true:=qfz (by assumption)
     rw [if_neg g,if_neg g2,if_neg (by assumption),if_neg g3,if_neg g4] at i4
     refine qb1 (i + 1,d) [0] ⟨⟨by simp only;omega,by simp only;omega,by simp only;omega,i4⟩,by simp only;omega⟩ rfl (by simp) ?_ ?_ ?_<;>(try refine ev_ ?_)<;>(try with_reducible exact ti_)<;>(try simp (disch:=omega) only [qs,and_true,true_and])<;>(try rfl)
   ·have hil:¬ (i:Int) < l.length:=by omega
    rw [List.drop_of_length_le (by omega),qcw] at i4
    repeat' (first | refine vs_ ?_ | ((first | refine vr_ ?_ | fail)<;>(try simp only [hil,go_sem,↓reduceIte])) | ((first | (refine cs_ ?_ ?_<;>intro hc) | refine cj_ ?_ | simp (disch:=omega) only [qc,qs])<;>(try refine ev_ ?_)) | with_reducible exact ti_)
    rw [i4]
theorem qbal {c:K} {L:List Ent} {x:List UInt8} {Q:List Ent->VO->Prop} (hk:c.ok) (hl:c.l.length≤1048577) (h:Q (curE c :: L) (.val (.bool (qll c x)))) :
 VApp Tryz.prog (curE c :: L) (.fn 180 [] []) [.ptr 0 0,.str x] Q:=qb4 (qbgt c hk hl x) (q9 _ _) (q9 _ _) rfl rfl fun _=>h
end Go.Proofs.YtlmcofjcpadmiaaGreat
