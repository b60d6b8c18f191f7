/- Texts of this proof, joined. -/
import Derived.Test.YtlmcofjcpadmiaaGreatNay
import Derived.Test.YtlmcofjcpadmiaaGreatNaz
set_option linter.unusedVariables false
set_option linter.unusedSimpArgs false

/- types: the reference -/
namespace Go.Proofs.YtlmcofjcpadmiaaGreat
open Go Go.RowKit Go.V

theorem qow {c:K} (h:(qp c).kind≠0):em (qg c) < em c:=by
 have h1:=qbb h
 rw [qbwo (qfa h).1]
 have:=q04 (qg c)
 omega
theorem qil {c:K} {x:List UInt8} (h:(qf c x).2 = true):em (qf c x).1 < em c:=by
 unfold qf at h ⊢
 split at h
 ·rename_i h1
  rw [if_pos h1]
  exact qow (qdp h1)
 ·cases h
theorem qlr {c:K} (h:isK c [40] = true):em (qh (qb c).1 [40]).1 < em c:=by
 rw [qbwo (q3e h)]
 cases he:(qb c).2 with
 | false=>rw [qbr (qgf he),qceg (qgf he)];omega
 | true =>
   have h1:isK (qb c).1 [40] = true:=by rw [qqn he];exact h
   have h2:=qbb (qdp h1)
   have h3:=(qo c).2.1
   have h4:=q04 (qg (qb c).1)
   rw [qqu h1]
   simp only;omega
def qeg (rec:K->K×N) (c:K):K×N :=
 if c.err = 0 then
  if (qp c).kind = 1 then (qg c,qgr c 1 [])
  else if (qp c).kind = 2 then (qg c,qgr c 2 [])
  else if isK c [40] = true then (qcn (qh (rec (qh (qb c).1 [40]).1).1 [41]).1,(rec (qh (qb c).1 [40]).1).2)
  else (qd9 c 5,N0)
 else (c,N0)
def qg2 (rec:K->K×N):Nat->K->List N->K×List N
 | 0,c,acc=>(c,acc)
 | f + 1,c,acc=>if begT c = true then qg2 rec f (qeg rec c).1 (acc ++ [(qeg rec c).2]) else (c,acc)
def qgs (rec:K->K×N) (c:K):K×N :=
 if (qp c).kind = 2 then ((qg2 rec (em (qg c) + 1) (qg c) []).1,qgr c 2 (qg2 rec (em (qg c) + 1) (qg c) []).2) else qeg rec c
def qej:Nat->K->K×N
 | 0,c=>(c,N0)
 | f + 1, c =>
   if (qf (qgs (qej f) (qb c).1).1 [45,62]).2 = true then
    (qcn (qej f (qf (qgs (qej f) (qb c).1).1 [45,62]).1).1,qiz (qgs (qej f) (qb c).1).2 (qej f (qf (qgs (qej f) (qb c).1).1 [45,62]).1).2)
   else (qcn (qgs (qej f) (qb c).1).1,(qgs (qej f) (qb c).1).2)
section
variable {rec:K->K×N} (hm:∀ c,Mon c (rec c).1)
include hm
theorem qqt (c:K):Mon (qh (qb c).1 [40]).1 (qcn (qh (rec (qh (qb c).1 [40]).1).1 [41]).1):=((hm _).trans (qe _ _)).trans (qba _)
theorem qkt (c:K):Mon c (qeg rec c).1:=by
 unfold qeg
 split
 ·split
  ·exact qbj c
  ·split
   ·exact qbj c
   ·split
    ·exact ((qo c).trans (qe _ _)).trans (qqt hm c)
    ·exact qc3 c 5
 ·exact Mon.refl c
theorem qnl {c:K} (h:begT c = true):em (qeg rec c).1 < em c:=by
 unfold qeg
 rw [if_pos (qbga h)]
 split
 ·exact qow (by omega)
 ·split
  ·exact qow (by omega)
  ·rename_i h1 h2
   have hk:isK c [40] = true:=by simpa only [begT,decide_eq_false h1,decide_eq_false h2,Bool.false_or] using h
   rw [if_pos hk]
   have h3:=qlr hk
   have h4:=(qqt hm c).em
   simp only;omega
theorem qpj:∀ (f:Nat) (c:K) (acc:List N),Mon c (qg2 rec f c acc).1
 | 0,c,acc=>Mon.refl c
 | f + 1, c, acc => by
   rw [qg2]
   split
   ·exact (qkt hm c).trans (qpj f _ _)
   ·exact Mon.refl c
theorem qr5 (c:K):Mon c (qgs rec c).1:=by
 unfold qgs
 split
 ·exact (qbj c).trans (qpj hm _ _ _)
 ·exact qkt hm c
end
theorem qea:∀ (f:Nat) (c:K),Mon c (qej f c).1
 | 0,c=>Mon.refl c
 | f + 1, c => by
   have hr:=(qo c).trans (qr5 (qea f) (qb c).1)
   rw [qej]
   split
   ·exact ((hr.trans (qm _ _)).trans (qea f _)).trans (qba _)
   ·exact hr.trans (qba _)

/-! The program. -/

def qis (rec:K->K×N) (c:K):K×N:=((qeg rec (kindK c 2).1).1,qp0 (qen c 2) (qeg rec (kindK c 2).1).2)
def qi3 (rec:K->K×N):Nat->K->List N->K×List N
 | 0,c,acc=>(c,acc)
 | f + 1, c, acc =>
   if (qf (qis rec c).1 [44]).2 = true then qi3 rec f (qf (qis rec c).1 [44]).1 (acc ++ [(qis rec c).2])
   else ((qis rec c).1,acc ++ [(qis rec c).2])
def qi4 (rec:K->K×N) (c:K):K×List N :=
 if isK c [41] = true then (c,[]) else qi3 rec (em c + 2) c []
def qid (rec:K->K×N) (c:K):K×List N :=
 if qll c [61,62] = true then
  if (qf c [40]).2 = true then ((qh (qh (qi4 rec (qf c [40]).1).1 [41]).1 [61,62]).1,(qi4 rec (qf c [40]).1).2)
  else ((qh (qis rec c).1 [61,62]).1,[(qis rec c).2])
 else (c,[])
section
variable {rec:K->K×N} (hm:∀ c,Mon c (rec c).1)
include hm
theorem qjn (c:K):Mon c (qis rec c).1:=(qbp c 2).trans (qkt hm _)
theorem qn9:∀ (f:Nat) (c:K) (acc:List N),Mon c (qi3 rec f c acc).1
 | 0,c,acc=>Mon.refl c
 | f + 1, c, acc => by
   rw [qi3]
   split
   ·exact ((qjn hm c).trans (qm _ _)).trans (qn9 f _ _)
   ·exact qjn hm c
theorem qxg (c:K):Mon c (qi4 rec c).1:=by
 unfold qi4
 split
 ·exact Mon.refl c
 ·exact qn9 hm _ _ _
theorem qo8 (c:K):Mon c (qid rec c).1:=by
 unfold qid
 split
 ·split
  ·exact (((qm c _).trans (qxg hm _)).trans (qe _ _)).trans (qe _ _)
  ·exact (qjn hm c).trans (qe _ _)
 ·exact Mon.refl c
end
def qxu (f:Nat) (c:K):K×N:=((qej f (qid (qej f) c).1).1,qp3 (qp c).pos (qid (qej f) c).2 (qej f (qid (qej f) c).1).2)

def qdz {α:Type} (p:K×Option α) (r:K×α):Prop:=p.1 = r.1∧(∀ n,p.2 = some n->n = r.2)∧(p.2 = none->p.1.err≠0)
theorem qlj {rec:K->K×N} {c:K} (h:c.err≠0):qeg rec c = (c,N0):=if_neg h
theorem q15 {rec:K->K×N} {c:K} (h:c.err≠0) (f:Nat) (acc:List N):qg2 rec f c acc = (c,acc):=by
 cases f with
 | zero=>rfl
 | succ f=>rw [qg2,if_neg (by rw [qbfb h];simp)]
theorem qrd {rec:K->K×N} {c:K} (h:c.err≠0):qgs rec c = (c,N0):=by
 rw [qgs,qhm h,if_neg (by decide),qlj h]
theorem qiv (f:Nat) {c:K} (h:c.err≠0):qej f c = (c,N0):=by
 cases f with
 | zero=>rfl
 | succ f=>rw [qej,ql2 h,qrd h,qer h,if_neg (by simp),qci h]
section
variable {rp:K->K×Option N} {rr:K->K×N} {b:Nat} (hx:∀ c:K,c.err≠0->(rr c).1 = c) (ih:∀ c,em c < b->qdz (rp c) (rr c))
include hx ih
theorem qjg {c:K} (hr:em c≤b):qdz (qbg rp c) (qeg rr c):=by
 by_cases h0:c.err = 0
 ·unfold qbg qeg
  rw [if_pos h0]
  by_cases h1:(qp c).kind = 1
  ·rw [if_pos h1,if_pos h1];exact ⟨rfl,(fun n h=>by cases h;rfl),(fun h=>by cases h)⟩
  ·rw [if_neg h1,if_neg h1]
   by_cases h2:(qp c).kind = 2
   ·rw [if_pos h2,if_pos h2];exact ⟨rfl,(fun n h=>by cases h;rfl),(fun h=>by cases h)⟩
   ·rw [if_neg h2,if_neg h2]
    by_cases hk:isK c [40] = true
    ·rw [if_pos hk,if_pos hk]
     have hem:=qlr hk
     by_cases he:(qb c).2 = true
     ·rw [if_pos he]
      have hk':isK (qb c).1 [40] = true:=by rw [qqn he];exact hk
      rw [qqu hk'] at hem ⊢
      simp only at hem ⊢
      obtain ⟨a1,a2,a3⟩:=ih (qg (qb c).1) (by omega)
      rw [← a1]
      generalize rp (qg (qb c).1) = r at *
      obtain ⟨d,o⟩:=r
      simp only at a1 a2 a3 ⊢
      cases o with
      | none =>
        have h3:=a3 rfl
        rw [if_neg (by simp),qbr h3,qci h3]
        exact ⟨rfl,(fun n h=>by cases h),fun _=>h3⟩
      | some n =>
        rw [if_pos (by rfl)]
        by_cases hw:(qh d [41]).2 = true
        ·rw [if_pos hw]
         exact ⟨rfl,fun m h=>a2 m h,(fun h=>by cases h)⟩
        ·rw [if_neg hw]
         have h3:=qdk (by simpa using hw)
         exact ⟨rfl,(fun n h=>by cases h),fun _=>by simp only;rw [qci h3];exact h3⟩
     ·have he':(qb c).2 = false:=by simpa using he
      have h1:=qgf he'
      rw [if_neg he]
      rw [qbr h1] at hem ⊢
      simp only at hem ⊢
      rw [hx _ h1,qbr h1,qci h1]
      exact ⟨rfl,(fun n h=>by cases h),fun _=>h1⟩
    ·rw [if_neg hk,if_neg hk]
     exact ⟨rfl,(fun n h=>by cases h),fun _=>qf8 c⟩
 ·rw [qlj h0,qbg,qhm h0,if_neg (by decide),if_neg (by decide),if_neg (by rw [q3m h0];simp),qfj h0]
  exact ⟨rfl,(fun n h=>by cases h),fun _=>h0⟩
theorem qtn (hp:∀ c,Mon c (rp c).1) (hm:∀ c,Mon c (rr c).1):∀ (f g:Nat) (c:K) (acc:List N),rest c < f->em c < g->em c≤b->qdz (qcq rp f c acc) (qg2 rr g c acc)
 | 0,_,_,_=>fun h _ _=>by omega
 | _,0,_,_=>fun _ h _=>by omega
 | f + 1, g + 1, c, acc => fun hf hg hb => by
   rw [qcq,qg2]
   by_cases hk:begT c = true
   ·rw [if_pos hk,if_pos hk]
    obtain ⟨a1,a2,a3⟩:=qjg hx ih hb
    have hl:=qnl hm hk
    rw [← a1] at hl ⊢
    cases ho:(qbg rp c).2 with
    | none =>
      have h3:=a3 ho
      rw [if_neg (by simp),q15 h3]
      exact ⟨rfl,(fun n h=>by cases h),fun _=>h3⟩
    | some n =>
      rw [if_pos (by rfl),← a2 n ho]
      exact qtn hp hm f g _ _ (by have:=qd0 hp (c:=c) (by rw [ho];rfl);omega) (by omega) (by omega)
   ·rw [if_neg hk,if_neg hk]
    exact ⟨rfl,(fun l h=>by cases h;rfl),(fun h=>by cases h)⟩
theorem q8x (hp:∀ c,Mon c (rp c).1) (hm:∀ c,Mon c (rr c).1) {c:K} (hr:em c≤b):qdz (qbq rp c) (qgs rr c):=by
 unfold qbq qgs
 by_cases hk:(qp c).kind = 2
 ·rw [if_pos hk,if_pos hk]
  have h1:=qbb (c:=c) (by omega)
  have h2:=qow (c:=c) (by omega)
  obtain ⟨a1,a2,a3⟩:=qtn hx ih hp hm (rest c + 1) (em (qg c) + 1) (qg c) [] (by omega) (by omega) (by omega)
  refine ⟨a1,fun n h=>?_,fun h=>a3 (by simpa using h)⟩
  obtain ⟨l,hl,rfl⟩:=Option.map_eq_some_iff.1 h
  rw [a2 l hl]
 ·rw [if_neg hk,if_neg hk]
  exact qjg hx ih hr
theorem qu4 {c:K} (hr:em c≤b):qdz (qz rp c) (qis rr c):=by
 have h1:=(qbp c 2).em
 obtain ⟨a1,a2,a3⟩:=qjg hx ih (c:=(kindK c 2).1) (by omega)
 unfold qz qis
 by_cases hk:(kindK c 2).2 = true
 ·rw [if_pos hk]
  refine ⟨a1,fun n h=>?_,fun h=>a3 (by simpa using h)⟩
  obtain ⟨m,hm,rfl⟩:=Option.map_eq_some_iff.1 h
  rw [a2 m hm]
 ·rw [if_neg hk]
  have h2:=qnt (c:=c) (k:=2) (by simpa using hk)
  rw [qlj h2]
  exact ⟨rfl,(fun n h=>by cases h),fun _=>h2⟩
end
theorem qk1:∀ (f:Nat) (c:K),em c < f->qdz (qbe f c) (qej f c)
 | 0,_=>fun h=>by omega
 | f + 1, c => fun hf => by
   have ih:=qk1 f
   have hx:∀ c:K,c.err≠0->(qej f c).1 = c:=fun c h=>by rw [qiv f h]
   rw [qbe,qej]
   by_cases he:(qb c).2 = true
   ·have h1:=(qo c).em
    rw [if_pos he]
    obtain ⟨a1,a2,a3⟩:=q8x hx ih (qbv f) (qea f) (c:=(qb c).1) (by omega)
    have hl:=(qr5 (qea f) (qb c).1).em
    rw [← a1] at hl ⊢
    cases ho:(qbq (qbe f) (qb c).1).2 with
    | none =>
      have h3:=a3 ho
      rw [if_neg (by simp),qer h3,if_neg (by simp)]
      exact ⟨rfl,(fun n h=>by cases h),fun _=>by simp only;rw [qci h3];exact h3⟩
    | some n =>
      rw [if_pos (by rfl),← a2 n ho]
      by_cases ht:(qf (qbq (qbe f) (qb c).1).1 [45,62]).2 = true
      ·rw [if_pos ht,if_pos ht]
       have h5:=qil ht
       obtain ⟨b1,b2,b3⟩:=ih (qf (qbq (qbe f) (qb c).1).1 [45,62]).1 (by omega)
       refine ⟨by simp only;rw [b1],fun m h=>?_,fun h=>?_⟩
       ·obtain ⟨q,hq,rfl⟩:=Option.map_eq_some_iff.1 h
        rw [b2 q hq];rfl
       ·have h6:=b3 (by simpa using h)
        simp only
        rw [qci h6];exact h6
      ·rw [if_neg ht,if_neg ht]
       exact ⟨rfl,(fun m h=>by cases h;rfl),(fun h=>by cases h)⟩
   ·have he':(qb c).2 = false:=by simpa using he
    have h1:=qgf he'
    rw [if_neg he,qrd h1,qer h1,if_neg (by simp),qci h1]
    exact ⟨rfl,(fun n h=>by cases h),fun _=>h1⟩
section
variable {rp:K->K×Option N} {rr:K->K×N} {b:Nat} (hx:∀ c:K,c.err≠0->(rr c).1 = c) (ih:∀ c,em c < b->qdz (rp c) (rr c)) (hp:∀ c,Mon c (rp c).1) (hm:∀ c,Mon c (rr c).1)
include hx ih hp hm
theorem qpp:∀ (f g:Nat) (c:K) (acc:List N),rest c < f->em c < g->em c≤b->qdz (qdc rp true f c acc) (qi3 rr g c acc)
 | 0,_,_,_=>fun h _ _=>by omega
 | _,0,_,_=>fun _ h _=>by omega
 | f + 1, g + 1, c, acc => fun hf hg hb => by
   rw [qdc,qi3]
   obtain ⟨a1,a2,a3⟩:=qu4 hx ih hb
   have hl:=(qjn hm c).em
   rw [← a1] at hl ⊢
   cases ho:(qz rp c).2 with
   | none =>
     have h3:=a3 ho
     rw [if_neg (by simp),qer h3,if_neg (by simp)]
     exact ⟨rfl,(fun n h=>by cases h),fun _=>h3⟩
   | some n =>
     rw [if_pos (by rfl),Bool.true_and,← a2 n ho]
     by_cases ht:(qf (qz rp c).1 [44]).2 = true
     ·rw [if_pos ht,if_pos ht]
      have h5:=qil ht
      have h6:=qky hp (c:=c) (by rw [ho];rfl)
      have h7:=(qm (qz rp c).1 [44]).2.1
      exact qpp f g _ _ (by omega) (by omega) (by omega)
     ·rw [if_neg ht,if_neg ht]
      exact ⟨rfl,(fun l h=>by cases h;rfl),(fun h=>by cases h)⟩
theorem qte {c:K} (hg:∀ t∈c.l,t.kind≠0) (hr:em c≤b):qdz (qt rp c) (qid rr c):=by
 unfold qt qid
 by_cases ha:qll c [61,62] = true
 ·rw [if_pos ha,if_pos ha]
  unfold qek
  by_cases ht:(qf c [40]).2 = true
  ·rw [if_pos ht,ht,Bool.true_and]
   have h5:=qil ht
   have hB:qdz (if isK (qf c [40]).1 [41] = true then ((qf c [40]).1,some []) else qdc rp true (rest (qf c [40]).1 + 1) (qf c [40]).1 []) (qi4 rr (qf c [40]).1):=by
    unfold qi4
    split
    ·exact ⟨rfl,(fun l h=>by cases h;rfl),(fun h=>by cases h)⟩
    ·exact qpp hx ih hp hm _ _ _ _ (by omega) (by omega) (by omega)
   obtain ⟨a1,a2,a3⟩:=hB
   generalize (if isK (qf c [40]).1 [41] = true then ((qf c [40]).1,some []) else qdc rp true (rest (qf c [40]).1 + 1) (qf c [40]).1 []) = p at *
   rw [← a1]
   unfold qel
   cases ho:p.2 with
   | none =>
     have h3:=a3 ho
     rw [if_neg (by simp),qbr h3,qbr h3]
     exact ⟨rfl,(fun n h=>by cases h),fun _=>h3⟩
   | some l =>
     rw [if_pos (by rfl),if_pos rfl,← a2 l ho]
     by_cases hw:(qh p.1 [41]).2 = true
     ·rw [if_pos hw]
      by_cases hw2:(qh (qh p.1 [41]).1 [61,62]).2 = true
      ·rw [if_pos hw2];exact ⟨rfl,(fun m h=>by cases h;rfl),(fun h=>by cases h)⟩
      ·rw [if_neg hw2]
       exact ⟨rfl,(fun n h=>by cases h),fun _=>qdk (by simpa using hw2)⟩
     ·rw [if_neg hw]
      have h3:=qdk (c:=p.1) (x:=[41]) (by simpa using hw)
      rw [qbr h3]
      exact ⟨rfl,(fun n h=>by cases h),fun _=>h3⟩
  ·have ht':(qf c [40]).2 = false:=by simpa using ht
   have hsm:=qdh ht'
   rw [if_neg ht,ht',hsm,Bool.false_and,if_neg (by simp)]
   unfold qel
   obtain ⟨a1,a2,a3⟩:=qu4 hx ih hr
   rw [qdc,← a1]
   cases ho:(qz rp c).2 with
   | none =>
     have h3:=a3 ho
     rw [if_neg (by simp),if_neg (by simp),qbr h3]
     exact ⟨rfl,(fun n h=>by cases h),fun _=>h3⟩
   | some n =>
     rw [if_pos (by rfl),Bool.false_and,if_neg (by simp),if_pos (by rfl),if_neg (by simp),← a2 n ho]
     simp only [Option.getD_some,List.nil_append]
     by_cases hw:(qh (qz rp c).1 [61,62]).2 = true
     ·rw [if_pos hw];exact ⟨rfl,(fun m h=>by cases h;rfl),(fun h=>by cases h)⟩
     ·rw [if_neg hw]
      exact ⟨rfl,(fun n h=>by cases h),fun _=>qdk (by simpa using hw)⟩
 ·rw [if_neg ha,if_neg ha]
  by_cases he:c.err = 0
  ·have hf:qon c = false:=by
    unfold qon
    by_cases hl:c.at' < c.l.length
    ·have hk:(qp c).kind≠0:=by rw [qm5 he (by omega)];exact hg _ (q53 hl)
     rw [qxh he (by omega),decide_eq_false hk];rfl
    ·rw [qta he (by omega)];rfl
   rw [hf]
   exact ⟨rfl,(fun m h=>by cases h;rfl),(fun h=>by cases h)⟩
  ·have hf:qon c = true:=by
    unfold qon
    rw [qt6 he,qhm he]
    simp [he,T0]
   rw [hf]
   exact ⟨rfl,(fun m h=>by cases h),fun _=>he⟩
end
theorem q8o (f:Nat) (c:K) (hg:∀ t∈c.l,t.kind≠0) (hr:em c < f):qdz (qdq f c) (qxu f c):=by
 have hx:∀ c:K,c.err≠0->(qej f c).1 = c:=fun c h=>by rw [qiv f h]
 obtain ⟨a1,a2,a3⟩:=qte hx (qk1 f) (qbv f) (qea f) hg (b:=f) (by omega)
 have hl:=(qo8 (qea f) c).em
 unfold qdq qxu
 rw [← a1] at hl ⊢
 cases ho:(qt (qbe f) c).2 with
 | none =>
   have h3:=a3 ho
   rw [if_neg (by simp),qiv f h3]
   exact ⟨rfl,(fun n h=>by cases h),fun _=>h3⟩
 | some l =>
   rw [if_pos (by rfl),← a2 l ho]
   obtain ⟨b1,b2,b3⟩:=qk1 f (qt (qbe f) c).1 (by omega)
   refine ⟨b1,fun m h=>?_,fun h=>b3 (by simpa using h)⟩
   obtain ⟨q,hq,rfl⟩:=Option.map_eq_some_iff.1 h
   rw [b2 q hq];rfl
theorem qro:∀ {l:List T} {t:T},t∈qem l->t.kind≠0
 | [],t,h=>by simp [qem] at h
 | u :: r, t, h => by
   rw [qem] at h
   split at h
   ·simp at h
   ·rename_i hk
    rcases List.mem_cons.1 h with rfl | h
    ·exact hk
    ·exact qro h

theorem q67 {c:K} (h:(qhc c).isSome = true):c.err = 0∧rest (qg c) + 1 = rest c:=by
 obtain ⟨n,hn⟩:=Option.isSome_iff_exists.1 h
 exact ⟨(qfa (qm7 hn)).1,qbb (qm7 hn)⟩
theorem qbm4 {c:K} (h:begP c = true):c.err = 0:=by
 simp only [begP,Bool.or_eq_true] at h
 rcases h with h | h
 ·exact (q67 h).1
 ·exact q3e h
theorem q6z {c:K} (h:c.err≠0):begP c = false:=by
 cases hb:begP c with
 | false=>rfl
 | true=>exact absurd (qbm4 hb) h
def qgu (rec:K->K×N) (c:K):K×N :=
 if begP c = true then
  if isK c [40] = true then (qcn (qh (rec (qh (qb c).1 [40]).1).1 [41]).1,(rec (qh (qb c).1 [40]).1).2)
  else (qg c,(qhc c).getD N0)
 else (qd9 c 5,N0)
def qin (rec:K->K×N):Nat->K->List N->K×List N
 | 0,c,acc=>(c,acc)
 | f + 1,c,acc=>if begP c = true then qin rec f (qgu rec c).1 (acc ++ [(qgu rec c).2]) else (c,acc)
def qog:Nat->K->K×N
 | 0,c=>(c,N0)
 | f + 1, c =>
   if (qp (qb c).1).kind = 2 then
    (qcn (qin (qog f) (em (qg (qb c).1) + 1) (qg (qb c).1) []).1,.mk 14 (qp (qb c).1).pos 0 (qp (qb c).1).text (qin (qog f) (em (qg (qb c).1) + 1) (qg (qb c).1) []).2)
   else (qcn (qgu (qog f) (qb c).1).1,(qgu (qog f) (qb c).1).2)
section
variable {rec:K->K×N} (hm:∀ c,Mon c (rec c).1)
include hm
theorem q06 (c:K):Mon (qh (qb c).1 [40]).1 (qcn (qh (rec (qh (qb c).1 [40]).1).1 [41]).1):=((hm _).trans (qe _ _)).trans (qba _)
theorem qt3 (c:K):Mon c (qgu rec c).1:=by
 unfold qgu
 split
 ·split
  ·exact ((qo c).trans (qe _ _)).trans (q06 hm c)
  ·exact qbj c
 ·exact qc3 c 5
theorem q08 {c:K} (h:begP c = true):em (qgu rec c).1 < em c:=by
 unfold qgu
 rw [if_pos h]
 split
 ·have h1:=qlr (c:=c) (by assumption)
  have h2:=(q06 hm c).em
  simp only;omega
 ·rename_i hk
  have h1:=q67 (c:=c) (by simpa [begP,hk] using h)
  have h2:=q04 (qg c)
  rw [qbwo h1.1]
  simp only;omega
theorem qsl:∀ (f:Nat) (c:K) (acc:List N),Mon c (qin rec f c acc).1
 | 0,c,acc=>Mon.refl c
 | f + 1, c, acc => by
   rw [qin]
   split
   ·exact (qt3 hm c).trans (qsl f _ _)
   ·exact Mon.refl c
end
theorem qnc:∀ (f:Nat) (c:K),Mon c (qog f c).1
 | 0,c=>Mon.refl c
 | f + 1, c => by
   rw [qog]
   split
   ·exact (((qo c).trans (qbj _)).trans (qsl (qnc f) _ _ _)).trans (qba _)
   ·exact ((qo c).trans (qt3 (qnc f) _)).trans (qba _)

/-! The program. -/
/-! What both read. -/
theorem qs2 {rec:K->K×N} {c:K} (h:c.err≠0):qgu rec c = (c,N0):=by
 rw [qgu,if_neg (by rw [q6z h];simp),qfj h]
theorem q3p {rec:K->K×N} {c:K} (h:c.err≠0) (f:Nat) (acc:List N):qin rec f c acc = (c,acc):=by
 cases f with
 | zero=>rfl
 | succ f=>rw [qin,if_neg (by rw [q6z h];simp)]
theorem qyy (f:Nat) {c:K} (h:c.err≠0):qog f c = (c,N0):=by
 cases f with
 | zero=>rfl
 | succ f=>rw [qog,ql2 h,qhm h,if_neg (by decide),qs2 h,qci h]
section
variable {rp:K->K×Option N} {rr:K->K×N} {b:Nat} (hx:∀ c:K,c.err≠0->(rr c).1 = c) (ih:∀ c,em c < b->qdz (rp c) (rr c))
include hx ih
theorem qvb {c:K} (hr:em c≤b):qdz (qbk rp c) (qgu rr c):=by
 unfold qbk qgu
 by_cases hl:(qhc c).isSome = true
 ·have hk:¬ isK c [40] = true:=by
   intro h
   obtain ⟨n,hn⟩:=Option.isSome_iff_exists.1 hl
   simp only [isK,qcg,Bool.and_eq_true,Bool.or_eq_true,decide_eq_true_eq] at h
   unfold qhc at hn
   rw [if_neg (by omega),if_neg (by omega),if_neg (by omega),if_neg (by simp [isK,qcg,h.2.2])] at hn
   cases hn
  rw [if_pos hl,if_pos (show begP c = true by simp [begP,hl]),if_neg hk]
  exact ⟨rfl,fun n h=>by simp only at h ⊢;rw [h];rfl,fun h=>by simp only at h;rw [h] at hl;cases hl⟩
 ·rw [if_neg hl]
  by_cases hk:isK c [40] = true
  ·rw [if_pos hk,if_pos (show begP c = true by simp [begP,hk]),if_pos hk]
   have hem:=qlr hk
   by_cases he:(qb c).2 = true
   ·rw [if_pos he]
    have hk':isK (qb c).1 [40] = true:=by rw [qqn he];exact hk
    rw [qqu hk'] at hem ⊢
    simp only at hem ⊢
    obtain ⟨a1,a2,a3⟩:=ih (qg (qb c).1) (by omega)
    rw [← a1]
    generalize rp (qg (qb c).1) = r at *
    obtain ⟨d,o⟩:=r
    simp only at a1 a2 a3 ⊢
    cases o with
    | none =>
      have h3:=a3 rfl
      rw [if_neg (by simp),qbr h3,qci h3]
      exact ⟨rfl,(fun n h=>by cases h),fun _=>h3⟩
    | some n =>
      rw [if_pos (by rfl)]
      by_cases hw:(qh d [41]).2 = true
      ·rw [if_pos hw]
       exact ⟨rfl,fun m h=>a2 m h,(fun h=>by cases h)⟩
      ·rw [if_neg hw]
       have h3:=qdk (by simpa using hw)
       exact ⟨(qci h3).symm,(fun n h=>by cases h),fun _=>h3⟩
   ·have he':(qb c).2 = false:=by simpa using he
    have h1:=qgf he'
    rw [if_neg he]
    rw [qbr h1] at hem ⊢
    simp only at hem ⊢
    rw [hx _ h1,qbr h1,qci h1]
    exact ⟨rfl,(fun n h=>by cases h),fun _=>h1⟩
  ·rw [if_neg hk,if_neg (show ¬ begP c = true by simp [begP,hl,hk])]
   exact ⟨rfl,(fun n h=>by cases h),fun _=>qf8 c⟩
theorem qu7 (hp:∀ c,Mon c (rp c).1) (hm:∀ c,Mon c (rr c).1):∀ (f g:Nat) (c:K) (acc:List N),rest c < f->em c < g->em c≤b →
 (qew rp f c acc).1 = (qin rr g c acc).1∧(∀ l,(qew rp f c acc).2 = some l->l = (qin rr g c acc).2)∧((qew rp f c acc).2 = none->(qew rp f c acc).1.err≠0)
 | 0,_,_,_=>fun h _ _=>by omega
 | _,0,_,_=>fun _ h _=>by omega
 | f + 1, g + 1, c, acc => fun hf hg hb => by
   rw [qew,qin]
   by_cases hk:begP c = true
   ·rw [if_pos hk,if_pos hk]
    obtain ⟨a1,a2,a3⟩:=qvb hx ih hb
    have hl:=q08 hm hk
    rw [← a1] at hl ⊢
    cases ho:(qbk rp c).2 with
    | none =>
      have h3:=a3 ho
      rw [if_neg (by simp),q3p h3]
      exact ⟨rfl,(fun n h=>by cases h),fun _=>h3⟩
    | some n =>
      rw [if_pos (by rfl),← a2 n ho]
      exact qu7 hp hm f g _ _ (by have:=qtj hp (c:=c) (by rw [ho];rfl);omega) (by omega) (by omega)
   ·rw [if_neg hk,if_neg hk]
    exact ⟨rfl,(fun l h=>by cases h;rfl),(fun h=>by cases h)⟩
end
theorem q47:∀ (f:Nat) (c:K),em c < f->qdz (qb6 f c) (qog f c)
 | 0,_=>fun h=>by omega
 | f + 1, c => fun hf => by
   have ih:=q47 f
   have hx:∀ c:K,c.err≠0->(qog f c).1 = c:=fun c h=>by rw [qyy f h]
   by_cases he:(qb c).2 = true
   ·have h1:=(qo c).em
    rw [qb6,qog,if_pos he]
    by_cases hk:(qp (qb c).1).kind = 2
    ·rw [if_pos hk,if_pos hk]
     have hr:=qbb (c:=(qb c).1) (by omega)
     obtain ⟨a1,a2,a3⟩:=qu7 hx ih (qes f) (qnc f) (rest (qb c).1 + 1) (em (qg (qb c).1) + 1) (qg (qb c).1) [] (by omega) (by omega) (by have:=(qbj (qb c).1).em;omega)
     rw [← a1]
     generalize qew (qb6 f) (rest (qb c).1 + 1) (qg (qb c).1) [] = r at *
     obtain ⟨d,o⟩:=r
     cases o with
     | none =>
       have h3:=a3 rfl
       simp only at h3
       refine ⟨rfl,(fun n h=>by cases h),fun _=>?_⟩
       simp only
       rwa [qci h3]
     | some l=>exact ⟨rfl,(fun n h=>by cases h;rw [a2 l rfl]),(fun h=>by cases h)⟩
    ·rw [if_neg hk,if_neg hk]
     obtain ⟨a1,a2,a3⟩:=qvb hx ih (c:=(qb c).1) (by omega)
     rw [← a1]
     exact ⟨rfl,a2,fun h=>by simp only at h ⊢;rw [qci (a3 h)];exact a3 h⟩
   ·have he':(qb c).2 = false:=by simpa using he
    have h1:=qgf he'
    rw [qb6,if_neg he,qog,qhm h1,if_neg (by decide),qs2 h1]
    exact ⟨(qci h1).symm,(fun n h=>by cases h),fun _=>h1⟩
end Go.Proofs.YtlmcofjcpadmiaaGreat
