/- Texts of this proof, joined. -/
import Derived.Test.YtfjbmjplnmaclaaJav
import Derived.Test.YtfjbmjplnmaclaaJaw
set_option linter.unusedVariables false
set_option linter.unusedSimpArgs false

/- types: the reference -/
namespace Go.Proofs.Ytfjbmjplnmaclaa
open Go Go.RowKit Go.V

theorem ql5 {c:K} (h:(qi c).kind≠0):em (qg c) < em c:=by
 have h1:=qy h
 rw [qbtk (qe8 h).1]
 have:=qu5 (qg c)
 omega
theorem qh9 {c:K} {x:List UInt8} (h:(qd c x).2 = true):em (qd c x).1 < em c:=by
 unfold qd at h ⊢
 split at h
 ·rename_i h1
  rw [if_pos h1]
  exact ql5 (qda h1)
 ·cases h
theorem qjz {c:K} (h:isK c [40] = true):em (qc (qa c).1 [40]).1 < em c:=by
 rw [qbtk (qxk h)]
 cases he:(qa c).2 with
 | false=>rw [qbj (qfi he),qbxl (qfi he)];omega
 | true =>
   have h1:isK (qa c).1 [40] = true:=by rw [qfb he];exact h
   have h2:=qy (qda h1)
   have h3:=(qo c).2.1
   have h4:=qu5 (qg (qa c).1)
   rw [qib h1]
   simp only;omega
def qdu (rec:K->K×N) (c:K):K×N :=
 if c.err = 0 then
  if (qi c).kind = 1 then (qg c,qhq c 1 [])
  else if (qi c).kind = 2 then (qg c,qhq c 2 [])
  else if isK c [40] = true then (qb4 (qc (rec (qc (qa c).1 [40]).1).1 [41]).1,(rec (qc (qa c).1 [40]).1).2)
  else (qdy c 5,N0)
 else (c,N0)
def qf5 (rec:K->K×N):Nat->K->List N->K×List N
 | 0,c,acc=>(c,acc)
 | f + 1,c,acc=>if begT c = true then qf5 rec f (qdu rec c).1 (acc ++ [(qdu rec c).2]) else (c,acc)
def qfp (rec:K->K×N) (c:K):K×N :=
 if (qi c).kind = 2 then ((qf5 rec (em (qg c) + 1) (qg c) []).1,qhq c 2 (qf5 rec (em (qg c) + 1) (qg c) []).2) else qdu rec c
def qd1:Nat->K->K×N
 | 0,c=>(c,N0)
 | f + 1, c =>
   if (qd (qfp (qd1 f) (qa c).1).1 [45,62]).2 = true then
    (qb4 (qd1 f (qd (qfp (qd1 f) (qa c).1).1 [45,62]).1).1,qkg (qfp (qd1 f) (qa c).1).2 (qd1 f (qd (qfp (qd1 f) (qa c).1).1 [45,62]).1).2)
   else (qb4 (qfp (qd1 f) (qa c).1).1,(qfp (qd1 f) (qa c).1).2)
section
variable {rec:K->K×N} (hm:∀ c,Mon c (rec c).1)
include hm
theorem qnk (c:K):Mon (qc (qa c).1 [40]).1 (qb4 (qc (rec (qc (qa c).1 [40]).1).1 [41]).1):=((hm _).trans (qe _ _)).trans (qx _)
theorem qi7 (c:K):Mon c (qdu rec c).1:=by
 unfold qdu
 split
 ·split
  ·exact qbd c
  ·split
   ·exact qbd c
   ·split
    ·exact ((qo c).trans (qe _ _)).trans (qnk hm c)
    ·exact qdx c 5
 ·exact Mon.refl c
theorem qlx {c:K} (h:begT c = true):em (qdu rec c).1 < em c:=by
 unfold qdu
 rw [if_pos (q5v h)]
 split
 ·exact ql5 (by omega)
 ·split
  ·exact ql5 (by omega)
  ·rename_i h1 h2
   have hk:isK c [40] = true:=by simpa only [begT,decide_eq_false h1,decide_eq_false h2,Bool.false_or] using h
   rw [if_pos hk]
   have h3:=qjz hk
   have h4:=(qnk hm c).em
   simp only;omega
theorem qna:∀ (f:Nat) (c:K) (acc:List N),Mon c (qf5 rec f c acc).1
 | 0,c,acc=>Mon.refl c
 | f + 1, c, acc => by
   rw [qf5]
   split
   ·exact (qi7 hm c).trans (qna f _ _)
   ·exact Mon.refl c
theorem qpr (c:K):Mon c (qfp rec c).1:=by
 unfold qfp
 split
 ·exact (qbd c).trans (qna hm _ _ _)
 ·exact qi7 hm c
end
theorem qdp:∀ (f:Nat) (c:K),Mon c (qd1 f c).1
 | 0,c=>Mon.refl c
 | f + 1, c => by
   have hr:=(qo c).trans (qpr (qdp f) (qa c).1)
   rw [qd1]
   split
   ·exact ((hr.trans (qn _ _)).trans (qdp f _)).trans (qx _)
   ·exact hr.trans (qx _)

/-! The program. -/

def qhb (rec:K->K×N) (c:K):K×N:=((qdu rec (kindK c 2).1).1,qtr (qex c 2) (qdu rec (kindK c 2).1).2)
def qht (rec:K->K×N):Nat->K->List N->K×List N
 | 0,c,acc=>(c,acc)
 | f + 1, c, acc =>
   if (qd (qhb rec c).1 [44]).2 = true then qht rec f (qd (qhb rec c).1 [44]).1 (acc ++ [(qhb rec c).2])
   else ((qhb rec c).1,acc ++ [(qhb rec c).2])
def qhm (rec:K->K×N) (c:K):K×List N :=
 if isK c [41] = true then (c,[]) else qht rec (em c + 2) c []
def qg5 (rec:K->K×N) (c:K):K×List N :=
 if qgv c [61,62] = true then
  if (qd c [40]).2 = true then ((qc (qc (qhm rec (qd c [40]).1).1 [41]).1 [61,62]).1,(qhm rec (qd c [40]).1).2)
  else ((qc (qhb rec c).1 [61,62]).1,[(qhb rec c).2])
 else (c,[])
section
variable {rec:K->K×N} (hm:∀ c,Mon c (rec c).1)
include hm
theorem qhz (c:K):Mon c (qhb rec c).1:=(qbw c 2).trans (qi7 hm _)
theorem qlt:∀ (f:Nat) (c:K) (acc:List N),Mon c (qht rec f c acc).1
 | 0,c,acc=>Mon.refl c
 | f + 1, c, acc => by
   rw [qht]
   split
   ·exact ((qhz hm c).trans (qn _ _)).trans (qlt f _ _)
   ·exact qhz hm c
theorem qth (c:K):Mon c (qhm rec c).1:=by
 unfold qhm
 split
 ·exact Mon.refl c
 ·exact qlt hm _ _ _
theorem qm8 (c:K):Mon c (qg5 rec c).1:=by
 unfold qg5
 split
 ·split
  ·exact (((qn c _).trans (qth hm _)).trans (qe _ _)).trans (qe _ _)
  ·exact (qhz hm c).trans (qe _ _)
 ·exact Mon.refl c
end
def qsg (f:Nat) (c:K):K×N:=((qd1 f (qg5 (qd1 f) c).1).1,qqx (qi c).pos (qg5 (qd1 f) c).2 (qd1 f (qg5 (qd1 f) c).1).2)

def qdj {α:Type} (p:K×Option α) (r:K×α):Prop:=p.1 = r.1∧(∀ n,p.2 = some n->n = r.2)∧(p.2 = none->p.1.err≠0)
theorem qi0 {rec:K->K×N} {c:K} (h:c.err≠0):qdu rec c = (c,N0):=if_neg h
theorem qv5 {rec:K->K×N} {c:K} (h:c.err≠0) (f:Nat) (acc:List N):qf5 rec f c acc = (c,acc):=by
 cases f with
 | zero=>rfl
 | succ f=>rw [qf5,if_neg (by rw [q87 h];simp)]
theorem qqa {rec:K->K×N} {c:K} (h:c.err≠0):qfp rec c = (c,N0):=by
 rw [qfp,qgo h,if_neg (by decide),qi0 h]
theorem qho (f:Nat) {c:K} (h:c.err≠0):qd1 f c = (c,N0):=by
 cases f with
 | zero=>rfl
 | succ f=>rw [qd1,qjq h,qqa h,qd9 h,if_neg (by simp),qb8 h]
section
variable {rp:K->K×Option N} {rr:K->K×N} {b:Nat} (hx:∀ c:K,c.err≠0->(rr c).1 = c) (ih:∀ c,em c < b->qdj (rp c) (rr c))
include hx ih
theorem qh0 {c:K} (hr:em c≤b):qdj (qbc rp c) (qdu rr c):=by
 by_cases h0:c.err = 0
 ·unfold qbc qdu
  rw [if_pos h0]
  by_cases h1:(qi c).kind = 1
  ·rw [if_pos h1,if_pos h1];exact ⟨rfl,(fun n h=>by cases h;rfl),(fun h=>by cases h)⟩
  ·rw [if_neg h1,if_neg h1]
   by_cases h2:(qi c).kind = 2
   ·rw [if_pos h2,if_pos h2];exact ⟨rfl,(fun n h=>by cases h;rfl),(fun h=>by cases h)⟩
   ·rw [if_neg h2,if_neg h2]
    by_cases hk:isK c [40] = true
    ·rw [if_pos hk,if_pos hk]
     have hem:=qjz hk
     by_cases he:(qa c).2 = true
     ·rw [if_pos he]
      have hk':isK (qa c).1 [40] = true:=by rw [qfb he];exact hk
      rw [qib hk'] at hem ⊢
      simp only at hem ⊢
      obtain ⟨a1,a2,a3⟩:=ih (qg (qa c).1) (by omega)
      rw [← a1]
      generalize rp (qg (qa c).1) = r at *
      obtain ⟨d,o⟩:=r
      simp only at a1 a2 a3 ⊢
      cases o with
      | none =>
        have h3:=a3 rfl
        rw [if_neg (by simp),qbj h3,qb8 h3]
        exact ⟨rfl,(fun n h=>by cases h),fun _=>h3⟩
      | some n =>
        rw [if_pos (by rfl)]
        by_cases hw:(qc d [41]).2 = true
        ·rw [if_pos hw]
         exact ⟨rfl,fun m h=>a2 m h,(fun h=>by cases h)⟩
        ·rw [if_neg hw]
         have h3:=qc4 (by simpa using hw)
         exact ⟨rfl,(fun n h=>by cases h),fun _=>by simp only;rw [qb8 h3];exact h3⟩
     ·have he':(qa c).2 = false:=by simpa using he
      have h1:=qfi he'
      rw [if_neg he]
      rw [qbj h1] at hem ⊢
      simp only at hem ⊢
      rw [hx _ h1,qbj h1,qb8 h1]
      exact ⟨rfl,(fun n h=>by cases h),fun _=>h1⟩
    ·rw [if_neg hk,if_neg hk]
     exact ⟨rfl,(fun n h=>by cases h),fun _=>qfa c⟩
 ·rw [qi0 h0,qbc,qgo h0,if_neg (by decide),if_neg (by decide),if_neg (by rw [qxf h0];simp),qeq h0]
  exact ⟨rfl,(fun n h=>by cases h),fun _=>h0⟩
theorem qqh (hp:∀ c,Mon c (rp c).1) (hm:∀ c,Mon c (rr c).1):∀ (f g:Nat) (c:K) (acc:List N),rest c < f->em c < g->em c≤b->qdj (qcu rp f c acc) (qf5 rr g c acc)
 | 0,_,_,_=>fun h _ _=>by omega
 | _,0,_,_=>fun _ h _=>by omega
 | f + 1, g + 1, c, acc => fun hf hg hb => by
   rw [qcu,qf5]
   by_cases hk:begT c = true
   ·rw [if_pos hk,if_pos hk]
    obtain ⟨a1,a2,a3⟩:=qh0 hx ih hb
    have hl:=qlx hm hk
    rw [← a1] at hl ⊢
    cases ho:(qbc rp c).2 with
    | none =>
      have h3:=a3 ho
      rw [if_neg (by simp),qv5 h3]
      exact ⟨rfl,(fun n h=>by cases h),fun _=>h3⟩
    | some n =>
      rw [if_pos (by rfl),← a2 n ho]
      exact qqh hp hm f g _ _ (by have:=qdk hp (c:=c) (by rw [ho];rfl);omega) (by omega) (by omega)
   ·rw [if_neg hk,if_neg hk]
    exact ⟨rfl,(fun l h=>by cases h;rfl),(fun h=>by cases h)⟩
theorem q2t (hp:∀ c,Mon c (rp c).1) (hm:∀ c,Mon c (rr c).1) {c:K} (hr:em c≤b):qdj (qbt rp c) (qfp rr c):=by
 unfold qbt qfp
 by_cases hk:(qi c).kind = 2
 ·rw [if_pos hk,if_pos hk]
  have h1:=qy (c:=c) (by omega)
  have h2:=ql5 (c:=c) (by omega)
  obtain ⟨a1,a2,a3⟩:=qqh hx ih hp hm (rest c + 1) (em (qg c) + 1) (qg c) [] (by omega) (by omega) (by omega)
  refine ⟨a1,fun n h=>?_,fun h=>a3 (by simpa using h)⟩
  obtain ⟨l,hl,rfl⟩:=Option.map_eq_some_iff.1 h
  rw [a2 l hl]
 ·rw [if_neg hk,if_neg hk]
  exact qh0 hx ih hr
theorem qrq {c:K} (hr:em c≤b):qdj (qw rp c) (qhb rr c):=by
 have h1:=(qbw c 2).em
 obtain ⟨a1,a2,a3⟩:=qh0 hx ih (c:=(kindK c 2).1) (by omega)
 unfold qw qhb
 by_cases hk:(kindK c 2).2 = true
 ·rw [if_pos hk]
  refine ⟨a1,fun n h=>?_,fun h=>a3 (by simpa using h)⟩
  obtain ⟨m,hm,rfl⟩:=Option.map_eq_some_iff.1 h
  rw [a2 m hm]
 ·rw [if_neg hk]
  have h2:=qlc (c:=c) (k:=2) (by simpa using hk)
  rw [qi0 h2]
  exact ⟨rfl,(fun n h=>by cases h),fun _=>h2⟩
end
theorem qjd:∀ (f:Nat) (c:K),em c < f->qdj (qbg f c) (qd1 f c)
 | 0,_=>fun h=>by omega
 | f + 1, c => fun hf => by
   have ih:=qjd f
   have hx:∀ c:K,c.err≠0->(qd1 f c).1 = c:=fun c h=>by rw [qho f h]
   rw [qbg,qd1]
   by_cases he:(qa c).2 = true
   ·have h1:=(qo c).em
    rw [if_pos he]
    obtain ⟨a1,a2,a3⟩:=q2t hx ih (qcg f) (qdp f) (c:=(qa c).1) (by omega)
    have hl:=(qpr (qdp f) (qa c).1).em
    rw [← a1] at hl ⊢
    cases ho:(qbt (qbg f) (qa c).1).2 with
    | none =>
      have h3:=a3 ho
      rw [if_neg (by simp),qd9 h3,if_neg (by simp)]
      exact ⟨rfl,(fun n h=>by cases h),fun _=>by simp only;rw [qb8 h3];exact h3⟩
    | some n =>
      rw [if_pos (by rfl),← a2 n ho]
      by_cases ht:(qd (qbt (qbg f) (qa c).1).1 [45,62]).2 = true
      ·rw [if_pos ht,if_pos ht]
       have h5:=qh9 ht
       obtain ⟨b1,b2,b3⟩:=ih (qd (qbt (qbg f) (qa c).1).1 [45,62]).1 (by omega)
       refine ⟨by simp only;rw [b1],fun m h=>?_,fun h=>?_⟩
       ·obtain ⟨q,hq,rfl⟩:=Option.map_eq_some_iff.1 h
        rw [b2 q hq];rfl
       ·have h6:=b3 (by simpa using h)
        simp only
        rw [qb8 h6];exact h6
      ·rw [if_neg ht,if_neg ht]
       exact ⟨rfl,(fun m h=>by cases h;rfl),(fun h=>by cases h)⟩
   ·have he':(qa c).2 = false:=by simpa using he
    have h1:=qfi he'
    rw [if_neg he,qqa h1,qd9 h1,if_neg (by simp),qb8 h1]
    exact ⟨rfl,(fun n h=>by cases h),fun _=>h1⟩
section
variable {rp:K->K×Option N} {rr:K->K×N} {b:Nat} (hx:∀ c:K,c.err≠0->(rr c).1 = c) (ih:∀ c,em c < b->qdj (rp c) (rr c)) (hp:∀ c,Mon c (rp c).1) (hm:∀ c,Mon c (rr c).1)
include hx ih hp hm
theorem qnb:∀ (f g:Nat) (c:K) (acc:List N),rest c < f->em c < g->em c≤b->qdj (qdn rp true f c acc) (qht rr g c acc)
 | 0,_,_,_=>fun h _ _=>by omega
 | _,0,_,_=>fun _ h _=>by omega
 | f + 1, g + 1, c, acc => fun hf hg hb => by
   rw [qdn,qht]
   obtain ⟨a1,a2,a3⟩:=qrq hx ih hb
   have hl:=(qhz hm c).em
   rw [← a1] at hl ⊢
   cases ho:(qw rp c).2 with
   | none =>
     have h3:=a3 ho
     rw [if_neg (by simp),qd9 h3,if_neg (by simp)]
     exact ⟨rfl,(fun n h=>by cases h),fun _=>h3⟩
   | some n =>
     rw [if_pos (by rfl),Bool.true_and,← a2 n ho]
     by_cases ht:(qd (qw rp c).1 [44]).2 = true
     ·rw [if_pos ht,if_pos ht]
      have h5:=qh9 ht
      have h6:=qji hp (c:=c) (by rw [ho];rfl)
      have h7:=(qn (qw rp c).1 [44]).2.1
      exact qnb f g _ _ (by omega) (by omega) (by omega)
     ·rw [if_neg ht,if_neg ht]
      exact ⟨rfl,(fun l h=>by cases h;rfl),(fun h=>by cases h)⟩
theorem qpp {c:K} (hg:∀ t∈c.l,t.kind≠0) (hr:em c≤b):qdj (qq rp c) (qg5 rr c):=by
 unfold qq qg5
 by_cases ha:qgv c [61,62] = true
 ·rw [if_pos ha,if_pos ha]
  unfold qcn
  by_cases ht:(qd c [40]).2 = true
  ·rw [if_pos ht,ht,Bool.true_and]
   have h5:=qh9 ht
   have hB:qdj (if isK (qd c [40]).1 [41] = true then ((qd c [40]).1,some []) else qdn rp true (rest (qd c [40]).1 + 1) (qd c [40]).1 []) (qhm rr (qd c [40]).1):=by
    unfold qhm
    split
    ·exact ⟨rfl,(fun l h=>by cases h;rfl),(fun h=>by cases h)⟩
    ·exact qnb hx ih hp hm _ _ _ _ (by omega) (by omega) (by omega)
   obtain ⟨a1,a2,a3⟩:=hB
   generalize (if isK (qd c [40]).1 [41] = true then ((qd c [40]).1,some []) else qdn rp true (rest (qd c [40]).1 + 1) (qd c [40]).1 []) = p at *
   rw [← a1]
   unfold qd6
   cases ho:p.2 with
   | none =>
     have h3:=a3 ho
     rw [if_neg (by simp),qbj h3,qbj h3]
     exact ⟨rfl,(fun n h=>by cases h),fun _=>h3⟩
   | some l =>
     rw [if_pos (by rfl),if_pos rfl,← a2 l ho]
     by_cases hw:(qc p.1 [41]).2 = true
     ·rw [if_pos hw]
      by_cases hw2:(qc (qc p.1 [41]).1 [61,62]).2 = true
      ·rw [if_pos hw2];exact ⟨rfl,(fun m h=>by cases h;rfl),(fun h=>by cases h)⟩
      ·rw [if_neg hw2]
       exact ⟨rfl,(fun n h=>by cases h),fun _=>qc4 (by simpa using hw2)⟩
     ·rw [if_neg hw]
      have h3:=qc4 (c:=p.1) (x:=[41]) (by simpa using hw)
      rw [qbj h3]
      exact ⟨rfl,(fun n h=>by cases h),fun _=>h3⟩
  ·have ht':(qd c [40]).2 = false:=by simpa using ht
   have hsm:=qc2 ht'
   rw [if_neg ht,ht',hsm,Bool.false_and,if_neg (by simp)]
   unfold qd6
   obtain ⟨a1,a2,a3⟩:=qrq hx ih hr
   rw [qdn,← a1]
   cases ho:(qw rp c).2 with
   | none =>
     have h3:=a3 ho
     rw [if_neg (by simp),if_neg (by simp),qbj h3]
     exact ⟨rfl,(fun n h=>by cases h),fun _=>h3⟩
   | some n =>
     rw [if_pos (by rfl),Bool.false_and,if_neg (by simp),if_pos (by rfl),if_neg (by simp),← a2 n ho]
     simp only [Option.getD_some,List.nil_append]
     by_cases hw:(qc (qw rp c).1 [61,62]).2 = true
     ·rw [if_pos hw];exact ⟨rfl,(fun m h=>by cases h;rfl),(fun h=>by cases h)⟩
     ·rw [if_neg hw]
      exact ⟨rfl,(fun n h=>by cases h),fun _=>qc4 (by simpa using hw)⟩
 ·rw [if_neg ha,if_neg ha]
  by_cases he:c.err = 0
  ·have hf:failT c = false:=by
    unfold failT
    by_cases hl:c.at' < c.l.length
    ·have hk:(qi c).kind≠0:=by rw [qsr he (by omega)];exact hg _ (qbab hl)
     rw [q0z he (by omega),decide_eq_false hk];rfl
    ·rw [qvx he (by omega)];rfl
   rw [hf]
   exact ⟨rfl,(fun m h=>by cases h;rfl),(fun h=>by cases h)⟩
  ·have hf:failT c = true:=by
    unfold failT
    rw [qpu he,qgo he]
    simp [he,T0]
   rw [hf]
   exact ⟨rfl,(fun m h=>by cases h),fun _=>he⟩
end
theorem q3z (f:Nat) (c:K) (hg:∀ t∈c.l,t.kind≠0) (hr:em c < f):qdj (qdi f c) (qsg f c):=by
 have hx:∀ c:K,c.err≠0->(qd1 f c).1 = c:=fun c h=>by rw [qho f h]
 obtain ⟨a1,a2,a3⟩:=qpp hx (qjd f) (qcg f) (qdp f) hg (b:=f) (by omega)
 have hl:=(qm8 (qdp f) c).em
 unfold qdi qsg
 rw [← a1] at hl ⊢
 cases ho:(qq (qbg f) c).2 with
 | none =>
   have h3:=a3 ho
   rw [if_neg (by simp),qho f h3]
   exact ⟨rfl,(fun n h=>by cases h),fun _=>h3⟩
 | some l =>
   rw [if_pos (by rfl),← a2 l ho]
   obtain ⟨b1,b2,b3⟩:=qjd f (qq (qbg f) c).1 (by omega)
   refine ⟨b1,fun m h=>?_,fun h=>b3 (by simpa using h)⟩
   obtain ⟨q,hq,rfl⟩:=Option.map_eq_some_iff.1 h
   rw [b2 q hq];rfl
theorem qh2:∀ {l:List T} {t:T},t∈qey l->t.kind≠0
 | [],t,h=>by simp [qey] at h
 | u :: r, t, h => by
   rw [qey] at h
   split at h
   ·simp at h
   ·rename_i hk
    rcases List.mem_cons.1 h with rfl | h
    ·exact hk
    ·exact qh2 h

theorem q1v {c:K} (h:(leafP c).isSome = true):c.err = 0∧rest (qg c) + 1 = rest c:=by
 obtain ⟨n,hn⟩:=Option.isSome_iff_exists.1 h
 exact ⟨(qe8 (qla hn)).1,qy (qla hn)⟩
theorem qbel {c:K} (h:begP c = true):c.err = 0:=by
 simp only [begP,Bool.or_eq_true] at h
 rcases h with h | h
 ·exact (q1v h).1
 ·exact qxk h
theorem q0q {c:K} (h:c.err≠0):begP c = false:=by
 cases hb:begP c with
 | false=>rfl
 | true=>exact absurd (qbel hb) h
def qfu (rec:K->K×N) (c:K):K×N :=
 if begP c = true then
  if isK c [40] = true then (qb4 (qc (rec (qc (qa c).1 [40]).1).1 [41]).1,(rec (qc (qa c).1 [40]).1).2)
  else (qg c,(leafP c).getD N0)
 else (qdy c 5,N0)
def qhi (rec:K->K×N):Nat->K->List N->K×List N
 | 0,c,acc=>(c,acc)
 | f + 1,c,acc=>if begP c = true then qhi rec f (qfu rec c).1 (acc ++ [(qfu rec c).2]) else (c,acc)
def qmh:Nat->K->K×N
 | 0,c=>(c,N0)
 | f + 1, c =>
   if (qi (qa c).1).kind = 2 then
    (qb4 (qhi (qmh f) (em (qg (qa c).1) + 1) (qg (qa c).1) []).1,.mk 14 (qi (qa c).1).pos 0 (qi (qa c).1).text (qhi (qmh f) (em (qg (qa c).1) + 1) (qg (qa c).1) []).2)
   else (qb4 (qfu (qmh f) (qa c).1).1,(qfu (qmh f) (qa c).1).2)
section
variable {rec:K->K×N} (hm:∀ c,Mon c (rec c).1)
include hm
theorem qvu (c:K):Mon (qc (qa c).1 [40]).1 (qb4 (qc (rec (qc (qa c).1 [40]).1).1 [41]).1):=((hm _).trans (qe _ _)).trans (qx _)
theorem qp2 (c:K):Mon c (qfu rec c).1:=by
 unfold qfu
 split
 ·split
  ·exact ((qo c).trans (qe _ _)).trans (qvu hm c)
  ·exact qbd c
 ·exact qdx c 5
theorem qwd {c:K} (h:begP c = true):em (qfu rec c).1 < em c:=by
 unfold qfu
 rw [if_pos h]
 split
 ·have h1:=qjz (c:=c) (by assumption)
  have h2:=(qvu hm c).em
  simp only;omega
 ·rename_i hk
  have h1:=q1v (c:=c) (by simpa [begP,hk] using h)
  have h2:=qu5 (qg c)
  rw [qbtk h1.1]
  simp only;omega
theorem qpb:∀ (f:Nat) (c:K) (acc:List N),Mon c (qhi rec f c acc).1
 | 0,c,acc=>Mon.refl c
 | f + 1, c, acc => by
   rw [qhi]
   split
   ·exact (qp2 hm c).trans (qpb f _ _)
   ·exact Mon.refl c
end
theorem qlj:∀ (f:Nat) (c:K),Mon c (qmh f c).1
 | 0,c=>Mon.refl c
 | f + 1, c => by
   rw [qmh]
   split
   ·exact (((qo c).trans (qbd _)).trans (qpb (qlj f) _ _ _)).trans (qx _)
   ·exact ((qo c).trans (qp2 (qlj f) _)).trans (qx _)

/-! The program. -/
/-! What both read. -/
theorem qpt {rec:K->K×N} {c:K} (h:c.err≠0):qfu rec c = (c,N0):=by
 rw [qfu,if_neg (by rw [q0q h];simp),qeq h]
theorem qy5 {rec:K->K×N} {c:K} (h:c.err≠0) (f:Nat) (acc:List N):qhi rec f c acc = (c,acc):=by
 cases f with
 | zero=>rfl
 | succ f=>rw [qhi,if_neg (by rw [q0q h];simp)]
theorem qvk (f:Nat) {c:K} (h:c.err≠0):qmh f c = (c,N0):=by
 cases f with
 | zero=>rfl
 | succ f=>rw [qmh,qjq h,qgo h,if_neg (by decide),qpt h,qb8 h]
section
variable {rp:K->K×Option N} {rr:K->K×N} {b:Nat} (hx:∀ c:K,c.err≠0->(rr c).1 = c) (ih:∀ c,em c < b->qdj (rp c) (rr c))
include hx ih
theorem qq1 {c:K} (hr:em c≤b):qdj (qba rp c) (qfu rr c):=by
 unfold qba qfu
 by_cases hl:(leafP c).isSome = true
 ·have hk:¬ isK c [40] = true:=by
   intro h
   obtain ⟨n,hn⟩:=Option.isSome_iff_exists.1 hl
   simp only [isK,qfm,Bool.and_eq_true,Bool.or_eq_true,decide_eq_true_eq] at h
   unfold leafP at hn
   rw [if_neg (by omega),if_neg (by omega),if_neg (by omega),if_neg (by simp [isK,qfm,h.2.2])] at hn
   cases hn
  rw [if_pos hl,if_pos (show begP c = true by simp [begP,hl]),if_neg hk]
  exact ⟨rfl,fun n h=>by simp only at h ⊢;rw [h];rfl,fun h=>by simp only at h;rw [h] at hl;cases hl⟩
 ·rw [if_neg hl]
  by_cases hk:isK c [40] = true
  ·rw [if_pos hk,if_pos (show begP c = true by simp [begP,hk]),if_pos hk]
   have hem:=qjz hk
   by_cases he:(qa c).2 = true
   ·rw [if_pos he]
    have hk':isK (qa c).1 [40] = true:=by rw [qfb he];exact hk
    rw [qib hk'] at hem ⊢
    simp only at hem ⊢
    obtain ⟨a1,a2,a3⟩:=ih (qg (qa c).1) (by omega)
    rw [← a1]
    generalize rp (qg (qa c).1) = r at *
    obtain ⟨d,o⟩:=r
    simp only at a1 a2 a3 ⊢
    cases o with
    | none =>
      have h3:=a3 rfl
      rw [if_neg (by simp),qbj h3,qb8 h3]
      exact ⟨rfl,(fun n h=>by cases h),fun _=>h3⟩
    | some n =>
      rw [if_pos (by rfl)]
      by_cases hw:(qc d [41]).2 = true
      ·rw [if_pos hw]
       exact ⟨rfl,fun m h=>a2 m h,(fun h=>by cases h)⟩
      ·rw [if_neg hw]
       have h3:=qc4 (by simpa using hw)
       exact ⟨(qb8 h3).symm,(fun n h=>by cases h),fun _=>h3⟩
   ·have he':(qa c).2 = false:=by simpa using he
    have h1:=qfi he'
    rw [if_neg he]
    rw [qbj h1] at hem ⊢
    simp only at hem ⊢
    rw [hx _ h1,qbj h1,qb8 h1]
    exact ⟨rfl,(fun n h=>by cases h),fun _=>h1⟩
  ·rw [if_neg hk,if_neg (show ¬ begP c = true by simp [begP,hl,hk])]
   exact ⟨rfl,(fun n h=>by cases h),fun _=>qfa c⟩
theorem qrd (hp:∀ c,Mon c (rp c).1) (hm:∀ c,Mon c (rr c).1):∀ (f g:Nat) (c:K) (acc:List N),rest c < f->em c < g->em c≤b →
 (qem rp f c acc).1 = (qhi rr g c acc).1∧(∀ l,(qem rp f c acc).2 = some l->l = (qhi rr g c acc).2)∧((qem rp f c acc).2 = none->(qem rp f c acc).1.err≠0)
 | 0,_,_,_=>fun h _ _=>by omega
 | _,0,_,_=>fun _ h _=>by omega
 | f + 1, g + 1, c, acc => fun hf hg hb => by
   rw [qem,qhi]
   by_cases hk:begP c = true
   ·rw [if_pos hk,if_pos hk]
    obtain ⟨a1,a2,a3⟩:=qq1 hx ih hb
    have hl:=qwd hm hk
    rw [← a1] at hl ⊢
    cases ho:(qba rp c).2 with
    | none =>
      have h3:=a3 ho
      rw [if_neg (by simp),qy5 h3]
      exact ⟨rfl,(fun n h=>by cases h),fun _=>h3⟩
    | some n =>
      rw [if_pos (by rfl),← a2 n ho]
      exact qrd hp hm f g _ _ (by have:=qog hp (c:=c) (by rw [ho];rfl);omega) (by omega) (by omega)
   ·rw [if_neg hk,if_neg hk]
    exact ⟨rfl,(fun l h=>by cases h;rfl),(fun h=>by cases h)⟩
end
theorem qzz:∀ (f:Nat) (c:K),em c < f->qdj (qbz f c) (qmh f c)
 | 0,_=>fun h=>by omega
 | f + 1, c => fun hf => by
   have ih:=qzz f
   have hx:∀ c:K,c.err≠0->(qmh f c).1 = c:=fun c h=>by rw [qvk f h]
   by_cases he:(qa c).2 = true
   ·have h1:=(qo c).em
    rw [qbz,qmh,if_pos he]
    by_cases hk:(qi (qa c).1).kind = 2
    ·rw [if_pos hk,if_pos hk]
     have hr:=qy (c:=(qa c).1) (by omega)
     obtain ⟨a1,a2,a3⟩:=qrd hx ih (qep f) (qlj f) (rest (qa c).1 + 1) (em (qg (qa c).1) + 1) (qg (qa c).1) [] (by omega) (by omega) (by have:=(qbd (qa c).1).em;omega)
     rw [← a1]
     generalize qem (qbz f) (rest (qa c).1 + 1) (qg (qa c).1) [] = r at *
     obtain ⟨d,o⟩:=r
     cases o with
     | none =>
       have h3:=a3 rfl
       simp only at h3
       refine ⟨rfl,(fun n h=>by cases h),fun _=>?_⟩
       simp only
       rwa [qb8 h3]
     | some l=>exact ⟨rfl,(fun n h=>by cases h;rw [a2 l rfl]),(fun h=>by cases h)⟩
    ·rw [if_neg hk,if_neg hk]
     obtain ⟨a1,a2,a3⟩:=qq1 hx ih (c:=(qa c).1) (by omega)
     rw [← a1]
     exact ⟨rfl,a2,fun h=>by simp only at h ⊢;rw [qb8 (a3 h)];exact a3 h⟩
   ·have he':(qa c).2 = false:=by simpa using he
    have h1:=qfi he'
    rw [qbz,if_neg he,qmh,qgo h1,if_neg (by decide),qpt h1]
    exact ⟨(qb8 h1).symm,(fun n h=>by cases h),fun _=>h1⟩
end Go.Proofs.Ytfjbmjplnmaclaa
