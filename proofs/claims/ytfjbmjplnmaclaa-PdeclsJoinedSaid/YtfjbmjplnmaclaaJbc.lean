/- Texts of this proof, joined. -/
import Derived.Test.YtfjbmjplnmaclaaJay
import Derived.Test.YtfjbmjplnmaclaaJbb
set_option linter.unusedVariables false
set_option linter.unusedSimpArgs false

/- expressions: the reference: what it reads -/
namespace Go.Proofs.Ytfjbmjplnmaclaa
open Go Go.RowKit Go.V

theorem qbcw {c:K} (h:begE c = true):c.err = 0:=(qe8 (quz h)).1
theorem q0g {c:K} (h:c.err≠0):begE c = false:=by
 cases hb:begE c with
 | false=>rfl
 | true=>exact absurd (qbcw hb) h
def qd4 (rec:K->K×N) (c:K):K×N :=
 if begE c = true then
  if isK c [40] = true then (qb4 (qc (rec (qc (qa c).1 [40]).1).1 [41]).1,(rec (qc (qa c).1 [40]).1).2)
  else (qg c,(leafE c).getD N0)
 else (qdy c 5,N0)
def qgs (rec:K->K×N):Nat->K->N->K×N
 | 0,c,n=>(c,n)
 | f + 1,c,n=>if begE c = true then qgs rec f (qd4 rec c).1 (appN n (qd4 rec c).2) else (c,n)
def qp5 (rec:K->K×N) (c:K):K×N:=qgs rec (em (qd4 rec c).1 + 1) (qd4 rec c).1 (qd4 rec c).2
def qbxo (l:List T) (n:N):N:=l.foldr lamN n
def qeh:Nat->K->List T->K×List T
 | 0,c,acc=>(c,acc)
 | f + 1,c,acc=>if (qi c).kind = 1 then qeh f (qg c) (acc ++ [qi c]) else (c,acc)
def qt1 (c:K):K×List T:=qeh (em c + 1) c []
def q3l (rec:K->K×N) (x:List UInt8) (v:K×List T):K×N:=((rec (qc v.1 x).1).1,qbxo v.2 (rec (qc v.1 x).1).2)
def qjw (rec:K->K×N) (x:List UInt8) (c:K):K×N:=q3l rec x (qt1 c)
def qs8 (rec:K->K×N) (c:K):K×N:=if (qi c).kind = 1 then qjw rec [45,62] c else (qdy c 5,N0)
def qf4 (rec:K->K×N) (c:K):K×N :=
 if (qd (kindK c 1).1 [58,58]).2 = true then
  ((qsg (rest (qd (kindK c 1).1 [58,58]).1 + 2) (qd (kindK c 1).1 [58,58]).1).1,quu 32 (qex c 1) (qsg (rest (qd (kindK c 1).1 [58,58]).1 + 2) (qd (kindK c 1).1 [58,58]).1).2)
 else ((qjw rec [61] (kindK c 1).1).1,quu 31 (qex c 1) (qjw rec [61] (kindK c 1).1).2)
def qgi (c:K):K×Bool:=((qd c [59]).1,(qd c [59]).2 && !isK (qd c [59]).1 [125])
def qed (rd:K->K×N):Nat->K->List N->K×List N
 | 0,c,acc=>(c,acc)
 | f + 1,c,acc=>if (qgi (rd c).1).2 = true then qed rd f (qgi (rd c).1).1 (acc ++ [(rd c).2]) else ((qgi (rd c).1).1,acc ++ [(rd c).2])
def qg7 (rd:K->K×N) (c:K):K×List N:=qed rd (em c + 2) c []
def q7m (rec:K->K×N) (p:Int) (L:K×List N):K×N :=
 ((rec (qc (qc L.1 [125]).1 [105,110]).1).1,.mk 26 p 0 [] (L.2 ++ [(rec (qc (qc L.1 [125]).1 [105,110]).1).2]))
def qsu (rec:K->K×N) (p:Int) (c:K):K×N:=q7m rec p (qg7 (qf4 rec) (qc c [123]).1)
def qx9 (rec:K->K×N) (p:K×N):K×N:=((rec (qc p.1 [45,62]).1).1,altN p.2 (rec (qc p.1 [45,62]).1).2)
def qil (rec:K->K×N) (c:K):K×N:=qx9 rec (qmh (rest c + 2) c)
def q1x (p:Int) (x:N) (L:K×List N):K×N:=((qc L.1 [125]).1,.mk 27 p 0 [] (x :: L.2))
def qny (rec:K->K×N) (p:Int) (c:K):K×N:=q1x p (rec c).2 (qg7 (qil rec) (qc (qc (rec c).1 [111,102]).1 [123]).1)
def q92 (p:Int) (a b d:K×N):K×N:=(d.1,.mk 28 p 0 [] [a.2,b.2,d.2])
def qun (rec:K->K×N) (p:Int) (a b:K×N):K×N:=q92 p a b (rec (qc b.1 [101,108,115,101]).1)
def qbfk (rec:K->K×N) (p:Int) (a:K×N):K×N:=qun rec p a (rec (qc a.1 [116,104,101,110]).1)
def qt0 (rec:K->K×N) (p:Int) (c:K):K×N:=qbfk rec p (rec c)
def qgt (rec:K->K×N) (c:K):K×N :=
 if (qd c [92]).2 = true then qs8 rec (qd c [92]).1
 else if (qd c [108,101,116]).2 = true then qsu rec (qi c).pos (qd c [108,101,116]).1
 else if (qd c [99,97,115,101]).2 = true then qny rec (qi c).pos (qd c [99,97,115,101]).1
 else if (qd c [105,102]).2 = true then qt0 rec (qi c).pos (qd c [105,102]).1
 else qp5 rec c
def qk0:Nat->K->K×N
 | 0,c=>(c,N0)
 | f + 1,c=>(qb4 (qgt (qk0 f) (qa c).1).1,(qgt (qk0 f) (qa c).1).2)

theorem qpq:∀ (f:Nat) (c:K) (acc:List T),Mon c (qeh f c acc).1
 | 0,c,acc=>Mon.refl c
 | f + 1, c, acc => by
   rw [qeh]
   split
   ·exact (qbd c).trans (qpq f _ _)
   ·exact Mon.refl c
theorem qns (c:K):Mon c (qgi c).1:=qn c _
section
variable {rec:K->K×N} (hm:∀ c,Mon c (rec c).1)
include hm
theorem qjf (c:K):Mon c (qd4 rec c).1:=by
 unfold qd4
 split
 ·split
  ·exact ((qo c).trans (qe _ _)).trans (qnk hm c)
  ·exact qbd c
 ·exact qdx c 5
theorem qtt {c:K} (h:begE c = true):em (qd4 rec c).1 < em c:=by
 unfold qd4
 rw [if_pos h]
 split
 ·have h1:=qjz (c:=c) (by assumption)
  have h2:=(qnk hm c).em
  simp only;omega
 ·exact ql5 (quz h)
theorem qmp:∀ (f:Nat) (c:K) (n:N),Mon c (qgs rec f c n).1
 | 0,c,n=>Mon.refl c
 | f + 1, c, n => by
   rw [qgs]
   split
   ·exact (qjf hm c).trans (qmp f _ _)
   ·exact Mon.refl c
theorem qyc (c:K):Mon c (qp5 rec c).1:=(qjf hm c).trans (qmp hm _ _ _)
theorem qmx (x:List UInt8) (c:K):Mon c (qjw rec x c).1:=((qpq _ _ _).trans (qe _ x)).trans (hm _)
theorem qxg (c:K):Mon c (qs8 rec c).1:=by
 unfold qs8
 split
 ·exact qmx hm _ c
 ·exact qdx c 5
theorem qm1 (c:K):Mon c (qf4 rec c).1:=by
 unfold qf4
 split
 ·exact ((qbw c 1).trans (qn _ _)).trans ((qm8 (qdp _) _).trans (qdp _ _))
 ·exact (qbw c 1).trans (qmx hm _ _)
omit hm in
theorem qid {rd:K->K×N} (hd:∀ c,Mon c (rd c).1):∀ (f:Nat) (c:K) (acc:List N),Mon c (qed rd f c acc).1
 | 0,c,acc=>Mon.refl c
 | f + 1, c, acc => by
   rw [qed]
   split
   ·exact ((hd c).trans (qns _)).trans (qid hd f _ _)
   ·exact (hd c).trans (qns _)
theorem qxz (p:Int) (c:K):Mon c (qsu rec p c).1:=((((qe c _).trans (qid (qm1 hm) _ _ _)).trans (qe _ _)).trans (qe _ _)).trans (hm _)
theorem qol (c:K):Mon c (qil rec c).1:=((qlj _ c).trans (qe _ _)).trans (hm _)
theorem qup (p:Int) (c:K):Mon c (qny rec p c).1:=((((hm c).trans (qe _ _)).trans (qe _ _)).trans (qid (qol hm) _ _ _)).trans (qe _ _)
theorem qyl (p:Int) (c:K):Mon c (qt0 rec p c).1:=((((hm c).trans (qe _ _)).trans (hm _)).trans (qe _ _)).trans (hm _)
theorem quv (c:K):Mon c (qgt rec c).1:=by
 unfold qgt
 split
 ·exact (qn c _).trans (qxg hm _)
 ·split
  ·exact (qn c _).trans (qxz hm _ _)
  ·split
   ·exact (qn c _).trans (qup hm _ _)
   ·split
    ·exact (qn c _).trans (qyl hm _ _)
    ·exact qyc hm c
end
theorem qra:∀ (f:Nat) (c:K),Mon c (qk0 f c).1
 | 0,c=>Mon.refl c
 | f + 1,c=>((qo c).trans (quv (qra f) _)).trans (qx _)

/-! The program. -/


theorem q6r {c:K} (h:(qgi c).2 = true):em (qgi c).1 < em c:=by
 unfold qgi at h ⊢
 simp only [Bool.and_eq_true] at h
 exact qh9 h.1



def NoEnd (c:K):Prop:=∀ t∈c.l,t.kind≠0
theorem NoEnd.mon {c c':K} (h:NoEnd c) (m:Mon c c'):NoEnd c':=by unfold NoEnd;rw [m.2.2.2.1];exact h
theorem qbf2 (r:K×Option N):toO (ofO r) = r:=by
 obtain ⟨c,o⟩:=r
 cases o<;>rfl
theorem qee {p:R3} {r:K×N} (h1:p.1 = r.1) (h2:p.2.2 = true->p.2.1 = r.2) (h3:p.2.2 = false->p.1.err≠0):qdj (toO p) r:=by
 obtain ⟨d,n,ok⟩:=p
 cases ok with
 | false=>exact ⟨h1,(fun n h=>by cases h),fun _=>h3 rfl⟩
 | true=>exact ⟨h1,(fun n h=>by cases h;exact h2 rfl),(fun h=>by cases h)⟩
theorem qoa {p:R3} {r:K×N} (h:qdj (toO p) r):p.1 = r.1:=h.1
theorem qzy {p:R3} {r:K×N} (h:qdj (toO p) r) (hs:p.2.2 = true):p.2.1 = r.2:=h.2.1 _ (by unfold toO;simp only;rw [if_pos hs])
theorem qzj {p:R3} {r:K×N} (h:qdj (toO p) r) (hs:p.2.2 = false):p.1.err≠0:=h.2.2 (by unfold toO;simp only;rw [if_neg (by rw [hs];simp)])
theorem qhe {p:K×Option N} {r:K×N} (h:qdj p r) (hs:¬ p.2.isSome = true):p.1.err≠0:=h.2.2 (by
 cases ho:p.2 with
 | none=>rfl
 | some n=>rw [ho] at hs;exact absurd rfl hs)
theorem qhc {p:K×Option N} {r:K×N} (h:qdj p r) (hs:p.2.isSome = true):p.2.getD N0 = r.2:=by
 obtain ⟨n,hn⟩:=Option.isSome_iff_exists.1 hs
 rw [hn]
 exact h.2.1 n hn
theorem qwy {rec:K->K×N} {c:K} (h:c.err≠0):qd4 rec c = (c,N0):=by
 rw [qd4,if_neg (by rw [q0g h];simp),qeq h]
theorem qjh {rec:K->K×N} {c:K} (h:c.err≠0) (f:Nat) (n:N):qgs rec f c n = (c,n):=by
 cases f with
 | zero=>rfl
 | succ f=>rw [qgs,if_neg (by rw [q0g h];simp)]
theorem qpy {c:K} (h:c.err≠0) (f:Nat) (acc:List T):qeh f c acc = (c,acc):=by
 cases f with
 | zero=>rfl
 | succ f=>rw [qeh,qgo h,if_neg (by decide)]
theorem qjk {c:K} {k:Int} (h:c.err≠0):kindK c k = (c,false):=by rw [qyz h,qeq h]
theorem qkh:∀ (f:Nat) (c:K) (acc:List T),qeh f c acc = ((qeh f c []).1,acc ++ (qeh f c []).2)
 | 0,c,acc=>by simp [qeh]
 | f + 1, c, acc => by
   rw [qeh,qeh]
   split
   ·rw [qkh f _ (acc ++ [qi c]),qkh f _ ([] ++ [qi c])]
    simp
   ·simp
section
variable {rp:K->K×Option N} {rr:K->K×N} {b:Nat} (hx:∀ c:K,c.err≠0->(rr c).1 = c) (ih:∀ c,NoEnd c->em c < b->qdj (rp c) (rr c))
include hx ih
theorem qoy {c:K} (hn:NoEnd c) (hr:em c≤b):qdj (qs rp c) (qd4 rr c):=by
 unfold qs qd4
 by_cases hl:(leafE c).isSome = true
 ·have hk:¬ isK c [40] = true:=by
   intro h
   obtain ⟨n,hn⟩:=Option.isSome_iff_exists.1 hl
   simp only [isK,qfm,Bool.and_eq_true,Bool.or_eq_true,decide_eq_true_eq] at h
   unfold leafE at hn
   rw [if_neg (by omega),if_neg (by omega),if_neg (by omega)] at hn
   cases hn
  rw [if_pos hl,if_pos (show begE c = true by simp [begE,hl]),if_neg hk]
  exact ⟨rfl,fun n h=>by simp only at h ⊢;rw [h];rfl,fun h=>by simp only at h;rw [h] at hl;cases hl⟩
 ·rw [if_neg hl]
  by_cases hk:isK c [40] = true
  ·rw [if_pos hk,if_pos (show begE c = true by simp [begE,hk]),if_pos hk]
   have hem:=qjz hk
   by_cases he:(qa c).2 = true
   ·rw [if_pos he]
    have hk':isK (qa c).1 [40] = true:=by rw [qfb he];exact hk
    rw [qib hk'] at hem ⊢
    simp only at hem ⊢
    obtain ⟨a1,a2,a3⟩:=ih (qg (qa c).1) (hn.mon ((qo c).trans (qbd _))) (by omega)
    rw [← a1]
    generalize rp (qg (qa c).1) = r at *
    obtain ⟨d,o⟩:=r
    simp only at a1 a2 a3 ⊢
    cases o with
    | none =>
      have h3:=a3 rfl
      rw [if_neg (by simp),qbj h3,qb8 h3]
      exact ⟨rfl,(fun n h=>by cases h),fun _=>h3⟩
    | some n =>
      rw [if_pos (by rfl)]
      by_cases hw:(qc d [41]).2 = true
      ·rw [if_pos hw]
       exact ⟨rfl,fun m h=>a2 m h,(fun h=>by cases h)⟩
      ·rw [if_neg hw]
       have h3:=qc4 (by simpa using hw)
       exact ⟨(qb8 h3).symm,(fun n h=>by cases h),fun _=>h3⟩
   ·have he':(qa c).2 = false:=by simpa using he
    have h1:=qfi he'
    rw [if_neg he]
    rw [qbj h1] at hem ⊢
    simp only at hem ⊢
    rw [hx _ h1,qbj h1,qb8 h1]
    exact ⟨rfl,(fun n h=>by cases h),fun _=>h1⟩
  ·rw [if_neg hk,if_neg (show ¬ begE c = true by simp [begE,hl,hk])]
   exact ⟨rfl,(fun n h=>by cases h),fun _=>qfa c⟩
theorem qo9 (hp:∀ c,Mon c (rp c).1) (hm:∀ c,Mon c (rr c).1):∀ (f g:Nat) (c:K) (n:N),NoEnd c->rest c < f->em c < g->em c≤b->qdj (toO (qd3 rp f c n)) (qgs rr g c n)
 | 0,_,_,_=>fun _ h _ _=>by omega
 | _,0,_,_=>fun _ _ h _=>by omega
 | f + 1, g + 1, c, n => fun hn hf hg hb => by
   rw [qd3,qgs]
   by_cases hk:begE c = true
   ·rw [if_pos hk,if_pos hk]
    have ha:=qoy hx ih hn hb
    have hl:=qtt hm hk
    have hml:=qde hp c
    by_cases hs:(qs rp c).2.isSome = true
    ·rw [if_pos hs,qhc ha hs,← ha.1]
     have hlt:=qjm hp hs
     rw [← ha.1] at hl
     exact qo9 hp hm f g _ _ (hn.mon hml) (by omega) (by omega) (by omega)
    ·rw [if_neg hs]
     have h3:=qhe ha hs
     rw [qjh (by rw [← ha.1];exact h3)]
     exact qee ha.1 (fun h=>by cases h) (fun _=>h3)
   ·rw [if_neg hk,if_neg hk]
    exact qee rfl (fun _=>rfl) (fun h=>by cases h)
theorem q3w (hp:∀ c,Mon c (rp c).1) (hm:∀ c,Mon c (rr c).1) {c:K} (hn:NoEnd c) (hr:em c≤b):qdj (toO (qez rp c)) (qp5 rr c):=by
 unfold qez qp5
 have ha:=qoy hx ih hn hr
 have hml:=qde hp c
 have hme:=(qjf hm c).em
 by_cases hs:(qs rp c).2.isSome = true
 ·rw [if_pos hs,qhc ha hs,← ha.1]
  rw [← ha.1] at hme
  exact qo9 hx ih hp hm _ _ _ _ (hn.mon hml) (Nat.lt_succ_self _) (Nat.lt_succ_self _) (by omega)
 ·rw [if_neg hs]
  have h3:=qhe ha hs
  rw [qjh (by rw [← ha.1];exact h3)]
  exact qee ha.1 (fun h=>by cases h) (fun _=>h3)
theorem qks (x:List UInt8):∀ (f g:Nat) (c:K),NoEnd c->rest c < f->em c < g->em c < b->qdj (toO (qbx rp x f c)) (q3l rr x (qeh g c []))
 | 0,_,_=>fun _ h _ _=>by omega
 | _,0,_=>fun _ _ h _=>by omega
 | f + 1, g + 1, c => fun hn hf hg hb => by
   rw [qbx,qeh]
   by_cases hk:(qi c).kind = 1
   ·rw [if_pos hk,if_pos hk,qkh]
    have h1:=qy (c:=c) (by omega)
    have h2:=ql5 (c:=c) (by omega)
    have ha:=qks x f g (qg c) (hn.mon (qbd c)) (by omega) (by omega) (by omega)
    refine qee (show (qbx rp x f (qg c)).1 = (q3l rr x (qeh g (qg c) [])).1 from qoa ha) (fun h=>?_) (fun h=>qzj (p:=qbx rp x f (qg c)) ha h)
    simp only
    rw [qzy (p:=qbx rp x f (qg c)) ha h]
    rfl
   ·rw [if_neg hk,if_neg hk]
    have hw:=(qe c x).em
    unfold q3l
    simp only [qbxo,List.foldr_nil]
    by_cases hs:(qc c x).2 = true
    ·rw [if_pos hs,qbf2]
     exact ih _ (hn.mon (qe c x)) (by omega)
    ·rw [if_neg hs]
     have h3:=qc4 (c:=c) (x:=x) (by simpa using hs)
     exact qee (hx _ h3).symm (fun h=>by cases h) (fun _=>h3)
theorem qp4 {c:K} (hn:NoEnd c) (hr:em c < b):qdj (qbn rp c) (qf4 rr c):=by
 have hk1:=qbw c 1
 have e1:=hk1.em
 unfold qbn qf4
 by_cases hk:(kindK c 1).2 = true
 ·rw [if_pos hk]
  by_cases ht:(qd (kindK c 1).1 [58,58]).2 = true
  ·rw [if_pos ht,if_pos ht]
   have hem:=qu5 (qd (kindK c 1).1 [58,58]).1
   have ha:=q3z (rest (qd (kindK c 1).1 [58,58]).1 + 2) (qd (kindK c 1).1 [58,58]).1 (hn.mon (hk1.trans (qn _ _))) (by omega)
   refine ⟨ha.1,fun n h=>?_,fun h=>ha.2.2 (by simpa using h)⟩
   obtain ⟨q,hq,rfl⟩:=Option.map_eq_some_iff.1 h
   rw [ha.2.1 q hq]
  ·rw [if_neg ht,if_neg ht]
   have ha:=qks hx ih [61] (rest (kindK c 1).1 + 1) (em (kindK c 1).1 + 1) (kindK c 1).1 (hn.mon hk1) (Nat.lt_succ_self _) (Nat.lt_succ_self _) (by omega)
   refine ⟨ha.1,fun n h=>?_,fun h=>ha.2.2 (by simpa using h)⟩
   obtain ⟨q,hq,rfl⟩:=Option.map_eq_some_iff.1 h
   exact congrArg _ (ha.2.1 q hq)
 ·rw [if_neg hk]
  have h3:=qlc (c:=c) (k:=1) (by simpa using hk)
  rw [qd9 h3,if_neg (by simp)]
  unfold qjw qt1 q3l
  rw [qpy h3]
  simp only
  rw [qbj h3,hx _ h3]
  exact ⟨rfl,(fun n h=>by cases h),fun _=>h3⟩
omit ih in
theorem qug {c:K} (h:c.err≠0):(qf4 rr c).1 = c:=by
 unfold qf4 qjw qt1 q3l
 rw [qjk h,qd9 h,if_neg (by simp),qpy h]
 simp only
 rw [qbj h,hx _ h]
end
theorem qp3 {rp:K->R3} {rr:K->K×N} {b:Nat} (hp:∀ c,Mon c (rp c).1) (hm:∀ c,Mon c (rr c).1) (hl:∀ c,(rp c).2.2 = true->rest (rp c).1 < rest c) (ih:∀ c,NoEnd c->em c < b->qdj (toO (rp c)) (rr c)) :
 ∀ (f g : Nat) (c : K) (acc : List N), NoEnd c → rest c < f → em c < g → em c < b →
   (qbh rp f c acc).1 = (qc (qed rr g c acc).1 [125]).1∧((qbh rp f c acc).2.2 = true->(qbh rp f c acc).2.1 = (qed rr g c acc).2)∧((qbh rp f c acc).2.2 = false->(qbh rp f c acc).1.err≠0)
 | 0,_,_,_=>fun _ h _ _=>by omega
 | _,0,_,_=>fun _ _ h _=>by omega
 | f + 1, g + 1, c, acc => fun hn hf hg hb => by
   rw [qbh,qed]
   have ha:=ih c hn hb
   have e1:=(hm c).em
   have hmo:qgi (rp c).1 = ((qd (rp c).1 [59]).1,(qd (rp c).1 [59]).2 && !isK (qd (rp c).1 [59]).1 [125]):=rfl
   by_cases hs:(rp c).2.2 = true
   ·rw [if_pos hs,qzy ha hs,← qoa ha,hmo]
    by_cases ht:((qd (rp c).1 [59]).2 && !isK (qd (rp c).1 [59]).1 [125]) = true
    ·rw [if_pos ht,if_pos ht]
     have h1:=hl c hs
     have h2:=(qn (rp c).1 [59]).2.1
     have h3:em (qd (rp c).1 [59]).1 < em (rp c).1:=q6r (c:=(rp c).1) ht
     have h4:=(hp c).em
     exact qp3 hp hm hl ih f g _ _ (hn.mon ((hp c).trans (qn _ _))) (by omega) (by omega) (by omega)
    ·rw [if_neg ht,if_neg ht]
     refine ⟨rfl,fun _=>rfl,fun h=>qc4 h⟩
   ·rw [if_neg hs]
    have h3:=qzj ha (by simpa using hs)
    rw [← qoa ha]
    unfold qgi
    rw [qd9 h3,Bool.false_and,if_neg (by simp)]
    simp only
    rw [qbj h3]
    exact ⟨rfl,(fun h=>by cases h),fun _=>h3⟩
theorem qr4 {rp:K->R3} {rr:K->K×N} {b:Nat} (hp:∀ c,Mon c (rp c).1) (hm:∀ c,Mon c (rr c).1) (hl:∀ c,(rp c).2.2 = true->rest (rp c).1 < rest c) (hx:∀ c:K,c.err≠0->(rr c).1 = c) (ih:∀ c,NoEnd c->em c < b->qdj (toO (rp c)) (rr c))
 {c:K} (hn:NoEnd c) (hr:em c < b):(qv rp c).1 = (qc (qg7 rr (qc c [123]).1).1 [125]).1∧((qv rp c).2.2 = true->(qv rp c).2.1 = (qg7 rr (qc c [123]).1).2)∧((qv rp c).2.2 = false->(qv rp c).1.err≠0):=by
 unfold qv qg7
 have e1:=(qe c [123]).em
 by_cases hs:(qc c [123]).2 = true
 ·rw [if_pos hs]
  exact qp3 hp hm hl ih _ _ _ _ (hn.mon (qe c _)) (Nat.lt_succ_self _) (by omega) (by omega)
 ·rw [if_neg hs]
  have h3:=qc4 (c:=c) (x:=[123]) (by simpa using hs)
  have h4:(qed rr (em (qc c [123]).1 + 2) (qc c [123]).1 []).1 = (qc c [123]).1:=by
   rw [qed]
   unfold qgi
   rw [hx _ h3,qd9 h3,Bool.false_and,if_neg (by simp)]
  rw [h4,qbj h3]
  exact ⟨rfl,(fun h=>by cases h),fun _=>h3⟩
section
variable {rp:K->K×Option N} {rr:K->K×N} {b:Nat} (hx:∀ c:K,c.err≠0->(rr c).1 = c) (ih:∀ c,NoEnd c->em c < b->qdj (rp c) (rr c)) (hp:∀ c,Mon c (rp c).1) (hm:∀ c,Mon c (rr c).1)
include hx ih hp hm
theorem q2e (p:Int) {c:K} (hn:NoEnd c) (hr:em c < b):qdj (toO (qfv rp p c)) (qsu rr p c):=by
 have hl:=qr4 (b:=b) (rp:=fun c=>ofO (qbn rp c)) (rr:=qf4 rr) (fun c=>qgq hp c) (qm1 hm) (fun c h=>qjc hp h) (fun c h=>qug hx h) (fun c h1 h2=>by rw [qbf2];exact qp4 hx ih h1 h2) hn hr
 have hml:=qga (rd:=fun c=>ofO (qbn rp c)) (fun c=>qgq hp c) c
 unfold qfv qsu letB letC q7m
 generalize qv (fun c=>ofO (qbn rp c)) c = L at *
 obtain ⟨d,l,ok⟩:=L
 simp only at hl hml ⊢
 rw [← hl.1]
 have e1:=hml.em
 have e2:=(qe d [105,110]).em
 cases ok with
 | false =>
   have h3:=hl.2.2 rfl
   rw [if_neg (by simp),qbj h3,hx _ h3]
   exact qee rfl (fun h=>by cases h) (fun _=>h3)
 | true =>
   rw [if_pos rfl,hl.2.1 rfl]
   by_cases hw:(qc d [105,110]).2 = true
   ·rw [if_pos hw]
    have ha:=ih (qc d [105,110]).1 (hn.mon (hml.trans (qe _ _))) (by omega)
    refine qee ha.1 (fun h=>?_) (fun h=>qhe ha (by simpa using h))
    simp only
    rw [qhc ha h]
   ·rw [if_neg hw]
    have h3:=qc4 (c:=d) (x:=[105,110]) (by simpa using hw)
    exact qee (hx _ h3).symm (fun h=>by cases h) (fun _=>h3)
omit hp hm in
theorem q4c {c:K} (hn:NoEnd c) (hr:em c < b):qdj (toO (qdv rp c)) (qil rr c):=by
 have hpa:=qzz (rest c + 2) c (by have:=qu5 c;omega)
 have hmp:=qep (rest c + 2) c
 unfold qdv qil altB altC qx9
 generalize qbz (rest c + 2) c = q at *
 have e1:=hmp.em
 have e2:=(qe q.1 [45,62]).em
 rw [← hpa.1]
 by_cases hs:q.2.isSome = true
 ·rw [if_pos hs,qhc hpa hs]
  by_cases hw:(qc q.1 [45,62]).2 = true
  ·rw [if_pos hw]
   have ha:=ih (qc q.1 [45,62]).1 (hn.mon (hmp.trans (qe _ _))) (by omega)
   refine qee ha.1 (fun h=>?_) (fun h=>qhe ha (by simpa using h))
   simp only
   rw [qhc ha h]
  ·rw [if_neg hw]
   have h3:=qc4 (c:=q.1) (x:=[45,62]) (by simpa using hw)
   exact qee (hx _ h3).symm (fun h=>by cases h) (fun _=>h3)
 ·rw [if_neg hs]
  have h3:=qhe hpa hs
  rw [qbj h3,hx _ h3]
  exact qee rfl (fun h=>by cases h) (fun _=>h3)
omit ih hp hm in
theorem qom {c:K} (h:c.err≠0):(qil rr c).1 = c:=by
 unfold qil qx9
 rw [qvk _ h]
 simp only
 rw [qbj h,hx _ h]
theorem qw4 (p:Int) {c:K} (hn:NoEnd c) (hr:em c < b):qdj (toO (qd7 rp p c)) (qny rr p c):=by
 have hc:=ih c hn hr
 have hmc:=hp c
 unfold qd7 qny qts qxb q1x
 generalize rp c = q at *
 have e1:=hmc.em
 have e2:=(qe q.1 [111,102]).em
 rw [← hc.1]
 have herr:∀ d:K,d.err≠0->(qc (qg7 (qil rr) (qc (qc d [111,102]).1 [123]).1).1 [125]).1 = d:=fun d h3=>by
  have h4:(qg7 (qil rr) d).1 = d:=by
   unfold qg7
   rw [qed]
   unfold qgi
   rw [qom hx h3,qd9 h3,Bool.false_and,if_neg (by simp)]
  rw [qbj h3,qbj h3,h4,qbj h3]
 by_cases hs:q.2.isSome = true
 ·rw [if_pos hs,qhc hc hs]
  by_cases hw:(qc q.1 [111,102]).2 = true
  ·rw [if_pos hw]
   have hl:=qr4 (b:=b) (rp:=qdv rp) (rr:=qil rr) (fun c=>qma hp c) (qol hm) (fun c h=>qpa hp h) (fun c h=>qom hx h) (fun c h1 h2=>q4c hx ih h1 h2) (hn.mon (hmc.trans (qe q.1 [111,102]))) (by omega)
   exact qee hl.1 (fun h=>by simp only;rw [hl.2.1 h]) (fun h=>hl.2.2 h)
  ·rw [if_neg hw]
   have h3:=qc4 (c:=q.1) (x:=[111,102]) (by simpa using hw)
   refine qee ?_ (fun h=>by cases h) (fun _=>h3)
   have:=herr _ h3
   rw [qbj h3] at this
   exact this.symm
 ·rw [if_neg hs]
  have h3:=qhe hc hs
  exact qee (herr _ h3).symm (fun h=>by cases h) (fun _=>h3)
omit hm in
theorem q2h (p:Int) {c:K} (hn:NoEnd c) (hr:em c < b):qdj (toO (qc7 rp p ifsW c [])) (qt0 rr p c):=by
 have h1:=ih c hn hr
 have m1:=hp c
 unfold ifsW qt0 qbfk
 rw [qc7,show ifsK c [] = (c,true) from rfl,if_pos rfl]
 simp only
 generalize rp c = q1 at *
 have e1:=m1.em
 have e2:=(qe q1.1 [116,104,101,110]).em
 rw [← h1.1]
 have herr2:∀ (d:K) (a bb:K×N),d.err≠0->bb.1 = d->(qun rr p a bb).1 = d:=fun d a bb h3 hb=>by
  unfold qun q92
  simp only
  rw [hb,qbj h3,hx _ h3]
 have herr1:∀ (d:K) (a:K×N),d.err≠0->(qun rr p a (rr (qc d [116,104,101,110]).1)).1 = d:=fun d a h3=>herr2 d a _ h3 (by rw [qbj h3,hx _ h3])
 by_cases s1:q1.2.isSome = true
 ·rw [if_pos s1,qhc h1 s1]
  rw [qc7,show ifsK q1.1 [116,104,101,110] = qc q1.1 [116,104,101,110] from if_neg (by simp)]
  by_cases w2:(qc q1.1 [116,104,101,110]).2 = true
  ·rw [if_pos w2]
   have h2:=ih (qc q1.1 [116,104,101,110]).1 (hn.mon (m1.trans (qe _ _))) (by omega)
   have m2:=hp (qc q1.1 [116,104,101,110]).1
   generalize rp (qc q1.1 [116,104,101,110]).1 = q2 at *
   have e3:=m2.em
   have e4:=(qe q2.1 [101,108,115,101]).em
   by_cases s2:q2.2.isSome = true
   ·rw [if_pos s2,qhc h2 s2]
    rw [qc7,show ifsK q2.1 [101,108,115,101] = qc q2.1 [101,108,115,101] from if_neg (by simp)]
    unfold qun q92
    rw [← h2.1]
    by_cases w3:(qc q2.1 [101,108,115,101]).2 = true
    ·rw [if_pos w3]
     have h4:=ih (qc q2.1 [101,108,115,101]).1 (hn.mon (((m1.trans (qe _ _)).trans m2).trans (qe _ _))) (by omega)
     generalize rp (qc q2.1 [101,108,115,101]).1 = q3 at *
     by_cases s3:q3.2.isSome = true
     ·rw [if_pos s3,qhc h4 s3,qc7]
      exact qee h4.1 (fun _=>rfl) (fun h=>by cases h)
     ·rw [if_neg s3]
      exact qee h4.1 (fun h=>by cases h) (fun _=>qhe h4 s3)
    ·rw [if_neg w3]
     have h3:=qc4 (c:=q2.1) (x:=[101,108,115,101]) (by simpa using w3)
     exact qee (hx _ h3).symm (fun h=>by cases h) (fun _=>h3)
   ·rw [if_neg s2]
    have h3:=qhe h2 s2
    exact qee (herr2 _ _ _ h3 h2.1.symm).symm (fun h=>by cases h) (fun _=>h3)
  ·rw [if_neg w2]
   have h3:=qc4 (c:=q1.1) (x:=[116,104,101,110]) (by simpa using w2)
   exact qee (herr2 _ _ _ h3 (hx _ h3)).symm (fun h=>by cases h) (fun _=>h3)
 ·rw [if_neg s1]
  have h3:=qhe h1 s1
  exact qee (herr1 _ _ h3).symm (fun h=>by cases h) (fun _=>h3)
theorem qxq {c:K} (hn:NoEnd c) (hr:em c≤b):qdj (toO (qcz rp c)) (qgt rr c):=by
 unfold qcz qgt
 by_cases t1:(qd c [92]).2 = true
 ·rw [if_pos t1,if_pos t1]
  have e1:=qh9 t1
  unfold qs8
  by_cases hk:(qi (qd c [92]).1).kind = 1
  ·rw [if_pos hk,if_pos hk]
   exact qks hx ih _ _ _ _ (hn.mon (qn _ _)) (Nat.lt_succ_self _) (Nat.lt_succ_self _) (by omega)
  ·rw [if_neg hk,if_neg hk]
   exact qee rfl (fun h=>by cases h) (fun _=>qfa _)
 ·rw [if_neg t1,if_neg t1]
  by_cases t2:(qd c [108,101,116]).2 = true
  ·rw [if_pos t2,if_pos t2]
   have e1:=qh9 t2
   exact q2e hx ih hp hm _ (hn.mon (qn _ _)) (by omega)
  ·rw [if_neg t2,if_neg t2]
   by_cases t3:(qd c [99,97,115,101]).2 = true
   ·rw [if_pos t3,if_pos t3]
    have e1:=qh9 t3
    exact qw4 hx ih hp hm _ (hn.mon (qn _ _)) (by omega)
   ·rw [if_neg t3,if_neg t3]
    by_cases t4:(qd c [105,102]).2 = true
    ·rw [if_pos t4,if_pos t4]
     have e1:=qh9 t4
     exact q2h hx ih hp _ (hn.mon (qn _ _)) (by omega)
    ·rw [if_neg t4,if_neg t4]
     exact q3w hx ih hp hm hn hr
end
theorem qmq {rr:K->K×N} {c:K} (h:c.err≠0):(qgt rr c).1 = c:=by
 unfold qgt
 rw [qd9 h,qd9 h,qd9 h,qd9 h]
 simp only [Bool.false_eq_true,if_false]
 unfold qp5
 rw [qwy h,qjh h]
theorem qrj (f:Nat) {c:K} (h:c.err≠0):(qk0 f c).1 = c:=by
 cases f with
 | zero=>rfl
 | succ f =>
   rw [qk0,qjq h]
   simp only
   rw [qmq h,qb8 h]
theorem qum:∀ (f:Nat) (c:K),NoEnd c->em c < f->qdj (qel f c) (qk0 f c)
 | 0,_=>fun _ h=>by omega
 | f + 1, c => fun hn hf => by
   have hx:∀ c:K,c.err≠0->(qk0 f c).1 = c:=fun c h=>qrj f h
   have e1:=(qo c).em
   rw [qel,qk0]
   by_cases he:(qa c).2 = true
   ·rw [if_pos he]
    have ha:=qxq hx (qum f) (qjb f) (qra f) (c:=(qa c).1) (hn.mon (qo c)) (by omega)
    refine ⟨?_,ha.2.1,fun h=>?_⟩
    ·simp only
     rw [← qoa ha]
    ·have h3:(qcz (qel f) (qa c).1).1.err≠0:=ha.2.2 h
     simp only
     rw [qb8 h3]
     exact h3
   ·rw [if_neg he]
    have h3:=qfi (c:=c) (by simpa using he)
    refine ⟨?_,(fun n h=>by cases h),fun _=>h3⟩
    simp only
    rw [qmq h3,qb8 h3]
end Go.Proofs.Ytfjbmjplnmaclaa
