/- Texts of this proof, joined. -/
import Derived.Test.YtlmcofjcpadmiaaGreatNbb
import Derived.Test.YtlmcofjcpadmiaaGreatNbr
set_option linter.unusedVariables false
set_option linter.unusedSimpArgs false

/- expressions: the reference: what it reads -/
namespace Go.Proofs.YtlmcofjcpadmiaaGreat
open Go Go.RowKit Go.V

theorem qbnj {c:K} (h:begE c = true):c.err = 0:=(qfa (qyq h)).1
theorem q45 {c:K} (h:c.err≠0):begE c = false:=by
 cases hb:begE c with
 | false=>rfl
 | true=>exact absurd (qbnj hb) h
def qeu (rec:K->K×N) (c:K):K×N :=
 if begE c = true then
  if isK c [40] = true then (qcn (qh (rec (qh (qb c).1 [40]).1).1 [41]).1,(rec (qh (qb c).1 [40]).1).2)
  else (qg c,(qgm c).getD N0)
 else (qd9 c 5,N0)
def qh6 (rec:K->K×N):Nat->K->N->K×N
 | 0,c,n=>(c,n)
 | f + 1,c,n=>if begE c = true then qh6 rec f (qeu rec c).1 (appN n (qeu rec c).2) else (c,n)
def qsd (rec:K->K×N) (c:K):K×N:=qh6 rec (em (qeu rec c).1 + 1) (qeu rec c).1 (qeu rec c).2
def qcfe (l:List T) (n:N):N:=l.foldr lamN n
def qe6:Nat->K->List T->K×List T
 | 0,c,acc=>(c,acc)
 | f + 1,c,acc=>if (qp c).kind = 1 then qe6 f (qg c) (acc ++ [qp c]) else (c,acc)
def qxj (c:K):K×List T:=qe6 (em c + 1) c []
def q9d (rec:K->K×N) (x:List UInt8) (v:K×List T):K×N:=((rec (qh v.1 x).1).1,qcfe v.2 (rec (qh v.1 x).1).2)
def qlz (rec:K->K×N) (x:List UInt8) (c:K):K×N:=q9d rec x (qxj c)
def qw7 (rec:K->K×N) (c:K):K×N:=if (qp c).kind = 1 then qlz rec [45,62] c else (qd9 c 5,N0)
def qg8 (rec:K->K×N) (c:K):K×N :=
 if (qf (kindK c 1).1 [58,58]).2 = true then
  ((qxu (rest (qf (kindK c 1).1 [58,58]).1 + 2) (qf (kindK c 1).1 [58,58]).1).1,qm9 32 (qen c 1) (qxu (rest (qf (kindK c 1).1 [58,58]).1 + 2) (qf (kindK c 1).1 [58,58]).1).2)
 else ((qlz rec [61] (kindK c 1).1).1,qm9 31 (qen c 1) (qlz rec [61] (kindK c 1).1).2)
def qhr (c:K):K×Bool:=((qf c [59]).1,(qf c [59]).2 && !isK (qf c [59]).1 [125])
def qe2 (rd:K->K×N):Nat->K->List N->K×List N
 | 0,c,acc=>(c,acc)
 | f + 1,c,acc=>if (qhr (rd c).1).2 = true then qe2 rd f (qhr (rd c).1).1 (acc ++ [(rd c).2]) else ((qhr (rd c).1).1,acc ++ [(rd c).2])
def qh8 (rd:K->K×N) (c:K):K×List N:=qe2 rd (em c + 2) c []
def qbfa (rec:K->K×N) (p:Int) (L:K×List N):K×N :=
 ((rec (qh (qh L.1 [125]).1 [105,110]).1).1,.mk 26 p 0 [] (L.2 ++ [(rec (qh (qh L.1 [125]).1 [105,110]).1).2]))
def qxt (rec:K->K×N) (p:Int) (c:K):K×N:=qbfa rec p (qh8 (qg8 rec) (qh c [123]).1)
def q2g (rec:K->K×N) (p:K×N):K×N:=((rec (qh p.1 [45,62]).1).1,altN p.2 (rec (qh p.1 [45,62]).1).2)
def qjj (rec:K->K×N) (c:K):K×N:=q2g rec (qog (rest c + 2) c)
def q4p (p:Int) (x:N) (L:K×List N):K×N:=((qh L.1 [125]).1,.mk 27 p 0 [] (x :: L.2))
def qqa (rec:K->K×N) (p:Int) (c:K):K×N:=q4p p (rec c).2 (qh8 (qjj rec) (qh (qh (rec c).1 [111,102]).1 [123]).1)
def qbd2 (p:Int) (a b d:K×N):K×N:=(d.1,.mk 28 p 0 [] [a.2,b.2,d.2])
def q1c (rec:K->K×N) (p:Int) (a b:K×N):K×N:=qbd2 p a b (rec (qh b.1 [101,108,115,101]).1)
def qbp4 (rec:K->K×N) (p:Int) (a:K×N):K×N:=q1c rec p a (rec (qh a.1 [116,104,101,110]).1)
def qyb (rec:K->K×N) (p:Int) (c:K):K×N:=qbp4 rec p (rec c)
def qie (rec:K->K×N) (c:K):K×N :=
 if (qf c [92]).2 = true then qw7 rec (qf c [92]).1
 else if (qf c [108,101,116]).2 = true then qxt rec (qp c).pos (qf c [108,101,116]).1
 else if (qf c [99,97,115,101]).2 = true then qqa rec (qp c).pos (qf c [99,97,115,101]).1
 else if (qf c [105,102]).2 = true then qyb rec (qp c).pos (qf c [105,102]).1
 else qsd rec c
def qnm:Nat->K->K×N
 | 0,c=>(c,N0)
 | f + 1,c=>(qcn (qie (qnm f) (qb c).1).1,(qie (qnm f) (qb c).1).2)

theorem qrb:∀ (f:Nat) (c:K) (acc:List T),Mon c (qe6 f c acc).1
 | 0,c,acc=>Mon.refl c
 | f + 1, c, acc => by
   rw [qe6]
   split
   ·exact (qbj c).trans (qrb f _ _)
   ·exact Mon.refl c
theorem qp9 (c:K):Mon c (qhr c).1:=qm c _
section
variable {rec:K->K×N} (hm:∀ c,Mon c (rec c).1)
include hm
theorem qk3 (c:K):Mon c (qeu rec c).1:=by
 unfold qeu
 split
 ·split
  ·exact ((qo c).trans (qe _ _)).trans (qqt hm c)
  ·exact qbj c
 ·exact qc3 c 5
theorem qxx {c:K} (h:begE c = true):em (qeu rec c).1 < em c:=by
 unfold qeu
 rw [if_pos h]
 split
 ·have h1:=qlr (c:=c) (by assumption)
  have h2:=(qqt hm c).em
  simp only;omega
 ·exact qow (qyq h)
theorem qpw:∀ (f:Nat) (c:K) (n:N),Mon c (qh6 rec f c n).1
 | 0,c,n=>Mon.refl c
 | f + 1, c, n => by
   rw [qh6]
   split
   ·exact (qk3 hm c).trans (qpw f _ _)
   ·exact Mon.refl c
theorem q3r (c:K):Mon c (qsd rec c).1:=(qk3 hm c).trans (qpw hm _ _ _)
theorem qpr (x:List UInt8) (c:K):Mon c (qlz rec x c).1:=((qrb _ _ _).trans (qe _ x)).trans (hm _)
theorem q26 (c:K):Mon c (qw7 rec c).1:=by
 unfold qw7
 split
 ·exact qpr hm _ c
 ·exact qc3 c 5
theorem qpu (c:K):Mon c (qg8 rec c).1:=by
 unfold qg8
 split
 ·exact ((qbp c 1).trans (qm _ _)).trans ((qo8 (qea _) _).trans (qea _ _))
 ·exact (qbp c 1).trans (qpr hm _ _)
omit hm in
theorem qjy {rd:K->K×N} (hd:∀ c,Mon c (rd c).1):∀ (f:Nat) (c:K) (acc:List N),Mon c (qe2 rd f c acc).1
 | 0,c,acc=>Mon.refl c
 | f + 1, c, acc => by
   rw [qe2]
   split
   ·exact ((hd c).trans (qp9 _)).trans (qjy hd f _ _)
   ·exact (hd c).trans (qp9 _)
theorem q30 (p:Int) (c:K):Mon c (qxt rec p c).1:=((((qe c _).trans (qjy (qpu hm) _ _ _)).trans (qe _ _)).trans (qe _ _)).trans (hm _)
theorem qso (c:K):Mon c (qjj rec c).1:=((qnc _ c).trans (qe _ _)).trans (hm _)
theorem q1b (p:Int) (c:K):Mon c (qqa rec p c).1:=((((hm c).trans (qe _ _)).trans (qe _ _)).trans (qjy (qso hm) _ _ _)).trans (qe _ _)
theorem q2c (p:Int) (c:K):Mon c (qyb rec p c).1:=((((hm c).trans (qe _ _)).trans (hm _)).trans (qe _ _)).trans (hm _)
theorem qzo (c:K):Mon c (qie rec c).1:=by
 unfold qie
 split
 ·exact (qm c _).trans (q26 hm _)
 ·split
  ·exact (qm c _).trans (q30 hm _ _)
  ·split
   ·exact (qm c _).trans (q1b hm _ _)
   ·split
    ·exact (qm c _).trans (q2c hm _ _)
    ·exact q3r hm c
end
theorem qvi:∀ (f:Nat) (c:K),Mon c (qnm f c).1
 | 0,c=>Mon.refl c
 | f + 1,c=>((qo c).trans (qzo (qvi f) _)).trans (qba _)

/-! The program. -/


theorem qbeq {c:K} (h:(qhr c).2 = true):em (qhr c).1 < em c:=by
 unfold qhr at h ⊢
 simp only [Bool.and_eq_true] at h
 exact qil h.1



def NoEnd (c:K):Prop:=∀ t∈c.l,t.kind≠0
theorem NoEnd.mon {c c':K} (h:NoEnd c) (m:Mon c c'):NoEnd c':=by unfold NoEnd;rw [m.2.2.2.1];exact h
theorem qbpq (r:K×Option N):toO (ofO r) = r:=by
 obtain ⟨c,o⟩:=r
 cases o<;>rfl
theorem qe5 {p:R3} {r:K×N} (h1:p.1 = r.1) (h2:p.2.2 = true->p.2.1 = r.2) (h3:p.2.2 = false->p.1.err≠0):qdz (toO p) r:=by
 obtain ⟨d,n,ok⟩:=p
 cases ok with
 | false=>exact ⟨h1,(fun n h=>by cases h),fun _=>h3 rfl⟩
 | true=>exact ⟨h1,(fun n h=>by cases h;exact h2 rfl),(fun h=>by cases h)⟩
theorem qqy {p:R3} {r:K×N} (h:qdz (toO p) r):p.1 = r.1:=h.1
theorem q4k {p:R3} {r:K×N} (h:qdz (toO p) r) (hs:p.2.2 = true):p.2.1 = r.2:=h.2.1 _ (by unfold toO;simp only;rw [if_pos hs])
theorem q5j {p:R3} {r:K×N} (h:qdz (toO p) r) (hs:p.2.2 = false):p.1.err≠0:=h.2.2 (by unfold toO;simp only;rw [if_neg (by rw [hs];simp)])
theorem qir {p:K×Option N} {r:K×N} (h:qdz p r) (hs:¬ p.2.isSome = true):p.1.err≠0:=h.2.2 (by
 cases ho:p.2 with
 | none=>rfl
 | some n=>rw [ho] at hs;exact absurd rfl hs)
theorem qio {p:K×Option N} {r:K×N} (h:qdz p r) (hs:p.2.isSome = true):p.2.getD N0 = r.2:=by
 obtain ⟨n,hn⟩:=Option.isSome_iff_exists.1 hs
 rw [hn]
 exact h.2.1 n hn
theorem q0y {rec:K->K×N} {c:K} (h:c.err≠0):qeu rec c = (c,N0):=by
 rw [qeu,if_neg (by rw [q45 h];simp),qfj h]
theorem qkx {rec:K->K×N} {c:K} (h:c.err≠0) (f:Nat) (n:N):qh6 rec f c n = (c,n):=by
 cases f with
 | zero=>rfl
 | succ f=>rw [qh6,if_neg (by rw [q45 h];simp)]
theorem qr1 {c:K} (h:c.err≠0) (f:Nat) (acc:List T):qe6 f c acc = (c,acc):=by
 cases f with
 | zero=>rfl
 | succ f=>rw [qe6,qhm h,if_neg (by decide)]
theorem qko {c:K} {k:Int} (h:c.err≠0):kindK c k = (c,false):=by rw [q33 h,qfj h]
theorem qmq:∀ (f:Nat) (c:K) (acc:List T),qe6 f c acc = ((qe6 f c []).1,acc ++ (qe6 f c []).2)
 | 0,c,acc=>by simp [qe6]
 | f + 1, c, acc => by
   rw [qe6,qe6]
   split
   ·rw [qmq f _ (acc ++ [qp c]),qmq f _ ([] ++ [qp c])]
    simp
   ·simp
section
variable {rp:K->K×Option N} {rr:K->K×N} {b:Nat} (hx:∀ c:K,c.err≠0->(rr c).1 = c) (ih:∀ c,NoEnd c->em c < b->qdz (rp c) (rr c))
include hx ih
theorem qrn {c:K} (hn:NoEnd c) (hr:em c≤b):qdz (qu rp c) (qeu rr c):=by
 unfold qu qeu
 by_cases hl:(qgm c).isSome = true
 ·have hk:¬ isK c [40] = true:=by
   intro h
   obtain ⟨n,hn⟩:=Option.isSome_iff_exists.1 hl
   simp only [isK,qcg,Bool.and_eq_true,Bool.or_eq_true,decide_eq_true_eq] at h
   unfold qgm at hn
   rw [if_neg (by omega),if_neg (by omega),if_neg (by omega)] at hn
   cases hn
  rw [if_pos hl,if_pos (show begE c = true by simp [begE,hl]),if_neg hk]
  exact ⟨rfl,fun n h=>by simp only at h ⊢;rw [h];rfl,fun h=>by simp only at h;rw [h] at hl;cases hl⟩
 ·rw [if_neg hl]
  by_cases hk:isK c [40] = true
  ·rw [if_pos hk,if_pos (show begE c = true by simp [begE,hk]),if_pos hk]
   have hem:=qlr hk
   by_cases he:(qb c).2 = true
   ·rw [if_pos he]
    have hk':isK (qb c).1 [40] = true:=by rw [qqn he];exact hk
    rw [qqu hk'] at hem ⊢
    simp only at hem ⊢
    obtain ⟨a1,a2,a3⟩:=ih (qg (qb c).1) (hn.mon ((qo c).trans (qbj _))) (by omega)
    rw [← a1]
    generalize rp (qg (qb c).1) = r at *
    obtain ⟨d,o⟩:=r
    simp only at a1 a2 a3 ⊢
    cases o with
    | none =>
      have h3:=a3 rfl
      rw [if_neg (by simp),qbr h3,qci h3]
      exact ⟨rfl,(fun n h=>by cases h),fun _=>h3⟩
    | some n =>
      rw [if_pos (by rfl)]
      by_cases hw:(qh d [41]).2 = true
      ·rw [if_pos hw]
       exact ⟨rfl,fun m h=>a2 m h,(fun h=>by cases h)⟩
      ·rw [if_neg hw]
       have h3:=qdk (by simpa using hw)
       exact ⟨(qci h3).symm,(fun n h=>by cases h),fun _=>h3⟩
   ·have he':(qb c).2 = false:=by simpa using he
    have h1:=qgf he'
    rw [if_neg he]
    rw [qbr h1] at hem ⊢
    simp only at hem ⊢
    rw [hx _ h1,qbr h1,qci h1]
    exact ⟨rfl,(fun n h=>by cases h),fun _=>h1⟩
  ·rw [if_neg hk,if_neg (show ¬ begE c = true by simp [begE,hl,hk])]
   exact ⟨rfl,(fun n h=>by cases h),fun _=>qf8 c⟩
theorem qsj (hp:∀ c,Mon c (rp c).1) (hm:∀ c,Mon c (rr c).1):∀ (f g:Nat) (c:K) (n:N),NoEnd c->rest c < f->em c < g->em c≤b->qdz (toO (qdm rp f c n)) (qh6 rr g c n)
 | 0,_,_,_=>fun _ h _ _=>by omega
 | _,0,_,_=>fun _ _ h _=>by omega
 | f + 1, g + 1, c, n => fun hn hf hg hb => by
   rw [qdm,qh6]
   by_cases hk:begE c = true
   ·rw [if_pos hk,if_pos hk]
    have ha:=qrn hx ih hn hb
    have hl:=qxx hm hk
    have hml:=qc6 hp c
    by_cases hs:(qu rp c).2.isSome = true
    ·rw [if_pos hs,qio ha hs,← ha.1]
     have hlt:=qk8 hp hs
     rw [← ha.1] at hl
     exact qsj hp hm f g _ _ (hn.mon hml) (by omega) (by omega) (by omega)
    ·rw [if_neg hs]
     have h3:=qir ha hs
     rw [qkx (by rw [← ha.1];exact h3)]
     exact qe5 ha.1 (fun h=>by cases h) (fun _=>h3)
   ·rw [if_neg hk,if_neg hk]
    exact qe5 rfl (fun _=>rfl) (fun h=>by cases h)
theorem q71 (hp:∀ c,Mon c (rp c).1) (hm:∀ c,Mon c (rr c).1) {c:K} (hn:NoEnd c) (hr:em c≤b):qdz (toO (qe1 rp c)) (qsd rr c):=by
 unfold qe1 qsd
 have ha:=qrn hx ih hn hr
 have hml:=qc6 hp c
 have hme:=(qk3 hm c).em
 by_cases hs:(qu rp c).2.isSome = true
 ·rw [if_pos hs,qio ha hs,← ha.1]
  rw [← ha.1] at hme
  exact qsj hx ih hp hm _ _ _ _ (hn.mon hml) (Nat.lt_succ_self _) (Nat.lt_succ_self _) (by omega)
 ·rw [if_neg hs]
  have h3:=qir ha hs
  rw [qkx (by rw [← ha.1];exact h3)]
  exact qe5 ha.1 (fun h=>by cases h) (fun _=>h3)
theorem qmw (x:List UInt8):∀ (f g:Nat) (c:K),NoEnd c->rest c < f->em c < g->em c < b->qdz (toO (qb0 rp x f c)) (q9d rr x (qe6 g c []))
 | 0,_,_=>fun _ h _ _=>by omega
 | _,0,_=>fun _ _ h _=>by omega
 | f + 1, g + 1, c => fun hn hf hg hb => by
   rw [qb0,qe6]
   by_cases hk:(qp c).kind = 1
   ·rw [if_pos hk,if_pos hk,qmq]
    have h1:=qbb (c:=c) (by omega)
    have h2:=qow (c:=c) (by omega)
    have ha:=qmw x f g (qg c) (hn.mon (qbj c)) (by omega) (by omega) (by omega)
    refine qe5 (show (qb0 rp x f (qg c)).1 = (q9d rr x (qe6 g (qg c) [])).1 from qqy ha) (fun h=>?_) (fun h=>q5j (p:=qb0 rp x f (qg c)) ha h)
    simp only
    rw [q4k (p:=qb0 rp x f (qg c)) ha h]
    rfl
   ·rw [if_neg hk,if_neg hk]
    have hw:=(qe c x).em
    unfold q9d
    simp only [qcfe,List.foldr_nil]
    by_cases hs:(qh c x).2 = true
    ·rw [if_pos hs,qbpq]
     exact ih _ (hn.mon (qe c x)) (by omega)
    ·rw [if_neg hs]
     have h3:=qdk (c:=c) (x:=x) (by simpa using hs)
     exact qe5 (hx _ h3).symm (fun h=>by cases h) (fun _=>h3)
theorem qsz {c:K} (hn:NoEnd c) (hr:em c < b):qdz (qbm rp c) (qg8 rr c):=by
 have hk1:=qbp c 1
 have e1:=hk1.em
 unfold qbm qg8
 by_cases hk:(kindK c 1).2 = true
 ·rw [if_pos hk]
  by_cases ht:(qf (kindK c 1).1 [58,58]).2 = true
  ·rw [if_pos ht,if_pos ht]
   have hem:=q04 (qf (kindK c 1).1 [58,58]).1
   have ha:=q8o (rest (qf (kindK c 1).1 [58,58]).1 + 2) (qf (kindK c 1).1 [58,58]).1 (hn.mon (hk1.trans (qm _ _))) (by omega)
   refine ⟨ha.1,fun n h=>?_,fun h=>ha.2.2 (by simpa using h)⟩
   obtain ⟨q,hq,rfl⟩:=Option.map_eq_some_iff.1 h
   rw [ha.2.1 q hq]
  ·rw [if_neg ht,if_neg ht]
   have ha:=qmw hx ih [61] (rest (kindK c 1).1 + 1) (em (kindK c 1).1 + 1) (kindK c 1).1 (hn.mon hk1) (Nat.lt_succ_self _) (Nat.lt_succ_self _) (by omega)
   refine ⟨ha.1,fun n h=>?_,fun h=>ha.2.2 (by simpa using h)⟩
   obtain ⟨q,hq,rfl⟩:=Option.map_eq_some_iff.1 h
   exact congrArg _ (ha.2.1 q hq)
 ·rw [if_neg hk]
  have h3:=qnt (c:=c) (k:=1) (by simpa using hk)
  rw [qer h3,if_neg (by simp)]
  unfold qlz qxj q9d
  rw [qr1 h3]
  simp only
  rw [qbr h3,hx _ h3]
  exact ⟨rfl,(fun n h=>by cases h),fun _=>h3⟩
omit ih in
theorem q0a {c:K} (h:c.err≠0):(qg8 rr c).1 = c:=by
 unfold qg8 qlz qxj q9d
 rw [qko h,qer h,if_neg (by simp),qr1 h]
 simp only
 rw [qbr h,hx _ h]
end
theorem qrt {rp:K->R3} {rr:K->K×N} {b:Nat} (hp:∀ c,Mon c (rp c).1) (hm:∀ c,Mon c (rr c).1) (hl:∀ c,(rp c).2.2 = true->rest (rp c).1 < rest c) (ih:∀ c,NoEnd c->em c < b->qdz (toO (rp c)) (rr c)) :
 ∀ (f g : Nat) (c : K) (acc : List N), NoEnd c → rest c < f → em c < g → em c < b →
   (qbn rp f c acc).1 = (qh (qe2 rr g c acc).1 [125]).1∧((qbn rp f c acc).2.2 = true->(qbn rp f c acc).2.1 = (qe2 rr g c acc).2)∧((qbn rp f c acc).2.2 = false->(qbn rp f c acc).1.err≠0)
 | 0,_,_,_=>fun _ h _ _=>by omega
 | _,0,_,_=>fun _ _ h _=>by omega
 | f + 1, g + 1, c, acc => fun hn hf hg hb => by
   rw [qbn,qe2]
   have ha:=ih c hn hb
   have e1:=(hm c).em
   have hmo:qhr (rp c).1 = ((qf (rp c).1 [59]).1,(qf (rp c).1 [59]).2 && !isK (qf (rp c).1 [59]).1 [125]):=rfl
   by_cases hs:(rp c).2.2 = true
   ·rw [if_pos hs,q4k ha hs,← qqy ha,hmo]
    by_cases ht:((qf (rp c).1 [59]).2 && !isK (qf (rp c).1 [59]).1 [125]) = true
    ·rw [if_pos ht,if_pos ht]
     have h1:=hl c hs
     have h2:=(qm (rp c).1 [59]).2.1
     have h3:em (qf (rp c).1 [59]).1 < em (rp c).1:=qbeq (c:=(rp c).1) ht
     have h4:=(hp c).em
     exact qrt hp hm hl ih f g _ _ (hn.mon ((hp c).trans (qm _ _))) (by omega) (by omega) (by omega)
    ·rw [if_neg ht,if_neg ht]
     refine ⟨rfl,fun _=>rfl,fun h=>qdk h⟩
   ·rw [if_neg hs]
    have h3:=q5j ha (by simpa using hs)
    rw [← qqy ha]
    unfold qhr
    rw [qer h3,Bool.false_and,if_neg (by simp)]
    simp only
    rw [qbr h3]
    exact ⟨rfl,(fun h=>by cases h),fun _=>h3⟩
theorem quv {rp:K->R3} {rr:K->K×N} {b:Nat} (hp:∀ c,Mon c (rp c).1) (hm:∀ c,Mon c (rr c).1) (hl:∀ c,(rp c).2.2 = true->rest (rp c).1 < rest c) (hx:∀ c:K,c.err≠0->(rr c).1 = c) (ih:∀ c,NoEnd c->em c < b->qdz (toO (rp c)) (rr c))
 {c:K} (hn:NoEnd c) (hr:em c < b):(q8 rp c).1 = (qh (qh8 rr (qh c [123]).1).1 [125]).1∧((q8 rp c).2.2 = true->(q8 rp c).2.1 = (qh8 rr (qh c [123]).1).2)∧((q8 rp c).2.2 = false->(q8 rp c).1.err≠0):=by
 unfold q8 qh8
 have e1:=(qe c [123]).em
 by_cases hs:(qh c [123]).2 = true
 ·rw [if_pos hs]
  exact qrt hp hm hl ih _ _ _ _ (hn.mon (qe c _)) (Nat.lt_succ_self _) (by omega) (by omega)
 ·rw [if_neg hs]
  have h3:=qdk (c:=c) (x:=[123]) (by simpa using hs)
  have h4:(qe2 rr (em (qh c [123]).1 + 2) (qh c [123]).1 []).1 = (qh c [123]).1:=by
   rw [qe2]
   unfold qhr
   rw [hx _ h3,qer h3,Bool.false_and,if_neg (by simp)]
  rw [h4,qbr h3]
  exact ⟨rfl,(fun h=>by cases h),fun _=>h3⟩
section
variable {rp:K->K×Option N} {rr:K->K×N} {b:Nat} (hx:∀ c:K,c.err≠0->(rr c).1 = c) (ih:∀ c,NoEnd c->em c < b->qdz (rp c) (rr c)) (hp:∀ c,Mon c (rp c).1) (hm:∀ c,Mon c (rr c).1)
include hx ih hp hm
theorem q8s (p:Int) {c:K} (hn:NoEnd c) (hr:em c < b):qdz (toO (qgo rp p c)) (qxt rr p c):=by
 have hl:=quv (b:=b) (rp:=fun c=>ofO (qbm rp c)) (rr:=qg8 rr) (fun c=>qe7 hp c) (qpu hm) (fun c h=>qk7 hp h) (fun c h=>q0a hx h) (fun c h1 h2=>by rw [qbpq];exact qsz hx ih h1 h2) hn hr
 have hml:=qfu (rd:=fun c=>ofO (qbm rp c)) (fun c=>qe7 hp c) c
 unfold qgo qxt letB letC qbfa
 generalize q8 (fun c=>ofO (qbm rp c)) c = L at *
 obtain ⟨d,l,ok⟩:=L
 simp only at hl hml ⊢
 rw [← hl.1]
 have e1:=hml.em
 have e2:=(qe d [105,110]).em
 cases ok with
 | false =>
   have h3:=hl.2.2 rfl
   rw [if_neg (by simp),qbr h3,hx _ h3]
   exact qe5 rfl (fun h=>by cases h) (fun _=>h3)
 | true =>
   rw [if_pos rfl,hl.2.1 rfl]
   by_cases hw:(qh d [105,110]).2 = true
   ·rw [if_pos hw]
    have ha:=ih (qh d [105,110]).1 (hn.mon (hml.trans (qe _ _))) (by omega)
    refine qe5 ha.1 (fun h=>?_) (fun h=>qir ha (by simpa using h))
    simp only
    rw [qio ha h]
   ·rw [if_neg hw]
    have h3:=qdk (c:=d) (x:=[105,110]) (by simpa using hw)
    exact qe5 (hx _ h3).symm (fun h=>by cases h) (fun _=>h3)
omit hp hm in
theorem q72 {c:K} (hn:NoEnd c) (hr:em c < b):qdz (toO (qdv rp c)) (qjj rr c):=by
 have hpa:=q47 (rest c + 2) c (by have:=q04 c;omega)
 have hmp:=qes (rest c + 2) c
 unfold qdv qjj altB altC q2g
 generalize qb6 (rest c + 2) c = q at *
 have e1:=hmp.em
 have e2:=(qe q.1 [45,62]).em
 rw [← hpa.1]
 by_cases hs:q.2.isSome = true
 ·rw [if_pos hs,qio hpa hs]
  by_cases hw:(qh q.1 [45,62]).2 = true
  ·rw [if_pos hw]
   have ha:=ih (qh q.1 [45,62]).1 (hn.mon (hmp.trans (qe _ _))) (by omega)
   refine qe5 ha.1 (fun h=>?_) (fun h=>qir ha (by simpa using h))
   simp only
   rw [qio ha h]
  ·rw [if_neg hw]
   have h3:=qdk (c:=q.1) (x:=[45,62]) (by simpa using hw)
   exact qe5 (hx _ h3).symm (fun h=>by cases h) (fun _=>h3)
 ·rw [if_neg hs]
  have h3:=qir hpa hs
  rw [qbr h3,hx _ h3]
  exact qe5 rfl (fun h=>by cases h) (fun _=>h3)
omit ih hp hm in
theorem qrk {c:K} (h:c.err≠0):(qjj rr c).1 = c:=by
 unfold qjj q2g
 rw [qyy _ h]
 simp only
 rw [qbr h,hx _ h]
theorem q35 (p:Int) {c:K} (hn:NoEnd c) (hr:em c < b):qdz (toO (qeh rp p c)) (qqa rr p c):=by
 have hc:=ih c hn hr
 have hmc:=hp c
 unfold qeh qqa qy1 q02 q4p
 generalize rp c = q at *
 have e1:=hmc.em
 have e2:=(qe q.1 [111,102]).em
 rw [← hc.1]
 have herr:∀ d:K,d.err≠0->(qh (qh8 (qjj rr) (qh (qh d [111,102]).1 [123]).1).1 [125]).1 = d:=fun d h3=>by
  have h4:(qh8 (qjj rr) d).1 = d:=by
   unfold qh8
   rw [qe2]
   unfold qhr
   rw [qrk hx h3,qer h3,Bool.false_and,if_neg (by simp)]
  rw [qbr h3,qbr h3,h4,qbr h3]
 by_cases hs:q.2.isSome = true
 ·rw [if_pos hs,qio hc hs]
  by_cases hw:(qh q.1 [111,102]).2 = true
  ·rw [if_pos hw]
   have hl:=quv (b:=b) (rp:=qdv rp) (rr:=qjj rr) (fun c=>qly hp c) (qso hm) (fun c h=>qrf hp h) (fun c h=>qrk hx h) (fun c h1 h2=>q72 hx ih h1 h2) (hn.mon (hmc.trans (qe q.1 [111,102]))) (by omega)
   exact qe5 hl.1 (fun h=>by simp only;rw [hl.2.1 h]) (fun h=>hl.2.2 h)
  ·rw [if_neg hw]
   have h3:=qdk (c:=q.1) (x:=[111,102]) (by simpa using hw)
   refine qe5 ?_ (fun h=>by cases h) (fun _=>h3)
   have:=herr _ h3
   rw [qbr h3] at this
   exact this.symm
 ·rw [if_neg hs]
  have h3:=qir hc hs
  exact qe5 (herr _ h3).symm (fun h=>by cases h) (fun _=>h3)
omit hm in
theorem q7q (p:Int) {c:K} (hn:NoEnd c) (hr:em c < b):qdz (toO (qda rp p ifsW c [])) (qyb rr p c):=by
 have h1:=ih c hn hr
 have m1:=hp c
 unfold ifsW qyb qbp4
 rw [qda,show ifsK c [] = (c,true) from rfl,if_pos rfl]
 simp only
 generalize rp c = q1 at *
 have e1:=m1.em
 have e2:=(qe q1.1 [116,104,101,110]).em
 rw [← h1.1]
 have herr2:∀ (d:K) (a bb:K×N),d.err≠0->bb.1 = d->(q1c rr p a bb).1 = d:=fun d a bb h3 hb=>by
  unfold q1c qbd2
  simp only
  rw [hb,qbr h3,hx _ h3]
 have herr1:∀ (d:K) (a:K×N),d.err≠0->(q1c rr p a (rr (qh d [116,104,101,110]).1)).1 = d:=fun d a h3=>herr2 d a _ h3 (by rw [qbr h3,hx _ h3])
 by_cases s1:q1.2.isSome = true
 ·rw [if_pos s1,qio h1 s1]
  rw [qda,show ifsK q1.1 [116,104,101,110] = qh q1.1 [116,104,101,110] from if_neg (by simp)]
  by_cases w2:(qh q1.1 [116,104,101,110]).2 = true
  ·rw [if_pos w2]
   have h2:=ih (qh q1.1 [116,104,101,110]).1 (hn.mon (m1.trans (qe _ _))) (by omega)
   have m2:=hp (qh q1.1 [116,104,101,110]).1
   generalize rp (qh q1.1 [116,104,101,110]).1 = q2 at *
   have e3:=m2.em
   have e4:=(qe q2.1 [101,108,115,101]).em
   by_cases s2:q2.2.isSome = true
   ·rw [if_pos s2,qio h2 s2]
    rw [qda,show ifsK q2.1 [101,108,115,101] = qh q2.1 [101,108,115,101] from if_neg (by simp)]
    unfold q1c qbd2
    rw [← h2.1]
    by_cases w3:(qh q2.1 [101,108,115,101]).2 = true
    ·rw [if_pos w3]
     have h4:=ih (qh q2.1 [101,108,115,101]).1 (hn.mon (((m1.trans (qe _ _)).trans m2).trans (qe _ _))) (by omega)
     generalize rp (qh q2.1 [101,108,115,101]).1 = q3 at *
     by_cases s3:q3.2.isSome = true
     ·rw [if_pos s3,qio h4 s3,qda]
      exact qe5 h4.1 (fun _=>rfl) (fun h=>by cases h)
     ·rw [if_neg s3]
      exact qe5 h4.1 (fun h=>by cases h) (fun _=>qir h4 s3)
    ·rw [if_neg w3]
     have h3:=qdk (c:=q2.1) (x:=[101,108,115,101]) (by simpa using w3)
     exact qe5 (hx _ h3).symm (fun h=>by cases h) (fun _=>h3)
   ·rw [if_neg s2]
    have h3:=qir h2 s2
    exact qe5 (herr2 _ _ _ h3 h2.1.symm).symm (fun h=>by cases h) (fun _=>h3)
  ·rw [if_neg w2]
   have h3:=qdk (c:=q1.1) (x:=[116,104,101,110]) (by simpa using w2)
   exact qe5 (herr2 _ _ _ h3 (hx _ h3)).symm (fun h=>by cases h) (fun _=>h3)
 ·rw [if_neg s1]
  have h3:=qir h1 s1
  exact qe5 (herr1 _ _ h3).symm (fun h=>by cases h) (fun _=>h3)
theorem q2l {c:K} (hn:NoEnd c) (hr:em c≤b):qdz (toO (qc8 rp c)) (qie rr c):=by
 unfold qc8 qie
 by_cases t1:(qf c [92]).2 = true
 ·rw [if_pos t1,if_pos t1]
  have e1:=qil t1
  unfold qw7
  by_cases hk:(qp (qf c [92]).1).kind = 1
  ·rw [if_pos hk,if_pos hk]
   exact qmw hx ih _ _ _ _ (hn.mon (qm _ _)) (Nat.lt_succ_self _) (Nat.lt_succ_self _) (by omega)
  ·rw [if_neg hk,if_neg hk]
   exact qe5 rfl (fun h=>by cases h) (fun _=>qf8 _)
 ·rw [if_neg t1,if_neg t1]
  by_cases t2:(qf c [108,101,116]).2 = true
  ·rw [if_pos t2,if_pos t2]
   have e1:=qil t2
   exact q8s hx ih hp hm _ (hn.mon (qm _ _)) (by omega)
  ·rw [if_neg t2,if_neg t2]
   by_cases t3:(qf c [99,97,115,101]).2 = true
   ·rw [if_pos t3,if_pos t3]
    have e1:=qil t3
    exact q35 hx ih hp hm _ (hn.mon (qm _ _)) (by omega)
   ·rw [if_neg t3,if_neg t3]
    by_cases t4:(qf c [105,102]).2 = true
    ·rw [if_pos t4,if_pos t4]
     have e1:=qil t4
     exact q7q hx ih hp _ (hn.mon (qm _ _)) (by omega)
    ·rw [if_neg t4,if_neg t4]
     exact q71 hx ih hp hm hn hr
end
theorem qpf {rr:K->K×N} {c:K} (h:c.err≠0):(qie rr c).1 = c:=by
 unfold qie
 rw [qer h,qer h,qer h,qer h]
 simp only [Bool.false_eq_true,if_false]
 unfold qsd
 rw [q0y h,qkx h]
theorem qvd (f:Nat) {c:K} (h:c.err≠0):(qnm f c).1 = c:=by
 cases f with
 | zero=>rfl
 | succ f =>
   rw [qnm,ql2 h]
   simp only
   rw [qpf h,qci h]
theorem q1m:∀ (f:Nat) (c:K),NoEnd c->em c < f->qdz (qfo f c) (qnm f c)
 | 0,_=>fun _ h=>by omega
 | f + 1, c => fun hn hf => by
   have hx:∀ c:K,c.err≠0->(qnm f c).1 = c:=fun c h=>qvd f h
   have e1:=(qo c).em
   rw [qfo,qnm]
   by_cases he:(qb c).2 = true
   ·rw [if_pos he]
    have ha:=q2l hx (q1m f) (qi9 f) (qvi f) (c:=(qb c).1) (hn.mon (qo c)) (by omega)
    refine ⟨?_,ha.2.1,fun h=>?_⟩
    ·simp only
     rw [← qqy ha]
    ·have h3:(qc8 (qfo f) (qb c).1).1.err≠0:=ha.2.2 h
     simp only
     rw [qci h3]
     exact h3
   ·rw [if_neg he]
    have h3:=qgf (c:=c) (by simpa using he)
    refine ⟨?_,(fun n h=>by cases h),fun _=>h3⟩
    simp only
    rw [qpf h3,qci h3]
end Go.Proofs.YtlmcofjcpadmiaaGreat
