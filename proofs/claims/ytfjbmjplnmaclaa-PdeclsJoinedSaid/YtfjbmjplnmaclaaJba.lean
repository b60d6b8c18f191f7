/- Texts of this proof, joined. -/
import Derived.Test.YtfjbmjplnmaclaaJay
import Derived.Test.YtfjbmjplnmaclaaJaz
import Derived.Test.YtfjbmjplnmaclaaJas
set_option linter.unusedVariables false
set_option linter.unusedSimpArgs false

/- readings and brackets: who reads has opened as many as it has closed: types, contexts, patterns -/
namespace Go.Proofs.Ytfjbmjplnmaclaa.JN
open Go Go.RowKit Go.V
set_option linter.unusedSectionVars false

theorem noB:¬ (false = true):=by decide
def remT (c:K):List T:=c.l.drop c.at'
def wt (t:T):Int:=if qck t [[40],[123]] = true then 1 else if qck t [[41],[125]] = true then -1 else 0
def tot:List T->Int
 | []=>0
 | t :: r=>wt t + tot r
def bk (c:K):Int:=tot (remT c)
def wx (x:List UInt8):Int:=if ([[40],[123]]:List (List UInt8)).contains x = true then 1 else if ([[41],[125]]:List (List UInt8)).contains x = true then -1 else 0
theorem q6v {t:T} (h4:t.kind≠4) (h5:t.kind≠5):wt t = 0:=by
 have:∀ l,qck t l = false:=fun l=>by rw [qck,decide_eq_false h4,decide_eq_false h5];rfl
 rw [wt,this,this,if_neg noB,if_neg noB]
theorem q4s {t:T} {x:List UInt8} (h:qfm t x = true):wt t = wx x:=by
 simp only [qfm,Bool.and_eq_true,decide_eq_true_eq] at h
 obtain ⟨h1,rfl⟩:=h
 rw [wt,wx,qck,qck,h1,Bool.true_and,Bool.true_and]
theorem q04 {c:K} (h:c.err = 0) (hk:(qi c).kind≠0):remT c = qi c :: remT (qg c)∧(qg c).err = 0:=by
 by_cases hl:c.at' < c.l.length
 ·have h1:qi c = c.l.getD c.at' T0:=by rw [qi,if_pos h,if_pos hl]
  have h2:qg c = { c with at':=c.at' + 1 }:=by rw [qg,if_pos h,if_pos hl]
  rw [h1,h2]
  exact ⟨qbaw hl,h⟩
 ·exfalso
  apply hk
  rw [qi,if_pos h,if_neg hl]
def Bl (c d:K):Prop:=d.err = 0∧bk d = bk c
theorem Bl.refl {c:K} (h:c.err = 0):Bl c c:=⟨h,rfl⟩
theorem Bl.trans {a b c:K} (h:Bl a b) (k:Bl b c):Bl a c:=⟨k.1,k.2.trans h.2⟩
theorem q8t {c:K} (h:c.err = 0) (hk:(qi c).kind≠0):(qg c).err = 0∧bk (qg c) = bk c - wt (qi c):=by
 obtain ⟨h1,h2⟩:=q04 h hk
 refine ⟨h2,?_⟩
 rw [bk,bk,h1,tot];omega
theorem qft {c:K} (h:c.err = 0) {k:Int} (hk:(qi c).kind = k) (h0:k≠0:=by decide) (h4:k≠4:=by decide) (h5:k≠5:=by decide):Bl c (qg c):=by
 obtain ⟨h1,h2⟩:=q8t h (by rw [hk];exact h0)
 exact ⟨h1,by rw [h2,q6v (by rw [hk];exact h4) (by rw [hk];exact h5)];omega⟩
theorem qyg {c:K} {x:List UInt8} (h:isK c x = true):(qg c).err = 0∧bk (qg c) = bk c - wx x:=by
 have hk:=qda h
 simp only [isK,Bool.and_eq_true,decide_eq_true_eq] at h
 obtain ⟨h1,h2⟩:=q8t h.1 hk
 exact ⟨h1,by rw [h2,q4s h.2]⟩
theorem qki {c:K} {x:List UInt8} (h:(qc c x).2 = true):(qc c x).1.err = 0∧bk (qc c x).1 = bk c - wx x:=by
 have hi:isK c x = true:=by
  cases hi:isK c x with
  | true=>rfl
  | false=>rw [qc,hi] at h;cases h
 rw [qib hi];exact qyg hi
theorem qif {c:K} {x:List UInt8} (h:(qc c x).2 = true) (hx:wx x = 0:=by decide):Bl c (qc c x).1:=by
 obtain ⟨h1,h2⟩:=qki h
 exact ⟨h1,by rw [h2,hx];omega⟩
theorem q6z {c:K} (h0:c.err = 0) (x:List UInt8):(qd c x).1.err = 0∧bk (qd c x).1 = bk c - (if (qd c x).2 = true then wx x else 0):=by
 cases hi:isK c x with
 | true=>rw [qgj hi,if_pos rfl];exact qyg hi
 | false=>rw [qe3 hi,if_neg noB];exact ⟨h0,by show bk c = bk c - 0;omega⟩
theorem qfr {c:K} (h0:c.err = 0) (x:List UInt8) (hx:wx x = 0:=by decide):Bl c (qd c x).1:=by
 obtain ⟨h1,h2⟩:=q6z h0 x
 exact ⟨h1,by rw [h2,hx];split<;>omega⟩
theorem qox {c:K} {k:Int} (h:(kindK c k).2 = true) (h0:k≠0:=by decide) (h4:k≠4:=by decide) (h5:k≠5:=by decide):Bl c (kindK c k).1:=by
 obtain ⟨h1,h2⟩:=qj2 h
 rw [qkj h1 h2]
 exact qft h1 h2 h0 h4 h5
theorem qjt {c:K} (h:(qa c).2 = true):Bl c (qa c).1:=by
 obtain ⟨_,h2,h3⟩:=qlb h
 exact ⟨h2,by rw [h3];rfl⟩
theorem qg4 {c:K} (h:c.err = 0):Bl c (qb4 c):=by
 unfold qb4
 rw [if_pos h]
 split
 ·exact ⟨h,rfl⟩
 ·exact ⟨h,rfl⟩
theorem qst {c d:K} {x y:List UInt8} (hk:isK c x = true) (hd:Bl (qg c) d) (hw:(qc d y).2 = true) (hxy:wx x + wx y = 0:=by decide):Bl c (qc d y).1:=by
 obtain ⟨a1,a2⟩:=qyg hk
 obtain ⟨b1,b2⟩:=qki hw
 exact ⟨b1,by rw [b2,hd.2,a2];omega⟩
def Bo {α:Type} (c:K) (p:K×Option α):Prop:=∀ x,p.2 = some x->Bl c p.1
def BF {α:Type} (f:K->K×Option α):Prop:=∀ c,c.err = 0->Bo c (f c)
section
variable {rec:K->K×Option N} (hr:BF rec)
include hr
theorem qhr:BF (qbc rec):=fun c h x hx=>by
 unfold qbc at hx ⊢
 by_cases h1:(qi c).kind = 1
 ·rw [if_pos h1];exact qft h h1
 by_cases h2:(qi c).kind = 2
 ·rw [if_neg h1,if_pos h2];exact qft h h2
 cases hk:isK c [40] with
 | false=>rw [if_neg h1,if_neg h2,hk,if_neg noB] at hx;cases hx
 | true =>
   rw [if_neg h1,if_neg h2,hk,if_pos rfl] at hx
   rw [if_neg h1,if_neg h2,if_pos rfl]
   cases he:(qa c).2 with
   | false=>rw [he,if_neg noB] at hx;cases hx
   | true =>
     rw [he,if_pos rfl] at hx
     rw [if_pos rfl]
     have e1:=qjt he
     have e2:isK (qa c).1 [40] = true:=by rw [qfb he];exact hk
     have n1:=(qyg e2).1
     cases hy:(rec (qg (qa c).1)).2 with
     | none=>rw [hy] at hx;cases hx
     | some y =>
       rw [hy,Option.isSome_some,if_pos rfl] at hx
       rw [Option.isSome_some,if_pos rfl]
       cases hw:(qc (rec (qg (qa c).1)).1 [41]).2 with
       | false=>rw [hw,if_neg noB] at hx;cases hx
       | true =>
         have q:=qst e2 (hr _ n1 y hy) hw
         exact (e1.trans q).trans (qg4 q.1)
theorem qre:∀ (f:Nat) (c:K) (a:List N),c.err = 0->Bo c (qcu rec f c a)
 | 0,c,a,h=>fun x hx=>by cases hx
 | f + 1, c, a, h => fun x hx => by
   rw [qcu] at hx ⊢
   cases hc:begT c with
   | false=>rw [if_neg noB];exact Bl.refl h
   | true =>
     rw [hc,if_pos rfl] at hx
     rw [if_pos rfl]
     cases hy:(qbc rec c).2 with
     | none=>rw [hy] at hx;cases hx
     | some y =>
       rw [hy,Option.isSome_some,if_pos rfl] at hx
       rw [Option.isSome_some,if_pos rfl]
       have q:=qhr hr c h y hy
       exact q.trans (qre f _ _ q.1 x hx)
theorem q8f:BF (qbt rec):=fun c h x hx=>by
 unfold qbt at hx ⊢
 by_cases h2:(qi c).kind = 2
 ·rw [if_pos h2] at hx ⊢
  have q:=qft h h2
  cases hy:(qcu rec (rest c + 1) (qg c) []).2 with
  | none=>rw [hy] at hx;cases hx
  | some y=>exact q.trans (qre hr _ _ _ q.1 y hy)
 ·rw [if_neg h2] at hx ⊢
  exact qhr hr c h x hx
end
theorem qih:∀ f,BF (qbg f)
 | 0=>fun c h x hx=>by cases hx
 | f + 1 => fun c h x hx => by
   rw [qbg] at hx ⊢
   cases he:(qa c).2 with
   | false=>rw [he,if_neg noB] at hx;cases hx
   | true =>
     rw [he,if_pos rfl] at hx
     rw [if_pos rfl]
     have e1:=qjt he
     cases hy:(qbt (qbg f) (qa c).1).2 with
     | none=>rw [hy] at hx;cases hx
     | some y =>
       rw [hy,Option.isSome_some,if_pos rfl] at hx
       rw [Option.isSome_some,if_pos rfl]
       have q:=q8f (qih f) _ e1.1 y hy
       have t:=qfr q.1 [45,62]
       cases ht:(qd (qbt (qbg f) (qa c).1).1 [45,62]).2 with
       | false=>rw [if_neg noB];exact (e1.trans q).trans (qg4 q.1)
       | true =>
         rw [ht,if_pos rfl] at hx
         rw [if_pos rfl]
         cases hz:(qbg f (qd (qbt (qbg f) (qa c).1).1 [45,62]).1).2 with
         | none=>rw [hz] at hx;cases hx
         | some z =>
           have r:=qih f _ t.1 z hz
           exact (((e1.trans q).trans t).trans r).trans (qg4 r.1)
section
variable {rec:K->K×Option N} (hr:BF rec)
include hr
theorem q10:BF (qw rec):=fun c h x hx=>by
 unfold qw at hx ⊢
 cases hk:(kindK c 2).2 with
 | false=>rw [hk,if_neg noB] at hx;cases hx
 | true =>
   rw [hk,if_pos rfl] at hx
   rw [if_pos rfl]
   have q:=qox hk
   cases hy:(qbc rec (kindK c 2).1).2 with
   | none=>rw [hy] at hx;cases hx
   | some y=>exact q.trans (qhr hr _ q.1 y hy)
theorem qww (many:Bool):∀ (f:Nat) (c:K) (a:List N),c.err = 0->Bo c (qdn rec many f c a)
 | 0,c,a,h=>fun x hx=>by cases hx
 | f + 1, c, a, h => fun x hx => by
   rw [qdn] at hx ⊢
   cases hy:(qw rec c).2 with
   | none=>rw [hy] at hx;cases hx
   | some y =>
     rw [hy,Option.isSome_some,if_pos rfl] at hx
     rw [Option.isSome_some,if_pos rfl]
     have q:=q10 hr c h y hy
     cases hb:(many && (qd (qw rec c).1 [44]).2) with
     | false=>rw [if_neg noB];exact q
     | true =>
       rw [hb,if_pos rfl] at hx
       rw [if_pos rfl]
       have t:=qfr q.1 [44]
       exact (q.trans t).trans (qww many f _ _ t.1 x hx)
theorem q9b (c:K) (h:c.err = 0):∀ x,(qcn rec c).2 = some x->(qcn rec c).1.err = 0∧bk (qcn rec c).1 = bk c - (if (qd c [40]).2 = true then 1 else 0):=fun x hx=>by
 obtain ⟨t1,t2⟩:=q6z h [40]
 have t2:bk (qd c [40]).1 = bk c - (if (qd c [40]).2 = true then 1 else 0):=t2
 unfold qcn at hx ⊢
 cases hb:((qd c [40]).2 && isK (qd c [40]).1 [41]) with
 | true=>rw [if_pos rfl];exact ⟨t1,t2⟩
 | false =>
   rw [hb,if_neg noB] at hx
   rw [if_neg noB]
   have q:=qww hr (qd c [40]).2 _ _ _ t1 x hx
   exact ⟨q.1,q.2.trans t2⟩
theorem qoe:BF (qq rec):=fun c h x hx=>by
 rw [qq] at hx ⊢
 cases ha:qgv c [61,62] with
 | false=>rw [if_neg noB];exact Bl.refl h
 | true =>
   rw [ha,if_pos rfl] at hx
   rw [if_pos rfl]
   have hB:=q9b hr c h
   unfold qd6 at hx ⊢
   cases hy:(qcn rec c).2 with
   | none=>rw [hy] at hx;cases hx
   | some y =>
     rw [hy,Option.isSome_some,if_pos rfl] at hx
     rw [Option.isSome_some,if_pos rfl]
     obtain ⟨b1,b2⟩:=hB y hy
     cases ht:(qd c [40]).2 with
     | true =>
       rw [ht,if_pos rfl] at hx b2
       rw [if_pos rfl]
       cases hw:(qc (qcn rec c).1 [41]).2 with
       | false=>rw [hw,if_neg noB] at hx;cases hx
       | true =>
         rw [hw,if_pos rfl] at hx
         rw [if_pos rfl]
         obtain ⟨w1,w2⟩:=qki hw
         have w2:bk (qc (qcn rec c).1 [41]).1 = bk (qcn rec c).1 - -1:=w2
         cases hv:(qc (qc (qcn rec c).1 [41]).1 [61,62]).2 with
         | false=>rw [hv,if_neg noB] at hx;cases hx
         | true =>
           have q:=qif hv
           exact ⟨q.1,by rw [q.2,w2,b2];omega⟩
     | false =>
       rw [ht,if_neg noB] at hx b2
       rw [if_neg noB]
       cases hv:(qc (qcn rec c).1 [61,62]).2 with
       | false=>rw [hv,if_neg noB] at hx;cases hx
       | true =>
         have q:=qif hv
         exact ⟨q.1,by rw [q.2,b2];omega⟩
end
theorem q2a (f:Nat):BF (qdi f):=fun c h x hx=>by
 rw [qdi] at hx ⊢
 cases hy:(qq (qbg f) c).2 with
 | none=>rw [hy] at hx;cases hx
 | some y =>
   rw [hy,Option.isSome_some,if_pos rfl] at hx
   rw [Option.isSome_some,if_pos rfl]
   have q:=qoe (qih f) c h y hy
   cases hz:(qbg f (qq (qbg f) c).1).2 with
   | none=>rw [hz] at hx;cases hx
   | some z=>exact q.trans (qih f _ q.1 z hz)

/-! patterns -/
theorem q3s {c:K} {n:N} (h:leafP c = some n):(qi c).kind = 1∨(qi c).kind = 2∨(qi c).kind = 3∨isK c [95] = true:=by
 unfold leafP at h
 split at h
 ·exact .inl (by assumption)
 ·split at h
  ·exact .inr (.inl (by assumption))
  ·split at h
   ·exact .inr (.inr (.inl (by assumption)))
   ·split at h
    ·exact .inr (.inr (.inr (by assumption)))
    ·cases h
theorem qba7 {c:K} {n:N} (h0:c.err = 0) (h:leafP c = some n):Bl c (qg c):=by
 rcases q3s h with h | h | h | h
 ·exact qft h0 h
 ·exact qft h0 h
 ·exact qft h0 h
 ·obtain ⟨h1,h2⟩:=qyg h
  exact ⟨h1,by rw [h2];show bk c - 0 = bk c;omega⟩
section
variable {rec:K->K×Option N} (hr:BF rec)
include hr
theorem qrh:BF (qba rec):=fun c h x hx=>by
 unfold qba at hx ⊢
 cases hl:leafP c with
 | some n=>rw [Option.isSome_some,if_pos rfl];exact qba7 h hl
 | none =>
   rw [hl,Option.isSome_none,if_neg noB] at hx
   rw [Option.isSome_none,if_neg noB]
   cases hk:isK c [40] with
   | false=>rw [hk,if_neg noB] at hx;cases hx
   | true =>
     rw [hk,if_pos rfl] at hx
     rw [if_pos rfl]
     cases he:(qa c).2 with
     | false=>rw [he,if_neg noB] at hx;cases hx
     | true =>
       rw [he,if_pos rfl] at hx
       rw [if_pos rfl]
       have e1:=qjt he
       have e2:isK (qa c).1 [40] = true:=by rw [qfb he];exact hk
       have n1:=(qyg e2).1
       cases hy:(rec (qg (qa c).1)).2 with
       | none=>rw [hy] at hx;cases hx
       | some y =>
         rw [hy,Option.isSome_some,if_pos rfl] at hx
         rw [Option.isSome_some,if_pos rfl]
         cases hw:(qc (rec (qg (qa c).1)).1 [41]).2 with
         | false=>rw [hw,if_neg noB] at hx;cases hx
         | true =>
           rw [if_pos rfl]
           have q:=qst e2 (hr _ n1 y hy) hw
           exact (e1.trans q).trans (qg4 q.1)
theorem qzd:∀ (f:Nat) (c:K) (a:List N),c.err = 0->Bo c (qem rec f c a)
 | 0,c,a,h=>fun x hx=>by cases hx
 | f + 1, c, a, h => fun x hx => by
   rw [qem] at hx ⊢
   cases hc:begP c with
   | false=>rw [if_neg noB];exact Bl.refl h
   | true =>
     rw [hc,if_pos rfl] at hx
     rw [if_pos rfl]
     cases hy:(qba rec c).2 with
     | none=>rw [hy] at hx;cases hx
     | some y =>
       rw [hy,Option.isSome_some,if_pos rfl] at hx
       rw [Option.isSome_some,if_pos rfl]
       have q:=qrh hr c h y hy
       exact q.trans (qzd f _ _ q.1 x hx)
end
theorem qty:∀ f,BF (qbz f)
 | 0=>fun c h x hx=>by cases hx
 | f + 1 => fun c h x hx => by
   rw [qbz] at hx ⊢
   cases he:(qa c).2 with
   | false=>rw [he,if_neg noB] at hx;cases hx
   | true =>
     rw [he,if_pos rfl] at hx
     rw [if_pos rfl]
     have e1:=qjt he
     by_cases h2:(qi (qa c).1).kind = 2
     ·rw [if_pos h2] at hx ⊢
      have q:=qft e1.1 h2
      cases hy:(qem (qbz f) (rest (qa c).1 + 1) (qg (qa c).1) []).2 with
      | none=>rw [hy] at hx;cases hx
      | some y =>
        have r:=qzd (qty f) _ _ _ q.1 y hy
        exact ((e1.trans q).trans r).trans (qg4 r.1)
     ·rw [if_neg h2] at hx ⊢
      cases hy:(qba (qbz f) (qa c).1).2 with
      | none=>rw [hy] at hx;cases hx
      | some y =>
        have r:=qrh (qty f) _ e1.1 y hy
        exact (e1.trans r).trans (qg4 r.1)

def B3 (c:K) (p:R3):Prop:=p.2.2 = true->Bl c p.1
def BL (c:K) (p:RL):Prop:=p.2.2 = true->Bl c p.1
theorem qv7 {c:K} {p:K×Option N} (h:Bo c p):B3 c (ofO p):=fun hp=>by
 cases hy:p.2 with
 | none=>simp only [ofO,hy] at hp;cases hp
 | some y=>exact h y hy
theorem qbwn {c:K} {p:R3} (h:B3 c p):Bo c (toO p):=fun x hx=>by
 unfold toO at hx ⊢
 cases hp:p.2.2 with
 | false=>simp only [hp,if_neg noB] at hx;cases hx
 | true=>exact h hp
theorem q4a {c:K} (h:(leafE c).isSome = true):(qi c).kind = 1∨(qi c).kind = 2∨(qi c).kind = 3:=by
 unfold leafE at h
 split at h
 ·exact .inl (by assumption)
 ·split at h
  ·exact .inr (.inl (by assumption))
  ·split at h
   ·exact .inr (.inr (by assumption))
   ·cases h
section
variable {rec:K->K×Option N} (hr:BF rec)
include hr
theorem qq7:BF (qs rec):=fun c h x hx=>by
 unfold qs at hx ⊢
 cases hl:(leafE c).isSome with
 | true =>
   rw [if_pos rfl]
   rcases q4a hl with q | q | q
   ·exact qft h q
   ·exact qft h q
   ·exact qft h q
 | false =>
   rw [hl,if_neg noB] at hx
   rw [if_neg noB]
   cases hk:isK c [40] with
   | false=>rw [hk,if_neg noB] at hx;cases hx
   | true =>
     rw [hk,if_pos rfl] at hx
     rw [if_pos rfl]
     cases he:(qa c).2 with
     | false=>rw [he,if_neg noB] at hx;cases hx
     | true =>
       rw [he,if_pos rfl] at hx
       rw [if_pos rfl]
       have e1:=qjt he
       have e2:isK (qa c).1 [40] = true:=by rw [qfb he];exact hk
       have n1:=(qyg e2).1
       cases hy:(rec (qg (qa c).1)).2 with
       | none=>rw [hy] at hx;cases hx
       | some y =>
         rw [hy,Option.isSome_some,if_pos rfl] at hx
         rw [Option.isSome_some,if_pos rfl]
         cases hw:(qc (rec (qg (qa c).1)).1 [41]).2 with
         | false=>rw [hw,if_neg noB] at hx;cases hx
         | true =>
           rw [if_pos rfl]
           have q:=qst e2 (hr _ n1 y hy) hw
           exact (e1.trans q).trans (qg4 q.1)
theorem qrs:∀ (f:Nat) (c:K) (n:N),c.err = 0->B3 c (qd3 rec f c n)
 | 0,c,n,h=>fun hp=>by cases hp
 | f + 1, c, n, h => fun hp => by
   rw [qd3] at hp ⊢
   cases hc:begE c with
   | false=>rw [if_neg noB];exact Bl.refl h
   | true =>
     rw [hc,if_pos rfl] at hp
     rw [if_pos rfl]
     cases hy:(qs rec c).2 with
     | none=>rw [hy] at hp;cases hp
     | some y =>
       rw [hy,Option.isSome_some,if_pos rfl] at hp
       rw [Option.isSome_some,if_pos rfl]
       have q:=qq7 hr c h y hy
       exact q.trans (qrs f _ _ q.1 hp)
theorem q91 (c:K) (h:c.err = 0):B3 c (qez rec c):=fun hp=>by
 rw [qez] at hp ⊢
 cases hy:(qs rec c).2 with
 | none=>rw [hy] at hp;cases hp
 | some y =>
   rw [hy,Option.isSome_some,if_pos rfl] at hp
   rw [Option.isSome_some,if_pos rfl]
   have q:=qq7 hr c h y hy
   exact q.trans (qrs hr _ _ _ q.1 hp)
theorem qmj (w:List UInt8) (hw0:wx w = 0):∀ (f:Nat) (c:K),c.err = 0->B3 c (qbx rec w f c)
 | 0,c,h=>fun hp=>by cases hp
 | f + 1, c, h => fun hp => by
   rw [qbx] at hp ⊢
   by_cases h1:(qi c).kind = 1
   ·rw [if_pos h1] at hp ⊢
    have q:=qft h h1
    exact q.trans (qmj w hw0 f _ q.1 hp)
   ·rw [if_neg h1] at hp ⊢
    cases hw:(qc c w).2 with
    | false=>rw [hw,if_neg noB] at hp;cases hp
    | true =>
      rw [hw,if_pos rfl] at hp
      rw [if_pos rfl]
      have q:=qif hw hw0
      exact q.trans (qv7 (hr _ q.1) hp)
theorem qrl:BF (qbn rec):=fun c h x hx=>by
 rw [qbn] at hx ⊢
 cases hk:(kindK c 1).2 with
 | false=>rw [hk,if_neg noB] at hx;cases hx
 | true =>
   rw [hk,if_pos rfl] at hx
   rw [if_pos rfl]
   have q:=qox hk
   have t:=qfr q.1 [58,58]
   cases ht:(qd (kindK c 1).1 [58,58]).2 with
   | true =>
     rw [ht,if_pos rfl] at hx
     rw [if_pos rfl]
     cases hy:(qdi (rest (qd (kindK c 1).1 [58,58]).1 + 2) (qd (kindK c 1).1 [58,58]).1).2 with
     | none=>rw [hy] at hx;cases hx
     | some y=>exact (q.trans t).trans (q2a _ _ t.1 y hy)
   | false =>
     rw [ht,if_neg noB] at hx
     rw [if_neg noB]
     cases hy:(qbx rec [61] (rest (kindK c 1).1 + 1) (kindK c 1).1).2.2 with
     | false=>simp only [toO,hy,if_neg noB] at hx;cases hx
     | true=>exact q.trans (qmj hr [61] rfl _ _ q.1 hy)
end
theorem qo1 {rd:K->R3} (hd:∀ c,c.err = 0->B3 c (rd c)):∀ (f:Nat) (c:K) (a:List N),c.err = 0->(qbh rd f c a).2.2 = true->(qbh rd f c a).1.err = 0∧bk (qbh rd f c a).1 = bk c + 1
 | 0,c,a,h=>fun hp=>by cases hp
 | f + 1, c, a, h => fun hp => by
   rw [qbh] at hp ⊢
   cases hy:(rd c).2.2 with
   | false=>rw [hy,if_neg noB] at hp;cases hp
   | true =>
     rw [hy,if_pos rfl] at hp
     rw [if_pos rfl]
     have q:=hd c h hy
     have t:=qfr q.1 [59]
     cases hb:((qd (rd c).1 [59]).2 && !isK (qd (rd c).1 [59]).1 [125]) with
     | true =>
       rw [hb,if_pos rfl] at hp
       rw [if_pos rfl]
       obtain ⟨r1,r2⟩:=qo1 hd f _ _ t.1 hp
       exact ⟨r1,by rw [r2,t.2,q.2]⟩
     | false =>
       rw [hb,if_neg noB] at hp
       rw [if_neg noB]
       obtain ⟨w1,w2⟩:=qki (x:=[125]) hp
       have w2:bk (qc (qd (rd c).1 [59]).1 [125]).1 = bk (qd (rd c).1 [59]).1 - -1:=w2
       exact ⟨w1,by show bk (qc (qd (rd c).1 [59]).1 [125]).1 = _;rw [w2,t.2,q.2];omega⟩
theorem qq8 {rd:K->R3} (hd:∀ c,c.err = 0->B3 c (rd c)) (c:K):BL c (qv rd c):=fun hp=>by
 rw [qv] at hp ⊢
 cases hw:(qc c [123]).2 with
 | false=>rw [hw,if_neg noB] at hp;cases hp
 | true =>
   rw [hw,if_pos rfl] at hp
   rw [if_pos rfl]
   obtain ⟨w1,w2⟩:=qki hw
   have w2:bk (qc c [123]).1 = bk c - 1:=w2
   obtain ⟨r1,r2⟩:=qo1 hd _ _ _ w1 hp
   exact ⟨r1,by rw [r2,w2];omega⟩
section
variable {rec:K->K×Option N} (hr:BF rec)
include hr
theorem q7z {c:K} (h:c.err = 0) (hy:(rec c).2.isSome = true):Bl c (rec c).1:=by
 obtain ⟨y,hy⟩:=Option.isSome_iff_exists.1 hy
 exact hr c h y hy
theorem q9g (p:Int) (c:K) (h:c.err = 0):B3 c (qfv rec p c):=fun hp=>by
 rw [qfv,letB] at hp ⊢
 have hL:=qq8 (rd:=fun c=>ofO (qbn rec c)) (fun c h=>qv7 (qrl hr c h)) c
 cases hl:(qv (fun c=>ofO (qbn rec c)) c).2.2 with
 | false=>rw [hl,if_neg noB] at hp;cases hp
 | true =>
   rw [hl,if_pos rfl] at hp
   rw [if_pos rfl]
   have q:=hL hl
   rw [letC] at hp ⊢
   cases hw:(qc (qv (fun c=>ofO (qbn rec c)) c).1 [105,110]).2 with
   | false=>rw [hw,if_neg noB] at hp;cases hp
   | true =>
     rw [hw,if_pos rfl] at hp
     rw [if_pos rfl]
     have w:=qif hw
     exact (q.trans w).trans (q7z hr w.1 hp)
theorem q6a (c:K) (h:c.err = 0):B3 c (qdv rec c):=fun hp=>by
 rw [qdv,altB] at hp ⊢
 cases hy:(qbz (rest c + 2) c).2 with
 | none=>rw [hy] at hp;cases hp
 | some y =>
   rw [hy,Option.isSome_some,if_pos rfl,altC] at hp
   rw [Option.isSome_some,if_pos rfl,altC]
   have q:=qty _ c h y hy
   cases hw:(qc (qbz (rest c + 2) c).1 [45,62]).2 with
   | false=>rw [hw,if_neg noB] at hp;cases hp
   | true =>
     rw [hw,if_pos rfl] at hp
     rw [if_pos rfl]
     have w:=qif hw
     exact (q.trans w).trans (q7z hr w.1 hp)
theorem q3a (p:Int) (c:K) (h:c.err = 0):B3 c (qd7 rec p c):=fun hp=>by
 rw [qd7] at hp ⊢
 cases hy:(rec c).2 with
 | none=>rw [hy] at hp;cases hp
 | some y =>
   rw [hy,Option.isSome_some,if_pos rfl,qts] at hp
   rw [Option.isSome_some,if_pos rfl,qts]
   have q:=hr c h y hy
   cases hw:(qc (rec c).1 [111,102]).2 with
   | false=>rw [hw,if_neg noB] at hp;cases hp
   | true =>
     rw [hw,if_pos rfl] at hp
     rw [if_pos rfl]
     have w:=qif hw
     exact (q.trans w).trans (qq8 (fun c h=>q6a hr c h) _ hp)
theorem qw1 (p:Int):∀ (ws:List (List UInt8)),(∀ w∈ws,wx w = 0)->∀ (c:K) (a:List N),c.err = 0->B3 c (qc7 rec p ws c a)
 | [],_,c,a,h=>fun hp=>by rw [qc7];exact Bl.refl h
 | w :: r, hws, c, a, h => fun hp => by
   rw [qc7] at hp ⊢
   cases hw:(ifsK c w).2 with
   | false=>rw [hw,if_neg noB] at hp;cases hp
   | true =>
     rw [hw,if_pos rfl] at hp
     rw [if_pos rfl]
     have q:Bl c (ifsK c w).1:=by
      unfold ifsK at hw ⊢
      by_cases h0:w = []
      ·rw [if_pos h0];exact Bl.refl h
      ·rw [if_neg h0] at hw ⊢
       exact qif hw (hws w (by simp))
     cases hy:(rec (ifsK c w).1).2 with
     | none=>rw [hy] at hp;cases hp
     | some y =>
       rw [hy,Option.isSome_some,if_pos rfl] at hp
       rw [Option.isSome_some,if_pos rfl]
       have t:=hr _ q.1 y hy
       exact (q.trans t).trans (qw1 p r (fun x hx=>hws x (by simp [hx])) _ _ t.1 hp)
theorem q3v (c:K) (h:c.err = 0):B3 c (qcz rec c):=fun hp=>by
 rw [qcz] at hp ⊢
 have t1:=qfr h [92]
 have t2:=qfr h [108,101,116]
 have t3:=qfr h [99,97,115,101]
 have t4:=qfr h [105,102]
 cases h1:(qd c [92]).2 with
 | true =>
   rw [h1,if_pos rfl] at hp
   rw [if_pos rfl]
   by_cases hk:(qi (qd c [92]).1).kind = 1
   ·rw [if_pos hk] at hp ⊢
    exact t1.trans (qmj hr _ rfl _ _ t1.1 hp)
   ·rw [if_neg hk] at hp;cases hp
 | false =>
   rw [h1,if_neg noB] at hp
   rw [if_neg noB]
   cases h2:(qd c [108,101,116]).2 with
   | true =>
     rw [h2,if_pos rfl] at hp
     rw [if_pos rfl]
     exact t2.trans (q9g hr _ _ t2.1 hp)
   | false =>
     rw [h2,if_neg noB] at hp
     rw [if_neg noB]
     cases h3:(qd c [99,97,115,101]).2 with
     | true =>
       rw [h3,if_pos rfl] at hp
       rw [if_pos rfl]
       exact t3.trans (q3a hr _ _ t3.1 hp)
     | false =>
       rw [h3,if_neg noB] at hp
       rw [if_neg noB]
       cases h4:(qd c [105,102]).2 with
       | true =>
         rw [h4,if_pos rfl] at hp
         rw [if_pos rfl]
         exact t4.trans (qw1 hr _ ifsW (by intro w hw;simp only [ifsW,List.mem_cons,List.not_mem_nil,or_false] at hw;rcases hw with rfl | rfl | rfl<;>rfl) _ _ t4.1 hp)
       | false =>
         rw [h4,if_neg noB] at hp
         rw [if_neg noB]
         exact q91 hr c h hp
end
theorem qzm:∀ f,BF (qel f)
 | 0=>fun c h x hx=>by cases hx
 | f + 1 => fun c h x hx => by
   rw [qel] at hx ⊢
   cases he:(qa c).2 with
   | false=>rw [he,if_neg noB] at hx;cases hx
   | true =>
     rw [he,if_pos rfl] at hx
     rw [if_pos rfl]
     have e1:=qjt he
     have q:=qbwn (q3v (qzm f) _ e1.1) x hx
     have q:Bl (qa c).1 (qcz (qel f) (qa c).1).1:=q
     exact (e1.trans q).trans (qg4 q.1)

/-! declarations -/
theorem q0b (c:K) (h:c.err = 0):B3 c (qdf c):=qv7 (qhr (qih _) c h)
theorem qz8 (c:K) (h:c.err = 0):Bo c (qgc c):=qrl (qzm _) c h
theorem q7f (c:K) (h:c.err = 0):Bo c (qcp c):=qoe (qih _) c h
def BM (more:MF):Prop:=∀ b c,c.err = 0->Bl c (more b c).2.1
theorem bm_A (p:K->Bool):BM (qe1 p):=fun b c h=>Bl.refl h
theorem bm_F (x:List UInt8) (hx:wx x = 0):BM (qbs x):=fun b c h=>by
 unfold qbs
 split
 ·exact qfr h x hx
 ·exact Bl.refl h
theorem bm_B:BM qd2:=fun b c h=>by
 unfold qd2
 split
 ·exact Bl.refl h
 ·exact bm_F [59] rfl b c h
theorem q9p {one:K->R3} {more:MF} (ho:∀ c,c.err = 0->B3 c (one c)) (hm:BM more):∀ (f:Nat) (b:Bool) (c:K) (a:List N),c.err = 0->(rowF one more f b c a).2.2.2 = true->Bl c (rowF one more f b c a).2.1
 | 0,b,c,a,h=>fun hp=>by cases hp
 | f + 1, b, c, a, h => fun hp => by
   rw [rowF] at hp ⊢
   have m:=hm b c h
   cases ha:(more b c).2.2 with
   | false=>rw [if_neg noB];exact m
   | true =>
     rw [ha,if_pos rfl] at hp
     rw [if_pos rfl]
     cases hy:(one (more b c).2.1).2.2 with
     | false=>rw [hy,if_neg noB] at hp;cases hp
     | true =>
       rw [hy,if_pos rfl] at hp
       rw [if_pos rfl]
       have q:=ho _ m.1 hy
       exact (m.trans q).trans (q9p ho hm f _ _ _ q.1 hp)
theorem qt5 {one:K->R3} {more:MF} (ho:∀ c,c.err = 0->B3 c (one c)) (hm:BM more) (b:Bool) (c:K) (a:List N) (h:c.err = 0):(rowS one more b c a).2.2.2 = true->Bl c (rowS one more b c a).2.1:=q9p ho hm _ b c a h
theorem qbgb (c:K) (h:c.err = 0):B3 c (conK c):=fun hp=>by
 unfold conK at hp ⊢
 cases hk:(kindK c 2).2 with
 | false=>rw [hk,if_neg noB] at hp;cases hp
 | true =>
   rw [hk,if_pos rfl] at hp
   rw [if_pos rfl]
   have q:=qox hk
   exact q.trans (qt5 q0b (bm_A _) _ _ _ q.1 hp)
theorem q97 (p:Int) (c:K) (h:c.err = 0):B3 c (qj9 p c):=fun hp=>by
 unfold qj9 at hp ⊢
 cases hk:(kindK c 2).2 with
 | false=>rw [hk,if_neg noB] at hp;cases hp
 | true =>
   rw [hk,if_pos rfl] at hp
   rw [if_pos rfl]
   have q:=qox hk
   have v:=qt5 q0b (bm_A qek) false (kindK c 2).1 [] q.1 (qnl _ _ _ _ (Nat.lt_succ_self _))
   unfold qyv qvz at hp ⊢
   cases hw:(qc (rowS qdf (qe1 qek) false (kindK c 2).1 []).2.1 [61]).2 with
   | false=>rw [hw,if_neg noB] at hp;cases hp
   | true =>
     rw [hw,if_pos rfl] at hp
     rw [if_pos rfl]
     have w:=qif hw
     exact ((q.trans v).trans w).trans (qt5 qbgb (bm_F [124] rfl) _ _ _ w.1 hp)
theorem q24 (k:Int) (c:K) (h:c.err = 0):B3 c (qbe k c):=fun hp=>by
 unfold qbe at hp ⊢
 split at hp
 ·cases hp
 ·rename_i h1
  rw [if_neg h1]
  exact qv7 (qz8 c h) hp
theorem qbbi (k:Int) (c:K) (a:List N) (h:c.err = 0):(qcr k c a).2.2 = true->Bl c (qcr k c a).1:=fun hp=>by
 unfold qcr at hp ⊢
 cases h1:(qc c [119,104,101,114,101]).2 with
 | false=>rw [h1,if_neg noB] at hp;cases hp
 | true =>
   rw [h1,if_pos rfl] at hp
   rw [if_pos rfl]
   have q:=qif h1
   cases h2:(qc (qc c [119,104,101,114,101]).1 [123]).2 with
   | false=>rw [h2,if_neg noB] at hp;cases hp
   | true =>
     rw [h2,if_pos rfl] at hp
     rw [if_pos rfl]
     obtain ⟨w1,w2⟩:=qki h2
     have w2:bk (qc (qc c [119,104,101,114,101]).1 [123]).1 = bk (qc c [119,104,101,114,101]).1 - 1:=w2
     unfold qkv at hp ⊢
     cases h3:(rowS (qbe k) qd2 false (qc (qc c [119,104,101,114,101]).1 [123]).1 a).2.2.2 with
     | false=>rw [h3,if_neg noB] at hp;rw [h3] at hp;cases hp
     | true =>
       rw [h3,if_pos rfl] at hp
       rw [if_pos rfl]
       have r:=qt5 (q24 k) bm_B false _ a w1 h3
       obtain ⟨z1,z2⟩:=qki (x:=[125]) hp
       have z2:bk (qc (rowS (qbe k) qd2 false (qc (qc c [119,104,101,114,101]).1 [123]).1 a).2.1 [125]).1 = bk (rowS (qbe k) qd2 false (qc (qc c [119,104,101,114,101]).1 [123]).1 a).2.1 - -1:=z2
       exact ⟨z1,by show bk (qc _ [125]).1 = _;rw [z2,r.2,w2,q.2];omega⟩
theorem q0s (k p:Int) (c:K) (h:c.err = 0):B3 c (qja k p c):=fun hp=>by
 unfold qja at hp ⊢
 cases h1:(qcp c).2 with
 | none=>rw [h1] at hp;cases hp
 | some v =>
   rw [h1,Option.isSome_some,if_pos rfl] at hp
   rw [Option.isSome_some,if_pos rfl]
   have q:=q7f c h v h1
   unfold qxn at hp ⊢
   cases h2:(kindK (qcp c).1 2).2 with
   | false=>rw [h2,if_neg noB] at hp;cases hp
   | true =>
     rw [h2,if_pos rfl] at hp
     rw [if_pos rfl]
     have w:=qox h2
     unfold qu7 qy1 at hp ⊢
     by_cases h3:k = 35∧(qi (kindK (qcp c).1 2).1).kind≠1
     ·rw [if_pos h3] at hp;cases hp
     ·rw [if_neg h3] at hp ⊢
      cases h4:(qff (kindK (qcp c).1 2).1).2 with
      | none=>rw [h4] at hp;cases hp
      | some a =>
        rw [h4,Option.isSome_some,if_pos rfl] at hp
        rw [Option.isSome_some,if_pos rfl]
        have r:Bl (kindK (qcp c).1 2).1 (qff (kindK (qcp c).1 2).1).1:=qhr (qih _) _ w.1 a h4
        exact ((q.trans w).trans r).trans (qbbi _ _ _ r.1 hp)
theorem q0e (c:K) (h:c.err = 0):B3 c (qp c):=fun hp=>by
 unfold qp at hp ⊢
 have t1:=qfr h qll
 have t2:=qfr h qgw
 have t3:=qfr h qlp
 cases h1:(qd c qll).2 with
 | true =>
   rw [h1,if_pos rfl] at hp
   rw [if_pos rfl]
   exact t1.trans (q97 _ _ t1.1 hp)
 | false =>
   rw [h1,if_neg noB] at hp
   rw [if_neg noB]
   cases h2:(qd c qgw).2 with
   | true =>
     rw [h2,if_pos rfl] at hp
     rw [if_pos rfl]
     exact t2.trans (q0s _ _ _ t2.1 hp)
   | false =>
     rw [h2,if_neg noB] at hp
     rw [if_neg noB]
     cases h3:(qd c qlp).2 with
     | true =>
       rw [h3,if_pos rfl] at hp
       rw [if_pos rfl]
       exact t3.trans (q0s _ _ _ t3.1 hp)
     | false =>
       rw [h3,if_neg noB] at hp
       rw [if_neg noB]
       exact qv7 (qz8 c h) hp

def bare (t:T):T:=⟨t.kind,0,t.num,t.text⟩
theorem qi4 {t t':T} (h:bare t = bare t'):t.kind = t'.kind:=show (bare t).kind = (bare t').kind from congrArg T.kind h
theorem q0j {t t':T} (h:bare t = bare t'):t.num = t'.num:=show (bare t).num = (bare t').num from congrArg T.num h
theorem qci {t t':T} (h:bare t = bare t'):t.text = t'.text:=show (bare t).text = (bare t').text from congrArg T.text h
theorem qhn {t t':T} (h:bare t = bare t') (x:List UInt8):qfm t x = qfm t' x:=by unfold qfm;rw [qi4 h,qci h]
theorem qsb {t t':T} (h:bare t = bare t') (x:List (List UInt8)):qck t x = qck t' x:=by unfold qck;rw [qi4 h,qci h]
def stL (R:List T):Prop:=R = []∨∃ t r,R = t :: r∧(t.kind = 4∨t.kind = 5)∧t.text = [59]
def Stop (tl:List T×List T):Prop:=stL tl.1∧stL tl.2
structure Sm (δ:Int) (tl:List T×List T) (c c':K):Prop where
 g:c.good
 g':c'.good
 w:∃ x x',remT c = x ++ tl.1∧remT c' = x' ++ tl.2∧x.map bare = x'.map bare∧tot x = -δ
 d:0≤δ
 l:tl.1.length≤tl.2.length
 s:Stop tl
 n:c'.nest = c.nest
 e:c.err = 0
 e':c'.err = 0
def Lim (δ:Int) (c':K):Prop:=False
theorem Lim.mon {δ:Int} {c c':K} (h:Lim δ c) (m:Mon c c'):Lim δ c':=h.elim
def NS (a b:N):Prop:=qj a = qj b
theorem NS.mk {k p p' m m':Int} {t t':List UInt8} {l l':List N} (hm:m = m') (ht:t = t') (hl:l.map qj = l'.map qj):NS (.mk k p m t l) (.mk k p' m' t' l'):=by
 subst hm ht
 unfold NS
 rw [qj,qj,qgd,qgd,hl]
section
variable {δ:Int} {tl:List T×List T} {c c':K}
theorem qer (c:K):(remT c).length = rest c:=by simp [remT,rest]
theorem qge {t:T} {r:List T} (h:remT c = t :: r) (he:c.err = 0):qi c = t∧c.at' < c.l.length:=by
 have hl:c.at' < c.l.length:=by
  have:=congrArg List.length h
  simp [remT] at this;omega
 have h1:c.l.getD c.at' T0 = t:=by
  have:=qbaw hl
  unfold remT at h
  rw [h] at this
  exact (List.cons.inj this).1.symm
 rw [qi,if_pos he,if_pos hl]
 exact ⟨h1,hl⟩
theorem qn0 (h:remT c = []) (he:c.err = 0):qi c = ⟨0,c.ep,0,[]⟩:=by
 have hl:¬ c.at' < c.l.length:=by
  have:=congrArg List.length h
  simp [remT] at this;omega
 rw [qi,if_pos he,if_neg hl]
theorem qev {t:T} {r:List T} (h:remT c = t :: r) (he:c.err = 0):remT (qg c) = r∧(qg c).err = 0∧(qg c).nest = c.nest:=by
 obtain ⟨_,hl⟩:=qge h he
 have h2:qg c = { c with at':=c.at' + 1 }:=by rw [qg,if_pos he,if_pos hl]
 rw [h2]
 refine ⟨?_,he,rfl⟩
 have:=qbaw hl
 unfold remT at h
 rw [h] at this
 exact (List.cons.inj this).2.symm
theorem qu4 {R:List T} (hs:stL R) (hr:remT c = R) (he:c.err = 0):(qi c).kind = 0∨(((qi c).kind = 4∨(qi c).kind = 5)∧(qi c).text = [59]):=by
 rcases hs with rfl | ⟨t,r,rfl,h1,h2⟩
 ·rw [qn0 hr he];exact .inl rfl
 ·rw [(qge hr he).1];exact .inr ⟨h1,h2⟩
theorem Sm.peek (h:Sm δ tl c c'):(bare (qi c) = bare (qi c')∧(qi c).kind = (qi c').kind∧((δ':Int)->δ' = δ + wt (qi c)->0≤δ'->Sm δ' tl (qg c) (qg c'))∧(qg c).nest = c.nest∧remT c≠[]∧remT c'≠[]) ∨
 (δ = 0∧((qi c).kind = 0∨(((qi c).kind = 4∨(qi c).kind = 5)∧(qi c).text = [59]))∧((qi c').kind = 0∨(((qi c').kind = 4∨(qi c').kind = 5)∧(qi c').text = [59]))∧remT c = tl.1∧remT c' = tl.2):=by
 obtain ⟨x,x',h1,h2,h3,h4⟩:=h.w
 cases x with
 | nil =>
   have hx:x' = []:=by simpa using h3.symm
   subst hx
   rw [List.nil_append] at h1 h2
   rw [tot] at h4
   exact .inr ⟨by omega,qu4 h.s.1 h1 h.e,qu4 h.s.2 h2 h.e',h1,h2⟩
 | cons t r =>
   cases x' with
   | nil=>simp at h3
   | cons t' r' =>
     simp only [List.map_cons,List.cons.injEq] at h3
     rw [List.cons_append] at h1 h2
     obtain ⟨a1,a2,a3⟩:=qev h1 h.e
     obtain ⟨b1,b2,b3⟩:=qev h2 h.e'
     have p1:=(qge h1 h.e).1
     have p2:=(qge h2 h.e').1
     rw [tot] at h4
     refine .inl ⟨by rw [p1,p2,h3.1],by rw [p1,p2,qi4 h3.1],fun δ' hd h0=>⟨(qbd c).1 h.g,(qbd c').1 h.g',⟨r,r',a1,b1,h3.2,by rw [p1] at hd;omega⟩,h0,h.l,h.s,?_,a2,b2⟩,a3,by rw [h1];simp,by rw [h2];simp⟩
     rw [a3,b3];exact h.n
theorem Sm.kind (hs:Stop tl) (h:Sm δ tl c c') {k:Int} (h0:k≠0) (h5:k≠5) (h4:k≠4:=by decide):(qi c').kind = k ↔ (qi c).kind = k:=by
 rcases h.peek with ⟨_,hb,_⟩ | ⟨_,p1,p2,_⟩
 ·rw [hb]
 ·rcases p1 with q | ⟨q | q,_⟩<;>rcases p2 with r | ⟨r | r,_⟩<;>rw [q,r]<;>omega
theorem Sm.there (h:Sm δ tl c c') {k:Int} (hk:(qi c).kind = k) (h0:k≠0) (h4:k≠4:=by decide) (h5:k≠5:=by decide):bare (qi c') = bare (qi c)∧Sm δ tl (qg c) (qg c')∧(qg c).nest = c.nest:=by
 rcases h.peek with ⟨hb,_,hn,e,_⟩ | ⟨_,p1,_,_⟩
 ·exact ⟨hb.symm,hn δ (by rw [q6v (by rw [hk];exact h4) (by rw [hk];exact h5)];omega) h.d,e⟩
 ·rcases p1 with q | ⟨q | q,_⟩<;>omega
theorem qoo {x:List UInt8} (h59:x≠[59]) (p:(qi c).kind = 0∨(((qi c).kind = 4∨(qi c).kind = 5)∧(qi c).text = [59])):isK c x = false:=by
 unfold isK qfm
 rcases p with q | ⟨_,q⟩
 ·rw [q];simp
 ·rw [q,decide_eq_false (p:=[59] = x) (fun e=>h59 e.symm),Bool.and_false,Bool.and_false]
theorem Sm.is (hs:Stop tl) (h:Sm δ tl c c') {x:List UInt8} (h1:x≠[41]) (h2:x≠[125]) (h3:x≠[59]):isK c' x = isK c x:=by
 rcases h.peek with ⟨hb,_⟩ | ⟨_,p1,p2,_⟩
 ·unfold isK
  rw [decide_eq_true h.e,decide_eq_true h.e',qhn hb]
 ·rw [qoo h3 p1,qoo h3 p2]
theorem Sm.isC (h:Sm δ tl c c') (x:List UInt8) (h3:x≠[59]):isK c' x = isK c x:=by
 rcases h.peek with ⟨hb,_⟩ | ⟨_,p1,p2,_⟩
 ·unfold isK
  rw [decide_eq_true h.e,decide_eq_true h.e',qhn hb]
 ·rw [qoo h3 p1,qoo h3 p2]
theorem Sm.isB (h:Sm (δ + 1) tl c c') (hd:0≤δ) (x:List UInt8):isK c' x = isK c x:=by
 rcases h.peek with ⟨hb,_⟩ | ⟨q,_⟩
 ·unfold isK
  rw [decide_eq_true h.e,decide_eq_true h.e',qhn hb]
 ·omega
theorem Sm.step (h:Sm δ tl c c') {x:List UInt8} (hx:isK c x = true) (hn:x≠[59]∨δ≠0) {δ':Int} (hd:δ' = δ + wx x) (h0:0≤δ'):isK c' x = true∧Sm δ' tl (qg c) (qg c')∧(qg c).nest = c.nest:=by
 have hx2:=hx
 unfold isK at hx2
 rw [decide_eq_true h.e,Bool.true_and] at hx2
 rcases h.peek with ⟨hb,_,hnx,e,_⟩ | ⟨q,p1,_⟩
 ·refine ⟨?_,hnx δ' (by rw [q4s hx2];exact hd) h0,e⟩
  unfold isK
  rw [decide_eq_true h.e',← qhn hb,hx2];rfl
 ·rcases hn with hn | hn
  ·rw [qoo hn p1] at hx;cases hx
  ·exact absurd q hn
theorem Sm.isT (h:Sm δ tl c c') {x:List UInt8} (hx:isK c x = true) (hp:wx x = 0:=by decide) (h59:x≠[59]:=by decide):isK c' x = true∧Sm δ tl (qg c) (qg c')∧(qg c).nest = c.nest :=
 h.step hx (.inl h59) (by rw [hp];omega) h.d
theorem Sm.isO (h:Sm δ tl c c') {x:List UInt8} (hx:isK c x = true) (hp:wx x = 1:=by decide) (h59:x≠[59]:=by decide):isK c' x = true∧Sm (δ + 1) tl (qg c) (qg c')∧(qg c).nest = c.nest :=
 h.step hx (.inl h59) (by rw [hp]) (by have:=h.d;omega)
theorem Sm.take (hs:Stop tl) (h:Sm δ tl c c') {x:List UInt8} (h1:x≠[41]) (h2:x≠[125]) (h3:x≠[59]) (hp:wx x = 0:=by decide):(qd c' x).2 = (qd c x).2∧Sm δ tl (qd c x).1 (qd c' x).1∧(qd c x).1.nest = c.nest:=by
 cases hx:isK c x with
 | true =>
   obtain ⟨k1,k2,k3⟩:=h.isT hx hp h3
   rw [qgj hx,qgj k1];exact ⟨rfl,k2,k3⟩
 | false=>rw [qe3 hx,qe3 (by rw [h.is hs h1 h2 h3];exact hx)];exact ⟨rfl,h,rfl⟩
theorem Sm.takeO (h:Sm δ tl c c'):(qd c' [40]).2 = (qd c [40]).2∧Sm (δ + if (qd c [40]).2 = true then 1 else 0) tl (qd c [40]).1 (qd c' [40]).1∧(qd c [40]).1.nest = c.nest:=by
 cases hx:isK c [40] with
 | true =>
   obtain ⟨k1,k2,k3⟩:=h.isO hx
   rw [qgj hx,qgj k1,if_pos rfl];exact ⟨rfl,k2,k3⟩
 | false =>
   rw [qe3 hx,qe3 (by rw [h.isC _ (by decide)];exact hx),if_neg noB]
   exact ⟨rfl,by rw [Int.add_zero];exact h,rfl⟩
theorem qbc8 {c:K} {x:List UInt8} (hx:(qc c x).2 = true):isK c x = true:=by
 cases hi:isK c x with
 | true=>rfl
 | false=>rw [qc,hi] at hx;cases hx
theorem Sm.wantS (h:Sm δ tl c c') {x:List UInt8} (hx:(qc c x).2 = true) (hn:x≠[59]∨δ≠0) {δ':Int} (hd:δ' = δ + wx x) (h0:0≤δ'):(qc c' x).2 = true∧Sm δ' tl (qc c x).1 (qc c' x).1∧(qc c x).1.nest = c.nest:=by
 have hi:=qbc8 hx
 obtain ⟨k1,k2,k3⟩:=h.step hi hn hd h0
 rw [qib hi,qib k1];exact ⟨rfl,k2,k3⟩
theorem Sm.want (h:Sm δ tl c c') {x:List UInt8} (hx:(qc c x).2 = true) (hp:wx x = 0:=by decide) (h59:x≠[59]:=by decide):(qc c' x).2 = true∧Sm δ tl (qc c x).1 (qc c' x).1∧(qc c x).1.nest = c.nest :=
 h.wantS hx (.inl h59) (by rw [hp];omega) h.d
theorem Sm.wantO (h:Sm δ tl c c') {x:List UInt8} (hx:(qc c x).2 = true) (hp:wx x = 1:=by decide) (h59:x≠[59]:=by decide):(qc c' x).2 = true∧Sm (δ + 1) tl (qc c x).1 (qc c' x).1∧(qc c x).1.nest = c.nest :=
 h.wantS hx (.inl h59) (by rw [hp]) (by have:=h.d;omega)
theorem Sm.wantC (h:Sm (δ + 1) tl c c') (hd:0≤δ) {x:List UInt8} (hx:(qc c x).2 = true) (hp:wx x = -1:=by decide) (h59:x≠[59]:=by decide):(qc c' x).2 = true∧Sm δ tl (qc c x).1 (qc c' x).1∧(qc c x).1.nest = c.nest :=
 h.wantS hx (.inl h59) (by rw [hp];omega) hd
theorem Sm.enter (h:Sm δ tl c c') (hx:(qa c).2 = true):((qa c').2 = true∧Sm δ tl (qa c).1 (qa c').1∧(qa c).1.nest = c.nest + 1)∨((qa c').2 = false∧Lim δ (qa c').1):=by
 obtain ⟨_,e2,e3⟩:=qlb hx
 have hlt:c.nest < 200:=by
  by_cases hq:c.nest < 200
  ·exact hq
  ·rw [qa,if_pos h.e,if_neg hq] at hx;cases hx
 have hq:c'.nest < 200:=by rw [h.n];exact hlt
 have he:qa c' = ({ c' with nest:=c'.nest + 1 },true):=by rw [qa,if_pos h.e',if_pos hq]
 refine .inl ⟨by rw [he],⟨(qo c).1 h.g,(qo c').1 h.g',?_,h.d,h.l,h.s,?_,e2,by rw [he];exact h.e'⟩,by rw [e3]⟩
 ·rw [he,e3];exact h.w
 ·rw [he,e3];have:=h.n;simp only;omega
theorem Sm.leave (h:Sm δ tl c c') {m:Nat} (hm:c.nest = m + 1):Sm δ tl (qb4 c) (qb4 c')∧(qb4 c).nest = m:=by
 have hn:=h.n
 have h1:qb4 c = { c with nest:=c.nest - 1 }:=by rw [qb4,if_pos h.e,if_pos (by omega)]
 have h2:qb4 c' = { c' with nest:=c'.nest - 1 }:=by rw [qb4,if_pos h.e',if_pos (by omega)]
 refine ⟨⟨(qx c).1 h.g,(qx c').1 h.g',?_,h.d,h.l,h.s,?_,by rw [h1];exact h.e,by rw [h2];exact h.e'⟩,by rw [h1];simp only;omega⟩
 ·rw [h1,h2];exact h.w
 ·rw [h1,h2];simp only;omega
theorem Sm.kindK (h:Sm δ tl c c') {k:Int} (h0:k≠0) (hx:(kindK c k).2 = true) (h4:k≠4:=by decide) (h5:k≠5:=by decide):(Go.Proofs.Ytfjbmjplnmaclaa.kindK c' k).2 = true∧Sm δ tl (Go.Proofs.Ytfjbmjplnmaclaa.kindK c k).1 (Go.Proofs.Ytfjbmjplnmaclaa.kindK c' k).1∧(Go.Proofs.Ytfjbmjplnmaclaa.kindK c k).1.nest = c.nest∧bare (qex c' k) = bare (qex c k):=by
 obtain ⟨e1,e2⟩:=qj2 hx
 obtain ⟨hb,hn,h1⟩:=h.there e2 h0 h4 h5
 have hk':(qi c').kind = k:=by rw [qi4 hb];exact e2
 rw [qkj e1 e2,qkj h.e' hk',qob e1 e2,qob h.e' hk']
 exact ⟨rfl,hn,h1,hb⟩
theorem Sm.le (h:Sm δ tl c c'):rest c≤rest c':=by
 obtain ⟨x,x',h1,h2,h3,_⟩:=h.w
 have e1:=congrArg List.length h1
 have e2:=congrArg List.length h2
 have e3:=congrArg List.length h3
 rw [qer,List.length_append] at e1 e2
 rw [List.length_map,List.length_map] at e3
 have:=h.l
 omega
end
def Side {α:Type} (R:α->α->Prop) (δ:Int) (tl:List T×List T) (c:K) (p p':K×Option α):Prop :=
 ∀ x,p.2 = some x->(p.1.nest = c.nest∧∃ x',p'.2 = some x'∧R x x'∧Sm δ tl p.1 p'.1)∨(p'.2 = none∧Lim δ p'.1)

/-! what is ahead -/
theorem q1b (y:List UInt8) {R:List T} (h:stL R):qfl y R 0 = false:=by
 rcases h with rfl | ⟨t,r,rfl,h1,h2⟩
 ·rfl
 ·have hb:∀ l,qck t l = l.contains [59]:=fun l=>by rw [qck,h2];rcases h1 with h1 | h1<;>rw [h1]<;>rfl
  have hw:qfm t [59] = true:=by rw [qfm,h2];rcases h1 with h1 | h1<;>rw [h1]<;>rfl
  rw [qfl,hb,hb,if_neg (by decide),if_neg (by decide),if_neg (by decide),if_pos hw]
theorem qlm (y:List UInt8) {R R':List T} (hR:stL R) (hR':stL R'):∀ (x x':List T) (d:Int),x.map bare = x'.map bare->0≤d->d≤-tot x->qfl y (x ++ R) d = qfl y (x' ++ R') d
 | [], [], d, _, h0, h1 => by
   rw [tot] at h1
   have:d = 0:=by omega
   subst this
   rw [List.nil_append,List.nil_append,q1b y hR,q1b y hR']
 | [],t' :: r',d,h,_,_=>by simp at h
 | t :: r,[],d,h,_,_=>by simp at h
 | t :: r, t' :: r', d, h, h0, h1 => by
   simp only [List.map_cons,List.cons.injEq] at h
   rw [tot,wt] at h1
   rw [List.cons_append,List.cons_append,qfl,qfl,← qsb h.1,← qsb h.1,← qhn h.1,← qhn h.1]
   split
   ·rename_i q
    rw [if_pos q] at h1
    exact qlm y hR hR' r r' (d + 1) h.2 (by omega) (by omega)
   ·rename_i q
    rw [if_neg q] at h1
    split
    ·rename_i q2
     rw [if_pos q2] at h1
     split
     ·rfl
     ·exact qlm y hR hR' r r' (d - 1) h.2 (by omega) (by omega)
    ·rename_i q2
     rw [if_neg q2] at h1
     split
     ·exact qlm y hR hR' r r' d h.2 h0 (by omega)
     ·split
      ·rfl
      ·split
       ·rfl
       ·exact qlm y hR hR' r r' d h.2 h0 (by omega)
section
variable {δ:Int} {tl:List T×List T} {c c':K}
theorem Sm.ahead (hs:Stop tl) (h:Sm δ tl c c') (x:List UInt8):qgv c' x = qgv c x:=by
 rw [qgv,qgv,if_pos h.e,if_pos h.e']
 show qfl x (remT c') 0 = qfl x (remT c) 0
 obtain ⟨a,a',h1,h2,h3,h4⟩:=h.w
 rw [h1,h2]
 exact (qlm x h.s.1 h.s.2 a a' 0 h3 (Int.le_refl 0) (by have:=h.d;omega)).symm
theorem Sm.failT (hs:Stop tl) (h:Sm δ tl c c') (hf:Go.Proofs.Ytfjbmjplnmaclaa.failT c = false):Go.Proofs.Ytfjbmjplnmaclaa.failT c' = false:=by
 have key:∀ {d:K},d.err = 0->(Go.Proofs.Ytfjbmjplnmaclaa.failT d = false ↔ (d.at' < d.l.length->(qi d).kind≠0)):=fun {d} he=>by
  unfold Go.Proofs.Ytfjbmjplnmaclaa.failT qhg
  rw [if_pos he]
  by_cases hl:d.at' < d.l.length
  ·rw [if_pos hl];simp [hl]
  ·rw [if_neg hl];simp [hl]
 rw [key h.e] at hf
 rw [key h.e']
 intro hl'
 rcases h.peek with ⟨hb,hk,_,_,hne,_⟩ | ⟨_,_,p2,_,hr⟩
 ·rw [← hk]
  refine hf ?_
  by_cases hl:c.at' < c.l.length
  ·exact hl
  ·exact absurd (List.drop_of_length_le (by omega)) hne
 ·rcases p2 with q | ⟨q,_⟩
  ·rcases h.s.2 with hR | ⟨t,r,hR,h1,_⟩
   ·rw [hR] at hr
    have:=congrArg List.length hr
    simp [remT] at this;omega
   ·rw [hR] at hr
    rw [(qge hr h.e').1];rcases h1 with h1 | h1<;>rw [h1]<;>decide
  ·rcases q with q | q<;>rw [q]<;>decide
end

section
variable {δ:Int} {tl:List T×List T} {rec rec':K->K×Option N} (hs:Stop tl) (hr:∀ (δ:Int) c c',Sm δ tl c c'->Side NS δ tl c (rec c) (rec' c'))
include hs hr
theorem qg3 (c c':K) (h:Sm δ tl c c'):Side NS δ tl c (qbc rec c) (qbc rec' c'):=by
 intro x hx
 by_cases h1:(qi c).kind = 1
 ·have h1':=(h.kind hs (by decide) (by decide)).2 h1
  obtain ⟨hb,hn,e⟩:=h.there h1 (by decide)
  rw [qbc,if_pos h1] at hx ⊢
  rw [qbc,if_pos h1']
  cases hx
  exact .inl ⟨e,_,rfl,NS.mk rfl (qci hb).symm rfl,hn⟩
 have h1':¬ (qi c').kind = 1:=fun q=>h1 ((h.kind hs (by decide) (by decide)).1 q)
 by_cases h2:(qi c).kind = 2
 ·have h2':=(h.kind hs (by decide) (by decide)).2 h2
  obtain ⟨hb,hn,e⟩:=h.there h2 (by decide)
  rw [qbc,if_neg h1,if_pos h2] at hx ⊢
  rw [qbc,if_neg h1',if_pos h2']
  cases hx
  exact .inl ⟨e,_,rfl,NS.mk rfl (qci hb).symm rfl,hn⟩
 have h2':¬ (qi c').kind = 2:=fun q=>h2 ((h.kind hs (by decide) (by decide)).1 q)
 by_cases hk:isK c [40] = true
 ·have hk':=(h.isO hk).1
  rw [qbc,if_neg h1,if_neg h2,if_pos hk] at hx ⊢
  rw [qbc,if_neg h1',if_neg h2',if_pos hk']
  cases he:(qa c).2 with
  | false=>rw [he] at hx;cases hx
  | true =>
    rw [he,if_pos rfl] at hx
    rw [if_pos rfl]
    rcases h.enter he with ⟨e1,e2,e3⟩ | ⟨e1,e2⟩
    ·rw [e1,if_pos rfl]
     have hd0:=e2.d
     obtain ⟨_,g1,g2⟩:=e2.isO (x:=[40]) (by rw [qfb he];exact hk)
     cases hy:(rec (qg (qa c).1)).2 with
     | none=>rw [hy] at hx;cases hx
     | some y =>
       rw [hy,Option.isSome_some,if_pos rfl] at hx
       rw [Option.isSome_some,if_pos rfl]
       rcases hr _ _ _ g1 y hy with ⟨q1,y',q2,q3,q4⟩ | ⟨q1,q2⟩
       ·rw [q2,Option.isSome_some,if_pos rfl]
        cases hw:(qc (rec (qg (qa c).1)).1 [41]).2 with
        | false=>rw [hw] at hx;cases hx
        | true =>
          obtain ⟨w1,w2,w3⟩:=q4.wantC hd0 hw
          obtain ⟨l1,l2⟩:=w2.leave (m:=c.nest) (by omega)
          rw [hw,if_pos rfl] at hx
          cases hx
          rw [w1]
          exact .inl ⟨l2,y',rfl,q3,l1⟩
       ·rw [q1]
        exact .inr ⟨rfl,q2.mon (qx _)⟩
    ·rw [e1];exact .inr ⟨rfl,e2⟩
 ·rw [qbc,if_neg h1,if_neg h2,if_neg hk] at hx;cases hx
theorem Sm.begT {c c':K} (h:Sm δ tl c c'):Go.Proofs.Ytfjbmjplnmaclaa.begT c' = Go.Proofs.Ytfjbmjplnmaclaa.begT c:=by
 unfold Go.Proofs.Ytfjbmjplnmaclaa.begT
 rw [h.is hs (by decide) (by decide) (by decide)]
 have h1:=h.kind hs (k:=1) (by decide) (by decide)
 have h2:=h.kind hs (k:=2) (by decide) (by decide)
 simp only [h1,h2]
theorem qmw:∀ (f f':Nat),f≤f'->∀ (c c':K) (a a':List N),Sm δ tl c c'->a.map qj = a'.map qj->Side (fun x y=>x.map qj = y.map qj) δ tl c (qcu rec f c a) (qcu rec' f' c' a')
 | 0,f',_,c,c',a,a',h,ha=>fun x hx=>by cases hx
 | f + 1,0,hf,_,_,_,_,_,_=>by omega
 | f + 1, f' + 1, hf, c, c', a, a', h, ha => fun x hx => by
   have hb:=Sm.begT hs hr h
   cases hc:begT c with
   | false =>
     rw [qcu,hc,if_neg (by decide)] at hx ⊢
     rw [qcu,hb,hc,if_neg (by decide)]
     cases hx
     exact .inl ⟨rfl,_,rfl,ha,h⟩
   | true =>
     rw [qcu,hc,if_pos rfl] at hx ⊢
     rw [qcu,hb,hc,if_pos rfl]
     cases hy:(qbc rec c).2 with
     | none=>rw [hy] at hx;cases hx
     | some y =>
       rw [hy,Option.isSome_some,if_pos rfl] at hx
       rw [Option.isSome_some,if_pos rfl]
       rcases qg3 hs hr c c' h y hy with ⟨q1,y',q2,q3,q4⟩ | ⟨q1,q2⟩
       ·rw [q2,Option.isSome_some,if_pos rfl]
        have hl:(a ++ [y]).map qj = (a' ++ [y']).map qj:=by simp only [List.map_append,ha,List.map_cons,show qj y = qj y' from q3]
        rcases qmw f f' (by omega) _ _ (a ++ [y]) (a' ++ [y']) q4 hl x hx with ⟨r1,r2⟩ | r
        ·exact .inl ⟨by simp only [Option.getD_some];rw [r1,q1],r2⟩
        ·exact .inr r
       ·rw [q1];exact .inr ⟨rfl,q2⟩
theorem qbdd {c:K} {p p':K×Option (List N)} {k:Int} (d d':K) (ht:(qi d).text = (qi d').text) (h:Side (fun x y=>x.map qj = y.map qj) δ tl c p p'):Side NS δ tl c (p.1,p.2.map (qhq d k)) (p'.1,p'.2.map (qhq d' k)):=by
 intro x hx
 cases hy:p.2 with
 | none=>simp only [hy] at hx;cases hx
 | some y =>
   simp only [hy,Option.map_some,Option.some.injEq] at hx
   subst hx
   rcases h y hy with ⟨q1,y',q2,q3,q4⟩ | ⟨q1,q2⟩
   ·exact .inl ⟨q1,qhq d' k y',by simp only [q2];rfl,NS.mk rfl ht q3,q4⟩
   ·exact .inr ⟨by simp only [q1];rfl,q2⟩
theorem qxt (c c':K) (h:Sm δ tl c c'):Side NS δ tl c (qbt rec c) (qbt rec' c'):=by
 unfold qbt
 by_cases h2:(qi c).kind = 2
 ·have h2':=(h.kind hs (by decide) (by decide)).2 h2
  obtain ⟨hb,hn,e⟩:=h.there h2 (by decide)
  rw [if_pos h2,if_pos h2']
  have hle:=h.le
  have hk:=qmw hs hr (rest c + 1) (rest c' + 1) (by omega) _ _ [] [] hn rfl
  intro x hx
  rcases qbdd hs hr c c' (k:=2) (qci hb).symm hk x hx with ⟨r1,r2⟩ | r
  ·exact .inl ⟨r1.trans e,r2⟩
  ·exact .inr r
 ·rw [if_neg h2,if_neg (fun q=>h2 ((h.kind hs (by decide) (by decide)).1 q))]
  exact qg3 hs hr c c' h
end
theorem qj1 {tl:List T×List T} (hs:Stop tl):∀ (f f':Nat),f≤f'->∀ (δ:Int) (c c':K),Sm δ tl c c'->Side NS δ tl c (qbg f c) (qbg f' c')
 | 0,f',_,δ,c,c',h=>fun x hx=>by cases hx
 | f + 1,0,hf,_,_,_,_=>by omega
 | f + 1, f' + 1, hf, δ, c, c', h => fun x hx => by
   have hr:∀ (δ:Int) d d',Sm δ tl d d'->Side NS δ tl d (qbg f d) (qbg f' d'):=fun δ d d' h=>qj1 hs f f' (by omega) δ d d' h
   rw [qbg] at hx ⊢
   rw [qbg]
   cases he:(qa c).2 with
   | false=>rw [he] at hx;cases hx
   | true =>
     rw [he,if_pos rfl] at hx
     rw [if_pos rfl]
     rcases h.enter he with ⟨e1,e2,e3⟩ | ⟨e1,e2⟩
     ·rw [e1,if_pos rfl]
      have hn:=h.n
      cases hy:(qbt (qbg f) (qa c).1).2 with
      | none=>rw [hy] at hx;cases hx
      | some y =>
        rw [hy,Option.isSome_some,if_pos rfl] at hx
        rw [Option.isSome_some,if_pos rfl]
        rcases qxt hs hr _ _ e2 y hy with ⟨q1,y',q2,q3,q4⟩ | ⟨q1,q2⟩
        ·rw [q2,Option.isSome_some,if_pos rfl]
         obtain ⟨t1,t2,t3⟩:=q4.take hs (x:=[45,62]) (by decide) (by decide) (by decide)
         rw [t1]
         cases ht:(qd (qbt (qbg f) (qa c).1).1 [45,62]).2 with
         | false =>
           rw [ht,if_neg (by decide)] at hx
           rw [if_neg (by decide),if_neg (by decide)]
           cases hx
           obtain ⟨l1,l2⟩:=q4.leave (m:=c.nest) (by omega)
           exact .inl ⟨l2,y',rfl,q3,l1⟩
         | true =>
           rw [ht,if_pos rfl] at hx
           rw [if_pos rfl,if_pos rfl]
           cases hz:(qbg f (qd (qbt (qbg f) (qa c).1).1 [45,62]).1).2 with
           | none=>rw [hz] at hx;cases hx
           | some z =>
             rw [hz] at hx
             simp only [Option.map_some,Option.getD_some,Option.some.injEq] at hx
             subst hx
             rcases hr _ _ _ t2 z hz with ⟨u1,z',u2,u3,u4⟩ | ⟨u1,u2⟩
             ·obtain ⟨l1,l2⟩:=u4.leave (m:=c.nest) (by omega)
              rw [u2]
              exact .inl ⟨l2,_,rfl,NS.mk rfl rfl (by simp only [List.map_cons,Option.getD_some,show qj y = qj y' from q3,show qj z = qj z' from u3]),l1⟩
             ·rw [u1]
              exact .inr ⟨rfl,u2.mon (qx _)⟩
        ·rw [q1]
         exact .inr ⟨rfl,q2.mon (qx _)⟩
     ·rw [e1];exact .inr ⟨rfl,e2⟩

section
variable {δ:Int} {tl:List T×List T} (hs:Stop tl)
include hs
variable {rec rec':K->K×Option N} (hr:∀ (δ:Int) c c',Sm δ tl c c'->Side NS δ tl c (rec c) (rec' c'))
include hr
theorem qvw (c c':K) (h:Sm δ tl c c'):Side NS δ tl c (qw rec c) (qw rec' c'):=by
 intro x hx
 cases hk:(kindK c 2).2 with
 | false=>rw [qw,hk] at hx;cases hx
 | true =>
   obtain ⟨k1,k2,k3,k4⟩:=h.kindK (by decide) hk
   rw [qw,hk,if_pos rfl] at hx ⊢
   rw [qw,k1,if_pos rfl]
   cases hy:(qbc rec (kindK c 2).1).2 with
   | none=>rw [hy] at hx;cases hx
   | some y =>
     rw [hy] at hx
     simp only [Option.map_some,Option.some.injEq] at hx
     subst hx
     rcases qg3 hs hr _ _ k2 y hy with ⟨q1,y',q2,q3,q4⟩ | ⟨q1,q2⟩
     ·rw [q2]
      exact .inl ⟨q1.trans k3,_,rfl,NS.mk rfl (qci k4).symm (by simp only [List.map_cons,show qj y = qj y' from q3]),q4⟩
     ·rw [q1];exact .inr ⟨rfl,q2⟩
theorem qph (many:Bool):∀ (f f':Nat),f≤f'->∀ (c c':K) (a a':List N),Sm δ tl c c'->a.map qj = a'.map qj->Side (fun x y=>x.map qj = y.map qj) δ tl c (qdn rec many f c a) (qdn rec' many f' c' a')
 | 0,f',_,c,c',a,a',h,ha=>fun x hx=>by cases hx
 | f + 1,0,hf,_,_,_,_,_,_=>by omega
 | f + 1, f' + 1, hf, c, c', a, a', h, ha => fun x hx => by
   rw [qdn] at hx ⊢
   rw [qdn]
   cases hy:(qw rec c).2 with
   | none=>rw [hy] at hx;cases hx
   | some y =>
     rw [hy,Option.isSome_some,if_pos rfl] at hx
     rw [Option.isSome_some,if_pos rfl]
     rcases qvw hs hr c c' h y hy with ⟨q1,y',q2,q3,q4⟩ | ⟨q1,q2⟩
     ·rw [q2,Option.isSome_some,if_pos rfl]
      have hl:(a ++ [y]).map qj = (a' ++ [y']).map qj:=by simp only [List.map_append,ha,List.map_cons,show qj y = qj y' from q3]
      obtain ⟨t1,t2,t3⟩:=q4.take hs (x:=[44]) (by decide) (by decide) (by decide)
      rw [t1]
      simp only [Option.getD_some] at hx ⊢
      cases hb:(many && (qd (qw rec c).1 [44]).2) with
      | false =>
        rw [hb,if_neg noB] at hx
        rw [if_neg noB,if_neg noB]
        cases hx
        exact .inl ⟨q1,_,rfl,hl,q4⟩
      | true =>
        rw [hb,if_pos rfl] at hx
        rw [if_pos rfl,if_pos rfl]
        rcases qph many f f' (by omega) _ _ (a ++ [y]) (a' ++ [y']) t2 hl x hx with ⟨r1,r2⟩ | r
        ·exact .inl ⟨by rw [r1,t3,q1],r2⟩
        ·exact .inr r
     ·rw [q1];exact .inr ⟨rfl,q2⟩
theorem qxv (c c':K) (h:Sm δ tl c c') (x:List N) (hx:(qcn rec c).2 = some x):(qcn rec c).1.nest = c.nest∧∃ x',(qcn rec' c').2 = some x'∧x.map qj = x'.map qj∧Sm (δ + if (qd c [40]).2 = true then 1 else 0) tl (qcn rec c).1 (qcn rec' c').1:=by
 obtain ⟨t1,t2,t3⟩:=h.takeO
 have hk:=t2.isC [41] (by decide)
 rw [qcn] at hx ⊢
 rw [qcn,t1,hk]
 cases hb:((qd c [40]).2 && isK (qd c [40]).1 [41]) with
 | true =>
   rw [hb,if_pos rfl] at hx
   rw [if_pos rfl,if_pos rfl]
   cases hx
   exact ⟨t3,_,rfl,rfl,t2⟩
 | false =>
   rw [hb,if_neg noB] at hx
   rw [if_neg noB,if_neg noB]
   have hle:=t2.le
   rcases qph hs hr (qd c [40]).2 (rest (qd c [40]).1 + 1) (rest (qd c' [40]).1 + 1) (by omega) _ _ [] [] t2 rfl x hx with ⟨r1,r2⟩ | r
   ·exact ⟨r1.trans t3,r2⟩
   ·exact r.2.elim
theorem ql0 (c c':K) (h:Sm δ tl c c'):Side (fun x y=>x.map qj = y.map qj) δ tl c (qq rec c) (qq rec' c'):=by
 rw [qq,qq,h.ahead hs]
 cases ha:qgv c [61,62] with
 | true =>
   rw [if_pos rfl,if_pos rfl,h.takeO.1]
   intro x hx
   cases hy:(qcn rec c).2 with
   | none=>rw [qd6,hy] at hx;cases hx
   | some y =>
     obtain ⟨q1,y',q2,q3,q4⟩:=qxv hs hr c c' h y hy
     rw [qd6,hy,Option.isSome_some,if_pos rfl] at hx
     rw [qd6,qd6,hy,q2,Option.isSome_some,Option.isSome_some,if_pos rfl,if_pos rfl]
     cases hm:(qd c [40]).2 with
     | true =>
       rw [hm,if_pos rfl] at hx q4
       rw [if_pos rfl,if_pos rfl]
       cases hw:(qc (qcn rec c).1 [41]).2 with
       | false=>rw [hw] at hx;cases hx
       | true =>
         obtain ⟨w1,w2,w3⟩:=q4.wantC h.d hw
         rw [hw,if_pos rfl] at hx
         rw [w1,if_pos rfl,if_pos rfl]
         cases hv:(qc (qc (qcn rec c).1 [41]).1 [61,62]).2 with
         | false=>rw [hv] at hx;cases hx
         | true =>
           obtain ⟨v1,v2,v3⟩:=w2.want hv
           rw [hv,if_pos rfl] at hx
           rw [v1]
           cases hx
           exact .inl ⟨v3.trans (w3.trans q1),y',rfl,q3,v2⟩
     | false =>
       rw [hm,if_neg noB] at hx
       rw [hm,if_neg noB,Int.add_zero] at q4
       rw [if_neg noB,if_neg noB]
       cases hv:(qc (qcn rec c).1 [61,62]).2 with
       | false=>rw [hv] at hx;cases hx
       | true =>
         obtain ⟨v1,v2,v3⟩:=q4.want hv
         rw [hv,if_pos rfl] at hx
         rw [v1]
         cases hx
         exact .inl ⟨v3.trans q1,y',rfl,q3,v2⟩
 | false =>
   rw [if_neg noB,if_neg noB]
   intro x hx
   cases hf:failT c with
   | true=>rw [hf] at hx;cases hx
   | false =>
     rw [hf] at hx
     rw [Sm.failT hs h hf]
     cases hx
     exact .inl ⟨rfl,_,rfl,rfl,h⟩
end
theorem qwe {δ:Int} {tl:List T×List T} (hs:Stop tl) (f f':Nat) (hf:f≤f') (c c':K) (h:Sm δ tl c c'):Side NS δ tl c (qdi f c) (qdi f' c'):=by
 intro x hx
 have hr:=qj1 hs f f' hf
 rw [qdi] at hx ⊢
 rw [qdi]
 cases hy:(qq (qbg f) c).2 with
 | none=>rw [hy] at hx;cases hx
 | some y =>
   rw [hy,Option.isSome_some,if_pos rfl] at hx
   rw [Option.isSome_some,if_pos rfl]
   rcases ql0 hs hr c c' h y hy with ⟨q1,y',q2,q3,q4⟩ | ⟨q1,q2⟩
   ·rw [q2,Option.isSome_some,if_pos rfl]
    cases hz:(qbg f (qq (qbg f) c).1).2 with
    | none=>rw [hz] at hx;cases hx
    | some z =>
      rw [hz] at hx
      simp only [Option.map_some,Option.getD_some,Option.some.injEq] at hx
      subst hx
      rcases hr _ _ _ q4 z hz with ⟨u1,z',u2,u3,u4⟩ | ⟨u1,u2⟩
      ·rw [u2]
       exact .inl ⟨u1.trans q1,_,rfl,NS.mk rfl rfl (by simp only [List.map_append,Option.getD_some,q3,List.map_cons,show qj z = qj z' from u3]),u4⟩
      ·rw [u1];exact .inr ⟨rfl,u2⟩
   ·rw [q1];exact .inr ⟨rfl,q2⟩

section
variable {δ:Int} {tl:List T×List T} (hs:Stop tl)
include hs
theorem Sm.leafP {c c':K} (h:Sm δ tl c c'):(∀ n,Go.Proofs.Ytfjbmjplnmaclaa.leafP c = some n->∃ n',Go.Proofs.Ytfjbmjplnmaclaa.leafP c' = some n'∧NS n n'∧Sm δ tl (qg c) (qg c')∧(qg c).nest = c.nest)∧(Go.Proofs.Ytfjbmjplnmaclaa.leafP c = none->Go.Proofs.Ytfjbmjplnmaclaa.leafP c' = none):=by
 have h1:=h.kind hs (k:=1) (by decide) (by decide)
 have h2:=h.kind hs (k:=2) (by decide) (by decide)
 have h3:=h.kind hs (k:=3) (by decide) (by decide)
 have h4:=h.is hs (x:=[95]) (by decide) (by decide) (by decide)
 refine ⟨fun n hn=>?_,fun hn=>?_⟩
 ·unfold Go.Proofs.Ytfjbmjplnmaclaa.leafP at hn ⊢
  simp only [h1,h2,h3,h4]
  split at hn
  ·rename_i q
   obtain ⟨hb,hx⟩:=h.there q (by decide)
   rw [if_pos q];cases hn;exact ⟨_,rfl,NS.mk rfl (qci hb).symm rfl,hx⟩
  ·rename_i q;rw [if_neg q]
   split at hn
   ·rename_i q
    obtain ⟨hb,hx⟩:=h.there q (by decide)
    rw [if_pos q];cases hn;exact ⟨_,rfl,NS.mk rfl (qci hb).symm rfl,hx⟩
   ·rename_i q;rw [if_neg q]
    split at hn
    ·rename_i q
     obtain ⟨hb,hx⟩:=h.there q (by decide)
     rw [if_pos q];cases hn;exact ⟨_,rfl,NS.mk (q0j hb).symm rfl rfl,hx⟩
    ·rename_i q;rw [if_neg q]
     split at hn
     ·rename_i q
      obtain ⟨_,hx⟩:=h.isT q
      rw [if_pos q];cases hn;exact ⟨_,rfl,NS.mk rfl rfl rfl,hx⟩
     ·cases hn
 ·unfold Go.Proofs.Ytfjbmjplnmaclaa.leafP at hn ⊢
  simp only [h1,h2,h3,h4]
  split at hn
  ·cases hn
  ·rename_i q;rw [if_neg q]
   split at hn
   ·cases hn
   ·rename_i q;rw [if_neg q]
    split at hn
    ·cases hn
    ·rename_i q;rw [if_neg q]
     split at hn
     ·cases hn
     ·rename_i q;rw [if_neg q]
theorem Sm.leafPs {c c':K} (h:Sm δ tl c c'):(Go.Proofs.Ytfjbmjplnmaclaa.leafP c').isSome = (Go.Proofs.Ytfjbmjplnmaclaa.leafP c).isSome:=by
 cases hq:Go.Proofs.Ytfjbmjplnmaclaa.leafP c with
 | none=>rw [(Sm.leafP hs h).2 hq]
 | some n=>obtain ⟨n',e,_⟩:=(Sm.leafP hs h).1 n hq;rw [e];rfl
variable {rec rec':K->K×Option N} (hr:∀ (δ:Int) c c',Sm δ tl c c'->Side NS δ tl c (rec c) (rec' c'))
include hr
theorem qm9 (c c':K) (h:Sm δ tl c c'):Side NS δ tl c (qba rec c) (qba rec' c'):=by
 intro x hx
 have hls:=Sm.leafPs hs h
 cases hl:(leafP c).isSome with
 | true =>
   rw [hl] at hls
   rw [qba,if_pos hl] at hx ⊢
   rw [qba,if_pos hls]
   obtain ⟨n',e,q,hn,e1⟩:=(Sm.leafP hs h).1 x hx
   exact .inl ⟨e1,n',e,q,hn⟩
 | false =>
   rw [hl] at hls
   have hl1:¬ (leafP c).isSome = true:=by rw [hl];decide
   have hl2:¬ (leafP c').isSome = true:=by rw [hls];decide
   by_cases hk:isK c [40] = true
   ·have hk':=(h.isO hk).1
    rw [qba,if_neg hl1,if_pos hk] at hx ⊢
    rw [qba,if_neg hl2,if_pos hk']
    cases he:(qa c).2 with
    | false=>rw [he] at hx;cases hx
    | true =>
      rw [he,if_pos rfl] at hx
      rw [if_pos rfl]
      rcases h.enter he with ⟨e1,e2,e3⟩ | ⟨e1,e2⟩
      ·rw [e1,if_pos rfl]
       have hd0:=e2.d
       obtain ⟨_,g1,g2⟩:=e2.isO (x:=[40]) (by rw [qfb he];exact hk)
       cases hy:(rec (qg (qa c).1)).2 with
       | none=>rw [hy] at hx;cases hx
       | some y =>
         rw [hy,Option.isSome_some,if_pos rfl] at hx
         rw [Option.isSome_some,if_pos rfl]
         rcases hr _ _ _ g1 y hy with ⟨q1,y',q2,q3,q4⟩ | ⟨q1,q2⟩
         ·rw [q2,Option.isSome_some,if_pos rfl]
          cases hw:(qc (rec (qg (qa c).1)).1 [41]).2 with
          | false=>rw [hw] at hx;cases hx
          | true =>
            obtain ⟨w1,w2,w3⟩:=q4.wantC hd0 hw
            obtain ⟨l1,l2⟩:=w2.leave (m:=c.nest) (by omega)
            rw [hw,if_pos rfl] at hx
            cases hx
            rw [w1,if_pos rfl,if_pos rfl]
            exact .inl ⟨l2,y',rfl,q3,l1⟩
         ·rw [q1]
          exact .inr ⟨rfl,q2⟩
      ·rw [e1];exact .inr ⟨rfl,e2⟩
   ·rw [qba,if_neg hl1,if_neg hk] at hx;cases hx
theorem Sm.begP {c c':K} (h:Sm δ tl c c'):Go.Proofs.Ytfjbmjplnmaclaa.begP c' = Go.Proofs.Ytfjbmjplnmaclaa.begP c:=by
 unfold Go.Proofs.Ytfjbmjplnmaclaa.begP
 rw [h.is hs (by decide) (by decide) (by decide),Sm.leafPs hs h]
theorem qsa:∀ (f f':Nat),f≤f'->∀ (c c':K) (a a':List N),Sm δ tl c c'->a.map qj = a'.map qj->Side (fun x y=>x.map qj = y.map qj) δ tl c (qem rec f c a) (qem rec' f' c' a')
 | 0,f',_,c,c',a,a',h,ha=>fun x hx=>by cases hx
 | f + 1,0,hf,_,_,_,_,_,_=>by omega
 | f + 1, f' + 1, hf, c, c', a, a', h, ha => fun x hx => by
   have hb:=Sm.begP hs hr h
   cases hc:begP c with
   | false =>
     rw [qem,hc,if_neg noB] at hx ⊢
     rw [qem,hb,hc,if_neg noB]
     cases hx
     exact .inl ⟨rfl,_,rfl,ha,h⟩
   | true =>
     rw [qem,hc,if_pos rfl] at hx ⊢
     rw [qem,hb,hc,if_pos rfl]
     cases hy:(qba rec c).2 with
     | none=>rw [hy] at hx;cases hx
     | some y =>
       rw [hy,Option.isSome_some,if_pos rfl] at hx
       rw [Option.isSome_some,if_pos rfl]
       rcases qm9 hs hr c c' h y hy with ⟨q1,y',q2,q3,q4⟩ | ⟨q1,q2⟩
       ·rw [q2,Option.isSome_some,if_pos rfl]
        have hl:(a ++ [y]).map qj = (a' ++ [y']).map qj:=by simp only [List.map_append,ha,List.map_cons,show qj y = qj y' from q3]
        rcases qsa f f' (by omega) _ _ (a ++ [y]) (a' ++ [y']) q4 hl x hx with ⟨r1,r2⟩ | r
        ·exact .inl ⟨by simp only [Option.getD_some];rw [r1,q1],r2⟩
        ·exact .inr r
       ·rw [q1];exact .inr ⟨rfl,q2⟩
end
theorem qq6 {tl:List T×List T} (hs:Stop tl):∀ (f f':Nat),f≤f'->∀ (δ:Int) (c c':K),Sm δ tl c c'->Side NS δ tl c (qbz f c) (qbz f' c')
 | 0,f',_,δ,c,c',h=>fun x hx=>by cases hx
 | f + 1,0,hf,_,_,_,_=>by omega
 | f + 1, f' + 1, hf, δ, c, c', h => fun x hx => by
   have hr:∀ (δ:Int) d d',Sm δ tl d d'->Side NS δ tl d (qbz f d) (qbz f' d'):=fun δ d d' h=>qq6 hs f f' (by omega) δ d d' h
   rw [qbz] at hx ⊢
   rw [qbz]
   cases he:(qa c).2 with
   | false=>rw [he] at hx;cases hx
   | true =>
     rw [he,if_pos rfl] at hx
     rw [if_pos rfl]
     rcases h.enter he with ⟨e1,e2,e3⟩ | ⟨e1,e2⟩
     ·rw [e1,if_pos rfl]
      have hn:=h.n
      by_cases h2:(qi (qa c).1).kind = 2
      ·rw [if_pos h2] at hx ⊢
       rw [if_pos ((e2.kind hs (by decide) (by decide)).2 h2)]
       obtain ⟨hb,g1,g2⟩:=e2.there h2 (by decide)
       have hle:=e2.le
       have hk:=qsa hs hr (rest (qa c).1 + 1) (rest (qa c').1 + 1) (by omega) _ _ [] [] g1 rfl
       cases hy:(qem (qbz f) (rest (qa c).1 + 1) (qg (qa c).1) []).2 with
       | none=>rw [hy] at hx;cases hx
       | some y =>
         rw [hy] at hx
         simp only [Option.map_some,Option.some.injEq] at hx
         subst hx
         rcases hk y hy with ⟨q1,y',q2,q3,q4⟩ | ⟨q1,q2⟩
         ·obtain ⟨l1,l2⟩:=q4.leave (m:=c.nest) (by omega)
          rw [q2]
          exact .inl ⟨l2,_,rfl,NS.mk rfl (qci hb).symm q3,l1⟩
         ·rw [q1];exact .inr ⟨rfl,q2.mon (qx _)⟩
      ·rw [if_neg h2] at hx ⊢
       rw [if_neg (fun q=>h2 ((e2.kind hs (by decide) (by decide)).1 q))]
       cases hy:(qba (qbz f) (qa c).1).2 with
       | none=>rw [hy] at hx;cases hx
       | some y =>
         rw [hy] at hx
         cases hx
         rcases qm9 hs hr _ _ e2 _ hy with ⟨q1,y',q2,q3,q4⟩ | ⟨q1,q2⟩
         ·obtain ⟨l1,l2⟩:=q4.leave (m:=c.nest) (by omega)
          rw [q2]
          exact .inl ⟨l2,_,rfl,q3,l1⟩
         ·rw [q1];exact .inr ⟨rfl,q2.mon (qx _)⟩
     ·rw [e1];exact .inr ⟨rfl,e2⟩

theorem NS.kids {x y:N} (h:NS x y):[x].map qj = [y].map qj:=by simp only [List.map_cons,List.map_nil,show qj x = qj y from h]
theorem NS.snoc {a a':List N} {y y':N} (ha:a.map qj = a'.map qj) (h:NS y y'):(a ++ [y]).map qj = (a' ++ [y']).map qj:=by simp only [List.map_append,ha,List.map_cons,show qj y = qj y' from h]
section
variable {δ:Int} {tl:List T×List T} (hs:Stop tl)
include hs
theorem Sm.leafE {c c':K} (h:Sm δ tl c c'):(∀ n,Go.Proofs.Ytfjbmjplnmaclaa.leafE c = some n->∃ n',Go.Proofs.Ytfjbmjplnmaclaa.leafE c' = some n'∧NS n n'∧Sm δ tl (qg c) (qg c')∧(qg c).nest = c.nest)∧(Go.Proofs.Ytfjbmjplnmaclaa.leafE c = none->Go.Proofs.Ytfjbmjplnmaclaa.leafE c' = none):=by
 have h1:=h.kind hs (k:=1) (by decide) (by decide)
 have h2:=h.kind hs (k:=2) (by decide) (by decide)
 have h3:=h.kind hs (k:=3) (by decide) (by decide)
 refine ⟨fun n hn=>?_,fun hn=>?_⟩
 ·unfold Go.Proofs.Ytfjbmjplnmaclaa.leafE at hn ⊢
  simp only [h1,h2,h3]
  split at hn
  ·rename_i q
   obtain ⟨hb,hx⟩:=h.there q (by decide)
   rw [if_pos q];cases hn;exact ⟨_,rfl,NS.mk rfl (qci hb).symm rfl,hx⟩
  ·rename_i q;rw [if_neg q]
   split at hn
   ·rename_i q
    obtain ⟨hb,hx⟩:=h.there q (by decide)
    rw [if_pos q];cases hn;exact ⟨_,rfl,NS.mk rfl (qci hb).symm rfl,hx⟩
   ·rename_i q;rw [if_neg q]
    split at hn
    ·rename_i q
     obtain ⟨hb,hx⟩:=h.there q (by decide)
     rw [if_pos q];cases hn;exact ⟨_,rfl,NS.mk (q0j hb).symm rfl rfl,hx⟩
    ·cases hn
 ·unfold Go.Proofs.Ytfjbmjplnmaclaa.leafE at hn ⊢
  simp only [h1,h2,h3]
  split at hn
  ·cases hn
  ·rename_i q;rw [if_neg q]
   split at hn
   ·cases hn
   ·rename_i q;rw [if_neg q]
    split at hn
    ·cases hn
    ·rename_i q;rw [if_neg q]
theorem Sm.leafEs {c c':K} (h:Sm δ tl c c'):(Go.Proofs.Ytfjbmjplnmaclaa.leafE c').isSome = (Go.Proofs.Ytfjbmjplnmaclaa.leafE c).isSome:=by
 cases hq:Go.Proofs.Ytfjbmjplnmaclaa.leafE c with
 | none=>rw [(Sm.leafE hs h).2 hq]
 | some n=>obtain ⟨n',e,_⟩:=(Sm.leafE hs h).1 n hq;rw [e];rfl
variable {rec rec':K->K×Option N} (hr:∀ (δ:Int) c c',Sm δ tl c c'->Side NS δ tl c (rec c) (rec' c'))
include hr
theorem qmr (c c':K) (h:Sm δ tl c c'):Side NS δ tl c (qs rec c) (qs rec' c'):=by
 intro x hx
 have hls:=Sm.leafEs hs h
 cases hl:(leafE c).isSome with
 | true =>
   rw [hl] at hls
   rw [qs,if_pos hl] at hx ⊢
   rw [qs,if_pos hls]
   obtain ⟨n',e,q,hn,e1⟩:=(Sm.leafE hs h).1 x hx
   exact .inl ⟨e1,n',e,q,hn⟩
 | false =>
   rw [hl] at hls
   have hl1:¬ (leafE c).isSome = true:=by rw [hl];decide
   have hl2:¬ (leafE c').isSome = true:=by rw [hls];decide
   by_cases hk:isK c [40] = true
   ·have hk':=(h.isO hk).1
    rw [qs,if_neg hl1,if_pos hk] at hx ⊢
    rw [qs,if_neg hl2,if_pos hk']
    cases he:(qa c).2 with
    | false=>rw [he] at hx;cases hx
    | true =>
      rw [he,if_pos rfl] at hx
      rw [if_pos rfl]
      rcases h.enter he with ⟨e1,e2,e3⟩ | ⟨e1,e2⟩
      ·rw [e1,if_pos rfl]
       have hd0:=e2.d
       obtain ⟨_,g1,g2⟩:=e2.isO (x:=[40]) (by rw [qfb he];exact hk)
       cases hy:(rec (qg (qa c).1)).2 with
       | none=>rw [hy] at hx;cases hx
       | some y =>
         rw [hy,Option.isSome_some,if_pos rfl] at hx
         rw [Option.isSome_some,if_pos rfl]
         rcases hr _ _ _ g1 y hy with ⟨q1,y',q2,q3,q4⟩ | ⟨q1,q2⟩
         ·rw [q2,Option.isSome_some,if_pos rfl]
          cases hw:(qc (rec (qg (qa c).1)).1 [41]).2 with
          | false=>rw [hw] at hx;cases hx
          | true =>
            obtain ⟨w1,w2,w3⟩:=q4.wantC hd0 hw
            obtain ⟨l1,l2⟩:=w2.leave (m:=c.nest) (by omega)
            rw [hw,if_pos rfl] at hx
            cases hx
            rw [w1,if_pos rfl,if_pos rfl]
            exact .inl ⟨l2,y',rfl,q3,l1⟩
         ·rw [q1]
          exact .inr ⟨rfl,q2⟩
      ·rw [e1];exact .inr ⟨rfl,e2⟩
   ·rw [qs,if_neg hl1,if_neg hk] at hx;cases hx
theorem Sm.begE {c c':K} (h:Sm δ tl c c'):Go.Proofs.Ytfjbmjplnmaclaa.begE c' = Go.Proofs.Ytfjbmjplnmaclaa.begE c:=by
 unfold Go.Proofs.Ytfjbmjplnmaclaa.begE
 rw [h.is hs (by decide) (by decide) (by decide),Sm.leafEs hs h]
abbrev qly (δ:Int) (tl:List T×List T) (c:K) (p p':R3):Prop:=Side NS δ tl c (toO p) (toO p')
theorem qb7 {c:K} {p p':R3} (h:p.2.2 = true->(p.1.nest = c.nest∧p'.2.2 = true∧NS p.2.1 p'.2.1∧Sm δ tl p.1 p'.1)∨(p'.2.2 = false∧Lim δ p'.1)):qly δ tl c p p':=by
 intro x hx
 unfold toO at hx ⊢
 simp only at hx ⊢
 cases hp:p.2.2 with
 | false=>rw [hp] at hx;cases hx
 | true =>
   rw [hp,if_pos rfl] at hx
   cases hx
   rcases h hp with ⟨q1,q2,q3,q4⟩ | ⟨q1,q2⟩
   ·rw [q2];exact .inl ⟨q1,_,rfl,q3,q4⟩
   ·rw [q1];exact .inr ⟨rfl,q2⟩
theorem qnp {c:K} {p p':R3} (h:qly δ tl c p p') (hp:p.2.2 = true):(p.1.nest = c.nest∧p'.2.2 = true∧NS p.2.1 p'.2.1∧Sm δ tl p.1 p'.1)∨(p'.2.2 = false∧Lim δ p'.1):=by
 have hx:(toO p).2 = some p.2.1:=by unfold toO;rw [hp];rfl
 rcases h _ hx with ⟨q1,x',q2,q3,q4⟩ | ⟨q1,q2⟩
 ·unfold toO at q2
  cases hp':p'.2.2 with
  | false=>simp only [hp',if_neg noB] at q2;cases q2
  | true =>
    simp only [hp',if_true,Option.some.injEq] at q2
    subst q2
    exact .inl ⟨q1,rfl,q3,q4⟩
 ·unfold toO at q1
  cases hp':p'.2.2 with
  | false=>exact .inr ⟨rfl,q2⟩
  | true=>simp only [hp',if_true] at q1;cases q1
theorem qnj {c:K} {p p':K×Option N} (h:Side NS δ tl c p p'):qly δ tl c (ofO p) (ofO p'):=by
 refine qb7 hs hr fun hp=>?_
 cases hy:p.2 with
 | none=>simp only [ofO,hy] at hp;cases hp
 | some y =>
   rcases h y hy with ⟨q1,y',q2,q3,q4⟩ | ⟨q1,q2⟩
   ·exact .inl ⟨q1,by simp only [ofO,q2];rfl,by simp only [ofO,hy,q2];exact q3,q4⟩
   ·exact .inr ⟨by simp only [ofO,q1];rfl,q2⟩
theorem qm6:∀ (f f':Nat),f≤f'->∀ (c c':K) (n n':N),Sm δ tl c c'->NS n n'->qly δ tl c (qd3 rec f c n) (qd3 rec' f' c' n')
 | 0,f',_,c,c',a,a',h,ha=>fun x hx=>by cases hx
 | f + 1,0,hf,_,_,_,_,_,_=>by omega
 | f + 1, f' + 1, hf, c, c', n, n', h, ha => by
   have hb:=Sm.begE hs hr h
   rw [qd3,qd3,hb]
   cases hc:begE c with
   | false =>
     rw [if_neg noB,if_neg noB]
     exact qb7 hs hr fun _=>.inl ⟨rfl,rfl,ha,h⟩
   | true =>
     rw [if_pos rfl,if_pos rfl]
     cases hy:(qs rec c).2 with
     | none=>rw [Option.isSome_none,if_neg noB];exact qb7 hs hr fun q=>by cases q
     | some y =>
       rw [Option.isSome_some,if_pos rfl]
       rcases qmr hs hr c c' h y hy with ⟨q1,y',q2,q3,q4⟩ | ⟨q1,q2⟩
       ·rw [q2,Option.isSome_some,if_pos rfl]
        have:=qm6 f f' (by omega) _ _ (appN n y) (appN n' y') q4 (NS.mk rfl rfl (by simp only [List.map_cons,show qj n = qj n' from ha,show qj y = qj y' from q3]))
        intro x hx
        rcases this x hx with ⟨r1,r2⟩ | r
        ·exact .inl ⟨r1.trans q1,r2⟩
        ·exact .inr r
       ·rw [q1];exact qb7 hs hr fun _=>.inr ⟨rfl,q2⟩
theorem qxj (c c':K) (h:Sm δ tl c c'):qly δ tl c (qez rec c) (qez rec' c'):=by
 rw [qez,qez]
 cases hy:(qs rec c).2 with
 | none=>rw [Option.isSome_none,if_neg noB];exact qb7 hs hr fun q=>by cases q
 | some y =>
   rw [Option.isSome_some,if_pos rfl]
   rcases qmr hs hr c c' h y hy with ⟨q1,y',q2,q3,q4⟩ | ⟨q1,q2⟩
   ·rw [q2,Option.isSome_some,if_pos rfl]
    have hle:=q4.le
    intro x hx
    rcases qm6 hs hr (rest (qs rec c).1 + 1) (rest (qs rec' c').1 + 1) (by omega) _ _ y y' q4 q3 x hx with ⟨r1,r2⟩ | r
    ·exact .inl ⟨r1.trans q1,r2⟩
    ·exact .inr r
   ·rw [q1];exact qb7 hs hr fun _=>.inr ⟨rfl,q2⟩
theorem qix (w:List UInt8) (hp0:wx w = 0) (h590:w≠[59]):∀ (f f':Nat),f≤f'->∀ (c c':K),Sm δ tl c c'->qly δ tl c (qbx rec w f c) (qbx rec' w f' c')
 | 0,f',_,c,c',h=>fun x hx=>by cases hx
 | f + 1,0,hf,_,_,_=>by omega
 | f + 1, f' + 1, hf, c, c', h => by
   rw [qbx,qbx]
   by_cases h1:(qi c).kind = 1
   ·obtain ⟨hb,hn,e⟩:=h.there h1 (by decide)
    rw [if_pos h1,if_pos ((h.kind hs (by decide) (by decide)).2 h1)]
    refine qb7 hs hr fun hp=>?_
    rcases qnp hs hr (qix w hp0 h590 f f' (by omega) _ _ hn) hp with ⟨q1,q2,q3,q4⟩ | q
    ·exact .inl ⟨q1.trans e,q2,NS.mk rfl (qci hb).symm q3.kids,q4⟩
    ·exact .inr q
   ·rw [if_neg h1,if_neg (fun q=>h1 ((h.kind hs (by decide) (by decide)).1 q))]
    cases hw:(qc c w).2 with
    | false=>rw [if_neg noB];exact qb7 hs hr fun q=>by cases q
    | true =>
      obtain ⟨w1,w2,w3⟩:=h.want hw hp0 h590
      rw [w1,if_pos rfl,if_pos rfl]
      intro x hx
      rcases qnj hs hr (hr _ _ _ w2) x hx with ⟨r1,r2⟩ | r
      ·exact .inl ⟨r1.trans w3,r2⟩
      ·exact .inr r
theorem Side.at {α:Type} {R:α->α->Prop} {c d:K} {p p':K×Option α} (h:Side R δ tl c p p') (e:c.nest = d.nest):Side R δ tl d p p':=fun x hx=>(h x hx).imp (fun q=>⟨q.1.trans e,q.2⟩) id
theorem Side.map {α β:Type} {R:α->α->Prop} {S:β->β->Prop} {c:K} {p p':K×Option α} {g g':α->β} (h:Side R δ tl c p p') (hg:∀ x x',R x x'->S (g x) (g' x')):Side S δ tl c (p.1,p.2.map g) (p'.1,p'.2.map g'):=by
 intro x hx
 cases hy:p.2 with
 | none=>simp only [hy] at hx;cases hx
 | some y =>
   simp only [hy,Option.map_some,Option.some.injEq] at hx
   subst hx
   rcases h y hy with ⟨q1,y',q2,q3,q4⟩ | ⟨q1,q2⟩
   ·exact .inl ⟨q1,g' y',by simp only [q2];rfl,hg _ _ q3,q4⟩
   ·exact .inr ⟨by simp only [q1];rfl,q2⟩
theorem qms (c c':K) (h:Sm δ tl c c'):Side NS δ tl c (qbn rec c) (qbn rec' c'):=by
 rw [qbn,qbn]
 cases hk:(kindK c 1).2 with
 | false=>rw [if_neg noB];intro x hx;cases hx
 | true =>
   obtain ⟨k1,k2,k3,k4⟩:=h.kindK (by decide) hk
   obtain ⟨t1,t2,t3⟩:=k2.take hs (x:=[58,58]) (by decide) (by decide) (by decide)
   rw [k1,t1,if_pos rfl,if_pos rfl]
   cases ht:(qd (kindK c 1).1 [58,58]).2 with
   | true =>
     rw [if_pos rfl,if_pos rfl]
     have hle:=t2.le
     exact Side.map hs hr (Side.at hs hr (qwe hs _ _ (by omega) _ _ t2) (t3.trans k3)) fun x x' q=>NS.mk rfl (qci k4).symm (NS.kids q)
   | false =>
     rw [if_neg noB,if_neg noB]
     have hle:=k2.le
     exact Side.map hs hr (Side.at hs hr (qix hs hr [61] (by decide) (by decide) _ _ (by omega) _ _ k2) k3) fun x x' q=>NS.mk rfl (qci k4).symm (NS.kids q)
end

def qb2k (δ:Int) (tl:List T×List T) (c:K) (p p':RL):Prop:=p.2.2 = true->(p.1.nest = c.nest∧p'.2.2 = true∧p.2.1.map qj = p'.2.1.map qj∧Sm δ tl p.1 p'.1)∨(p'.2.2 = false∧Lim δ p'.1)
section
variable {δ:Int} {tl:List T×List T} (hs:Stop tl)
include hs
theorem qk4 {rd rd':K->R3} (hd:∀ (δ:Int) c c',Sm δ tl c c'->qly δ tl c (rd c) (rd' c')) (hδ:0≤δ):∀ (f f':Nat),f≤f'->∀ (c c':K) (a a':List N),Sm (δ + 1) tl c c'->a.map qj = a'.map qj->(qbh rd f c a).2.2 = true->(qbh rd f c a).1.nest = c.nest∧(qbh rd' f' c' a').2.2 = true∧(qbh rd f c a).2.1.map qj = (qbh rd' f' c' a').2.1.map qj∧Sm δ tl (qbh rd f c a).1 (qbh rd' f' c' a').1
 | 0,f',_,c,c',a,a',h,ha=>fun hp=>by cases hp
 | f + 1,0,hf,_,_,_,_,_,_=>by omega
 | f + 1, f' + 1, hf, c, c', a, a', h, ha => fun hp => by
   rw [qbh] at hp ⊢
   rw [qbh]
   cases hy:(rd c).2.2 with
   | false=>rw [hy,if_neg noB] at hp;cases hp
   | true =>
     rw [hy,if_pos rfl] at hp
     rw [if_pos rfl]
     rcases qnp (rec:=fun c=>(c,none)) (rec':=fun c=>(c,none)) hs (fun _ c c' _ x hx=>by cases hx) (hd _ _ _ h) hy with ⟨q1,q2,q3,q4⟩ | ⟨_,q2⟩
     ·rw [q2,if_pos rfl]
      have hl:=NS.snoc ha q3
      have h1:=fun x=>q4.isB hδ x
      cases ht:isK (rd c).1 [59] with
      | false =>
        rw [qe3 ht] at hp ⊢
        rw [qe3 ((h1 _).trans ht)]
        simp only [Bool.false_and,if_neg noB] at hp ⊢
        obtain ⟨w1,w2,w3⟩:=q4.wantC hδ hp
        exact ⟨w3.trans q1,w1,hl,w2⟩
      | true =>
        obtain ⟨g1,g2,g3⟩:=q4.step ht (.inr (by omega)) (δ':=δ + 1) (by show _ = δ + 1 + 0;omega) (by omega)
        rw [qgj ht] at hp ⊢
        rw [qgj g1]
        simp only [Bool.true_and] at hp ⊢
        rw [g2.isB hδ [125]]
        cases hk:isK (qg (rd c).1) [125] with
        | true =>
          rw [hk] at hp
          simp only [Bool.not_true,if_neg noB] at hp ⊢
          obtain ⟨w1,w2,w3⟩:=g2.wantC hδ hp
          exact ⟨by rw [w3,g3,q1],w1,hl,w2⟩
        | false =>
          rw [hk] at hp
          simp only [Bool.not_false,if_true] at hp ⊢
          obtain ⟨r1,r2⟩:=qk4 hd hδ f f' (by omega) _ _ _ _ g2 hl hp
          exact ⟨by rw [r1,g3,q1],r2⟩
     ·exact q2.elim
theorem qm2 {rd rd':K->R3} (hd:∀ (δ:Int) c c',Sm δ tl c c'->qly δ tl c (rd c) (rd' c')) (c c':K) (h:Sm δ tl c c'):qb2k δ tl c (qv rd c) (qv rd' c'):=by
 intro hp
 rw [qv] at hp ⊢
 rw [qv]
 cases hw:(qc c [123]).2 with
 | false=>rw [hw,if_neg noB] at hp;cases hp
 | true =>
   obtain ⟨w1,w2,w3⟩:=h.wantO hw
   rw [hw,if_pos rfl] at hp
   rw [w1,if_pos rfl,if_pos rfl]
   have hle:=w2.le
   obtain ⟨r1,r2⟩:=qk4 hs hd h.d (rest (qc c [123]).1 + 1) (rest (qc c' [123]).1 + 1) (by omega) _ _ [] [] w2 rfl hp
   exact .inl ⟨r1.trans w3,r2⟩
variable {rec rec':K->K×Option N} (hr:∀ (δ:Int) c c',Sm δ tl c c'->Side NS δ tl c (rec c) (rec' c'))
include hr
theorem q8s (d d':K) (p p':Int) (l l':List N) (w w':K×Bool) (hl:l.map qj = l'.map qj) (hw:w.2 = true->w'.2 = true∧Sm δ tl w.1 w'.1∧w.1.nest = d.nest):qly δ tl d (letC rec p l w) (letC rec' p' l' w'):=by
 rw [letC,letC]
 cases h:w.2 with
 | false=>rw [if_neg noB];exact qb7 hs hr fun q=>by cases q
 | true =>
   obtain ⟨w1,w2,w3⟩:=hw h
   rw [w1,if_pos rfl,if_pos rfl]
   refine qb7 hs hr fun hp=>?_
   rcases qnp hs hr (qnj hs hr (hr _ _ _ w2)) hp with ⟨q1,q2,q3,q4⟩ | q
   ·exact .inl ⟨q1.trans w3,q2,NS.mk rfl rfl (NS.snoc hl q3),q4⟩
   ·exact .inr q
theorem qx2 (p p':Int) (c c':K) (h:Sm δ tl c c'):qly δ tl c (qfv rec p c) (qfv rec' p' c'):=by
 have hb:=qm2 hs (rd:=fun c=>ofO (qbn rec c)) (rd':=fun c=>ofO (qbn rec' c)) (fun δ c c' h=>qnj hs hr (qms hs hr c c' h)) c c' h
 rw [qfv,qfv,letB,letB]
 cases hp:(qv (fun c=>ofO (qbn rec c)) c).2.2 with
 | false=>rw [if_neg noB];exact qb7 hs hr fun q=>by cases q
 | true =>
   rw [if_pos rfl]
   rcases hb hp with ⟨q1,q2,q3,q4⟩ | ⟨q1,q2⟩
   ·rw [q2,if_pos rfl]
    refine q8s hs hr _ c _ _ _ _ _ _ q3 fun hw=>?_
    obtain ⟨w1,w2,w3⟩:=q4.want hw
    exact ⟨w1,w2,w3.trans q1⟩
   ·rw [q1,if_neg noB];exact qb7 hs hr fun _=>.inr ⟨rfl,q2⟩
theorem qxm (c c':K) (h:Sm δ tl c c'):qly δ tl c (qdv rec c) (qdv rec' c'):=by
 have hle:=h.le
 have hb:=qq6 hs (rest c + 2) (rest c' + 2) (by omega) _ c c' h
 rw [qdv,qdv,altB,altB]
 cases hy:(qbz (rest c + 2) c).2 with
 | none=>rw [Option.isSome_none,if_neg noB];exact qb7 hs hr fun q=>by cases q
 | some y =>
   rw [Option.isSome_some,if_pos rfl]
   rcases hb y hy with ⟨q1,y',q2,q3,q4⟩ | ⟨q1,q2⟩
   ·rw [q2,Option.isSome_some,if_pos rfl,altC,altC]
    cases hw:(qc (qbz (rest c + 2) c).1 [45,62]).2 with
    | false=>rw [if_neg noB];exact qb7 hs hr fun q=>by cases q
    | true =>
      obtain ⟨w1,w2,w3⟩:=q4.want hw
      rw [w1,if_pos rfl,if_pos rfl]
      refine qb7 hs hr fun hp=>?_
      rcases qnp hs hr (qnj hs hr (hr _ _ _ w2)) hp with ⟨r1,r2,r3,r4⟩ | q
      ·exact .inl ⟨r1.trans (w3.trans q1),r2,NS.mk rfl rfl (by simp only [List.map_cons,List.map_nil,Option.getD_some];rw [show qj y = qj y' from q3];exact congrArg (fun z=>[qj y',z]) r3),r4⟩
      ·exact .inr q
   ·rw [q1,Option.isSome_none,if_neg noB];exact qb7 hs hr fun _=>.inr ⟨rfl,q2⟩
theorem qvn (p p':Int) (c c':K) (h:Sm δ tl c c'):qly δ tl c (qd7 rec p c) (qd7 rec' p' c'):=by
 rw [qd7,qd7]
 cases hy:(rec c).2 with
 | none=>rw [Option.isSome_none,if_neg noB];exact qb7 hs hr fun q=>by cases q
 | some y =>
   rw [Option.isSome_some,if_pos rfl]
   rcases hr _ _ _ h y hy with ⟨q1,y',q2,q3,q4⟩ | ⟨q1,q2⟩
   ·rw [q2,Option.isSome_some,if_pos rfl,qts,qts]
    cases hw:(qc (rec c).1 [111,102]).2 with
    | false=>rw [if_neg noB];exact qb7 hs hr fun q=>by cases q
    | true =>
      obtain ⟨w1,w2,w3⟩:=q4.want hw
      rw [w1,if_pos rfl,if_pos rfl,qxb,qxb]
      refine qb7 hs hr fun hp=>?_
      rcases qm2 hs (fun δ c c' h=>qxm hs hr c c' h) _ _ w2 hp with ⟨r1,r2,r3,r4⟩ | q
      ·exact .inl ⟨by rw [r1,w3,q1],r2,NS.mk rfl rfl (by rw [List.map_cons,List.map_cons,r3];exact congrArg (· :: _) q3),r4⟩
      ·exact .inr q
   ·rw [q1,Option.isSome_none,if_neg noB];exact qb7 hs hr fun _=>.inr ⟨rfl,q2⟩
theorem q96 (c c':K) (h:Sm δ tl c c') (w:List UInt8) (hp0:wx w = 0) (h590:w≠[59]) (hw:(ifsK c w).2 = true):(ifsK c' w).2 = true∧Sm δ tl (ifsK c w).1 (ifsK c' w).1∧(ifsK c w).1.nest = c.nest:=by
 unfold ifsK at hw ⊢
 by_cases h0:w = []
 ·rw [if_pos h0,if_pos h0];exact ⟨rfl,h,rfl⟩
 ·rw [if_neg h0] at hw
  rw [if_neg h0,if_neg h0]
  exact h.want hw hp0 h590
theorem qo5 (p p':Int):∀ (ws:List (List UInt8)),(∀ w∈ws,wx w = 0∧w≠[59])->∀ (c c':K) (a a':List N),Sm δ tl c c'->a.map qj = a'.map qj->qly δ tl c (qc7 rec p ws c a) (qc7 rec' p' ws c' a')
 | [], _, c, c', a, a', h, ha => by
   rw [qc7,qc7]
   exact qb7 hs hr fun _=>.inl ⟨rfl,rfl,NS.mk rfl rfl ha,h⟩
 | w :: r, hws, c, c', a, a', h, ha => by
   rw [qc7,qc7]
   cases hw:(ifsK c w).2 with
   | false=>rw [if_neg noB];exact qb7 hs hr fun q=>by cases q
   | true =>
     obtain ⟨w1,w2,w3⟩:=q96 hs hr c c' h w (hws w (by simp)).1 (hws w (by simp)).2 hw
     rw [w1,if_pos rfl,if_pos rfl]
     cases hy:(rec (ifsK c w).1).2 with
     | none=>rw [Option.isSome_none,if_neg noB];exact qb7 hs hr fun q=>by cases q
     | some y =>
       rw [Option.isSome_some,if_pos rfl]
       rcases hr _ _ _ w2 y hy with ⟨q1,y',q2,q3,q4⟩ | ⟨q1,q2⟩
       ·rw [q2,Option.isSome_some,if_pos rfl]
        exact Side.at hs hr (qo5 p p' r (fun x hx=>hws x (by simp [hx])) _ _ (a ++ [y]) (a' ++ [y']) q4 (NS.snoc ha q3)) (q1.trans w3)
       ·rw [q1,Option.isSome_none,if_neg noB];exact qb7 hs hr fun _=>.inr ⟨rfl,q2⟩
theorem qux (c c':K) (h:Sm δ tl c c'):qly δ tl c (qcz rec c) (qcz rec' c'):=by
 rw [qcz,qcz]
 obtain ⟨t1,t2,t3⟩:=h.take hs (x:=[92]) (by decide) (by decide) (by decide)
 rw [t1]
 cases ht:(qd c [92]).2 with
 | true =>
   rw [if_pos rfl,if_pos rfl]
   by_cases h1:(qi (qd c [92]).1).kind = 1
   ·rw [if_pos h1,if_pos ((t2.kind hs (by decide) (by decide)).2 h1)]
    have hle:=t2.le
    exact Side.at hs hr (qix hs hr _ (by decide) (by decide) _ _ (by omega) _ _ t2) t3
   ·rw [if_neg h1];exact qb7 hs hr fun q=>by cases q
 | false =>
   rw [if_neg noB,if_neg noB]
   obtain ⟨u1,u2,u3⟩:=h.take hs (x:=[108,101,116]) (by decide) (by decide) (by decide)
   rw [u1]
   cases hu:(qd c [108,101,116]).2 with
   | true=>rw [if_pos rfl,if_pos rfl];exact Side.at hs hr (qx2 hs hr _ _ _ _ u2) u3
   | false =>
     rw [if_neg noB,if_neg noB]
     obtain ⟨v1,v2,v3⟩:=h.take hs (x:=[99,97,115,101]) (by decide) (by decide) (by decide)
     rw [v1]
     cases hv:(qd c [99,97,115,101]).2 with
     | true=>rw [if_pos rfl,if_pos rfl];exact Side.at hs hr (qvn hs hr _ _ _ _ v2) v3
     | false =>
       rw [if_neg noB,if_neg noB]
       obtain ⟨w1,w2,w3⟩:=h.take hs (x:=[105,102]) (by decide) (by decide) (by decide)
       rw [w1]
       cases hw:(qd c [105,102]).2 with
       | true=>rw [if_pos rfl,if_pos rfl];exact Side.at hs hr (qo5 hs hr _ _ ifsW (by intro w hw;simp only [ifsW,List.mem_cons,List.not_mem_nil,or_false] at hw;rcases hw with rfl | rfl | rfl<;>decide) _ _ [] [] w2 rfl) w3
       | false=>rw [if_neg noB,if_neg noB];exact qxj hs hr c c' h
end
theorem qr2 {tl:List T×List T} (hs:Stop tl):∀ (f f':Nat),f≤f'->∀ (δ:Int) (c c':K),Sm δ tl c c'->Side NS δ tl c (qel f c) (qel f' c')
 | 0,f',_,δ,c,c',h=>fun x hx=>by cases hx
 | f + 1,0,hf,_,_,_,_=>by omega
 | f + 1, f' + 1, hf, δ, c, c', h => fun x hx => by
   have hr:∀ (δ:Int) d d',Sm δ tl d d'->Side NS δ tl d (qel f d) (qel f' d'):=fun δ d d' h=>qr2 hs f f' (by omega) δ d d' h
   rw [qel] at hx ⊢
   rw [qel]
   cases he:(qa c).2 with
   | false=>rw [he] at hx;cases hx
   | true =>
     rw [he,if_pos rfl] at hx
     rw [if_pos rfl]
     rcases h.enter he with ⟨e1,e2,e3⟩ | ⟨e1,e2⟩
     ·rw [e1,if_pos rfl]
      have hn:=h.n
      rcases qux hs hr _ _ e2 x hx with ⟨q1,y',q2,q3,q4⟩ | ⟨q1,q2⟩
      ·have q1:(qcz (qel f) (qa c).1).1.nest = (qa c).1.nest:=q1
       obtain ⟨l1,l2⟩:=q4.leave (m:=c.nest) (by show (qcz (qel f) (qa c).1).1.nest = _;omega)
       exact .inl ⟨l2,y',q2,q3,l1⟩
      ·exact .inr ⟨q1,q2.mon (qx _)⟩
     ·rw [e1];exact .inr ⟨rfl,e2⟩

def Eqs (δ:Int) (tl:List T×List T) (c:K) (p p':R3):Prop:=p.2.2 = true->p.1.nest = c.nest∧p'.2.2 = true∧NS p.2.1 p'.2.1∧Sm δ tl p.1 p'.1
theorem q53 {a b:List N} (h:a.map qj = b.map qj):a.length = b.length:=by
 have:=congrArg List.length h
 rwa [List.length_map,List.length_map] at this
section
variable {δ:Int} {tl:List T×List T} (hs:Stop tl)
include hs
theorem q6s {c:K} {p p':K×Option N} (h:Side NS δ tl c p p'):Eqs δ tl c (ofO p) (ofO p'):=fun hp=>by
 cases hy:p.2 with
 | none=>simp only [ofO,hy] at hp;cases hp
 | some y =>
   rcases h y hy with ⟨q1,y',q2,q3,q4⟩ | ⟨_,q2⟩
   ·exact ⟨q1,by simp only [ofO,q2];rfl,by simp only [ofO,hy,q2];exact q3,q4⟩
   ·exact q2.elim
theorem qrz (c c':K) (h:Sm δ tl c c'):Side NS δ tl c (qff c) (qff c'):=by
 have hle:=h.le
 exact qg3 hs (qj1 hs (rest c + 2) (rest c' + 2) (by omega)) c c' h
theorem q08 (c c':K) (h:Sm δ tl c c'):Eqs δ tl c (qdf c) (qdf c'):=q6s hs (qrz hs c c' h)
theorem qrr (c c':K) (h:Sm δ tl c c'):Side NS δ tl c (qgc c) (qgc c'):=by
 have hle:=h.le
 exact qms hs (qr2 hs (rest c + 2) (rest c' + 2) (by omega)) c c' h
theorem qxd (c c':K) (h:Sm δ tl c c'):Side (fun x y=>x.map qj = y.map qj) δ tl c (qcp c) (qcp c'):=by
 have hle:=h.le
 exact ql0 hs (qj1 hs (rest c + 2) (rest c' + 2) (by omega)) c c' h
def EqM (δ:Int) (tl:List T×List T) (more:MF):Prop:=∀ b c c',Sm δ tl c c'->(more b c').1 = (more b c).1∧(more b c').2.2 = (more b c).2.2∧Sm δ tl (more b c).2.1 (more b c').2.1∧(more b c).2.1.nest = c.nest
theorem qbsv:EqM δ tl (qe1 begT):=fun b c c' h=>by
 refine ⟨rfl,?_,h,rfl⟩
 show begT c' = begT c
 have h1:=h.kind hs (k:=1) (by decide) (by decide)
 have h2:=h.kind hs (k:=2) (by decide) (by decide)
 unfold begT
 rw [h.is hs (by decide) (by decide) (by decide)]
 simp only [h1,h2]
theorem qbf6:EqM δ tl (qe1 qek):=fun b c c' h=>by
 refine ⟨rfl,?_,h,rfl⟩
 show qek c' = qek c
 unfold qek
 simp only [h.kind hs (k:=1) (by decide) (by decide)]
theorem q5f:EqM δ tl (qbs [124]):=fun b c c' h=>by
 unfold qbs
 cases b with
 | true =>
   obtain ⟨t1,t2,t3⟩:=h.take hs (x:=[124]) (by decide) (by decide) (by decide)
   rw [if_pos rfl,if_pos rfl]
   exact ⟨rfl,t1,t2,t3⟩
 | false=>exact ⟨rfl,rfl,h,rfl⟩
theorem qb2h (hδ:0≤δ):EqM (δ + 1) tl qd2:=fun b c c' h=>by
 unfold qd2
 have h1:=h.isB hδ [125]
 rw [h1]
 cases hk:isK c [125] with
 | true=>rw [if_pos rfl,if_pos rfl];exact ⟨rfl,rfl,h,rfl⟩
 | false =>
   rw [if_neg noB,if_neg noB]
   unfold qbs
   cases b with
   | false =>
     rw [if_neg noB,if_neg noB]
     exact ⟨rfl,by show (true && !isK c' [125]) = (true && !isK c [125]);rw [h1],h,rfl⟩
   | true =>
     rw [if_pos rfl,if_pos rfl]
     have h2:=h.isB hδ [59]
     cases ht:isK c [59] with
     | false =>
       rw [qe3 ht,qe3 (h2.trans ht)]
       exact ⟨rfl,rfl,h,rfl⟩
     | true =>
       obtain ⟨g1,g2,g3⟩:=h.step ht (.inr (by omega)) (δ':=δ + 1) (by show _ = δ + 1 + 0;omega) (by omega)
       rw [qgj ht,qgj g1]
       exact ⟨rfl,by show (true && !isK (qg c') [125]) = (true && !isK (qg c) [125]);rw [g2.isB hδ [125]],g2,g3⟩
theorem qzb {one:K->R3} {more:MF} (ho:∀ c c',Sm δ tl c c'->Eqs δ tl c (one c) (one c')) (hm:EqM δ tl more):∀ (f f':Nat),f≤f'->∀ (b:Bool) (c c':K) (acc acc':List N),Sm δ tl c c'->acc.map qj = acc'.map qj →
 (rowF one more f b c acc).2.2.2 = true->(rowF one more f b c acc).2.1.nest = c.nest∧(rowF one more f' b c' acc').2.2.2 = true∧(rowF one more f b c acc).2.2.1.map qj = (rowF one more f' b c' acc').2.2.1.map qj∧Sm δ tl (rowF one more f b c acc).2.1 (rowF one more f' b c' acc').2.1
 | 0,_,_,_,_,_,_,_,_,_=>fun h=>by cases h
 | f + 1,0,hf,_,_,_,_,_,_,_=>by omega
 | f + 1, f' + 1, hf, b, c, c', acc, acc', h, ha => fun hp => by
   obtain ⟨m1,m2,m3,m4⟩:=hm b c c' h
   rw [rowF] at hp ⊢
   rw [rowF,m2,m1]
   cases ha2:(more b c).2.2 with
   | false =>
     rw [if_neg noB,if_neg noB]
     exact ⟨m4,rfl,ha,m3⟩
   | true =>
     rw [ha2,if_pos rfl] at hp
     rw [if_pos rfl,if_pos rfl]
     cases hq:(one (more b c).2.1).2.2 with
     | false=>rw [hq,if_neg noB] at hp;cases hp
     | true =>
       rw [hq,if_pos rfl] at hp
       obtain ⟨o1,o2,o3,o4⟩:=ho _ _ m3 hq
       rw [if_pos rfl,o2,if_pos rfl]
       obtain ⟨r1,r2⟩:=qzb ho hm f f' (by omega) (more b c).1 _ _ _ _ o4 (NS.snoc ha o3) hp
       exact ⟨r1.trans (o1.trans m4),r2⟩
theorem qnt {one:K->R3} {more:MF} (ho:∀ c c',Sm δ tl c c'->Eqs δ tl c (one c) (one c')) (hm:EqM δ tl more) (b:Bool) (c c':K) (acc acc':List N) (h:Sm δ tl c c') (ha:acc.map qj = acc'.map qj) (hp:(rowS one more b c acc).2.2.2 = true) :
 (rowS one more b c acc).2.1.nest = c.nest∧(rowS one more b c' acc').2.2.2 = true∧(rowS one more b c acc).2.2.1.map qj = (rowS one more b c' acc').2.2.1.map qj∧Sm δ tl (rowS one more b c acc).2.1 (rowS one more b c' acc').2.1:=by
 have hle:=h.le
 exact qzb hs ho hm _ _ (by omega) b c c' acc acc' h ha hp
theorem qbj9 (c c':K) (h:Sm δ tl c c'):Eqs δ tl c (conK c) (conK c'):=fun hp=>by
 unfold conK at hp ⊢
 cases h1:(kindK c 2).2 with
 | false=>rw [h1,if_neg noB] at hp;cases hp
 | true =>
   obtain ⟨k1,k2,k3,k4⟩:=h.kindK (by decide) h1
   rw [h1,if_pos rfl] at hp
   rw [k1,if_pos rfl,if_pos rfl]
   obtain ⟨r1,r2,r3,r4⟩:=qnt hs (q08 hs) (qbsv hs) false _ _ [] [] k2 rfl hp
   exact ⟨r1.trans k3,r2,NS.mk rfl (qci k4).symm r3,r4⟩
theorem qbd8 (p p':Int) (c c':K) (h:Sm δ tl c c'):Eqs δ tl c (qj9 p c) (qj9 p' c'):=fun hp=>by
 unfold qj9 at hp ⊢
 cases h1:(kindK c 2).2 with
 | false=>rw [h1,if_neg noB] at hp;cases hp
 | true =>
   obtain ⟨k1,k2,k3,k4⟩:=h.kindK (by decide) h1
   rw [h1,if_pos rfl] at hp
   rw [k1,if_pos rfl,if_pos rfl]
   obtain ⟨r1,r2,r3,r4⟩:=qnt hs (q08 hs) (qbf6 hs) false _ _ [] [] k2 rfl (qnl _ _ _ _ (Nat.lt_succ_self _))
   unfold qyv qvz at hp ⊢
   cases h2:(qc (rowS qdf (qe1 qek) false (kindK c 2).1 []).2.1 [61]).2 with
   | false=>rw [h2,if_neg noB] at hp;cases hp
   | true =>
     obtain ⟨w1,w2,w3⟩:=r4.want h2
     rw [h2,if_pos rfl] at hp
     rw [w1,if_pos rfl,if_pos rfl]
     obtain ⟨z1,z2,z3,z4⟩:=qnt hs (qbj9 hs) (q5f hs) false _ _ _ _ w2 r3 hp
     exact ⟨z1.trans (w3.trans (r1.trans k3)),z2,NS.mk (by rw [q53 r3]) (qci k4).symm z3,z4⟩
theorem qbl0 {a b:N} (h:NS a b):a.kind = b.kind:=by
 have:(qj a).kind = (qj b).kind:=by rw [show qj a = qj b from h]
 have e:∀ n:N,(qj n).kind = n.kind:=fun n=>by cases n;rw [qj];rfl
 rwa [e,e] at this
theorem q33 (k:Int) (c c':K) (h:Sm δ tl c c'):Eqs δ tl c (qbe k c) (qbe k c'):=fun hp=>by
 have hB:=q6s hs (qrr hs c c' h)
 unfold qbe at hp ⊢
 split at hp
 ·cases hp
 ·rename_i h1
  obtain ⟨q1,q2,q3,q4⟩:=hB hp
  rw [if_neg h1]
  rw [if_neg (fun q=>h1 ⟨hp,fun e=>q.2 ((qbl0 hs q3).symm.trans e)⟩)]
  exact ⟨q1,q2,q3,q4⟩
theorem qbfa (k:Int) (c c':K) (a a':List N) (h:Sm δ tl c c') (ha:a.map qj = a'.map qj) (hp:(qcr k c a).2.2 = true):(qcr k c a).1.nest = c.nest∧(qcr k c' a').2.2 = true∧(qcr k c a).2.1.map qj = (qcr k c' a').2.1.map qj∧Sm δ tl (qcr k c a).1 (qcr k c' a').1:=by
 unfold qcr at hp ⊢
 cases h1:(qc c [119,104,101,114,101]).2 with
 | false=>rw [h1,if_neg noB] at hp;cases hp
 | true =>
   obtain ⟨w1,w2,w3⟩:=h.want h1
   rw [h1,if_pos rfl] at hp
   rw [w1,if_pos rfl,if_pos rfl]
   cases h2:(qc (qc c [119,104,101,114,101]).1 [123]).2 with
   | false=>rw [h2,if_neg noB] at hp;cases hp
   | true =>
     obtain ⟨x1,x2,x3⟩:=w2.wantO h2
     rw [h2,if_pos rfl] at hp
     rw [x1,if_pos rfl,if_pos rfl]
     unfold qkv at hp ⊢
     cases h3:(rowS (qbe k) qd2 false (qc (qc c [119,104,101,114,101]).1 [123]).1 a).2.2.2 with
     | false=>rw [h3,if_neg noB] at hp;rw [h3] at hp;cases hp
     | true =>
       rw [h3,if_pos rfl] at hp
       obtain ⟨r1,r2,r3,r4⟩:=qnt hs (q33 hs k) (qb2h hs h.d) false _ _ a a' x2 ha h3
       rw [if_pos rfl,r2,if_pos rfl]
       obtain ⟨z1,z2,z3⟩:=r4.wantC h.d (x:=[125]) hp
       exact ⟨z3.trans (r1.trans (x3.trans w3)),z1,r3,z2⟩
theorem qzt (k p p':Int) (c c':K) (h:Sm δ tl c c'):Eqs δ tl c (qja k p c) (qja k p' c'):=fun hp=>by
 have hP:=qxd hs c c' h
 unfold qja at hp ⊢
 cases h1:(qcp c).2 with
 | none=>rw [h1] at hp;cases hp
 | some v =>
   rcases hP v h1 with ⟨q1,v',q2,q3,q4⟩ | ⟨_,q2⟩
   ·rw [h1,Option.isSome_some,if_pos rfl,Option.getD_some] at hp
    rw [q2,Option.isSome_some,Option.isSome_some,if_pos rfl,if_pos rfl,Option.getD_some,Option.getD_some]
    unfold qxn at hp ⊢
    cases h2:(kindK (qcp c).1 2).2 with
    | false=>rw [h2,if_neg noB] at hp;cases hp
    | true =>
      obtain ⟨k1,k2,k3,k4⟩:=q4.kindK (by decide) h2
      rw [h2,if_pos rfl] at hp
      rw [k1,if_pos rfl,if_pos rfl]
      unfold qu7 qy1 at hp ⊢
      have hkd:=k2.kind hs (k:=1) (by decide) (by decide)
      by_cases h3:k = 35∧(qi (kindK (qcp c).1 2).1).kind≠1
      ·rw [if_pos h3] at hp;cases hp
      ·rw [if_neg h3] at hp
       have h3':¬ (k = 35∧(qi (kindK (qcp c').1 2).1).kind≠1):=fun q=>h3 ⟨q.1,fun e=>q.2 (hkd.2 e)⟩
       rw [if_neg h3,if_neg h3']
       have hA:=qrz hs _ _ k2
       cases h4:(qff (kindK (qcp c).1 2).1).2 with
       | none=>rw [h4] at hp;cases hp
       | some a =>
         rcases hA a h4 with ⟨a1,a',a2,a3,a4⟩ | ⟨_,a2⟩
         ·rw [h4,Option.isSome_some,if_pos rfl,Option.getD_some] at hp
          rw [a2,Option.isSome_some,Option.isSome_some,if_pos rfl,if_pos rfl,Option.getD_some,Option.getD_some]
          obtain ⟨b1,b2,b3,b4⟩:=qbfa hs (if k = 35 then 32 else 31) _ _ (v ++ [a]) (v' ++ [a']) a4 (NS.snoc q3 a3) hp
          exact ⟨b1.trans (a1.trans (k3.trans q1)),b2,NS.mk (by rw [q53 q3]) (qci k4).symm b3,b4⟩
         ·exact a2.elim
   ·exact q2.elim
theorem qbbp (c c':K) (h:Sm δ tl c c'):Eqs δ tl c (qp c) (qp c'):=fun hp=>by
 unfold qp at hp ⊢
 obtain ⟨t1,t2,t3⟩:=h.take hs (x:=qll) (by decide) (by decide) (by decide)
 rw [t1]
 cases h1:(qd c qll).2 with
 | true =>
   rw [h1,if_pos rfl] at hp
   rw [if_pos rfl,if_pos rfl]
   obtain ⟨r1,r2⟩:=qbd8 hs _ _ _ _ t2 hp
   exact ⟨r1.trans t3,r2⟩
 | false =>
   rw [h1,if_neg noB] at hp
   rw [if_neg noB,if_neg noB]
   obtain ⟨t1,t2,t3⟩:=h.take hs (x:=qgw) (by decide) (by decide) (by decide)
   rw [t1]
   cases h1:(qd c qgw).2 with
   | true =>
     rw [h1,if_pos rfl] at hp
     rw [if_pos rfl,if_pos rfl]
     obtain ⟨r1,r2⟩:=qzt hs _ _ _ _ _ t2 hp
     exact ⟨r1.trans t3,r2⟩
   | false =>
     rw [h1,if_neg noB] at hp
     rw [if_neg noB,if_neg noB]
     obtain ⟨t1,t2,t3⟩:=h.take hs (x:=qlp) (by decide) (by decide) (by decide)
     rw [t1]
     cases h1:(qd c qlp).2 with
     | true =>
       rw [h1,if_pos rfl] at hp
       rw [if_pos rfl,if_pos rfl]
       obtain ⟨r1,r2⟩:=qzt hs _ _ _ _ _ t2 hp
       exact ⟨r1.trans t3,r2⟩
     | false =>
       rw [h1,if_neg noB] at hp
       rw [if_neg noB,if_neg noB]
       exact q6s hs (qrr hs c c' h) hp
end
end Go.Proofs.Ytfjbmjplnmaclaa.JN
