/- Texts of this proof, joined. -/
import Derived.Test.YtlmcofjcpadmiaaGreatNbu
import Derived.Test.YtlmcofjcpadmiaaGreatNbv
import Derived.Test.YtlmcofjcpadmiaaGreatNbq
import Derived.Test.YtlmcofjcpadmiaaGreatNbo
import Derived.Test.YtlmcofjcpadmiaaGreatNbp
set_option linter.unusedVariables false
set_option linter.unusedSimpArgs false

/- declarations: what is read is a declaration -/
namespace Go.Proofs.YtlmcofjcpadmiaaGreat
open Go Go.RowKit Go.V

theorem qwd {c:K} (hc:okK c) {n:N} (h:(qd8 c).2 = some n):tyW n = true:=qx6 (q9q (rest c + 2)) hc n h
theorem qbgp {c:K} (hc:okK c) {n:N} (h:(qgj c).2 = some n):(biW n || sgW n) = true:=qbcg (qbpf (rest c + 2)) hc n h
theorem qbcs {c:K} (hc:okK c) {l:List N} (h:(qct c).2 = some l):l.all prW = true:=q4u (qhu _) (q9q (rest c + 2)) hc l h
theorem qn3 {one:K->R3} {more:MF} {P:N->Bool} (ho:Goes one) (hm:MonM more) (hP:∀ c,okK c->(one c).2.2 = true->P (one c).2.1 = true):∀ (f:Nat) (b:Bool) (c:K) (acc:List N),okK c->(rowF one more f b c acc).2.2.2 = true->∃ l,(rowF one more f b c acc).2.2.1 = acc ++ l∧l.all P = true
 | 0,_,_,_=>fun _ h=>by cases h
 | f + 1, b, c, acc => fun hc h => by
   rw [rowF] at h ⊢
   have hc1:=okM hc (hm b c)
   split at h
   ·rename_i h1
    rw [if_pos h1]
    split at h
    ·rename_i h2
     rw [if_pos h2]
     obtain ⟨l,e,hl⟩:=qn3 ho hm hP f _ _ _ (okM hc1 (ho.m _)) h
     refine ⟨(one (more b c).2.1).2.1 :: l,?_,?_⟩
     ·rw [e,List.append_assoc];rfl
     ·rw [List.all_cons,hP _ hc1 h2,hl];rfl
    ·cases h
   ·rename_i h1
    rw [if_neg h1]
    exact ⟨[],by rw [List.append_nil],rfl⟩
theorem q7d {one:K->R3} {x:List UInt8} {P:N->Bool} (ho:Goes one) (hP:∀ c,okK c->(one c).2.2 = true->P (one c).2.1 = true) {f:Nat} {c:K} {acc:List N} (hc:okK c) (h:(rowF one (qbh x) (f + 1) false c acc).2.2.2 = true):∃ y l,(rowF one (qbh x) (f + 1) false c acc).2.2.1 = acc ++ y :: l∧P y = true∧l.all P = true:=by
 rw [rowF] at h ⊢
 rw [if_pos (show (qbh x false c).2.2 = true from rfl)] at h ⊢
 split at h
 ·rename_i h2
  rw [if_pos h2]
  have hc1:=okM hc (monF x false c)
  obtain ⟨l,e,hl⟩:=qn3 ho (monF x) hP f _ _ _ (okM hc1 (ho.m _)) h
  exact ⟨_,l,by rw [e,List.append_assoc];rfl,hP _ hc1 h2,hl⟩
 ·cases h
theorem qcgm {c:K} (hc:okK c) (h:(conK c).2.2 = true):cnW (conK c).2.1 = true:=by
 unfold conK at h ⊢
 split at h
 ·rename_i h1
  rw [if_pos h1]
  obtain ⟨l,e,hl⟩:=qn3 (P:=tyW) goes_atom (monA begT) (fun c hc h=>by
   obtain ⟨n,hn⟩:=Option.isSome_iff_exists.1 (show (qd8 c).2.isSome = true from h)
   have:=qwd hc hn
   simp only [qb5,ofO,hn,Option.getD_some];exact this) _ false _ [] (okM hc (qbp c 2)) h
  rw [List.nil_append] at e
  have ht:conW (qen c 2).text = true:=by rw [(qj9 h1).2];exact (qfm hc).2.1 (qg7 h1).2
  have e':(rowS qb5 (qdl begT) false (kindK c 2).1 []).2.2.1 = l:=e
  simp only [conN,cnW,qhy,N.kind,N.num,N.text,N.kids,decide_true,ht,Bool.and_self,Bool.true_and]
  rw [e'];exact hl
 ·cases h
theorem qbdh {c:K} (hc:okK c) (hk:(qp c).kind = 1) {n:N} (h:(qd8 c).2 = some n):vaW n = true:=by
 have h1:=qwd hc h
 unfold qd8 at h
 rw [qbg,if_pos hk] at h
 simp only [Option.some.injEq] at h
 rw [vaW,h1,← h];rfl
theorem q16:∀ (f:Nat) (b:Bool) (c:K) (acc:List N),okK c->(rowF qb5 (qdl qdj) f b c acc).2.2.2 = true->∃ l,(rowF qb5 (qdl qdj) f b c acc).2.2.1 = acc ++ l∧l.all vaW = true
 | 0,_,_,_=>fun _ h=>by cases h
 | f + 1, b, c, acc => fun hc h => by
   rw [rowF] at h ⊢
   cases ha:qdj c with
   | false =>
     rw [if_neg (show ¬ (qdl qdj b c).2.2 = true by show ¬ qdj c = true;rw [ha];decide)]
     exact ⟨[],by rw [List.append_nil],rfl⟩
   | true =>
     rw [if_pos (show (qdl qdj b c).2.2 = true from ha),if_pos (show (qb5 (qdl qdj b c).2.1).2.2 = true from qql ha)] at h ⊢
     obtain ⟨l,e,hl⟩:=q16 f b (qb5 c).1 (acc ++ [(qb5 c).2.1]) (okM hc (goes_atom.m c)) h
     have hk:(qp c).kind = 1:=by simpa [qdj] using ha
     obtain ⟨n,hn⟩:=Option.isSome_iff_exists.1 (show (qd8 c).2.isSome = true from qql ha)
     refine ⟨(qb5 c).2.1 :: l,?_,?_⟩
     ·show (rowF qb5 (qdl qdj) f b (qb5 c).1 (acc ++ [(qb5 c).2.1])).2.2.1 = _
      rw [e,List.append_assoc];rfl
     ·rw [List.all_cons,hl,Bool.and_true]
      simp only [qb5,ofO,hn,Option.getD_some]
      exact qbdh hc hk hn
theorem qbbk {k p m:Int} {t:List UInt8} {v l:List N} {y:N} (h31:k≠31) (h32:k≠32) (hm:m = v.length) (ht:conW t = true):deW (.mk k p m t (v ++ y :: l)) = (if k = 33 then v.all vaW && cnW y && l.all cnW else if k = 35 then v.all prW && vaW y && l.all sgW else if k = 36 then v.all prW && tyW y && l.all biW else false):=by
 subst hm
 have t1:(v ++ y :: l).take v.length = v:=List.take_left
 have t2:(v ++ y :: l).getD v.length N0 = y:=by rw [List.getD_eq_getElem?_getD,List.getElem?_append_right (Nat.le_refl _)];simp
 have t3:(v ++ y :: l).drop (v.length + 1) = l:=by rw [← List.drop_drop,List.drop_left];rfl
 have e1:((v.length:Int)).toNat = v.length:=by omega
 have e2:((v.length:Int) + 1).toNat = v.length + 1:=by omega
 have e3:¬ ((v.length:Int) < 0):=by omega
 have e4:¬ ((((v ++ y :: l).length:Nat):Int)≤(v.length:Int)):=by simp only [List.length_append,List.length_cons];omega
 unfold deW
 rw [if_neg (show ¬ (N.mk k p v.length t (v ++ y :: l)).kind = 31 from h31),if_neg (show ¬ (N.mk k p v.length t (v ++ y :: l)).kind = 32 from h32)]
 show (conW t && !decide ((v.length:Int) < 0) && !decide ((((v ++ y :: l).length:Nat):Int)≤(v.length:Int)) && (if k = 33 then ((v ++ y :: l).take ((v.length:Int)).toNat).all vaW && cnW ((v ++ y :: l).getD ((v.length:Int)).toNat N0) && ((v ++ y :: l).drop ((v.length:Int) + 1).toNat).all cnW
  else if k = 35 then ((v ++ y :: l).take ((v.length:Int)).toNat).all prW && vaW ((v ++ y :: l).getD ((v.length:Int)).toNat N0) && ((v ++ y :: l).drop ((v.length:Int) + 1).toNat).all sgW
  else if k = 36 then ((v ++ y :: l).take ((v.length:Int)).toNat).all prW && tyW ((v ++ y :: l).getD ((v.length:Int)).toNat N0) && ((v ++ y :: l).drop ((v.length:Int) + 1).toNat).all biW else false)) = _
 rw [e1,e2,t1,t2,t3,ht,decide_eq_false e3,decide_eq_false e4]
 simp only [Bool.not_false,Bool.and_true,Bool.true_and]
theorem qbi3 (p:Int) {t:T} {v l:List N} {y:N} (ht:conW t.text = true) (hv:v.all vaW = true) (hy:cnW y = true) (hl:l.all cnW = true):deW (qp2 p t v (v ++ y :: l)) = true:=by
 unfold qp2
 rw [qbbk (by decide) (by decide) rfl ht,if_pos rfl,hv,hy,hl];rfl
theorem qcan (p:Int) {c:K} (hc:okK c) (h:(qi0 p c).2.2 = true):deW (qi0 p c).2.1 = true∧(qi0 p c).2.1.kind≠37:=by
 unfold qi0 at h ⊢
 split at h
 ·rename_i h1
  rw [if_pos h1]
  have ht:conW (qen c 2).text = true:=by rw [(qj9 h1).2];exact (qfm hc).2.1 (qg7 h1).2
  have hc1:=okM hc (qbp c 2)
  have hv:∃ l,(rowS qb5 (qdl qdj) false (kindK c 2).1 []).2.2.1 = l∧l.all vaW = true:=by
   obtain ⟨l,e,hl⟩:=q16 _ false _ [] hc1 (qw1 _ false _ [] (Nat.lt_succ_self _))
   exact ⟨l,e,hl⟩
  obtain ⟨v,hv1,hv2⟩:=hv
  have hc2:=okM hc1 (qf5 goes_atom (monA qdj) false (kindK c 2).1 [])
  unfold qy2 at h ⊢
  rw [hv1] at h ⊢
  generalize (rowS qb5 (qdl qdj) false (kindK c 2).1 []).2.1 = d at *
  unfold qxw at h ⊢
  split at h
  ·rename_i h2
   rw [if_pos h2]
   obtain ⟨y,l,e,hy,hl⟩:=q7d (P:=cnW) goes_con (fun c hc h=>qcgm hc h) (okM hc2 (qe d [61])) h
   have e:(rowS conK (qbh [124]) false (qh d [61]).1 v).2.2.1 = v ++ y :: l:=e
   refine ⟨?_,by simp only [qp2,N.kind];decide⟩
   rw [e]
   exact qbi3 p ht hv2 hy hl
  ·cases h
 ·cases h
theorem qba6 {n:N} (h:biW n = true):n.kind = 31:=by
 rw [q4f] at h
 simp only [Bool.and_eq_true,decide_eq_true_eq] at h
 exact h.1.1.1.1
theorem qbdt {n:N} (h:sgW n = true):n.kind = 32:=by
 unfold sgW at h
 simp only [Bool.and_eq_true,decide_eq_true_eq] at h
 exact h.1.1.1.1
theorem q4g {kd:Int} {c:K} (hc:okK c) (h:(qv kd c).2.2 = true):(biW (qv kd c).2.1 || sgW (qv kd c).2.1) = true∧(qv kd c).2.1.kind = kd:=by
 unfold qv at h ⊢
 split at h
 ·cases h
 ·rename_i h1
  rw [if_neg h1]
  obtain ⟨n,hn⟩:=Option.isSome_iff_exists.1 (show (qgj c).2.isSome = true from h)
  have h2:=qbgp hc hn
  rw [hn] at h1
  simp only [ofO,hn,Option.getD_some]
  refine ⟨h2,?_⟩
  by_cases hq:n.kind = kd
  ·exact hq
  ·exact absurd ⟨rfl,hq⟩ h1
theorem qcdd {c:K} (hc:okK c) (h:(qv 32 c).2.2 = true):sgW (qv 32 c).2.1 = true:=by
 obtain ⟨h1,h2⟩:=q4g hc h
 rcases Bool.or_eq_true_iff.1 h1 with q | q
 ·have:=qba6 q;omega
 ·exact q
theorem qcf2 {c:K} (hc:okK c) (h:(qv 31 c).2.2 = true):biW (qv 31 c).2.1 = true:=by
 obtain ⟨h1,h2⟩:=q4g hc h
 rcases Bool.or_eq_true_iff.1 h1 with q | q
 ·exact q
 ·have:=qbdt q;omega
theorem q6b {kd:Int} {P:N->Bool} (hP:∀ c,okK c->(qv kd c).2.2 = true->P (qv kd c).2.1 = true) {c:K} (hc:okK c) (out:List N) (h:(qc1 kd c out).2.2 = true):∃ l,(qc1 kd c out).2.1 = out ++ l∧l.all P = true:=by
 unfold qc1 at h ⊢
 split at h
 ·rename_i h1
  rw [if_pos h1]
  split at h
  ·rename_i h2
   rw [if_pos h2]
   have hc2:=okM hc ((qe c [119,104,101,114,101]).trans (qe _ [123]))
   unfold qmv at h ⊢
   split at h
   ·rename_i h3
    rw [if_pos h3]
    exact qn3 (qd5 kd) monB hP _ false _ out hc2 h3
   ·rename_i h3;exact absurd h h3
  ·cases h
 ·cases h
theorem qbb5 {k:Int} (hk:k = 35∨k = 36) (p:Int) {c:K} (hc:okK c) (h:(qik k p c).2.2 = true):deW (qik k p c).2.1 = true∧(qik k p c).2.1.kind≠37:=by
 unfold qik at h ⊢
 split at h
 ·rename_i h1
  rw [if_pos h1]
  obtain ⟨v,hv⟩:=Option.isSome_iff_exists.1 h1
  have hpv:=qbcs hc hv
  have hc1:=okM hc (qf2 c)
  rw [hv,Option.getD_some] at h ⊢
  unfold qyo at h ⊢
  split at h
  ·rename_i h2
   rw [if_pos h2]
   have ht:conW (qen (qct c).1 2).text = true:=by rw [(qj9 h2).2];exact (qfm hc1).2.1 (qg7 h2).2
   have hc2:=okM hc1 (qbp (qct c).1 2)
   generalize (kindK (qct c).1 2).1 = d at *
   unfold qxa at h ⊢
   split at h
   ·cases h
   ·rename_i h3
    rw [if_neg h3]
    unfold qyf at h ⊢
    split at h
    ·rename_i h4
     rw [if_pos h4]
     obtain ⟨a,ha⟩:=Option.isSome_iff_exists.1 h4
     rw [ha,Option.getD_some] at h ⊢
     have hc3:=okM hc2 (qhj d)
     refine ⟨?_,?_⟩
     ·rcases hk with rfl | rfl
      ·rw [if_pos rfl] at h ⊢
       obtain ⟨l,e,hl⟩:=q6b (P:=sgW) (fun c hc h=>qcdd hc h) hc3 (v ++ [a]) h
       have hk1:(qp d).kind = 1:=by
        by_cases hq:(qp d).kind = 1
        ·exact hq
        ·exact absurd ⟨rfl,hq⟩ h3
       show deW (qi1 35 p (qen (qct c).1 2) v (qc1 32 (qd8 d).1 (v ++ [a])).2.1) = true
       rw [e,List.append_assoc]
       unfold qi1
       rw [List.cons_append,List.nil_append,qbbk (by decide) (by decide) rfl ht,if_neg (by decide),if_pos rfl,hpv,qbdh hc2 hk1 ha,hl];rfl
      ·rw [if_neg (by decide)] at h ⊢
       obtain ⟨l,e,hl⟩:=q6b (P:=biW) (fun c hc h=>qcf2 hc h) hc3 (v ++ [a]) h
       show deW (qi1 36 p (qen (qct c).1 2) v (qc1 31 (qd8 d).1 (v ++ [a])).2.1) = true
       rw [e,List.append_assoc]
       unfold qi1
       rw [List.cons_append,List.nil_append,qbbk (by decide) (by decide) rfl ht,if_neg (by decide),if_neg (by decide),if_pos rfl,hpv,qwd hc2 ha,hl];rfl
     ·show k≠37
      omega
    ·cases h
  ·cases h
 ·cases h
theorem qbqg {c:K} (hc:okK c) (h:(qcr c).2.2 = true):deW (qcr c).2.1 = true∧(qcr c).2.1.kind≠37:=by
 unfold qcr at h ⊢
 split at h
 ·rename_i h1
  rw [if_pos h1]
  exact qcan _ (okM hc (qm _ _)) h
 ·rename_i h1
  rw [if_neg h1]
  split at h
  ·rename_i h1
   rw [if_pos h1]
   exact qbb5 (.inl rfl) _ (okM hc (qm _ _)) h
  ·rename_i h1
   rw [if_neg h1]
   split at h
   ·rename_i h1
    rw [if_pos h1]
    exact qbb5 (.inr rfl) _ (okM hc (qm _ _)) h
   ·rename_i h1
    rw [if_neg h1]
    obtain ⟨n,hn⟩:=Option.isSome_iff_exists.1 (show (qgj c).2.isSome = true from h)
    have h2:=qbgp hc hn
    simp only [ofO,hn,Option.getD_some]
    rcases Bool.or_eq_true_iff.1 h2 with q | q
    ·have hk:=qba6 q
     exact ⟨by rw [deW,if_pos hk];exact q,by omega⟩
    ·have hk:=qbdt q
     exact ⟨by rw [deW,if_neg (by omega),if_pos hk];exact q,by omega⟩
theorem qcew {n:N} (h1:sz n≤1000000) (h2:¬ depR n > 100):lowW n = true:=by rw [q6p h1,decide_eq_true_eq];omega
theorem q6n (s:List UInt8):rest (newK (lexV s).1)≤s.length + 1:=by
 have h3:=ql0 (lexV s).1
 have h5:=(qqm s).2
 have h4:rest (newK (lexV s).1) = (qem (lexV s).1).length:=rfl
 omega
set_option maxRecDepth 4000

theorem qbgy (a b:List T):twT (a ++ b) = twT a + twT b:=by
 induction a with
 | nil=>simp [twT]
 | cons t r ih=>rw [List.cons_append,twT,twT,ih];omega
theorem qbpl {s:List UInt8}:∀ (f k:Nat),twT (lexF f s k).1≤s.length - k
 | 0,k=>Nat.zero_le _
 | f + 1, k => by
   rw [lexF]
   by_cases h1:k < s.length
   ·rw [if_pos h1]
    by_cases h2:(qcj (s.drop k)).2 = 0
    ·rw [if_pos h2]
     have hp:=qr4 (l:=s.drop k) (by intro e;have:=congrArg List.length e;simp at this;omega) h2
     have hle:=qwe (Nat.le_of_lt h1)
     have ih:=qbpl (s:=s) f (lexK s k)
     have hN:lexN s k≤lexK s k:=by unfold lexK;omega
     unfold lexN at hN
     unfold appR
     split
     ·rw [qbgy,twT,twT]
      simp only [lexT]
      omega
     ·omega
    ·rw [if_neg h2];exact Nat.zero_le _
   ·rw [if_neg h1];exact Nat.zero_le _
theorem q4q:∀ l:List T,twT (qem l)≤twT l
 | []=>Nat.le_refl _
 | t :: r => by
   rw [qem]
   split
   ·exact Nat.zero_le _
   ·rw [twT,twT];have:=q4q r;omega
theorem qcej (s:List UInt8):wl (newK (lexV s).1)≤s.length:=by
 have h1:=q4q (lexV s).1
 have e:wl (newK (lexV s).1) = twT (qem (lexV s).1):=by unfold wl newK;rfl
 have h2:twT (lexV s).1≤s.length:=by
  by_cases h:1048576 < (s.length:Int)
  ·rw [qqg h];exact Nat.zero_le _
  ·have hll:twT (lexG s (qck s)).1≤s.length:=by have:=qbpl (s:=s) (s.length - qck s) (qck s);unfold lexG;omega
   by_cases he:(lexG s (qck s)).2.2 = 0
   ·rw [qrz h he,qbgy,twT,twT];simp only [List.length_nil];omega
   ·rw [qqc h he];exact Nat.zero_le _
 omega
theorem qbpc (s:List UInt8):tw (qmu s).1≤s.length∧sz (qmu s).1≤2 * s.length + 3:=by
 have h1:=qcej s
 have h2:=qcjt (newK (lexV s).1)
 have h3:=qxm (newK (lexV s).1)
 have h4:=q6n s
 have h0:sz N0 = 1:=rfl
 have h5:tw N0 = 0:=tw_0
 unfold qmu q3o
 split
 ·unfold qyz
  split
  ·split
   ·simp only;omega
   ·simp only;omega
  ·simp only;omega
 ·simp only;omega
theorem qzi {s:List UInt8} (hs:s.length≤400000) (h:(qmu s).2.2 = 0):qij (qmu s).1 = true∧(qmu s).1.kind = 37:=by
 unfold qmu q3o at h ⊢
 split at h
 ·rename_i he
  rw [if_pos he]
  have hn:NoEnd (newK (lexV s).1):=fun t ht=>qro ht
  have hok:=qb5i s
  have e0:(newK (lexV s).1).err = 0:=rfl
  have hsz:=qxm (newK (lexV s).1)
  have hr:=q6n s
  generalize newK (lexV s).1 = c at *
  unfold qyz at h ⊢
  split at h
  ·rename_i hd
   rw [if_pos hd]
   split at h
   ·exact absurd h (by simp)
   ·rename_i hdp
    rw [if_neg hdp]
    have ho:(rowS qcr qd7 false c []).2.2.2 = true:=by
     cases hq:(rowS qcr qd7 false c []).2.2.2 with
     | true=>rfl
     | false=>exact absurd (qb00 hd) ((qbhb hn e0).2.2 hq)
    obtain ⟨l,e,hl⟩:=qn3 (P:=deW) goes_decl monP (fun c hc h=>(qbqg hc h).1) _ false c [] hok ho
    rw [List.nil_append] at e
    have hlw:=qcew (n:=(qk9 c).2.getD N0) (by omega) hdp
    have e':(rowS qcr qd7 false c []).2.2.1 = l:=e
    refine ⟨?_,rfl⟩
    show qij ((qk9 c).2.getD N0) = true
    have hk:((qk9 c).2.getD N0).kind = 37:=rfl
    rw [qij,if_pos hk,hlw]
    unfold qk9
    simp only [Option.getD_some,quk,qmt,N.text,N.num,N.kids,e',hl]
    rfl
  ·rename_i hd;exact absurd h hd
 ·rename_i he;exact absurd h he
theorem q0q {n:N} {p e:AV} (h:(AV.tup [enc n,p,e]).wf):(enc n).wf:=by
 simp only [AV.wf,AV.wfs] at h
 exact h.1
section
variable {s:List UInt8} {n:N} {p:Int} (hs:s.length≤3000) (hq:qmu s = (n,p,0)) (hw:(enc n).wf)
include hs hq
theorem q97:qij n = true∧n.kind = 37∧tw n≤3000∧sz n≤6003∧outG n = ptG n:=by
 have h1:=qzi (s:=s) (by omega) (by rw [hq])
 have h2:=qbpc s
 rw [hq] at h1 h2
 simp only at h1 h2
 exact ⟨h1.1,h1.2,by omega,by omega,by rw [outG,orE,decide_eq_true h1.2,h1.1];rfl⟩
include hw
theorem qcet:qx Tryz.prog 19 [enc n] (.str (outG n)):=by
 obtain ⟨h1,h2,h3,h4,h5⟩:=q97 hs hq
 have hl:=ulG (n:=n) trivial hw (qr8 h2 h1).2.2
 rw [uz,← h5] at hl
 exact qhx (by omega) (by unfold Big;omega)
theorem qq9:(outG n).length≤400000∧∃ m,qmu (outG n) = (m,0,0)∧NS m n∧sz m≤6003:=by
 obtain ⟨h1,h2,h3,h4,h5⟩:=q97 hs hq
 obtain ⟨d1,d2,d3⟩:=qr8 h2 h1
 have hl:=ulG (n:=n) trivial hw d3
 rw [uz] at hl
 rw [h5]
 have hdp:dp n≤100:=by
  rw [q6p (by omega),decide_eq_true_eq,q2k _ (by omega)] at d1
  omega
 obtain ⟨m,e1,e2,e3⟩:=qbtg (rd:=qk9) (n:=n) (s:=ptG n) (by omega) (wdG n.kids fun x hx=>⟨d3 x hx,qcf hw hx⟩) (by omega) hdp fun c h hn=>qb8t h2 d2 (fun x hx=>⟨d3 x hx,qcf hw hx⟩) h (by omega)
 exact ⟨by omega,m,e1,e2,by have:=(qcj0 e2).2;omega⟩
theorem qce5:qx Tryz.prog 28 [.str (outG n)] (.tup [enc (qmu (outG n)).1,.int .i64 0,.int .i64 0]):=by
 obtain ⟨_,m,e1,_,_⟩:=qq9 hs hq hw
 have:=qlp (outG n)
 rw [e1] at this ⊢
 exact this
theorem qce9:qx Tryz.prog 29 [enc n,enc (qmu (outG n)).1] (.bool true):=by
 obtain ⟨_,m,e1,e2,_⟩:=qq9 hs hq hw
 rw [e1]
 exact qum (q87 _ _) (by rw [qbso e2.symm])
theorem qcf8 (hm:(enc (qmu (outG n)).1).wf):qx Tryz.prog 19 [enc (qmu (outG n)).1] (.str (outG n)):=by
 obtain ⟨h1,h2,h3,h4,h5⟩:=q97 hs hq
 obtain ⟨k1,m,e1,e2,e3⟩:=qq9 hs hq hw
 have w1:=qbpc (outG n)
 have w2:=qzi (s:=outG n) k1 (by rw [e1])
 rw [e1] at hm w1 w2 ⊢
 simp only at hm w1 w2
 have e:outG m = outG n:=by rw [h5,outG,orE,decide_eq_true w2.2,w2.1];exact qcg3 e2
 have:=qhx (n:=m) (by omega) (by rw [e];unfold Big;omega)
 rw [e] at this
 exact this
end
theorem qcgz (s:List UInt8):AV.bds 0 [.str s] = true:=rfl
set_option maxHeartbeats 4000000 in
theorem qtz (s:List UInt8):qx Tryz.prog 5 [.str s] (.bool true):=by
 refine qn c0a (by simp) (qcgz s) rfl fun hw=>?_
 by_cases hs:s.length≤3000
 ·have hsi:decide ((3000:Int) < s.length) = false:=decide_eq_false (by omega)
  have hR:=qlp s
  generalize hq:qmu s = q at hR
  obtain ⟨n,p,e⟩:=q
  have hR:qx Tryz.prog 28 [.str s] (.tup [enc n,.int .i64 p,.int .i64 e]):=hR
  by_cases he:e = 0
  ·subst he
   have h1:=qcet hs hq
   have h2:=qce5 hs hq
   have h3:=qce9 hs hq
   have h4:=qcf8 hs hq
   repeat' (first | refine vs_ ?_ | ((first | refine vr_ ?_ | fail)<;>(try simp only [hsi,go_sem,↓reduceIte])) | ((first | (refine cs_ ?_ ?_<;>intro hc) | refine cj_ ?_ | fail | refine qa hR fun hwf=>?_ | refine qa (h1 (q0q hwf)) fun _=>?_ | refine qa (h2 (q0q hwf)) fun hwg=>?_ | refine qa (h4 (q0q hwf) (q0q hwg)) fun _=>?_ | refine qa (h3 (q0q hwf)) fun _=>?_ | refine qa q34 fun _=>?_)<;>(try refine ev_ ?_)) | with_reducible exact ti_)
   all_goals try (exfalso;omega)
  ·have he':decide (e = 0) = false:=decide_eq_false he
   repeat' (first | refine vs_ ?_ | ((first | refine vr_ ?_ | fail)<;>(try simp only [hsi,he',go_sem,↓reduceIte])) | ((first | (refine cs_ ?_ ?_<;>intro hc) | refine cj_ ?_ | fail | refine qa hR fun _=>?_ | refine qa q34 fun _=>?_)<;>(try refine ev_ ?_)) | with_reducible exact ti_)
   all_goals try (exfalso;omega)
 ·have hsi:decide ((3000:Int) < s.length) = true:=decide_eq_true (by omega)
  repeat' (first | refine vs_ ?_ | ((first | refine vr_ ?_ | fail)<;>(try simp only [hsi,go_sem,↓reduceIte])) | ((first | (refine cs_ ?_ ?_<;>intro hc) | refine cj_ ?_ | fail | refine qa q34 fun _=>?_)<;>(try refine ev_ ?_)) | with_reducible exact ti_)
  all_goals try (exfalso;omega)
end Go.Proofs.YtlmcofjcpadmiaaGreat
