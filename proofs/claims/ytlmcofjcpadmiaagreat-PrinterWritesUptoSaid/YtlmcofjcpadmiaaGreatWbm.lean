/- A text of this proof. -/
import Derived.Test.YtlmcofjcpadmiaaGreatWbk
import Derived.Test.YtlmcofjcpadmiaaGreatWbl
set_option linter.unusedVariables false
set_option linter.unusedSimpArgs false

/- trees that are written: the reference's functions, the law of what is written -/
set_option maxRecDepth 4000
namespace Go.Proofs.YtlmcofjcpadmiaaGreat
open Go Go.RowKit Go.V

theorem qg9 {n:N} (h:sz n≤1000000):lowW n = decide (depR n≤100):=by
 rw [lowW,qx0 n 1 false (by omega) (by omega),q72 n (by omega)]
 congr 1;simp only [eq_iff_iff];omega
theorem qhh {n:N} (h:sz n≤1000000):qmq n = qcz n:=by
 rw [qmq,qcz,qg9 h,qe7]
 split
 ·cases n.kids.all deW<;>cases decide (n.text = [])<;>cases decide (n.num = 0)<;>cases decide (depR n≤100)<;>rfl
 ·rw [Bool.and_comm]
section
variable {n:N} (hs:sz n≤900000)
include hs
theorem qpa (hl:(outT n).length + 4≤Big):qh Tryz.prog 10 [enc n] (.str (outT n)):=by
 refine qe c0di (by simp) (by simp only [go_sem]) rfl fun hw=>?_
 have h1:=qpy n
 rw [Bool.and_comm,← qg9 (by omega)] at h1
 cases hb:lowW n && tyW n with
 | true =>
   rw [outT,orE,hb,if_pos rfl] at hl ⊢
   rw [hb] at h1
   rw [Bool.and_eq_true] at hb
   have h2:=qdh n hb.2 (by omega) (by omega)
   unfold RT at h2
   repeat' (first | refine vs_ ?_ | ((first | refine vr_ ?_ | refine qa h1 fun _=>?_ | refine qa h2 fun _=>?_ | (refine cs_ ?_ ?_<;>intro hc) | refine cj_ ?_ | fail)<;>(try refine ev_ ?_)) | with_reducible exact ti_)
 | false =>
   rw [outT,orE,hb,if_neg Bool.false_ne_true]
   rw [hb] at h1
   repeat' (first | refine vs_ ?_ | ((first | refine vr_ ?_ | refine qa h1 fun _=>?_ | (refine cs_ ?_ ?_<;>intro hc) | refine cj_ ?_ | fail)<;>(try refine ev_ ?_)) | with_reducible exact ti_)
theorem qtd (hl:(outP n).length + 4≤Big):qh Tryz.prog 14 [enc n] (.str (outP n)):=by
 refine qe c0dj (by simp) (by simp only [go_sem]) rfl fun hw=>?_
 have h1:=qrq n
 rw [Bool.and_comm,← qg9 (by omega)] at h1
 cases hb:lowW n && paW n with
 | true =>
   rw [outP,orE,hb,if_pos rfl] at hl ⊢
   rw [hb] at h1
   rw [Bool.and_eq_true] at hb
   have h2:=qog n hb.2 (by omega) (by omega)
   unfold RP at h2
   repeat' (first | refine vs_ ?_ | ((first | refine vr_ ?_ | refine qa h1 fun _=>?_ | refine qa h2 fun _=>?_ | (refine cs_ ?_ ?_<;>intro hc) | refine cj_ ?_ | fail)<;>(try refine ev_ ?_)) | with_reducible exact ti_)
 | false =>
   rw [outP,orE,hb,if_neg Bool.false_ne_true]
   rw [hb] at h1
   repeat' (first | refine vs_ ?_ | ((first | refine vr_ ?_ | refine qa h1 fun _=>?_ | (refine cs_ ?_ ?_<;>intro hc) | refine cj_ ?_ | fail)<;>(try refine ev_ ?_)) | with_reducible exact ti_)
theorem qsc (hl:(outE n).length + 4≤Big):qh Tryz.prog 16 [enc n] (.str (outE n)):=by
 refine qe c0dk (by simp) (by simp only [go_sem]) rfl fun hw=>?_
 have h1:=qqy n
 rw [Bool.and_comm,← qg9 (by omega)] at h1
 cases hb:lowW n && exW n with
 | true =>
   rw [outE,orE,hb,if_pos rfl] at hl ⊢
   rw [hb] at h1
   rw [Bool.and_eq_true] at hb
   have h2:=(qfo n (by omega)).1 hb.2 (by omega)
   unfold RE at h2
   repeat' (first | refine vs_ ?_ | ((first | refine vr_ ?_ | refine qa h1 fun _=>?_ | refine qa h2 fun _=>?_ | (refine cs_ ?_ ?_<;>intro hc) | refine cj_ ?_ | fail)<;>(try refine ev_ ?_)) | with_reducible exact ti_)
 | false =>
   rw [outE,orE,hb,if_neg Bool.false_ne_true]
   rw [hb] at h1
   repeat' (first | refine vs_ ?_ | ((first | refine vr_ ?_ | refine qa h1 fun _=>?_ | (refine cs_ ?_ ?_<;>intro hc) | refine cj_ ?_ | fail)<;>(try refine ev_ ?_)) | with_reducible exact ti_)
theorem qoz (hl:(outQ n).length + 4≤Big):qh Tryz.prog 12 [enc n] (.str (outQ n)):=by
 refine qe c0dl (by simp) (by simp only [go_sem]) rfl fun hw=>?_
 have h1:=qgg (sigN n)
 have hz:sz (sigN n) = sz n + 1:=by rw [qfa];simp only [sigN,N.kids,szs]
 rw [qhh (by omega)] at h1
 have h1:qh Tryz.prog 37 [.agg [.int .i64 32,.int .i64 0,.int .i64 0,.str [120],.sl 5 [enc n]]] (.bool (qcz (sigN n))):=h1
 cases hb:qcz (sigN n) with
 | true =>
   rw [outQ,orE,hb,if_pos rfl] at hl ⊢
   rw [hb] at h1
   have h2:=qom (qq7 hb).2 (by omega) hl
   repeat' (first | refine vs_ ?_ | ((first | refine vr_ ?_ | refine qa h1 fun _=>?_ | refine qa h2 fun _=>?_ | (refine cs_ ?_ ?_<;>intro hc) | refine cj_ ?_ | fail)<;>(try refine ev_ ?_)) | with_reducible exact ti_)
 | false =>
   rw [outQ,orE,hb,if_neg Bool.false_ne_true]
   rw [hb] at h1
   repeat' (first | refine vs_ ?_ | ((first | refine vr_ ?_ | refine qa h1 fun _=>?_ | (refine cs_ ?_ ?_<;>intro hc) | refine cj_ ?_ | fail)<;>(try refine ev_ ?_)) | with_reducible exact ti_)
theorem qpi (hl:(outD n).length + 4≤Big):qh Tryz.prog 18 [enc n] (.str (outD n)):=by
 refine qe c0dm (by simp) (by simp only [go_sem]) rfl fun hw=>?_
 have h1:=qgg n
 rw [qhh (by omega)] at h1
 cases hb:qcz n with
 | true =>
   rw [hb] at h1
   by_cases h0:n.kind = 37
   ·have e:decide (n.kind = 37) = true:=decide_eq_true h0
    rw [outD,e,Bool.not_true,Bool.false_and,orE,if_neg Bool.false_ne_true]
    repeat' (first | refine vs_ ?_ | ((first | refine vr_ ?_ | fail)<;>(try simp only [e,go_sem,↓reduceIte])) | ((first | (refine cs_ ?_ ?_<;>intro hc) | refine cj_ ?_ | fail | refine qa h1 fun _=>?_)<;>(try refine ev_ ?_)) | with_reducible exact ti_)
    all_goals try (exfalso;omega)
   ·have e:decide (n.kind = 37) = false:=decide_eq_false h0
    rw [outD,e,hb,Bool.not_false,Bool.true_and,orE,if_pos rfl] at hl ⊢
    have h2:=qn3 (qnd h0 hb).2 (by omega) hl
    unfold RD at h2
    repeat' (first | refine vs_ ?_ | ((first | refine vr_ ?_ | fail)<;>(try simp only [e,go_sem,↓reduceIte])) | ((first | (refine cs_ ?_ ?_<;>intro hc) | refine cj_ ?_ | fail | refine qa h1 fun _=>?_ | refine qa h2 fun _=>?_)<;>(try refine ev_ ?_)) | with_reducible exact ti_)
    all_goals try (exfalso;omega)
 | false =>
   rw [outD,hb,Bool.and_false,orE,if_neg Bool.false_ne_true]
   rw [hb] at h1
   repeat' (first | refine vs_ ?_ | ((first | refine vr_ ?_ | refine qa h1 fun _=>?_ | (refine cs_ ?_ ?_<;>intro hc) | refine cj_ ?_ | fail)<;>(try refine ev_ ?_)) | with_reducible exact ti_)
   all_goals try (exfalso;omega)
set_option maxHeartbeats 1000000 in
theorem qjx (hl:(outG n).length + 4≤Big):qh Tryz.prog 20 [enc n] (.str (outG n)):=by
 refine qe c0dn (by simp) (by simp only [go_sem]) rfl fun hw=>?_
 have hM:=qca
 have hkl:=qda n
 have h1:=qgg n
 rw [qhh (by omega)] at h1
 cases hb:qcz n with
 | true =>
   rw [hb] at h1
   by_cases h0:n.kind = 37
   ·have e:decide (n.kind = 37) = true:=decide_eq_true h0
    rw [outG,e,hb,Bool.true_and,orE,if_pos rfl] at hl ⊢
    obtain ⟨d1,d2,d3⟩:=qib h0 hb
    have eG:ptG n = (n.kids.map fun x=>ptD x ++ [59,10]).flatten:=rfl
    rw [eG] at hl ⊢
    repeat' (first | refine vs_ ?_ | ((first | refine vr_ ?_ | fail)<;>(try simp only [e,go_sem,↓reduceIte])) | ((first | (refine cs_ ?_ ?_<;>intro hc) | refine cj_ ?_ | simp (disch:=omega) only [qb,qf] | refine qa h1 fun _=>?_)<;>(try refine ev_ ?_)) | with_reducible exact ti_)
    all_goals try (exfalso;omega)
    refine qt (S:=Nat) (fun i=>i≤n.kids.length) (fun i=>(⟨[(1,.ptr 0 0),(2,.str []),(3,.str ((n.kids.take i).map fun x=>ptD x ++ [59,10]).flatten),(4,.int .i64 i)],[]⟩,[.blk [.int .i64 n.kind,.int .i64 n.pos,.int .i64 n.num,.str n.text,.sl 5 (encs n.kids)]])) (fun i=>n.kids.length - i) ?_ fun i hi=>?_
    ·refine qs 0 [0] (Nat.zero_le _) rfl (by simp) ?_ ?_ ?_<;>(try refine ev_ ?_)<;>(try with_reducible exact ti_)<;>(try simp (disch:=omega) only [qf,and_true,true_and])
     all_goals rfl
    ·by_cases hlt:i < n.kids.length
     ·have hm:=qg hlt
      have hfl:=qjv (f:=fun x=>ptD x ++ [59,10]) (l:=n.kids) (i + 1)
      have hst:=qc4 (f:=fun x=>ptD x ++ [59,10]) hlt
      rw [hst] at hfl
      simp only [List.length_append,List.length_cons,List.length_nil] at hfl
      have ha:=qn3 (d3 _ hm) (by have:=qbm hm;omega) (by omega)
      unfold RD at ha
      have gi:(encs n.kids).getD i .junk = enc (n.kids.getD i N0):=qb hlt
      have hdl:decide ((i:Int) < (n.kids.length:Int)) = true:=decide_eq_true (by omega)
      repeat' (first | refine vs_ ?_ | ((first | refine vr_ ?_ | fail)<;>(try simp (disch:=first | omega | (simp only [List.length_set,List.length_append,List.length_cons,List.length_nil];done) | (simp only [List.length_set,List.length_append,List.length_cons,List.length_nil];omega)) only [qf,gi,hdl,List.length_append,go_sem,↓reduceIte])) | ((first | (refine cs_ ?_ ?_<;>intro hc) | refine cj_ ?_ | simp (disch:=omega) only [qb,qf] | refine qa ha fun _=>?_)<;>(try refine ev_ ?_)) | with_reducible exact ti_)
      all_goals try (exfalso;omega)
      refine qs (i + 1) [0] ⟨by omega,by omega⟩ rfl (by simp) ?_ ?_ ?_<;>(try refine ev_ ?_)<;>(try with_reducible exact ti_)<;>(try simp (disch:=omega) only [qf,and_true,true_and])
      rw [qb8 (by omega) (by omega),hst]
      exact ⟨rfl,rfl⟩
     ·have hie:i = n.kids.length:=by omega
      subst hie
      repeat' (first | refine vs_ ?_ | ((first | refine vr_ ?_ | fail)<;>(try simp only [List.take_length,go_sem,↓reduceIte])) | ((first | (refine cs_ ?_ ?_<;>intro hc) | refine cj_ ?_ | simp (disch:=omega) only [qb,qf])<;>(try refine ev_ ?_)) | with_reducible exact ti_)
      all_goals try (exfalso;omega)
      all_goals rfl
   ·have e:decide (n.kind = 37) = false:=decide_eq_false h0
    rw [outG,e,Bool.false_and,orE,if_neg Bool.false_ne_true]
    repeat' (first | refine vs_ ?_ | ((first | refine vr_ ?_ | fail)<;>(try simp only [e,go_sem,↓reduceIte])) | ((first | (refine cs_ ?_ ?_<;>intro hc) | refine cj_ ?_ | simp (disch:=omega) only [qb,qf] | refine qa h1 fun _=>?_)<;>(try refine ev_ ?_)) | with_reducible exact ti_)
    all_goals try (exfalso;omega)
 | false =>
   rw [outG,hb,Bool.and_false,orE,if_neg Bool.false_ne_true]
   rw [hb] at h1
   repeat' (first | refine vs_ ?_ | ((first | refine vr_ ?_ | refine qa h1 fun _=>?_ | (refine cs_ ?_ ?_<;>intro hc) | refine cj_ ?_ | simp (disch:=omega) only [qb,qf])<;>(try refine ev_ ?_)) | with_reducible exact ti_)
   all_goals try (exfalso;omega)
end
section
variable {n:N} {B:Nat} (hb:TxB B n) (hB:B≤1048576) (hs:sz n≤7000)
include hb hB hs
theorem l_T:(outT n).length + 4≤Big:=bigZ hB hs (qfz (szD8 n B) fun h=>lenT rfl n hb (by rw [Bool.and_eq_true] at h;exact h.2))
theorem l_P (hw:(enc n).wf):(outP n).length + 4≤Big:=bigZ hB hs (qfz (szD8 n B) fun h=>lenP rfl n hb (by rw [Bool.and_eq_true] at h;exact h.2) hw)
theorem l_E (hw:(enc n).wf):(outE n).length + 4≤Big:=bigZ hB hs (qfz (szD8 n B) fun h=>(lenE rfl n hb hw).1 (by rw [Bool.and_eq_true] at h;exact h.2))
theorem l_Q:(outQ n).length + 4≤Big:=bigZ hB hs (qfz (szD8 n B) fun h=>lenQ rfl hb (qq7 h).2)
theorem l_D (hw:(enc n).wf):(outD n).length + 4≤Big:=bigZ hB hs (qfz (szD8 n B) fun h=>by
 rw [Bool.and_eq_true,Bool.not_eq_true',decide_eq_false_iff_not] at h
 exact lenD rfl hb hw (qnd h.1 h.2).2)
theorem l_G (hw:(enc n).wf):(outG n).length + 4≤Big:=bigZ hB hs (qfz (szD8 n B) fun h=>by
 rw [Bool.and_eq_true,decide_eq_true_eq] at h
 exact lenG rfl hb hw (qib h.1 h.2).2.2)
end
theorem qbk1 (n:N):AV.bds 0 [enc n] = true:=by simp only [AV.bds,qmi];rfl
set_option maxHeartbeats 4000000 in
theorem qf1 (n:N) (hx:fewW n = true->TxB 1048576 n):qh Tryz.prog 3 [enc n] (.bool true):=by
 refine qe c0do (by simp) (qbk1 n) rfl fun hw=>?_
 have hwf:(enc n).wf:=hw.1
 cases hf:fewW n with
 | false =>
   have h0:=q59 hf
   repeat' (first | refine vs_ ?_ | ((first | refine vr_ ?_ | refine qa h0 fun _=>?_ | refine qa qkr fun _=>?_ | refine qc h0 ?_ | refine qc qkr ?_ | (refine cs_ ?_ ?_<;>intro hc) | refine cj_ ?_ | fail)<;>(try refine ev_ ?_)) | with_reducible exact ti_)
 | true =>
 have h0:=qwe hf
 have hb:=hx hf
 have hs:=qbi4 hf
 have lT:=l_T hb (Nat.le_refl _) (by omega)
 have lP:=l_P hb (Nat.le_refl _) (by omega) hwf
 have lE:=l_E hb (Nat.le_refl _) (by omega) hwf
 have lQ:=l_Q hb (Nat.le_refl _) (by omega)
 have lD:=l_D hb (Nat.le_refl _) (by omega) hwf
 have lG:=l_G hb (Nat.le_refl _) (by omega) hwf
 have pT:=qgv (n:=n) (by omega) lT
 have pP:=qhi (n:=n) (by omega) lP
 have pE:=qe5 (n:=n) (by omega) lE
 have pQ:=qgu (n:=n) (by omega) lQ
 have pD:=qgl (n:=n) (by omega) lD
 have pG:=qec (n:=n) (by omega) lG
 have rT:=qpa (n:=n) (by omega) lT
 have rP:=qtd (n:=n) (by omega) lP
 have rE:=qsc (n:=n) (by omega) lE
 have rQ:=qoz (n:=n) (by omega) lQ
 have rD:=qpi (n:=n) (by omega) lD
 have rG:=qjx (n:=n) (by omega) lG
 repeat' (first | refine vs_ ?_ | ((first | refine vr_ ?_ | refine qa h0 fun _=>?_ | refine qa pT fun _=>?_ | refine qa pP fun _=>?_ | refine qa pE fun _=>?_ | refine qa pQ fun _=>?_ | refine qa pD fun _=>?_ | refine qa pG fun _=>?_ | refine qa rT fun _=>?_ | refine qa rP fun _=>?_ | refine qa rE fun _=>?_ | refine qa rQ fun _=>?_ | refine qa rD fun _=>?_ | refine qa rG fun _=>?_ | refine qa qkr fun _=>?_ | refine qc h0 ?_ | refine qc pT ?_ | refine qc pP ?_ | refine qc pE ?_ | refine qc pQ ?_ | refine qc pD ?_ | refine qc pG ?_ | refine qc rT ?_ | refine qc rP ?_ | refine qc rE ?_ | refine qc rQ ?_ | refine qc rD ?_ | refine qc rG ?_ | refine qc qkr ?_ | (refine cs_ ?_ ?_<;>intro hc) | refine cj_ ?_ | fail)<;>(try refine ev_ ?_)) | with_reducible exact ti_)
 all_goals try simp_all
end Go.Proofs.YtlmcofjcpadmiaaGreat
