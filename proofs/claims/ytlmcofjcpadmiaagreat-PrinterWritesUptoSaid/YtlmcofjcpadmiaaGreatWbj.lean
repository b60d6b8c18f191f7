/- Texts of this proof, joined. -/
import Derived.Test.YtlmcofjcpadmiaaGreatWbi
import Derived.Test.YtlmcofjcpadmiaaGreatWbd
set_option linter.unusedVariables false
set_option linter.unusedSimpArgs false

/- trees that are written: the reference: expressions, rows -/
set_option maxRecDepth 4000
namespace Go.Proofs.YtlmcofjcpadmiaaGreat
open Go Go.RowKit Go.V

def RE (n:N):Prop:=qh Tryz.prog 42 [enc n] (.str (ptE n))
def RD (n:N):Prop:=qh Tryz.prog 43 [enc n] (.str (ptD n))
def smN (n:N):Bool:=decide (n.kind = 21) || decide (n.kind = 22) || decide (n.kind = 23)
theorem qje (n:N):qh Tryz.prog 81 [enc n] (.bool (smN n)):=by
 refine qe c0dr (by simp) (by simp only [go_sem]) rfl fun hw=>?_
 unfold smN
 repeat' (first | refine vs_ ?_ | ((first | refine vr_ ?_ | (refine cs_ ?_ ?_<;>intro hc) | refine cj_ ?_ | fail)<;>(try refine ev_ ?_)) | with_reducible exact ti_)
 all_goals simp_all
theorem qq4 {n:N} (h:exW n = true):smN n = qn n:=by
 rcases qg8 h with ⟨h0,h1,h2,h3⟩ | ⟨h0,h1,h2,h3⟩ | ⟨h0,h1,h2,h3⟩ | ⟨h0,h1,h2,h3,h4,h5⟩ | ⟨h0,h1,h2,h3,h4⟩ | ⟨h0,h1,h2,h3,h4,h5,h6⟩ | ⟨h0,h1,h2,h3,h4,h5,h6⟩ | ⟨h0,h1,h2,h3,h4,h5,h6⟩
 ·rw [qn,h2,smN,h0];rfl
 ·rw [qn,h2,smN,h0];rfl
 ·rw [qn,h2,smN,h0];rfl
 ·rw [qn,h2,smN,h0];rfl
 ·rw [qn,h2,smN,h0];rfl
 ·rw [smN,h0,qn,h2];symm;refine decide_eq_false ?_;simp
 ·rw [qn,h2,smN,h0];rfl
 ·rw [qn,h2,smN,h0];rfl
theorem qmp {n:N} {b:Bool} (h:RE n) (hl:(ptE n).length + 2≤Big):qh Tryz.prog 80 [enc n,.bool b] (.str (cloW b (ptE n))):=by
 refine qe c0ds (by simp) (by simp only [go_sem]) rfl fun hw=>?_
 have hM:=qca
 unfold RE at h
 cases b with
 | true =>
   repeat' (first | refine vs_ ?_ | ((first | refine vr_ ?_ | refine qa h fun _=>?_ | (refine cs_ ?_ ?_<;>intro hc) | refine cj_ ?_ | simp (disch:=omega) only [qb,qf])<;>(try refine ev_ ?_)) | with_reducible exact ti_)
   all_goals rfl
 | false =>
   repeat' (first | refine vs_ ?_ | ((first | refine vr_ ?_ | fail)<;>(try simp only [List.length_append,go_sem,↓reduceIte])) | ((first | (refine cs_ ?_ ?_<;>intro hc) | refine cj_ ?_ | simp (disch:=omega) only [qb,qf] | refine qa h fun _=>?_)<;>(try refine ev_ ?_)) | with_reducible exact ti_)
   all_goals rfl
set_option maxHeartbeats 1000000 in
theorem qnl {l:List N} (h:∀ x∈l,qh Tryz.prog 43 [enc x] (.str (ptB x))) (hn:l.length≤1000000) (hl:(brW (Lib.join (l.map ptB) smW)).length + 4≤Big):qh Tryz.prog 82 [.sl 5 (encs l)] (.str (brW (Lib.join (l.map ptB) smW))):=by
 refine qe c0dt (by simp) (by simp only [go_sem]) rfl fun hw=>?_
 have hM:=qca
 by_cases h0:l = []
 ·subst h0
  repeat' (first | refine vs_ ?_ | ((first | refine vr_ ?_ | (refine cs_ ?_ ?_<;>intro hc) | refine cj_ ?_ | simp (disch:=omega) only [qb,qf])<;>(try refine ev_ ?_)) | with_reducible exact ti_)
  all_goals rfl
 have hpos:0 < l.length:=List.length_pos_iff.2 h0
 have hb:brW (Lib.join (l.map ptB) smW) = [123,32] ++ (Lib.join (l.map ptB) smW ++ [32,125]):=by rw [brW,if_neg (qra qbj8 l h0)]
 rw [hb] at hl ⊢
 simp only [List.length_append,List.length_cons,List.length_nil] at hl
 have hd0:decide ((l.length:Int) = 0) = false:=decide_eq_false (by omega)
 repeat' (first | refine vs_ ?_ | ((first | refine vr_ ?_ | fail)<;>(try simp only [hd0,go_sem,↓reduceIte])) | ((first | (refine cs_ ?_ ?_<;>intro hc) | refine cj_ ?_ | simp (disch:=omega) only [qb,qf])<;>(try refine ev_ ?_)) | with_reducible exact ti_)
 all_goals try (exfalso;omega)
 refine qt (S:=Nat) (fun i=>i≤l.length) (fun i=>(⟨[(0,.sl 5 (encs l)),(2,.str []),(3,.str (Lib.join ((l.take i).map ptB) smW)),(4,.int .i64 i)],[]⟩,[])) (fun i=>l.length - i) ?_ fun i hi=>?_
 ·refine qs 0 [] (Nat.zero_le _) rfl (by simp) ?_ ?_ ?_<;>(try refine ev_ ?_)<;>(try with_reducible exact ti_)<;>(try simp (disch:=omega) only [qf,and_true,true_and])
  rfl
 ·by_cases hlt:i < l.length
  ·have hm:=qg hlt
   have ha:=h _ hm
   have hjl:=qfx (f:=ptB) (m:=smW) (l:=l) (i + 1)
   have hst:=qev (f:=ptB) (m:=smW) hlt
   have gi:(encs l).getD i .junk = enc (l.getD i N0):=qb hlt
   have hdl:decide ((i:Int) < (l.length:Int)) = true:=decide_eq_true (by omega)
   have ecm:smW.length = 2:=rfl
   rw [hst] at hjl
   by_cases hi0:i = 0
   ·subst hi0
    rw [if_pos rfl] at hjl hst
    rw [List.take_zero,List.map_nil,show Lib.join [] smW = [] from rfl]
    repeat' (first | refine vs_ ?_ | ((first | refine vr_ ?_ | fail)<;>(try simp (disch:=first | omega | (simp only [List.length_set,List.length_append,List.length_cons,List.length_nil];done) | (simp only [List.length_set,List.length_append,List.length_cons,List.length_nil];omega)) only [qf,gi,hdl,List.length_append,go_sem,↓reduceIte])) | ((first | (refine cs_ ?_ ?_<;>intro hc) | refine cj_ ?_ | simp (disch:=omega) only [qb,qf] | refine qa ha fun _=>?_)<;>(try refine ev_ ?_)) | with_reducible exact ti_)
    all_goals try (exfalso;omega)
    refine qs 1 [] ⟨by omega,by omega⟩ rfl (by simp) ?_ ?_ ?_<;>(try refine ev_ ?_)<;>(try with_reducible exact ti_)<;>(try simp (disch:=omega) only [qf,and_true,true_and])
    all_goals (rw [show l.take 1 = l.take (0 + 1) from rfl,hst];exact ⟨rfl,rfl⟩)
   ·have hdi:decide ((0:Int) < (i:Int)) = true:=decide_eq_true (by omega)
    rw [if_neg hi0] at hjl hst
    simp only [List.length_append] at hjl
    repeat' (first | refine vs_ ?_ | ((first | refine vr_ ?_ | fail)<;>(try simp (disch:=first | omega | (simp only [List.length_set,List.length_append,List.length_cons,List.length_nil];done) | (simp only [List.length_set,List.length_append,List.length_cons,List.length_nil];omega)) only [qf,gi,hdl,hdi,List.length_append,go_sem,↓reduceIte])) | ((first | (refine cs_ ?_ ?_<;>intro hc) | refine cj_ ?_ | simp (disch:=omega) only [qb,qf] | refine qa ha fun _=>?_)<;>(try refine ev_ ?_)) | with_reducible exact ti_)
    all_goals try (exfalso;omega)
    refine qs (i + 1) [] ⟨by omega,by omega⟩ rfl (by simp) ?_ ?_ ?_<;>(try refine ev_ ?_)<;>(try with_reducible exact ti_)<;>(try simp (disch:=omega) only [qf,and_true,true_and])
    rw [qb8 (by omega) (by omega),hst]
    refine ⟨?_,rfl⟩
    simp [smW]
  ·have hie:i = l.length:=by omega
   subst hie
   have hdl:decide ((l.length:Int) < (l.length:Int)) = false:=decide_eq_false (by omega)
   repeat' (first | refine vs_ ?_ | ((first | refine vr_ ?_ | fail)<;>(try simp only [hdl,List.take_length,List.length_append,go_sem,↓reduceIte])) | ((first | (refine cs_ ?_ ?_<;>intro hc) | refine cj_ ?_ | simp (disch:=omega) only [qb,qf])<;>(try refine ev_ ?_)) | with_reducible exact ti_)
   all_goals try (exfalso;omega)
   all_goals rfl
set_option maxRecDepth 4000

set_option maxHeartbeats 4000000 in
theorem q6y {n:N} (ht:exW n = true) (hs:sz n≤1000000) (hl:(ptE n).length + 4≤Big)
 (ihE:∀ x∈n.kids,exW x = true->(ptE x).length + 4≤Big->RE x) (ihB:∀ x∈n.kids,biW x = true∨sgW x = true->(ptB x).length + 4≤Big->qh Tryz.prog 43 [enc x] (.str (ptB x))) (ihL:∀ x∈n.kids,alW x = true->(ptL x).length + 4≤Big->RE (ekN x 1)):RE n:=by
 refine qe c0dq (by simp) (by simp only [go_sem]) rfl fun hw=>?_
 have hM:=qca
 have hkl:=qda n
 have hwr:IntKind.i64.wrap ((n.kids.length:Int) - 1) = (n.kids.length:Int) - 1:=qb8 (by omega) (by omega)
 have hE:=qrr n
 rcases qg8 ht with ⟨h0,h1,h2,h3⟩ | ⟨h0,h1,h2,h3⟩ | ⟨h0,h1,h2,h3⟩ | ⟨h0,h1,h2,h3,h4,h5⟩ | ⟨h0,h1,h2,h3,h4⟩ | ⟨h0,h1,h2,h3,h4,h5,h6⟩ | ⟨h0,h1,h2,h3,h4,h5,h6⟩ | ⟨h0,h1,h2,h3,h4,h5,h6⟩
 ·simp only [h0,Int.reduceEq,if_false,if_true] at hE
  rw [hE]
  obtain ⟨e23,e24,e25,e26,e27,e28⟩:=kd_n h0
  simp only [Int.reduceEq,decide_false,decide_true] at e23 e24 e25 e26 e27 e28
  repeat' (first | refine vs_ ?_ | ((first | refine vr_ ?_ | fail)<;>(try simp only [e23,e24,e25,e26,e27,e28,hwr,go_sem,↓reduceIte])) | ((first | (refine cs_ ?_ ?_<;>intro hc) | refine cj_ ?_ | simp (disch:=omega) only [qb,qf])<;>(try refine ev_ ?_)) | with_reducible exact ti_)
 ·simp only [h0,Int.reduceEq,if_false,if_true] at hE
  rw [hE]
  obtain ⟨e23,e24,e25,e26,e27,e28⟩:=kd_n h0
  simp only [Int.reduceEq,decide_false,decide_true] at e23 e24 e25 e26 e27 e28
  repeat' (first | refine vs_ ?_ | ((first | refine vr_ ?_ | fail)<;>(try simp only [e23,e24,e25,e26,e27,e28,hwr,go_sem,↓reduceIte])) | ((first | (refine cs_ ?_ ?_<;>intro hc) | refine cj_ ?_ | simp (disch:=omega) only [qb,qf])<;>(try refine ev_ ?_)) | with_reducible exact ti_)
 ·simp only [h0,Int.reduceEq,if_false,if_true] at hE
  rw [hE]
  obtain ⟨e23,e24,e25,e26,e27,e28⟩:=kd_n h0
  simp only [Int.reduceEq,decide_false,decide_true] at e23 e24 e25 e26 e27 e28
  repeat' (first | refine vs_ ?_ | ((first | refine vr_ ?_ | fail)<;>(try simp only [e23,e24,e25,e26,e27,e28,hwr,go_sem,↓reduceIte])) | ((first | (refine cs_ ?_ ?_<;>intro hc) | refine cj_ ?_ | simp (disch:=omega) only [qb,qf] | refine qa (qga n.num) fun _=>?_ | refine qc (qga n.num) ?_)<;>(try refine ev_ ?_)) | with_reducible exact ti_)
 ·have hkl2:n.kids.length = 2:=by rw [h2];rfl
  have m0:ekN n 0∈n.kids:=qg (by omega)
  have m1:ekN n 1∈n.kids:=qg (by omega)
  simp only [h0,Int.reduceEq,if_false,if_true,hkl2,show (0 < 2) = True by simp,show (1 < 2) = True by simp] at hE
  change ptE n = cloW (qn (ekN n 0) || decide ((ekN n 0).kind = 24)) (ptE (ekN n 0)) ++ 32 :: cloW (qn (ekN n 1)) (ptE (ekN n 1)) at hE
  rw [Bool.or_comm,← qq4 h4,← qq4 h5] at hE
  have hb0:=(qp (decide ((ekN n 0).kind = 24) || smN (ekN n 0)) (ptE (ekN n 0))).1
  have hb1:=(qp (smN (ekN n 1)) (ptE (ekN n 1))).1
  rw [hE] at hl ⊢
  simp only [List.length_append,List.length_cons,List.length_nil] at hl
  have p0:=ihE _ m0 h4 (by omega)
  have p1:=ihE _ m1 h5 (by omega)
  have g0:(encs n.kids).getD 0 .junk = enc (ekN n 0):=qb (by omega)
  have g1:(encs n.kids).getD 1 .junk = enc (ekN n 1):=qb (by omega)
  have hs0:=qje (ekN n 0)
  have hs1:=qje (ekN n 1)
  have hc1:=qmp (b:=smN (ekN n 1)) p1 (by omega)
  obtain ⟨e23,e24,e25,e26,e27,e28⟩:=kd_n h0
  simp only [Int.reduceEq,decide_false,decide_true] at e23 e24 e25 e26 e27 e28
  cases hb:decide ((ekN n 0).kind = 24) with
  | true =>
    rw [hb,Bool.true_or] at hb0 hl
    have hc0:=qmp (b:=true) p0 (by omega)
    unfold k0dq
    obtain ⟨z6,h6⟩:∃ z,z = qho:=⟨_,rfl⟩
    rw [← h6]
    repeat' (first | refine vs_ ?_ | ((first | refine vr_ ?_ | fail)<;>(try simp only [e23,e24,e25,e26,e27,e28,hwr,go_sem,↓reduceIte])) | ((first | (refine cs_ ?_ ?_<;>intro hc) | refine cj_ ?_ | simp (disch:=omega) only [qb,qf])<;>(try refine ev_ ?_)) | with_reducible exact ti_)
    subst h6
    unfold qho
    refine qj2 8 9 (by rfl) ?_ ?_
    ·simp only [qgz,Nat.zero_add,Nat.reduceAdd,Nat.reduceEqDiff,if_false,if_true,List.filter,decide_true,decide_false,ne_eq,not_true_eq_false,not_false_eq_true]
     (simp (disch:=first | omega | (simp only [List.length_set,List.length_append,List.length_cons,List.length_nil];done) | (simp only [List.length_set,List.length_append,List.length_cons,List.length_nil];omega)) only [hkl2,g0,g1,go_sem,↓reduceIte])
     repeat' (first | refine vs_ ?_ | ((first | refine vr_ ?_ | fail)<;>(try simp only [hkl2,g0,g1,hb,List.length_append,Bool.true_or,go_sem,↓reduceIte])) | ((first | (refine cs_ ?_ ?_<;>intro hc) | refine cj_ ?_ | simp (disch:=omega) only [qb,qf] | refine qa hc0 fun _=>?_ | refine qa hc1 fun _=>?_ | refine qa hs0 fun _=>?_ | refine qa hs1 fun _=>?_ | refine qc hc0 ?_ | refine qc hc1 ?_ | refine qc hs0 ?_ | refine qc hs1 ?_)<;>(try refine ev_ ?_)) | with_reducible exact ti_)
    ·simp only [qel,qdc,posL,List.getElem?_cons_succ,List.getElem?_cons_zero,List.map_cons,List.map_nil,Nat.reduceAdd,Nat.reduceEqDiff,Nat.reduceLT,if_false,if_true,ne_eq,not_true_eq_false,not_false_eq_true,and_true,and_false,true_and,false_and]
     (simp (disch:=first | omega | (simp only [List.length_set,List.length_append,List.length_cons,List.length_nil];done) | (simp only [List.length_set,List.length_append,List.length_cons,List.length_nil];omega)) only [hkl2,g0,g1,go_sem,↓reduceIte])
     repeat' (first | refine vs_ ?_ | ((first | refine vr_ ?_ | fail)<;>(try simp only [hkl2,g0,g1,hb,List.length_append,Bool.true_or,go_sem,↓reduceIte])) | ((first | (refine cs_ ?_ ?_<;>intro hc) | refine cj_ ?_ | simp (disch:=omega) only [qb,qf] | refine qa hc0 fun _=>?_ | refine qa hc1 fun _=>?_ | refine qa hs0 fun _=>?_ | refine qa hs1 fun _=>?_ | refine qc hc0 ?_ | refine qc hc1 ?_ | refine qc hs0 ?_ | refine qc hs1 ?_)<;>(try refine ev_ ?_)) | with_reducible exact ti_)
  | false =>
    rw [hb,Bool.false_or] at hb0 hl
    have hc0:=qmp (b:=smN (ekN n 0)) p0 (by omega)
    unfold k0dq
    obtain ⟨z6,h6⟩:∃ z,z = qho:=⟨_,rfl⟩
    rw [← h6]
    repeat' (first | refine vs_ ?_ | ((first | refine vr_ ?_ | fail)<;>(try simp only [e23,e24,e25,e26,e27,e28,hwr,go_sem,↓reduceIte])) | ((first | (refine cs_ ?_ ?_<;>intro hc) | refine cj_ ?_ | simp (disch:=omega) only [qb,qf])<;>(try refine ev_ ?_)) | with_reducible exact ti_)
    subst h6
    unfold qho
    refine qj2 8 9 (by rfl) ?_ ?_
    ·simp only [qgz,Nat.zero_add,Nat.reduceAdd,Nat.reduceEqDiff,if_false,if_true,List.filter,decide_true,decide_false,ne_eq,not_true_eq_false,not_false_eq_true]
     (simp (disch:=first | omega | (simp only [List.length_set,List.length_append,List.length_cons,List.length_nil];done) | (simp only [List.length_set,List.length_append,List.length_cons,List.length_nil];omega)) only [hkl2,g0,g1,go_sem,↓reduceIte])
     repeat' (first | refine vs_ ?_ | ((first | refine vr_ ?_ | fail)<;>(try simp only [hkl2,g0,g1,hb,List.length_append,Bool.false_or,go_sem,↓reduceIte])) | ((first | (refine cs_ ?_ ?_<;>intro hc) | refine cj_ ?_ | simp (disch:=omega) only [qb,qf] | refine qa hc0 fun _=>?_ | refine qa hc1 fun _=>?_ | refine qa hs0 fun _=>?_ | refine qa hs1 fun _=>?_ | refine qc hc0 ?_ | refine qc hc1 ?_ | refine qc hs0 ?_ | refine qc hs1 ?_)<;>(try refine ev_ ?_)) | with_reducible exact ti_)
    ·simp only [qel,qdc,posL,List.getElem?_cons_succ,List.getElem?_cons_zero,List.map_cons,List.map_nil,Nat.reduceAdd,Nat.reduceEqDiff,Nat.reduceLT,if_false,if_true,ne_eq,not_true_eq_false,not_false_eq_true,and_true,and_false,true_and,false_and]
     (simp (disch:=first | omega | (simp only [List.length_set,List.length_append,List.length_cons,List.length_nil];done) | (simp only [List.length_set,List.length_append,List.length_cons,List.length_nil];omega)) only [hkl2,g0,g1,go_sem,↓reduceIte])
     repeat' (first | refine vs_ ?_ | ((first | refine vr_ ?_ | fail)<;>(try simp only [hkl2,g0,g1,hb,List.length_append,Bool.false_or,go_sem,↓reduceIte])) | ((first | (refine cs_ ?_ ?_<;>intro hc) | refine cj_ ?_ | simp (disch:=omega) only [qb,qf] | refine qa hc0 fun _=>?_ | refine qa hc1 fun _=>?_ | refine qa hs0 fun _=>?_ | refine qa hs1 fun _=>?_ | refine qc hc0 ?_ | refine qc hc1 ?_ | refine qc hs0 ?_ | refine qc hs1 ?_)<;>(try refine ev_ ?_)) | with_reducible exact ti_)
 ·have hkl1:n.kids.length = 1:=by rw [h2];rfl
  have m0:ekN n 0∈n.kids:=qg (by omega)
  simp only [h0,Int.reduceEq,if_false,if_true,hkl1,show (0 < 1) = True by simp] at hE
  change ptE n = [92,32] ++ (n.text ++ ([32,45,62,32] ++ ptE (ekN n 0))) at hE
  rw [hE] at hl ⊢
  simp only [List.length_append,List.length_cons,List.length_nil] at hl
  have p0:=ihE _ m0 h4 (by omega)
  unfold RE at p0
  have g0:(encs n.kids).getD 0 .junk = enc (ekN n 0):=qb (by omega)
  obtain ⟨e23,e24,e25,e26,e27,e28⟩:=kd_n h0
  simp only [Int.reduceEq,decide_false,decide_true] at e23 e24 e25 e26 e27 e28
  repeat' (first | refine vs_ ?_ | ((first | refine vr_ ?_ | fail)<;>(try simp only [e23,e24,e25,e26,e27,e28,hwr,hkl1,g0,List.length_append,go_sem,↓reduceIte])) | ((first | (refine cs_ ?_ ?_<;>intro hc) | refine cj_ ?_ | simp (disch:=omega) only [qb,qf] | refine qa p0 fun _=>?_ | refine qc p0 ?_)<;>(try refine ev_ ?_)) | with_reducible exact ti_)
  all_goals rfl
 ·have hpos:0 < n.kids.length:=by rw [h2];simp
  have m1:ekN n (n.kids.length - 1)∈n.kids:=qg (by omega)
  have hm:∀ x∈eitN n,x∈n.kids:=fun x hx=>List.mem_of_mem_take hx
  simp only [h0,Int.reduceEq,if_false,if_true,hpos] at hE
  change ptE n = [108,101,116,32] ++ (brW (Lib.join ((eitN n).map ptB) smW) ++ ([32,105,110,32] ++ ptE (ekN n (n.kids.length - 1)))) at hE
  have hbl:=(qe9 (Lib.join ((eitN n).map ptB) smW)).1
  rw [hE] at hl ⊢
  simp only [List.length_append,List.length_cons,List.length_nil] at hl
  have hbs:(brW (Lib.join ((eitN n).map ptB) smW)).length + 4≤Big:=by omega
  have p1:=ihE _ m1 h6 (by omega)
  have hmem:∀ x∈eitN n,qh Tryz.prog 43 [enc x] (.str (ptB x)):=fun x hx=>by
   have:=qbf (m:=smW) (List.mem_map_of_mem (f:=ptB) hx)
   exact ihB x (hm x hx) (h4 x hx) (by omega)
  have hM2:=qnl hmem (by rw [eitN,List.length_take];omega) (by omega)
  have e1:((n.kids.length:Int) - 1).toNat = n.kids.length - 1:=by omega
  have g1:(encs n.kids).take (n.kids.length - 1) = encs (eitN n):=qbt _ _
  have g0:(encs n.kids).getD (n.kids.length - 1) .junk = enc (ekN n (n.kids.length - 1)):=qb (by omega)
  have p1':qh Tryz.prog 42 [enc (n.kids.getD ((n.kids.length:Int) - 1).toNat N0)] (.str (ptE (ekN n (n.kids.length - 1)))):=by rw [e1];exact p1
  obtain ⟨e23,e24,e25,e26,e27,e28⟩:=kd_n h0
  simp only [Int.reduceEq,decide_false,decide_true] at e23 e24 e25 e26 e27 e28
  repeat' (first | refine vs_ ?_ | ((first | refine vr_ ?_ | fail)<;>(try simp only [e23,e24,e25,e26,e27,e28,hwr,e1,g1,g0,List.length_append,go_sem,↓reduceIte])) | ((first | (refine cs_ ?_ ?_<;>intro hc) | refine cj_ ?_ | simp (disch:=omega) only [qb,qf] | refine qa hM2 fun _=>?_ | refine qa p1' fun _=>?_ | refine qc hM2 ?_ | refine qc p1' ?_)<;>(try refine ev_ ?_)) | with_reducible exact ti_)
 ·have hpos:0 < n.kids.length:=by rw [h2];simp
  have hpos2:0 < (n.kids.drop 1).length:=List.length_pos_iff.2 h6
  have hdrl:(n.kids.drop 1).length = n.kids.length - 1:=by rw [List.length_drop]
  have m0:ekN n 0∈n.kids:=qg (by omega)
  have hm:∀ x∈n.kids.drop 1,x∈n.kids:=fun x hx=>List.mem_of_mem_drop hx
  simp only [h0,Int.reduceEq,if_false,if_true,hpos] at hE
  change ptE n = [99,97,115,101,32] ++ (ptE (ekN n 0) ++ ([32,111,102,32] ++ brW (Lib.join ((n.kids.drop 1).map ptL) smW))) at hE
  rw [brW,if_neg (qra qbfp _ h6)] at hE
  rw [hE] at hl ⊢
  simp only [List.length_append,List.length_cons,List.length_nil] at hl
  have p0:=ihE _ m0 h4 (by omega)
  unfold RE at p0
  have g0:(encs n.kids).getD 0 .junk = enc (ekN n 0):=qb (by omega)
  obtain ⟨e23,e24,e25,e26,e27,e28⟩:=kd_n h0
  simp only [Int.reduceEq,decide_false,decide_true] at e23 e24 e25 e26 e27 e28
  repeat' (first | refine vs_ ?_ | ((first | refine vr_ ?_ | fail)<;>(try simp only [e23,e24,e25,e26,e27,e28,hwr,go_sem,↓reduceIte])) | ((first | (refine cs_ ?_ ?_<;>intro hc) | refine cj_ ?_ | simp (disch:=omega) only [qb,qf])<;>(try refine ev_ ?_)) | with_reducible exact ti_)
  all_goals try (exfalso;omega)
  refine qt (S:=Nat) (fun i=>1≤i∧i≤n.kids.length) (fun i=>(⟨[(1,.ptr 0 0),(2,.str []),(3,.int .i64 ((n.kids.length:Int) - 1)),(6,.str (Lib.join (((n.kids.drop 1).take (i - 1)).map ptL) smW)),(7,.int .i64 i)],[]⟩,[.blk [.int .i64 n.kind,.int .i64 n.pos,.int .i64 n.num,.str n.text,.sl 5 (encs n.kids)]])) (fun i=>n.kids.length - i) ?_ fun i hi=>?_
  ·refine qs 1 [0] ⟨Nat.le_refl _,by omega⟩ rfl (by simp) ?_ ?_ ?_<;>(try refine ev_ ?_)<;>(try with_reducible exact ti_)<;>(try simp (disch:=omega) only [qf,and_true,true_and])
   all_goals first | rfl | exact ⟨rfl,rfl⟩
  ·obtain ⟨j,hj⟩:∃ j,j + 1 = i:=⟨i - 1,by omega⟩
   have eij:i - 1 = j:=by omega
   have eij2:i + 1 - 1 = j + 1:=by omega
   by_cases hlt:j < (n.kids.drop 1).length
   ·have hmx:=qg hlt
    have hge:(n.kids.drop 1).getD j N0 = n.kids.getD i N0:=by
     rw [List.getD_eq_getElem?_getD,List.getElem?_drop,List.getD_eq_getElem?_getD,Nat.add_comm,hj]
    have hA:=h5 _ hmx
    obtain ⟨a1,a2,a3,a4,a5,a6⟩:=qfs hA
    have hjl:=qfx (f:=ptL) (m:=smW) (l:=n.kids.drop 1) (j + 1)
    have hst:=qev (f:=ptL) (m:=smW) hlt
    have hmk:=hm _ hmx
    have hsx:=qbm hmk
    have pL:(ptL ((n.kids.drop 1).getD j N0)).length + 4≤Big:=by
     have:=qbf (m:=smW) (List.mem_map_of_mem (f:=ptL) hmx)
     omega
    have pE:=ihL _ hmk hA pL
    rw [hge] at a4 a5 a6 hst hsx pL pE
    have hkx:(n.kids.getD i N0).kids.length = 2:=by rw [a4];rfl
    have mx0:ekN (n.kids.getD i N0) 0∈(n.kids.getD i N0).kids:=qg (by omega)
    have he:ptL (n.kids.getD i N0) = ptP (ekN (n.kids.getD i N0) 0) ++ ([32,45,62,32] ++ ptE (ekN (n.kids.getD i N0) 1)):=by rw [qjd,if_pos (by omega)];rfl
    rw [he] at hst pL
    simp only [List.length_append,List.length_cons,List.length_nil] at pL
    have pP:=qog (ekN (n.kids.getD i N0) 0) a5 (by have:=qbm mx0;omega) (by omega)
    unfold RP at pP
    unfold RE at pE
    have gi:(encs n.kids).getD i .junk = enc (n.kids.getD i N0):=qb (by omega)
    have x0:(encs (n.kids.getD i N0).kids).getD 0 .junk = enc (ekN (n.kids.getD i N0) 0):=qb (by omega)
    have x1:(encs (n.kids.getD i N0).kids).getD 1 .junk = enc (ekN (n.kids.getD i N0) 1):=qb (by omega)
    have hdl:decide ((i:Int)≤(n.kids.length:Int) - 1) = true:=decide_eq_true (by omega)
    have ecm:smW.length = 2:=rfl
    rw [hst] at hjl
    rw [eij]
    by_cases hj0:j = 0
    ·rw [if_pos hj0] at hjl hst
     simp only [List.length_append,List.length_cons,List.length_nil] at hjl
     rw [hj0,List.take_zero,List.map_nil,show Lib.join [] smW = [] from rfl]
     have hd1:decide ((1:Int) < (i:Int)) = false:=decide_eq_false (by omega)
     repeat' (first | refine vs_ ?_ | ((first | refine vr_ ?_ | fail)<;>(try simp (disch:=first | omega | (simp only [List.length_set,List.length_append,List.length_cons,List.length_nil];done) | (simp only [List.length_set,List.length_append,List.length_cons,List.length_nil];omega)) only [qf,gi,hkx,x0,x1,hdl,hd1,List.length_append,go_sem,↓reduceIte])) | ((first | (refine cs_ ?_ ?_<;>intro hc) | refine cj_ ?_ | simp (disch:=omega) only [qb,qf] | refine qa pP fun _=>?_ | refine qa pE fun _=>?_ | refine qc pP ?_ | refine qc pE ?_)<;>(try refine ev_ ?_)) | with_reducible exact ti_)
     all_goals try (exfalso;omega)
     refine qs (i + 1) [0] ⟨⟨by omega,by omega⟩,by omega⟩ rfl (by simp) ?_ ?_ ?_<;>(try refine ev_ ?_)<;>(try with_reducible exact ti_)<;>(try simp (disch:=omega) only [qf,and_true,true_and])
     all_goals (rw [eij2,hst])
     all_goals first | simp | (rw [qb8 (by omega) (by omega)];simp)
    ·rw [if_neg hj0] at hjl hst
     simp only [List.length_append,List.length_cons,List.length_nil] at hjl
     have hd1:decide ((1:Int) < (i:Int)) = true:=decide_eq_true (by omega)
     repeat' (first | refine vs_ ?_ | ((first | refine vr_ ?_ | fail)<;>(try simp (disch:=first | omega | (simp only [List.length_set,List.length_append,List.length_cons,List.length_nil];done) | (simp only [List.length_set,List.length_append,List.length_cons,List.length_nil];omega)) only [qf,gi,hkx,x0,x1,hdl,hd1,List.length_append,go_sem,↓reduceIte])) | ((first | (refine cs_ ?_ ?_<;>intro hc) | refine cj_ ?_ | simp (disch:=omega) only [qb,qf] | refine qa pP fun _=>?_ | refine qa pE fun _=>?_ | refine qc pP ?_ | refine qc pE ?_)<;>(try refine ev_ ?_)) | with_reducible exact ti_)
     all_goals try (exfalso;omega)
     refine qs (i + 1) [0] ⟨⟨by omega,by omega⟩,by omega⟩ rfl (by simp) ?_ ?_ ?_<;>(try refine ev_ ?_)<;>(try with_reducible exact ti_)<;>(try simp (disch:=omega) only [qf,and_true,true_and])
     all_goals (rw [qb8 (by omega) (by omega),eij2,hst];exact ⟨by simp [smW],rfl⟩)
   ·have hie:j = (n.kids.drop 1).length:=by omega
    have hdl:decide ((i:Int)≤(n.kids.length:Int) - 1) = false:=decide_eq_false (by omega)
    rw [eij,hie,List.take_length]
    repeat' (first | refine vs_ ?_ | ((first | refine vr_ ?_ | fail)<;>(try simp only [hdl,g0,List.length_append,go_sem,↓reduceIte])) | ((first | (refine cs_ ?_ ?_<;>intro hc) | refine cj_ ?_ | simp (disch:=omega) only [qb,qf] | refine qa p0 fun _=>?_ | refine qc p0 ?_)<;>(try refine ev_ ?_)) | with_reducible exact ti_)
    all_goals try (exfalso;omega)
    all_goals simp
 ·have hkl3:n.kids.length = 3:=by rw [h2];rfl
  have m0:ekN n 0∈n.kids:=qg (by omega)
  have m1:ekN n 1∈n.kids:=qg (by omega)
  have m2:ekN n 2∈n.kids:=qg (by omega)
  simp only [h0,Int.reduceEq,if_false,if_true,hkl3,show (0 < 3) = True by simp,show (1 < 3) = True by simp,show (2 < 3) = True by simp] at hE
  change ptE n = [105,102,32] ++ (ptE (ekN n 0) ++ ([32,116,104,101,110,32] ++ (ptE (ekN n 1) ++ ([32,101,108,115,101,32] ++ ptE (ekN n 2))))) at hE
  rw [hE] at hl ⊢
  simp only [List.length_append,List.length_cons,List.length_nil] at hl
  have p0:=ihE _ m0 h4 (by omega)
  have p1:=ihE _ m1 h5 (by omega)
  have p2:=ihE _ m2 h6 (by omega)
  unfold RE at p0 p1 p2
  have g0:(encs n.kids).getD 0 .junk = enc (ekN n 0):=qb (by omega)
  have g1:(encs n.kids).getD 1 .junk = enc (ekN n 1):=qb (by omega)
  have g2:(encs n.kids).getD 2 .junk = enc (ekN n 2):=qb (by omega)
  obtain ⟨e23,e24,e25,e26,e27,e28⟩:=kd_n h0
  simp only [Int.reduceEq,decide_false,decide_true] at e23 e24 e25 e26 e27 e28
  repeat' (first | refine vs_ ?_ | ((first | refine vr_ ?_ | fail)<;>(try simp only [e23,e24,e25,e26,e27,e28,hwr,hkl3,g0,g1,g2,List.length_append,go_sem,↓reduceIte])) | ((first | (refine cs_ ?_ ?_<;>intro hc) | refine cj_ ?_ | simp (disch:=omega) only [qb,qf] | refine qa p0 fun _=>?_ | refine qa p1 fun _=>?_ | refine qa p2 fun _=>?_ | refine qc p0 ?_ | refine qc p1 ?_ | refine qc p2 ?_)<;>(try refine ev_ ?_)) | with_reducible exact ti_)
end Go.Proofs.YtlmcofjcpadmiaaGreat
