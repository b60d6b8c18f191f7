/- A text of this proof. -/
import Derived.Test.YtlmcofjcpadmiaaGreatWbb
import Derived.Test.YtlmcofjcpadmiaaGreatWbc
set_option linter.unusedVariables false
set_option linter.unusedSimpArgs false

/- trees that are written: the program's walk: expressions -/
set_option maxRecDepth 4000
namespace Go.Proofs.YtlmcofjcpadmiaaGreat
open Go Go.RowKit Go.V

theorem kd_n {n:N} {k:Int} (h:n.kind = k):decide (n.kind = 23) = decide (k = 23)∧decide (n.kind = 24) = decide (k = 24)∧decide (n.kind = 25) = decide (k = 25)∧decide (n.kind = 26) = decide (k = 26)∧decide (n.kind = 27) = decide (k = 27)∧decide (n.kind = 28) = decide (k = 28):=by
 rw [h];exact ⟨rfl,rfl,rfl,rfl,rfl,rfl⟩
set_option maxHeartbeats 4000000 in
theorem qnr {n:N} (ht:exW n = true) (hs:sz n≤1000000) (hl:(ptE n).length + 4≤Big)
 (ihE:∀ x∈n.kids,exW x = true->(ptE x).length + 4≤Big->PE x) (ihB:∀ x∈n.kids,biW x = true∨sgW x = true->(ptB x).length + 4≤Big->PD x) (ihL:∀ x∈n.kids,alW x = true->(ptL x).length + 4≤Big->qh Tryz.prog 138 [enc x] (.str (ptL x))):PE n:=by
 refine qzf (qe c0l (by simp) (by simp only [go_sem]) rfl fun hw=>?_)
 have hM:=qca
 have hkl:=qda n
 have hwr:IntKind.i64.wrap ((n.kids.length:Int) - 1) = (n.kids.length:Int) - 1:=qb8 (by omega) (by omega)
 have hE:=qrr n
 rcases qg8 ht with ⟨h0,h1,h2,h3⟩ | ⟨h0,h1,h2,h3⟩ | ⟨h0,h1,h2,h3⟩ | ⟨h0,h1,h2,h3,h4,h5⟩ | ⟨h0,h1,h2,h3,h4⟩ | ⟨h0,h1,h2,h3,h4,h5,h6⟩ | ⟨h0,h1,h2,h3,h4,h5,h6⟩ | ⟨h0,h1,h2,h3,h4,h5,h6⟩
 ·simp only [h0,Int.reduceEq,if_false,if_true] at hE
  rw [hE]
  obtain ⟨e23,e24,e25,e26,e27,e28⟩:=kd_n h0
  simp only [Int.reduceEq,decide_false,decide_true] at e23 e24 e25 e26 e27 e28
  repeat' (first | refine vs_ ?_ | ((first | refine vr_ ?_ | fail)<;>(try simp only [e23,e24,e25,e26,e27,e28,hwr,go_sem,↓reduceIte])) | ((first | (refine cs_ ?_ ?_<;>intro hc) | refine cj_ ?_ | simp (disch:=omega) only [qb,qf])<;>(try refine ev_ ?_)) | with_reducible exact ti_)
 ·simp only [h0,Int.reduceEq,if_false,if_true] at hE
  rw [hE]
  obtain ⟨e23,e24,e25,e26,e27,e28⟩:=kd_n h0
  simp only [Int.reduceEq,decide_false,decide_true] at e23 e24 e25 e26 e27 e28
  repeat' (first | refine vs_ ?_ | ((first | refine vr_ ?_ | fail)<;>(try simp only [e23,e24,e25,e26,e27,e28,hwr,go_sem,↓reduceIte])) | ((first | (refine cs_ ?_ ?_<;>intro hc) | refine cj_ ?_ | simp (disch:=omega) only [qb,qf])<;>(try refine ev_ ?_)) | with_reducible exact ti_)
 ·simp only [h0,Int.reduceEq,if_false,if_true] at hE
  rw [hE]
  obtain ⟨e23,e24,e25,e26,e27,e28⟩:=kd_n h0
  simp only [Int.reduceEq,decide_false,decide_true] at e23 e24 e25 e26 e27 e28
  repeat' (first | refine vs_ ?_ | ((first | refine vr_ ?_ | fail)<;>(try simp only [e23,e24,e25,e26,e27,e28,hwr,go_sem,↓reduceIte])) | ((first | (refine cs_ ?_ ?_<;>intro hc) | refine cj_ ?_ | simp (disch:=omega) only [qb,qf] | refine qa (qfw n.num) fun _=>?_ | refine qc (qfw n.num) ?_)<;>(try refine ev_ ?_)) | with_reducible exact ti_)
 ·have hkl2:n.kids.length = 2:=by rw [h2];rfl
  have m0:ekN n 0∈n.kids:=qg (by omega)
  have m1:ekN n 1∈n.kids:=qg (by omega)
  simp only [h0,Int.reduceEq,if_false,if_true,hkl2,show (0 < 2) = True by simp,show (1 < 2) = True by simp] at hE
  change ptE n = cloW (qn (ekN n 0) || decide ((ekN n 0).kind = 24)) (ptE (ekN n 0)) ++ 32 :: cloW (qn (ekN n 1)) (ptE (ekN n 1)) at hE
  have hb0:=(qp (qn (ekN n 0) || decide ((ekN n 0).kind = 24)) (ptE (ekN n 0))).1
  have hb1:=(qp (qn (ekN n 1)) (ptE (ekN n 1))).1
  rw [hE] at hl ⊢
  simp only [List.length_append,List.length_cons,List.length_nil] at hl
  have p0:=ihE _ m0 h4 (by omega)
  have p1:=ihE _ m1 h5 (by omega)
  have hc0:=qbs (b:=qn (ekN n 0) || decide ((ekN n 0).kind = 24)) (qf5 (ekN n 0)) p0 (by omega)
  have hc1:=qbs (b:=qn (ekN n 1)) (qf5 (ekN n 1)) p1 (by omega)
  have g0:(encs n.kids).getD 0 .junk = enc (ekN n 0):=qb (by omega)
  have g1:(encs n.kids).getD 1 .junk = enc (ekN n 1):=qb (by omega)
  have hlf0:=qb0 (ekN n 0)
  have hlf1:=qb0 (ekN n 1)
  obtain ⟨e23,e24,e25,e26,e27,e28⟩:=kd_n h0
  simp only [Int.reduceEq,decide_false,decide_true] at e23 e24 e25 e26 e27 e28
  cases hb:qn (ekN n 0) with
  | true =>
    rw [hb,Bool.true_or] at hc0 hb0 hl
    rw [hb] at hlf0
    unfold k0l
    obtain ⟨z7,h7⟩:∃ z,z = qle:=⟨_,rfl⟩
    rw [← h7]
    repeat' (first | refine vs_ ?_ | ((first | refine vr_ ?_ | fail)<;>(try simp only [e23,e24,e25,e26,e27,e28,hwr,go_sem,↓reduceIte])) | ((first | (refine cs_ ?_ ?_<;>intro hc) | refine cj_ ?_ | simp (disch:=omega) only [qb,qf])<;>(try refine ev_ ?_)) | with_reducible exact ti_)
    subst h7
    unfold qle
    refine qj2 8 9 (by rfl) ?_ ?_
    ·simp only [qgz,Nat.zero_add,Nat.reduceAdd,Nat.reduceEqDiff,if_false,if_true,List.filter,decide_true,decide_false,ne_eq,not_true_eq_false,not_false_eq_true]
     (simp (disch:=first | omega | (simp only [List.length_set,List.length_append,List.length_cons,List.length_nil];done) | (simp only [List.length_set,List.length_append,List.length_cons,List.length_nil];omega)) only [hkl2,g0,g1,go_sem,↓reduceIte])
     repeat' (first | refine vs_ ?_ | ((first | refine vr_ ?_ | fail)<;>(try simp only [hkl2,g0,g1,List.length_append,Bool.true_or,go_sem,↓reduceIte])) | ((first | (refine cs_ ?_ ?_<;>intro hc) | refine cj_ ?_ | simp (disch:=omega) only [qb,qf] | refine qa hc0 fun _=>?_ | refine qa hc1 fun _=>?_ | refine qa hlf0 fun _=>?_ | refine qa hlf1 fun _=>?_ | refine qc hc0 ?_ | refine qc hc1 ?_ | refine qc hlf0 ?_ | refine qc hlf1 ?_)<;>(try refine ev_ ?_)) | with_reducible exact ti_)
    ·simp only [qel,qdc,posL,List.getElem?_cons_succ,List.getElem?_cons_zero,List.map_cons,List.map_nil,Nat.reduceAdd,Nat.reduceEqDiff,Nat.reduceLT,if_false,if_true,ne_eq,not_true_eq_false,not_false_eq_true,and_true,and_false,true_and,false_and]
     (simp (disch:=first | omega | (simp only [List.length_set,List.length_append,List.length_cons,List.length_nil];done) | (simp only [List.length_set,List.length_append,List.length_cons,List.length_nil];omega)) only [hkl2,g0,g1,go_sem,↓reduceIte])
     repeat' (first | refine vs_ ?_ | ((first | refine vr_ ?_ | fail)<;>(try simp only [hkl2,g0,g1,List.length_append,Bool.true_or,go_sem,↓reduceIte])) | ((first | (refine cs_ ?_ ?_<;>intro hc) | refine cj_ ?_ | simp (disch:=omega) only [qb,qf] | refine qa hc0 fun _=>?_ | refine qa hc1 fun _=>?_ | refine qa hlf0 fun _=>?_ | refine qa hlf1 fun _=>?_ | refine qc hc0 ?_ | refine qc hc1 ?_ | refine qc hlf0 ?_ | refine qc hlf1 ?_)<;>(try refine ev_ ?_)) | with_reducible exact ti_)
  | false =>
    rw [hb,Bool.false_or] at hc0 hb0 hl
    rw [hb] at hlf0
    unfold k0l
    obtain ⟨z7,h7⟩:∃ z,z = qle:=⟨_,rfl⟩
    rw [← h7]
    repeat' (first | refine vs_ ?_ | ((first | refine vr_ ?_ | fail)<;>(try simp only [e23,e24,e25,e26,e27,e28,hwr,go_sem,↓reduceIte])) | ((first | (refine cs_ ?_ ?_<;>intro hc) | refine cj_ ?_ | simp (disch:=omega) only [qb,qf])<;>(try refine ev_ ?_)) | with_reducible exact ti_)
    subst h7
    unfold qle
    refine qj2 8 9 (by rfl) ?_ ?_
    ·simp only [qgz,Nat.zero_add,Nat.reduceAdd,Nat.reduceEqDiff,if_false,if_true,List.filter,decide_true,decide_false,ne_eq,not_true_eq_false,not_false_eq_true]
     (simp (disch:=first | omega | (simp only [List.length_set,List.length_append,List.length_cons,List.length_nil];done) | (simp only [List.length_set,List.length_append,List.length_cons,List.length_nil];omega)) only [hkl2,g0,g1,go_sem,↓reduceIte])
     repeat' (first | refine vs_ ?_ | ((first | refine vr_ ?_ | fail)<;>(try simp only [hkl2,g0,g1,List.length_append,Bool.false_or,go_sem,↓reduceIte])) | ((first | (refine cs_ ?_ ?_<;>intro hc) | refine cj_ ?_ | simp (disch:=omega) only [qb,qf] | refine qa hc0 fun _=>?_ | refine qa hc1 fun _=>?_ | refine qa hlf0 fun _=>?_ | refine qa hlf1 fun _=>?_ | refine qc hc0 ?_ | refine qc hc1 ?_ | refine qc hlf0 ?_ | refine qc hlf1 ?_)<;>(try refine ev_ ?_)) | with_reducible exact ti_)
    ·simp only [qel,qdc,posL,List.getElem?_cons_succ,List.getElem?_cons_zero,List.map_cons,List.map_nil,Nat.reduceAdd,Nat.reduceEqDiff,Nat.reduceLT,if_false,if_true,ne_eq,not_true_eq_false,not_false_eq_true,and_true,and_false,true_and,false_and]
     (simp (disch:=first | omega | (simp only [List.length_set,List.length_append,List.length_cons,List.length_nil];done) | (simp only [List.length_set,List.length_append,List.length_cons,List.length_nil];omega)) only [hkl2,g0,g1,go_sem,↓reduceIte])
     repeat' (first | refine vs_ ?_ | ((first | refine vr_ ?_ | fail)<;>(try simp only [hkl2,g0,g1,List.length_append,Bool.false_or,go_sem,↓reduceIte])) | ((first | (refine cs_ ?_ ?_<;>intro hc) | refine cj_ ?_ | simp (disch:=omega) only [qb,qf] | refine qa hc0 fun _=>?_ | refine qa hc1 fun _=>?_ | refine qa hlf0 fun _=>?_ | refine qa hlf1 fun _=>?_ | refine qc hc0 ?_ | refine qc hc1 ?_ | refine qc hlf0 ?_ | refine qc hlf1 ?_)<;>(try refine ev_ ?_)) | with_reducible exact ti_)
 ·have hkl1:n.kids.length = 1:=by rw [h2];rfl
  have m0:ekN n 0∈n.kids:=qg (by omega)
  simp only [h0,Int.reduceEq,if_false,if_true,hkl1,show (0 < 1) = True by simp] at hE
  change ptE n = [92,32] ++ (n.text ++ ([32,45,62,32] ++ ptE (ekN n 0))) at hE
  rw [hE] at hl ⊢
  simp only [List.length_append,List.length_cons,List.length_nil] at hl
  have p0:=ihE _ m0 h4 (by omega)
  obtain ⟨e23,e24,e25,e26,e27,e28⟩:=kd_n h0
  simp only [Int.reduceEq,decide_false,decide_true] at e23 e24 e25 e26 e27 e28
  repeat' (first | refine vs_ ?_ | ((first | refine vr_ ?_ | fail)<;>(try simp only [e23,e24,e25,e26,e27,e28,hwr,hkl1,List.length_append,go_sem,↓reduceIte])) | ((first | (refine cs_ ?_ ?_<;>intro hc) | refine cj_ ?_ | simp (disch:=omega) only [qb,qf] | refine qof (n:=n) 1 0 (by omega) p0 ?_)<;>(try refine ev_ ?_)) | with_reducible exact ti_)
 ·have hpos:0 < n.kids.length:=by rw [h2];simp
  have m1:ekN n (n.kids.length - 1)∈n.kids:=qg (by omega)
  have hm:∀ x∈eitN n,x∈n.kids:=fun x hx=>List.mem_of_mem_take hx
  simp only [h0,Int.reduceEq,if_false,if_true,hpos] at hE
  change ptE n = [108,101,116,32] ++ (brW (Lib.join ((eitN n).map ptB) smW) ++ ([32,105,110,32] ++ ptE (ekN n (n.kids.length - 1)))) at hE
  have hbl:=(qe9 (Lib.join ((eitN n).map ptB) smW)).1
  rw [hE] at hl ⊢
  simp only [List.length_append,List.length_cons,List.length_nil] at hl
  have hbs:(brW (Lib.join ((eitN n).map ptB) smW)).length + 4≤Big:=by omega
  have p1:=ihE _ m1 h6 (by omega)
  have hmem:∀ x∈eitN n,PD x∧ptD x = ptB x:=fun x hx=>by
   have:=qbf (m:=smW) (List.mem_map_of_mem (f:=ptB) hx)
   refine ⟨ihB x (hm x hx) (h4 x hx) (by omega),?_⟩
   rcases h4 x hx with h | h
   ·exact qfj (.inl (qds h).1)
   ·exact qfj (.inr (qeu h).1)
  have hM2:=qcx hmem (by omega) (by rw [eitN,List.length_take];omega)
  have e1:((n.kids.length:Int) - 1).toNat = n.kids.length - 1:=by omega
  have g1:(encs n.kids).take (n.kids.length - 1) = encs (eitN n):=qbt _ _
  obtain ⟨e23,e24,e25,e26,e27,e28⟩:=kd_n h0
  simp only [Int.reduceEq,decide_false,decide_true] at e23 e24 e25 e26 e27 e28
  repeat' (first | refine vs_ ?_ | ((first | refine vr_ ?_ | fail)<;>(try simp only [e23,e24,e25,e26,e27,e28,hwr,e1,g1,List.length_append,go_sem,↓reduceIte])) | ((first | (refine cs_ ?_ ?_<;>intro hc) | refine cj_ ?_ | simp (disch:=omega) only [qb,qf] | refine qa hM2 fun _=>?_ | refine qiq (n:=n) 1 (n.kids.length - 1) (by omega) p1 ?_ | refine qc hM2 ?_)<;>(try refine ev_ ?_)) | with_reducible exact ti_)
 ·have hpos:0 < n.kids.length:=by rw [h2];simp
  have m0:ekN n 0∈n.kids:=qg (by omega)
  have hm:∀ x∈n.kids.drop 1,x∈n.kids:=fun x hx=>List.mem_of_mem_drop hx
  simp only [h0,Int.reduceEq,if_false,if_true,hpos] at hE
  change ptE n = [99,97,115,101,32] ++ (ptE (ekN n 0) ++ ([32,111,102,32] ++ brW (Lib.join ((n.kids.drop 1).map ptL) smW))) at hE
  have hbl:=(qe9 (Lib.join ((n.kids.drop 1).map ptL) smW)).1
  rw [hE] at hl ⊢
  simp only [List.length_append,List.length_cons,List.length_nil] at hl
  have p0:=ihE _ m0 h4 (by omega)
  have hmem:∀ x∈n.kids.drop 1,qh Tryz.prog 138 [enc x] (.str (ptL x)):=fun x hx=>by
   have:=qbf (m:=smW) (List.mem_map_of_mem (f:=ptL) hx)
   exact ihL x (hm x hx) (h5 x hx) (by omega)
  have hj:=q7 (m:=[59,32]) hmem (by show (Lib.join ((n.kids.drop 1).map ptL) smW).length≤Big;omega) (by rw [List.length_drop];omega)
  have hj:qh Tryz.prog 44 [.sl 5 (encs (n.kids.drop 1)),.str [59,32],.fn 138 [] []] (.str (Lib.join ((n.kids.drop 1).map ptL) smW)):=hj
  have hbr:=qe0 (Lib.join ((n.kids.drop 1).map ptL) smW) (by omega)
  have g1:(encs n.kids).drop 1 = encs (n.kids.drop 1):=qbv _ _
  obtain ⟨e23,e24,e25,e26,e27,e28⟩:=kd_n h0
  simp only [Int.reduceEq,decide_false,decide_true] at e23 e24 e25 e26 e27 e28
  repeat' (first | refine vs_ ?_ | ((first | refine vr_ ?_ | fail)<;>(try simp only [e23,e24,e25,e26,e27,e28,hwr,g1,List.length_append,go_sem,↓reduceIte])) | ((first | (refine cs_ ?_ ?_<;>intro hc) | refine cj_ ?_ | simp (disch:=omega) only [qb,qf] | refine qa hj fun _=>?_ | refine qa hbr fun _=>?_ | refine qof (n:=n) 1 0 (by omega) p0 ?_ | refine qc hj ?_ | refine qc hbr ?_)<;>(try refine ev_ ?_)) | with_reducible exact ti_)
 ·have hkl3:n.kids.length = 3:=by rw [h2];rfl
  have m0:ekN n 0∈n.kids:=qg (by omega)
  have m1:ekN n 1∈n.kids:=qg (by omega)
  have m2:ekN n 2∈n.kids:=qg (by omega)
  simp only [h0,Int.reduceEq,if_false,if_true,hkl3,show (0 < 3) = True by simp,show (1 < 3) = True by simp,show (2 < 3) = True by simp] at hE
  change ptE n = [105,102,32] ++ (ptE (ekN n 0) ++ ([32,116,104,101,110,32] ++ (ptE (ekN n 1) ++ ([32,101,108,115,101,32] ++ ptE (ekN n 2))))) at hE
  rw [hE] at hl ⊢
  simp only [List.length_append,List.length_cons,List.length_nil] at hl
  have p0:=ihE _ m0 h4 (by omega)
  have p1:=ihE _ m1 h5 (by omega)
  have p2:=ihE _ m2 h6 (by omega)
  obtain ⟨e23,e24,e25,e26,e27,e28⟩:=kd_n h0
  simp only [Int.reduceEq,decide_false,decide_true] at e23 e24 e25 e26 e27 e28
  repeat' (first | refine vs_ ?_ | ((first | refine vr_ ?_ | fail)<;>(try simp only [e23,e24,e25,e26,e27,e28,hwr,hkl3,List.length_append,go_sem,↓reduceIte])) | ((first | (refine cs_ ?_ ?_<;>intro hc) | refine cj_ ?_ | simp (disch:=omega) only [qb,qf] | refine qiq (n:=n) 1 0 (by omega) p0 ?_ | refine qiq (n:=n) 1 1 (by omega) p1 ?_ | refine qiq (n:=n) 1 2 (by omega) p2 ?_)<;>(try refine ev_ ?_)) | with_reducible exact ti_)
end Go.Proofs.YtlmcofjcpadmiaaGreat
