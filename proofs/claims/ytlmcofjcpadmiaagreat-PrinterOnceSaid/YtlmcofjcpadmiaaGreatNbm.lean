/- Texts of this proof, joined. -/
import Derived.Test.YtlmcofjcpadmiaaGreatNbk
import Derived.Test.YtlmcofjcpadmiaaGreatNbl
set_option linter.unusedVariables false
set_option linter.unusedSimpArgs false

/- trees that are written: the program's walk: expressions -/
set_option maxRecDepth 4000
namespace Go.Proofs.YtlmcofjcpadmiaaGreat
open Go Go.RowKit Go.V

theorem kd_n {n:N} {k:Int} (h:n.kind = k):decide (n.kind = 23) = decide (k = 23)∧decide (n.kind = 24) = decide (k = 24)∧decide (n.kind = 25) = decide (k = 25)∧decide (n.kind = 26) = decide (k = 26)∧decide (n.kind = 27) = decide (k = 27)∧decide (n.kind = 28) = decide (k = 28):=by
 rw [h];exact ⟨rfl,rfl,rfl,rfl,rfl,rfl⟩
set_option maxHeartbeats 4000000 in
theorem q27 {n:N} (ht:exW n = true) (hs:sz n≤1000000) (hl:(ptE n).length + 4≤Big)
 (ihE:∀ x∈n.kids,exW x = true->(ptE x).length + 4≤Big->PE x) (ihB:∀ x∈n.kids,biW x = true∨sgW x = true->(ptB x).length + 4≤Big->PD x) (ihL:∀ x∈n.kids,alW x = true->(ptL x).length + 4≤Big->qx Tryz.prog 138 [enc x] (.str (ptL x))):PE n:=by
 refine qblg (qn c0o (by simp) (by simp only [go_sem]) rfl fun hw=>?_)
 have hM:=qmo
 have hkl:=qrs n
 have hwr:IntKind.i64.wrap ((n.kids.length:Int) - 1) = (n.kids.length:Int) - 1:=qbba (by omega) (by omega)
 have hE:=q1h n
 rcases qii ht with ⟨h0,h1,h2,h3⟩ | ⟨h0,h1,h2,h3⟩ | ⟨h0,h1,h2,h3⟩ | ⟨h0,h1,h2,h3,h4,h5⟩ | ⟨h0,h1,h2,h3,h4⟩ | ⟨h0,h1,h2,h3,h4,h5,h6⟩ | ⟨h0,h1,h2,h3,h4,h5,h6⟩ | ⟨h0,h1,h2,h3,h4,h5,h6⟩
 ·simp only [h0,Int.reduceEq,if_false,if_true] at hE
  rw [hE]
  obtain ⟨e23,e24,e25,e26,e27,e28⟩:=kd_n h0
  simp only [Int.reduceEq,decide_false,decide_true] at e23 e24 e25 e26 e27 e28
  repeat' (first | refine vs_ ?_ | ((first | refine vr_ ?_ | fail)<;>(try simp only [e23,e24,e25,e26,e27,e28,hwr,go_sem,↓reduceIte])) | ((first | (refine cs_ ?_ ?_<;>intro hc) | refine cj_ ?_ | simp (disch:=omega) only [qc,qs])<;>(try refine ev_ ?_)) | with_reducible exact ti_)
 ·simp only [h0,Int.reduceEq,if_false,if_true] at hE
  rw [hE]
  obtain ⟨e23,e24,e25,e26,e27,e28⟩:=kd_n h0
  simp only [Int.reduceEq,decide_false,decide_true] at e23 e24 e25 e26 e27 e28
  repeat' (first | refine vs_ ?_ | ((first | refine vr_ ?_ | fail)<;>(try simp only [e23,e24,e25,e26,e27,e28,hwr,go_sem,↓reduceIte])) | ((first | (refine cs_ ?_ ?_<;>intro hc) | refine cj_ ?_ | simp (disch:=omega) only [qc,qs])<;>(try refine ev_ ?_)) | with_reducible exact ti_)
 ·simp only [h0,Int.reduceEq,if_false,if_true] at hE
  rw [hE]
  obtain ⟨e23,e24,e25,e26,e27,e28⟩:=kd_n h0
  simp only [Int.reduceEq,decide_false,decide_true] at e23 e24 e25 e26 e27 e28
  repeat' (first | refine vs_ ?_ | ((first | refine vr_ ?_ | fail)<;>(try simp only [e23,e24,e25,e26,e27,e28,hwr,go_sem,↓reduceIte])) | ((first | (refine cs_ ?_ ?_<;>intro hc) | refine cj_ ?_ | simp (disch:=omega) only [qc,qs] | refine qa (qnj n.num) fun _=>?_ | refine qj (qnj n.num) ?_)<;>(try refine ev_ ?_)) | with_reducible exact ti_)
 ·have hkl2:n.kids.length = 2:=by rw [h2];rfl
  have m0:ekN n 0∈n.kids:=qi (by omega)
  have m1:ekN n 1∈n.kids:=qi (by omega)
  simp only [h0,Int.reduceEq,if_false,if_true,hkl2,show (0 < 2) = True by simp,show (1 < 2) = True by simp] at hE
  change ptE n = cloW (qbi (ekN n 0) || decide ((ekN n 0).kind = 24)) (ptE (ekN n 0)) ++ 32 :: cloW (qbi (ekN n 1)) (ptE (ekN n 1)) at hE
  have hb0:=(qc5 (qbi (ekN n 0) || decide ((ekN n 0).kind = 24)) (ptE (ekN n 0))).1
  have hb1:=(qc5 (qbi (ekN n 1)) (ptE (ekN n 1))).1
  rw [hE] at hl ⊢
  simp only [List.length_append,List.length_cons,List.length_nil] at hl
  have p0:=ihE _ m0 h4 (by omega)
  have p1:=ihE _ m1 h5 (by omega)
  have hc0:=qe0 (b:=qbi (ekN n 0) || decide ((ekN n 0).kind = 24)) (qou (ekN n 0)) p0 (by omega)
  have hc1:=qe0 (b:=qbi (ekN n 1)) (qou (ekN n 1)) p1 (by omega)
  have g0:(encs n.kids).getD 0 .junk = enc (ekN n 0):=qc (by omega)
  have g1:(encs n.kids).getD 1 .junk = enc (ekN n 1):=qc (by omega)
  have hlf0:=qfc (ekN n 0)
  have hlf1:=qfc (ekN n 1)
  obtain ⟨e23,e24,e25,e26,e27,e28⟩:=kd_n h0
  simp only [Int.reduceEq,decide_false,decide_true] at e23 e24 e25 e26 e27 e28
  cases hb:qbi (ekN n 0) with
  | true =>
    rw [hb,Bool.true_or] at hc0 hb0 hl
    rw [hb] at hlf0
    unfold k0o
    obtain ⟨z7,h7⟩:∃ z,z = qzb:=⟨_,rfl⟩
    rw [← h7]
    repeat' (first | refine vs_ ?_ | ((first | refine vr_ ?_ | fail)<;>(try simp only [e23,e24,e25,e26,e27,e28,hwr,go_sem,↓reduceIte])) | ((first | (refine cs_ ?_ ?_<;>intro hc) | refine cj_ ?_ | simp (disch:=omega) only [qc,qs])<;>(try refine ev_ ?_)) | with_reducible exact ti_)
    subst h7
    unfold qzb
    refine qbbu 8 9 (by rfl) ?_ ?_
    ·simp only [qup,Nat.zero_add,Nat.reduceAdd,Nat.reduceEqDiff,if_false,if_true,List.filter,decide_true,decide_false,ne_eq,not_true_eq_false,not_false_eq_true]
     (simp (disch:=first | omega | (simp only [List.length_set,List.length_append,List.length_cons,List.length_nil];done) | (simp only [List.length_set,List.length_append,List.length_cons,List.length_nil];omega)) only [hkl2,g0,g1,go_sem,↓reduceIte])
     repeat' (first | refine vs_ ?_ | ((first | refine vr_ ?_ | fail)<;>(try simp only [hkl2,g0,g1,List.length_append,Bool.true_or,go_sem,↓reduceIte])) | ((first | (refine cs_ ?_ ?_<;>intro hc) | refine cj_ ?_ | simp (disch:=omega) only [qc,qs] | refine qa hc0 fun _=>?_ | refine qa hc1 fun _=>?_ | refine qa hlf0 fun _=>?_ | refine qa hlf1 fun _=>?_ | refine qj hc0 ?_ | refine qj hc1 ?_ | refine qj hlf0 ?_ | refine qj hlf1 ?_)<;>(try refine ev_ ?_)) | with_reducible exact ti_)
    ·simp only [qm2,qkd,posL,List.getElem?_cons_succ,List.getElem?_cons_zero,List.map_cons,List.map_nil,Nat.reduceAdd,Nat.reduceEqDiff,Nat.reduceLT,if_false,if_true,ne_eq,not_true_eq_false,not_false_eq_true,and_true,and_false,true_and,false_and]
     (simp (disch:=first | omega | (simp only [List.length_set,List.length_append,List.length_cons,List.length_nil];done) | (simp only [List.length_set,List.length_append,List.length_cons,List.length_nil];omega)) only [hkl2,g0,g1,go_sem,↓reduceIte])
     repeat' (first | refine vs_ ?_ | ((first | refine vr_ ?_ | fail)<;>(try simp only [hkl2,g0,g1,List.length_append,Bool.true_or,go_sem,↓reduceIte])) | ((first | (refine cs_ ?_ ?_<;>intro hc) | refine cj_ ?_ | simp (disch:=omega) only [qc,qs] | refine qa hc0 fun _=>?_ | refine qa hc1 fun _=>?_ | refine qa hlf0 fun _=>?_ | refine qa hlf1 fun _=>?_ | refine qj hc0 ?_ | refine qj hc1 ?_ | refine qj hlf0 ?_ | refine qj hlf1 ?_)<;>(try refine ev_ ?_)) | with_reducible exact ti_)
  | false =>
    rw [hb,Bool.false_or] at hc0 hb0 hl
    rw [hb] at hlf0
    unfold k0o
    obtain ⟨z7,h7⟩:∃ z,z = qzb:=⟨_,rfl⟩
    rw [← h7]
    repeat' (first | refine vs_ ?_ | ((first | refine vr_ ?_ | fail)<;>(try simp only [e23,e24,e25,e26,e27,e28,hwr,go_sem,↓reduceIte])) | ((first | (refine cs_ ?_ ?_<;>intro hc) | refine cj_ ?_ | simp (disch:=omega) only [qc,qs])<;>(try refine ev_ ?_)) | with_reducible exact ti_)
    subst h7
    unfold qzb
    refine qbbu 8 9 (by rfl) ?_ ?_
    ·simp only [qup,Nat.zero_add,Nat.reduceAdd,Nat.reduceEqDiff,if_false,if_true,List.filter,decide_true,decide_false,ne_eq,not_true_eq_false,not_false_eq_true]
     (simp (disch:=first | omega | (simp only [List.length_set,List.length_append,List.length_cons,List.length_nil];done) | (simp only [List.length_set,List.length_append,List.length_cons,List.length_nil];omega)) only [hkl2,g0,g1,go_sem,↓reduceIte])
     repeat' (first | refine vs_ ?_ | ((first | refine vr_ ?_ | fail)<;>(try simp only [hkl2,g0,g1,List.length_append,Bool.false_or,go_sem,↓reduceIte])) | ((first | (refine cs_ ?_ ?_<;>intro hc) | refine cj_ ?_ | simp (disch:=omega) only [qc,qs] | refine qa hc0 fun _=>?_ | refine qa hc1 fun _=>?_ | refine qa hlf0 fun _=>?_ | refine qa hlf1 fun _=>?_ | refine qj hc0 ?_ | refine qj hc1 ?_ | refine qj hlf0 ?_ | refine qj hlf1 ?_)<;>(try refine ev_ ?_)) | with_reducible exact ti_)
    ·simp only [qm2,qkd,posL,List.getElem?_cons_succ,List.getElem?_cons_zero,List.map_cons,List.map_nil,Nat.reduceAdd,Nat.reduceEqDiff,Nat.reduceLT,if_false,if_true,ne_eq,not_true_eq_false,not_false_eq_true,and_true,and_false,true_and,false_and]
     (simp (disch:=first | omega | (simp only [List.length_set,List.length_append,List.length_cons,List.length_nil];done) | (simp only [List.length_set,List.length_append,List.length_cons,List.length_nil];omega)) only [hkl2,g0,g1,go_sem,↓reduceIte])
     repeat' (first | refine vs_ ?_ | ((first | refine vr_ ?_ | fail)<;>(try simp only [hkl2,g0,g1,List.length_append,Bool.false_or,go_sem,↓reduceIte])) | ((first | (refine cs_ ?_ ?_<;>intro hc) | refine cj_ ?_ | simp (disch:=omega) only [qc,qs] | refine qa hc0 fun _=>?_ | refine qa hc1 fun _=>?_ | refine qa hlf0 fun _=>?_ | refine qa hlf1 fun _=>?_ | refine qj hc0 ?_ | refine qj hc1 ?_ | refine qj hlf0 ?_ | refine qj hlf1 ?_)<;>(try refine ev_ ?_)) | with_reducible exact ti_)
 ·have hkl1:n.kids.length = 1:=by rw [h2];rfl
  have m0:ekN n 0∈n.kids:=qi (by omega)
  simp only [h0,Int.reduceEq,if_false,if_true,hkl1,show (0 < 1) = True by simp] at hE
  change ptE n = [92,32] ++ (n.text ++ ([32,45,62,32] ++ ptE (ekN n 0))) at hE
  rw [hE] at hl ⊢
  simp only [List.length_append,List.length_cons,List.length_nil] at hl
  have p0:=ihE _ m0 h4 (by omega)
  obtain ⟨e23,e24,e25,e26,e27,e28⟩:=kd_n h0
  simp only [Int.reduceEq,decide_false,decide_true] at e23 e24 e25 e26 e27 e28
  repeat' (first | refine vs_ ?_ | ((first | refine vr_ ?_ | fail)<;>(try simp only [e23,e24,e25,e26,e27,e28,hwr,hkl1,List.length_append,go_sem,↓reduceIte])) | ((first | (refine cs_ ?_ ?_<;>intro hc) | refine cj_ ?_ | simp (disch:=omega) only [qc,qs] | refine q4l (n:=n) 1 0 (by omega) p0 ?_)<;>(try refine ev_ ?_)) | with_reducible exact ti_)
 ·have hpos:0 < n.kids.length:=by rw [h2];simp
  have m1:ekN n (n.kids.length - 1)∈n.kids:=qi (by omega)
  have hm:∀ x∈eitN n,x∈n.kids:=fun x hx=>List.mem_of_mem_take hx
  simp only [h0,Int.reduceEq,if_false,if_true,hpos] at hE
  change ptE n = [108,101,116,32] ++ (brW (Lib.join ((eitN n).map ptB) smW) ++ ([32,105,110,32] ++ ptE (ekN n (n.kids.length - 1)))) at hE
  have hbl:=(qwp (Lib.join ((eitN n).map ptB) smW)).1
  rw [hE] at hl ⊢
  simp only [List.length_append,List.length_cons,List.length_nil] at hl
  have hbs:(brW (Lib.join ((eitN n).map ptB) smW)).length + 4≤Big:=by omega
  have p1:=ihE _ m1 h6 (by omega)
  have hmem:∀ x∈eitN n,PD x∧ptD x = ptB x:=fun x hx=>by
   have:=qfq (m:=smW) (List.mem_map_of_mem (f:=ptB) hx)
   refine ⟨ihB x (hm x hx) (h4 x hx) (by omega),?_⟩
   rcases h4 x hx with h | h
   ·exact qui (.inl (qg3 h).1)
   ·exact qui (.inr (qg4 h).1)
  have hM2:=qhk hmem (by omega) (by rw [eitN,List.length_take];omega)
  have e1:((n.kids.length:Int) - 1).toNat = n.kids.length - 1:=by omega
  have g1:(encs n.kids).take (n.kids.length - 1) = encs (eitN n):=qiu _ _
  obtain ⟨e23,e24,e25,e26,e27,e28⟩:=kd_n h0
  simp only [Int.reduceEq,decide_false,decide_true] at e23 e24 e25 e26 e27 e28
  repeat' (first | refine vs_ ?_ | ((first | refine vr_ ?_ | fail)<;>(try simp only [e23,e24,e25,e26,e27,e28,hwr,e1,g1,List.length_append,go_sem,↓reduceIte])) | ((first | (refine cs_ ?_ ?_<;>intro hc) | refine cj_ ?_ | simp (disch:=omega) only [qc,qs] | refine qa hM2 fun _=>?_ | refine qsa (n:=n) 1 (n.kids.length - 1) (by omega) p1 ?_ | refine qj hM2 ?_)<;>(try refine ev_ ?_)) | with_reducible exact ti_)
 ·have hpos:0 < n.kids.length:=by rw [h2];simp
  have m0:ekN n 0∈n.kids:=qi (by omega)
  have hm:∀ x∈n.kids.drop 1,x∈n.kids:=fun x hx=>List.mem_of_mem_drop hx
  simp only [h0,Int.reduceEq,if_false,if_true,hpos] at hE
  change ptE n = [99,97,115,101,32] ++ (ptE (ekN n 0) ++ ([32,111,102,32] ++ brW (Lib.join ((n.kids.drop 1).map ptL) smW))) at hE
  have hbl:=(qwp (Lib.join ((n.kids.drop 1).map ptL) smW)).1
  rw [hE] at hl ⊢
  simp only [List.length_append,List.length_cons,List.length_nil] at hl
  have p0:=ihE _ m0 h4 (by omega)
  have hmem:∀ x∈n.kids.drop 1,qx Tryz.prog 138 [enc x] (.str (ptL x)):=fun x hx=>by
   have:=qfq (m:=smW) (List.mem_map_of_mem (f:=ptL) hx)
   exact ihL x (hm x hx) (h5 x hx) (by omega)
  have hj:=qcz (m:=[59,32]) hmem (by show (Lib.join ((n.kids.drop 1).map ptL) smW).length≤Big;omega) (by rw [List.length_drop];omega)
  have hj:qx Tryz.prog 44 [.sl 5 (encs (n.kids.drop 1)),.str [59,32],.fn 138 [] []] (.str (Lib.join ((n.kids.drop 1).map ptL) smW)):=hj
  have hbr:=qmc (Lib.join ((n.kids.drop 1).map ptL) smW) (by omega)
  have g1:(encs n.kids).drop 1 = encs (n.kids.drop 1):=qhv _ _
  obtain ⟨e23,e24,e25,e26,e27,e28⟩:=kd_n h0
  simp only [Int.reduceEq,decide_false,decide_true] at e23 e24 e25 e26 e27 e28
  repeat' (first | refine vs_ ?_ | ((first | refine vr_ ?_ | fail)<;>(try simp only [e23,e24,e25,e26,e27,e28,hwr,g1,List.length_append,go_sem,↓reduceIte])) | ((first | (refine cs_ ?_ ?_<;>intro hc) | refine cj_ ?_ | simp (disch:=omega) only [qc,qs] | refine qa hj fun _=>?_ | refine qa hbr fun _=>?_ | refine q4l (n:=n) 1 0 (by omega) p0 ?_ | refine qj hj ?_ | refine qj hbr ?_)<;>(try refine ev_ ?_)) | with_reducible exact ti_)
 ·have hkl3:n.kids.length = 3:=by rw [h2];rfl
  have m0:ekN n 0∈n.kids:=qi (by omega)
  have m1:ekN n 1∈n.kids:=qi (by omega)
  have m2:ekN n 2∈n.kids:=qi (by omega)
  simp only [h0,Int.reduceEq,if_false,if_true,hkl3,show (0 < 3) = True by simp,show (1 < 3) = True by simp,show (2 < 3) = True by simp] at hE
  change ptE n = [105,102,32] ++ (ptE (ekN n 0) ++ ([32,116,104,101,110,32] ++ (ptE (ekN n 1) ++ ([32,101,108,115,101,32] ++ ptE (ekN n 2))))) at hE
  rw [hE] at hl ⊢
  simp only [List.length_append,List.length_cons,List.length_nil] at hl
  have p0:=ihE _ m0 h4 (by omega)
  have p1:=ihE _ m1 h5 (by omega)
  have p2:=ihE _ m2 h6 (by omega)
  obtain ⟨e23,e24,e25,e26,e27,e28⟩:=kd_n h0
  simp only [Int.reduceEq,decide_false,decide_true] at e23 e24 e25 e26 e27 e28
  repeat' (first | refine vs_ ?_ | ((first | refine vr_ ?_ | fail)<;>(try simp only [e23,e24,e25,e26,e27,e28,hwr,hkl3,List.length_append,go_sem,↓reduceIte])) | ((first | (refine cs_ ?_ ?_<;>intro hc) | refine cj_ ?_ | simp (disch:=omega) only [qc,qs] | refine qsa (n:=n) 1 0 (by omega) p0 ?_ | refine qsa (n:=n) 1 1 (by omega) p1 ?_ | refine qsa (n:=n) 1 2 (by omega) p2 ?_)<;>(try refine ev_ ?_)) | with_reducible exact ti_)
set_option maxRecDepth 4000

theorem qgp:∀ n,sz n≤1000000->(exW n = true->(ptE n).length + 4≤Big->PE n)∧((biW n = true∨sgW n = true)->(ptB n).length + 4≤Big->PD n)∧(alW n = true->(ptL n).length + 4≤Big->qx Tryz.prog 138 [enc n] (.str (ptL n))):=N.ind fun n ih hs=>by
 have hk:∀ x∈n.kids,sz x≤1000000:=fun x hx=>by have:=qlo hx;omega
 refine ⟨fun h hl=>q27 h hs hl (fun x hx=>(ih x hx (hk x hx)).1) (fun x hx=>(ih x hx (hk x hx)).2.1) (fun x hx=>(ih x hx (hk x hx)).2.2),fun h hl=>?_,fun h hl=>?_⟩
 ·rcases h with h | h
  ·obtain ⟨h1,h2,h3,h4,h5⟩:=qg3 h
   have hkl:n.kids.length = 1:=by rw [h4];rfl
   have m0:ekN n 0∈n.kids:=qi (by omega)
   have he:ptB n = n.text ++ ([32,61,32] ++ ptE (ekN n 0)):=by rw [qmb,if_pos h1,if_pos (by omega)];rfl
   exact qy9 h ((ih _ m0 (hk _ m0)).1 h5 (by rw [he] at hl;simp only [List.length_append] at hl;omega)) hl
  ·exact q2u h hs hl
 ·obtain ⟨h1,h2,h3,h4,h5,h6⟩:=qjv h
  have hkl:n.kids.length = 2:=by rw [h4];rfl
  have m1:ekN n 1∈n.kids:=qi (by omega)
  have he:ptL n = ptP (ekN n 0) ++ ([32,45,62,32] ++ ptE (ekN n 1)):=by rw [qti,if_pos (by omega)];rfl
  exact q2h h hs ((ih _ m1 (hk _ m1)).1 h6 (by rw [he] at hl;simp only [List.length_append] at hl;omega)) hl
theorem kd_d {n:N} {k:Int} (h:n.kind = k):decide (n.kind = 31) = decide (k = 31)∧decide (n.kind = 32) = decide (k = 32)∧decide (n.kind = 33) = decide (k = 33)∧decide (n.kind = 35) = decide (k = 35):=by
 rw [h];exact ⟨rfl,rfl,rfl,rfl⟩
theorem dwr {n:N} (h3:((ahN n).length:Int) = n.num):(n.num.toNat:Int) = n.num∧n.num.toNat≤n.kids.length:=by
 have:(ahN n).length≤n.kids.length:=by rw [ahN,List.length_take];omega
 have h2:(ahN n).length = min n.num.toNat n.kids.length:=by rw [ahN,List.length_take]
 omega
set_option maxHeartbeats 2000000 in
theorem qpv {n:N} (ht:deW n = true) (hs:sz n≤1000000) (hl:(ptD n).length + 4≤Big):PD n:=by
 have hkl:=qrs n
 have hM:=qmo
 have hsk:∀ x∈n.kids,sz x≤1000000:=fun x hx=>by have:=qlo hx;omega
 rcases qn1 ht with ⟨h0,h1⟩ | ⟨h0,h1⟩ | ⟨h0,h1,h2,h3,h4,h5,h6⟩ | ⟨h0,h1,h2,h3,h5,h6,h7⟩ | ⟨h0,h1,h2,h3,h5,h6,h7⟩
 ·rw [qui (.inl h0)] at hl
  exact (qgp n hs).2.1 (.inl h1) hl
 ·rw [qui (.inr h0)] at hl
  exact (qgp n hs).2.1 (.inr h1) hl
 ·refine qkp (qn c0m (by simp) (by simp only [go_sem]) rfl fun hw=>?_)
  obtain ⟨w1,w2⟩:=dwr h3
  have hpos:n.num.toNat < n.kids.length:=by
   rcases Nat.lt_or_ge n.num.toNat n.kids.length with h | h
   ·exact h
   ·exact absurd (show beN n = [] from List.drop_of_length_le h) h4
  have hma:∀ x∈ahN n,x∈n.kids:=fun x hx=>List.mem_of_mem_take hx
  have hmb:∀ x∈beN n,x∈n.kids:=fun x hx=>List.mem_of_mem_drop hx
  have hD:ptD n = [100,97,116,97,32] ++ (n.text ++ (Lib.join ((ahN n).map atT) [] ++ ([32,61,32] ++ Lib.join ((beN n).map ptT) [32,124,32]))):=by
   simp only [ptD,h0,Int.reduceEq,or_self,if_false,if_true,qgd]
  rw [hD] at hl ⊢
  simp only [List.length_append,List.length_cons,List.length_nil] at hl
  have hj1:=qcz (l:=ahN n) (g:=atT) (m:=[]) (fun x hx=>qe9 (qd3 x (qub (h5 x hx)).2 (hsk x (hma x hx)) (by
   have e1:=qfq (m:=[]) (List.mem_map_of_mem (f:=atT) hx)
   have e2:=(qc5 (qbi x) (ptT x)).1
   have e3:(atT x).length = (cloW (qbi x) (ptT x)).length + 1:=rfl
   omega)) (by
   have e1:=qfq (m:=[]) (List.mem_map_of_mem (f:=atT) hx)
   have e2:=(qc5 (qbi x) (ptT x)).1
   have e3:(atT x).length = (cloW (qbi x) (ptT x)).length + 1:=rfl
   omega)) (by omega) (by rw [ahN,List.length_take];omega)
  have hc1:∀ x∈beN n,qx Tryz.prog 139 [enc x] (.str (ptT x)):=fun x hx=>by
   have e1:=qfq (m:=[32,124,32]) (List.mem_map_of_mem (f:=ptT) hx)
   have hp:=qy0 (h6 x hx) (hsk x (hmb x hx)) (by omega)
   unfold PT at hp
   refine qn c0n (by simp) (by simp only [go_sem]) rfl fun hw=>?_
   repeat' (first | refine vs_ ?_ | ((first | refine vr_ ?_ | refine qa hp fun _=>?_ | refine qj hp ?_ | (refine cs_ ?_ ?_<;>intro hc) | refine cj_ ?_ | simp (disch:=omega) only [qc,qs])<;>(try refine ev_ ?_)) | with_reducible exact ti_)
  have hj2:=qcz (l:=beN n) (m:=[32,124,32]) hc1 (by omega) (by rw [beN,List.length_drop];omega)
  obtain ⟨e31,e32,e33,e35⟩:=kd_d h0
  simp only [Int.reduceEq,decide_false,decide_true] at e31 e32 e33 e35
  have g1:(encs n.kids).take n.num.toNat = encs (ahN n):=qiu _ _
  have g2:(encs n.kids).drop n.num.toNat = encs (beN n):=qhv _ _
  repeat' (first | refine vs_ ?_ | ((first | refine vr_ ?_ | fail)<;>(try simp only [e31,e32,e33,e35,w1,g1,g2,List.length_append,go_sem,↓reduceIte])) | ((first | (refine cs_ ?_ ?_<;>intro hc) | refine cj_ ?_ | simp (disch:=omega) only [qc,qs] | refine qa hj1 fun _=>?_ | refine qa hj2 fun _=>?_ | refine qj hj1 ?_ | refine qj hj2 ?_)<;>(try refine ev_ ?_)) | with_reducible exact ti_)
 ·refine qkp (qn c0m (by simp) (by simp only [go_sem]) rfl fun hw=>?_)
  obtain ⟨w1,w2⟩:=dwr h3
  have hlen:0 < (beN n).length∧n.num.toNat < n.kids.length:=by
   have e1:=congrArg List.length h2
   have e2:(ahN n).length = n.num.toNat:=by omega
   have e3:(beN n).length = n.kids.length - n.num.toNat:=by rw [beN,List.length_drop]
   simp only [List.length_append,List.length_cons] at e1
   omega
  have hma:∀ x∈ahN n,x∈n.kids:=fun x hx=>List.mem_of_mem_take hx
  have hm0:(beN n).getD 0 N0∈n.kids:=by rw [h2];simp
  have hmb:∀ x∈(beN n).drop 1,x∈n.kids:=fun x hx=>by rw [h2];simp only [List.mem_append,List.mem_cons];exact .inr (.inr hx)
  have hD:ptD n = [99,108,97,115,115,32] ++ (ctT (ahN n) ++ (n.text ++ (atT ((beN n).getD 0 N0) ++ ([32,119,104,101,114,101,32] ++ brW (Lib.join (((beN n).drop 1).map ptB) smW))))):=by
   simp only [ptD,h0,Int.reduceEq,or_self,if_false,if_true];rfl
  have hbl:=(qwp (Lib.join (((beN n).drop 1).map ptB) smW)).1
  have hal:=(qc5 (qbi ((beN n).getD 0 N0)) (ptT ((beN n).getD 0 N0))).1
  have hat:(atT ((beN n).getD 0 N0)).length = (cloW (qbi ((beN n).getD 0 N0)) (ptT ((beN n).getD 0 N0))).length + 1:=rfl
  rw [hD] at hl ⊢
  simp only [List.length_append,List.length_cons,List.length_nil] at hl
  have hc:=qhp (l:=ahN n) (fun x hx=>⟨h5 x hx,hsk x (hma x hx)⟩) (by rw [ahN,List.length_take];omega) (by omega)
  have ha:=qe9 (qd3 _ (qub h6).2 (hsk _ hm0) (by omega)) (by omega)
  have hmem:∀ x∈(beN n).drop 1,PD x∧ptD x = ptB x:=fun x hx=>by
   have e1:=qfq (m:=smW) (List.mem_map_of_mem (f:=ptB) hx)
   exact ⟨(qgp x (hsk x (hmb x hx))).2.1 (.inr (h7 x hx)) (by omega),qui (.inr (qg4 (h7 x hx)).1)⟩
  have hM2:=qhk hmem (by omega) (by rw [List.length_drop,beN,List.length_drop];omega)
  obtain ⟨e31,e32,e33,e35⟩:=kd_d h0
  simp only [Int.reduceEq,decide_false,decide_true] at e31 e32 e33 e35
  have g1:(encs n.kids).take n.num.toNat = encs (ahN n):=qiu _ _
  have g2:(encs n.kids).drop n.num.toNat = encs (beN n):=qhv _ _
  have g3:(encs (beN n)).drop 1 = encs ((beN n).drop 1):=qhv _ _
  have g4:(encs (beN n)).getD 0 .junk = enc ((beN n).getD 0 N0):=qc hlen.1
  have hlb:(beN n).length = n.kids.length - n.num.toNat:=by rw [beN,List.length_drop]
  repeat' (first | refine vs_ ?_ | ((first | refine vr_ ?_ | fail)<;>(try simp only [e31,e32,e33,e35,w1,g1,g2,g3,g4,List.length_append,go_sem,↓reduceIte])) | ((first | (refine cs_ ?_ ?_<;>intro hc) | refine cj_ ?_ | simp (disch:=omega) only [qc,qs] | refine qa hc fun _=>?_ | refine qa ha fun _=>?_ | refine qa hM2 fun _=>?_ | refine qj hc ?_ | refine qj ha ?_ | refine qj hM2 ?_)<;>(try refine ev_ ?_)) | with_reducible exact ti_)
 ·refine qkp (qn c0m (by simp) (by simp only [go_sem]) rfl fun hw=>?_)
  obtain ⟨w1,w2⟩:=dwr h3
  have hlen:0 < (beN n).length∧n.num.toNat < n.kids.length:=by
   have e1:=congrArg List.length h2
   have e2:(ahN n).length = n.num.toNat:=by omega
   have e3:(beN n).length = n.kids.length - n.num.toNat:=by rw [beN,List.length_drop]
   simp only [List.length_append,List.length_cons] at e1
   omega
  have hma:∀ x∈ahN n,x∈n.kids:=fun x hx=>List.mem_of_mem_take hx
  have hm0:(beN n).getD 0 N0∈n.kids:=by rw [h2];simp
  have hmb:∀ x∈(beN n).drop 1,x∈n.kids:=fun x hx=>by rw [h2];simp only [List.mem_append,List.mem_cons];exact .inr (.inr hx)
  have hD:ptD n = [105,110,115,116,97,110,99,101,32] ++ (ctT (ahN n) ++ (n.text ++ (atT ((beN n).getD 0 N0) ++ ([32,119,104,101,114,101,32] ++ brW (Lib.join (((beN n).drop 1).map ptB) smW))))):=by
   simp only [ptD,h0,Int.reduceEq,or_self,if_false,if_true];rfl
  have hbl:=(qwp (Lib.join (((beN n).drop 1).map ptB) smW)).1
  have hal:=(qc5 (qbi ((beN n).getD 0 N0)) (ptT ((beN n).getD 0 N0))).1
  have hat:(atT ((beN n).getD 0 N0)).length = (cloW (qbi ((beN n).getD 0 N0)) (ptT ((beN n).getD 0 N0))).length + 1:=rfl
  rw [hD] at hl ⊢
  simp only [List.length_append,List.length_cons,List.length_nil] at hl
  have hc:=qhp (l:=ahN n) (fun x hx=>⟨h5 x hx,hsk x (hma x hx)⟩) (by rw [ahN,List.length_take];omega) (by omega)
  have ha:=qe9 (qd3 _ h6 (hsk _ hm0) (by omega)) (by omega)
  have hmem:∀ x∈(beN n).drop 1,PD x∧ptD x = ptB x:=fun x hx=>by
   have e1:=qfq (m:=smW) (List.mem_map_of_mem (f:=ptB) hx)
   exact ⟨(qgp x (hsk x (hmb x hx))).2.1 (.inl (h7 x hx)) (by omega),qui (.inl (qg3 (h7 x hx)).1)⟩
  have hM2:=qhk hmem (by omega) (by rw [List.length_drop,beN,List.length_drop];omega)
  obtain ⟨e31,e32,e33,e35⟩:=kd_d h0
  simp only [Int.reduceEq,decide_false,decide_true] at e31 e32 e33 e35
  have g1:(encs n.kids).take n.num.toNat = encs (ahN n):=qiu _ _
  have g2:(encs n.kids).drop n.num.toNat = encs (beN n):=qhv _ _
  have g3:(encs (beN n)).drop 1 = encs ((beN n).drop 1):=qhv _ _
  have g4:(encs (beN n)).getD 0 .junk = enc ((beN n).getD 0 N0):=qc hlen.1
  have hlb:(beN n).length = n.kids.length - n.num.toNat:=by rw [beN,List.length_drop]
  repeat' (first | refine vs_ ?_ | ((first | refine vr_ ?_ | fail)<;>(try simp only [e31,e32,e33,e35,w1,g1,g2,g3,g4,List.length_append,go_sem,↓reduceIte])) | ((first | (refine cs_ ?_ ?_<;>intro hc) | refine cj_ ?_ | simp (disch:=omega) only [qc,qs] | refine qa hc fun _=>?_ | refine qa ha fun _=>?_ | refine qa hM2 fun _=>?_ | refine qj hc ?_ | refine qj ha ?_ | refine qj hM2 ?_)<;>(try refine ev_ ?_)) | with_reducible exact ti_)
set_option maxRecDepth 4000

def orE (b:Bool) (s:List UInt8):List UInt8:=if b = true then s else []
def outT (n:N):List UInt8:=orE (lowW n && tyW n) (ptT n)
def outP (n:N):List UInt8:=orE (lowW n && paW n) (ptP n)
def outE (n:N):List UInt8:=orE (lowW n && exW n) (ptE n)
def sigN (n:N):N:=.mk 32 0 0 [120] [n]
def outQ (n:N):List UInt8:=orE (qij (sigN n)) (quT n)
def outD (n:N):List UInt8:=orE (!decide (n.kind = 37) && qij n) (ptD n)
def outG (n:N):List UInt8:=orE (decide (n.kind = 37) && qij n) (ptG n)
theorem qj6 {x:AV} {s:List UInt8} {b:Bool} (hx:x.bd 0 = true) (h:b = true->qx Tryz.prog 46 [x] (.str s)):qx Tryz.prog 33 [.bool b,x] (.str (orE b s)):=by
 refine qn c0e (by simp) (by simp only [AV.bds,AV.bd,hx];rfl) rfl fun hw=>?_
 cases b with
 | true =>
   have h:=h rfl
   repeat' (first | refine vs_ ?_ | ((first | refine vr_ ?_ | refine qa h fun _=>?_ | (refine cs_ ?_ ?_<;>intro hc) | refine cj_ ?_ | fail)<;>(try refine ev_ ?_)) | with_reducible exact ti_)
   all_goals rfl
 | false =>
   repeat' (first | refine vs_ ?_ | ((first | refine vr_ ?_ | (refine cs_ ?_ ?_<;>intro hc) | refine cj_ ?_ | fail)<;>(try refine ev_ ?_)) | with_reducible exact ti_)
   all_goals rfl
theorem q0w {n:N} (hs:sz n≤1000000) (hl:(outT n).length + 4≤Big):qx Tryz.prog 9 [enc n] (.str (outT n)):=by
 refine qn c0f (by simp) (by simp only [go_sem]) rfl fun hw=>?_
 have h1:=q7h n
 have h2:=qj6 (b:=lowW n && tyW n) (s:=ptT n) (qou (t:=37) n) fun hb=>by
  rw [outT,orE,if_pos hb] at hl
  rw [Bool.and_eq_true] at hb
  exact qd3 n hb.2 hs (by omega)
 repeat' (first | refine vs_ ?_ | ((first | refine vr_ ?_ | refine qa h1 fun _=>?_ | refine qa h2 fun _=>?_ | refine qj h1 ?_ | refine qj h2 ?_ | (refine cs_ ?_ ?_<;>intro hc) | refine cj_ ?_ | fail)<;>(try refine ev_ ?_)) | with_reducible exact ti_)
 all_goals rfl
theorem q3b {n:N} (hs:sz n≤1000000) (hl:(outP n).length + 4≤Big):qx Tryz.prog 13 [enc n] (.str (outP n)):=by
 refine qn c0g (by simp) (by simp only [go_sem]) rfl fun hw=>?_
 have h1:=qbav n
 have h2:=qj6 (b:=lowW n && paW n) (s:=ptP n) (qou (t:=38) n) fun hb=>by
  rw [outP,orE,if_pos hb] at hl
  rw [Bool.and_eq_true] at hb
  exact qpo n hb.2 hs (by omega)
 repeat' (first | refine vs_ ?_ | ((first | refine vr_ ?_ | refine qa h1 fun _=>?_ | refine qa h2 fun _=>?_ | refine qj h1 ?_ | refine qj h2 ?_ | (refine cs_ ?_ ?_<;>intro hc) | refine cj_ ?_ | fail)<;>(try refine ev_ ?_)) | with_reducible exact ti_)
 all_goals rfl
theorem qtr {n:N} (hs:sz n≤1000000) (hl:(outE n).length + 4≤Big):qx Tryz.prog 15 [enc n] (.str (outE n)):=by
 refine qn c0h (by simp) (by simp only [go_sem]) rfl fun hw=>?_
 have h1:=qbf5 n
 have h2:=qj6 (b:=lowW n && exW n) (s:=ptE n) (qou (t:=39) n) fun hb=>by
  rw [outE,orE,if_pos hb] at hl
  rw [Bool.and_eq_true] at hb
  exact (qgp n hs).1 hb.2 (by omega)
 repeat' (first | refine vs_ ?_ | ((first | refine vr_ ?_ | refine qa h1 fun _=>?_ | refine qa h2 fun _=>?_ | refine qj h1 ?_ | refine qj h2 ?_ | (refine cs_ ?_ ?_<;>intro hc) | refine cj_ ?_ | fail)<;>(try refine ev_ ?_)) | with_reducible exact ti_)
 all_goals rfl
theorem qchc {n:N} (h:qij (sigN n) = true):lowW (sigN n) = true∧quW n = true:=by
 unfold qij at h
 rw [if_neg (show ¬ (sigN n).kind = 37 by show ¬ (32:Int) = 37;decide),Bool.and_eq_true] at h
 refine ⟨h.1,?_⟩
 have h2:=h.2
 unfold deW at h2
 rw [if_neg (show ¬ (sigN n).kind = 31 by show ¬ (32:Int) = 31;decide),if_pos (show (sigN n).kind = 32 from rfl)] at h2
 exact (qg4 h2).2.2.2.2
theorem qzt {n:N} (hs:sz n≤900000) (hl:(outQ n).length + 4≤Big):qx Tryz.prog 11 [enc n] (.str (outQ n)):=by
 refine qn c0i (by simp) (by simp only [go_sem]) rfl fun hw=>?_
 have h1:=qok (sigN n)
 have h1:qx Tryz.prog 30 [.agg [.int .i64 32,.int .i64 0,.int .i64 0,.str [120],.sl 5 [enc n]]] (.bool (qij (sigN n))):=h1
 cases hb:qij (sigN n) with
 | true =>
   rw [hb] at h1
   rw [outQ,orE,hb,if_pos rfl] at hl ⊢
   have h2:=qpk (qchc hb).2 (by omega) hl
   repeat' (first | refine vs_ ?_ | ((first | refine vr_ ?_ | refine qa h1 fun _=>?_ | refine qa h2 fun _=>?_ | (refine cs_ ?_ ?_<;>intro hc) | refine cj_ ?_ | fail)<;>(try refine ev_ ?_)) | with_reducible exact ti_)
 | false =>
   rw [hb] at h1
   rw [outQ,orE,hb,if_neg Bool.false_ne_true]
   repeat' (first | refine vs_ ?_ | ((first | refine vr_ ?_ | refine qa h1 fun _=>?_ | (refine cs_ ?_ ?_<;>intro hc) | refine cj_ ?_ | fail)<;>(try refine ev_ ?_)) | with_reducible exact ti_)
theorem qbw2 {n:N} (h0:¬ n.kind = 37) (h:qij n = true):lowW n = true∧deW n = true:=by
 unfold qij at h
 rw [if_neg h0,Bool.and_eq_true] at h
 exact h
theorem qr8 {n:N} (h0:n.kind = 37) (h:qij n = true):lowW n = true∧qmt n = true∧∀ x∈n.kids,deW x = true:=by
 unfold qij at h
 rw [if_pos h0,Bool.and_eq_true,Bool.and_eq_true,List.all_eq_true] at h
 exact ⟨h.1.1,h.1.2,h.2⟩
theorem q0o {n:N} (hs:sz n≤1000000) (hl:(outD n).length + 4≤Big):qx Tryz.prog 17 [enc n] (.str (outD n)):=by
 refine qn c0j (by simp) (by simp only [go_sem]) rfl fun hw=>?_
 have h1:=qok n
 have h2:=qj6 (b:=!decide (n.kind = 37) && qij n) (s:=ptD n) (qou (t:=40) n) fun hb=>by
  rw [outD,orE,if_pos hb] at hl
  rw [Bool.and_eq_true,Bool.not_eq_true',decide_eq_false_iff_not] at hb
  have:=qpv (qbw2 hb.1 hb.2).2 hs hl
  exact this
 by_cases h0:n.kind = 37
 ·have e:decide (n.kind = 37) = true:=decide_eq_true h0
  rw [e,Bool.not_true,Bool.false_and] at h2
  rw [outD,e,Bool.not_true,Bool.false_and]
  repeat' (first | refine vs_ ?_ | ((first | refine vr_ ?_ | fail)<;>(try simp only [e,go_sem,↓reduceIte])) | ((first | (refine cs_ ?_ ?_<;>intro hc) | refine cj_ ?_ | fail | refine qa h1 fun _=>?_ | refine qa h2 fun _=>?_ | refine qj h1 ?_ | refine qj h2 ?_)<;>(try refine ev_ ?_)) | with_reducible exact ti_)
 ·have e:decide (n.kind = 37) = false:=decide_eq_false h0
  rw [e,Bool.not_false,Bool.true_and] at h2
  rw [outD,e,Bool.not_false,Bool.true_and]
  repeat' (first | refine vs_ ?_ | ((first | refine vr_ ?_ | fail)<;>(try simp only [e,go_sem,↓reduceIte])) | ((first | (refine cs_ ?_ ?_<;>intro hc) | refine cj_ ?_ | fail | refine qa h1 fun _=>?_ | refine qa h2 fun _=>?_ | refine qj h1 ?_ | refine qj h2 ?_)<;>(try refine ev_ ?_)) | with_reducible exact ti_)
theorem qhx {n:N} (hs:sz n≤1000000) (hl:(outG n).length + 4≤Big):qx Tryz.prog 19 [enc n] (.str (outG n)):=by
 refine qn c0k (by simp) (by simp only [go_sem]) rfl fun hw=>?_
 have h1:=qok n
 have hM:=qmo
 have hkl:=qrs n
 by_cases h0:n.kind = 37
 ·have e:decide (n.kind = 37) = true:=decide_eq_true h0
  rw [outG,e,Bool.true_and] at hl ⊢
  cases hb:qij n with
  | true =>
    rw [hb] at h1
    rw [orE,hb,if_pos rfl] at hl
    rw [orE,if_pos rfl]
    have hG:ptG n = Lib.join (n.kids.map fun x=>ptD x ++ [59,10]) []:=by rw [qgd];rfl
    rw [hG] at hl ⊢
    have hj:=qcz (l:=n.kids) (so:=45) (g:=fun x=>ptD x ++ [59,10]) (m:=[]) (fun x hx=>by
     have e1:=qfq (m:=[]) (List.mem_map_of_mem (f:=fun x=>ptD x ++ [59,10]) hx)
     simp only [List.length_append,List.length_cons,List.length_nil] at e1
     have hp:=qpv ((qr8 h0 hb).2.2 x hx) (by have:=qlo hx;omega) (by omega)
     unfold PD at hp
     refine qn c0l (by simp) (by simp only [go_sem]) rfl fun hw=>?_
     repeat' (first | refine vs_ ?_ | ((first | refine vr_ ?_ | fail)<;>(try simp only [List.length_append,go_sem,↓reduceIte])) | ((first | (refine cs_ ?_ ?_<;>intro hc) | refine cj_ ?_ | fail | refine qa hp fun _=>?_)<;>(try refine ev_ ?_)) | with_reducible exact ti_)) (by omega) (by omega)
    repeat' (first | refine vs_ ?_ | ((first | refine vr_ ?_ | fail)<;>(try simp only [e,go_sem,↓reduceIte])) | ((first | (refine cs_ ?_ ?_<;>intro hc) | refine cj_ ?_ | fail | refine qa h1 fun _=>?_ | refine qa hj fun _=>?_)<;>(try refine ev_ ?_)) | with_reducible exact ti_)
  | false =>
    rw [hb] at h1
    rw [orE,if_neg Bool.false_ne_true]
    repeat' (first | refine vs_ ?_ | ((first | refine vr_ ?_ | fail)<;>(try simp only [e,go_sem,↓reduceIte])) | ((first | (refine cs_ ?_ ?_<;>intro hc) | refine cj_ ?_ | fail | refine qa h1 fun _=>?_)<;>(try refine ev_ ?_)) | with_reducible exact ti_)
 ·have e:decide (n.kind = 37) = false:=decide_eq_false h0
  rw [outG,e,Bool.false_and,orE,if_neg Bool.false_ne_true]
  repeat' (first | refine vs_ ?_ | ((first | refine vr_ ?_ | fail)<;>(try simp only [e,go_sem,↓reduceIte])) | ((first | (refine cs_ ?_ ?_<;>intro hc) | refine cj_ ?_ | fail | refine qa h1 fun _=>?_)<;>(try refine ev_ ?_)) | with_reducible exact ti_)
end Go.Proofs.YtlmcofjcpadmiaaGreat
