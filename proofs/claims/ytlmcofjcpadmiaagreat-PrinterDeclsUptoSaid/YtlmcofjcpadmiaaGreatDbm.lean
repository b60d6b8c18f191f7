/- Texts of this proof, joined. -/
import Derived.Test.YtlmcofjcpadmiaaGreatDbk
import Derived.Test.YtlmcofjcpadmiaaGreatDbl
set_option linter.unusedVariables false
set_option linter.unusedSimpArgs false

/- trees that are written: the program's walk: expressions -/
set_option maxRecDepth 4000
namespace Go.Proofs.YtlmcofjcpadmiaaGreat
open Go Go.RowKit Go.V

theorem kd_n {n:N} {k:Int} (h:n.kind = k):decide (n.kind = 23) = decide (k = 23)∧decide (n.kind = 24) = decide (k = 24)∧decide (n.kind = 25) = decide (k = 25)∧decide (n.kind = 26) = decide (k = 26)∧decide (n.kind = 27) = decide (k = 27)∧decide (n.kind = 28) = decide (k = 28):=by
 rw [h];exact ⟨rfl,rfl,rfl,rfl,rfl,rfl⟩
set_option maxHeartbeats 4000000 in
theorem qyh {n:N} (ht:exW n = true) (hs:sz n≤1000000) (hl:(ptE n).length + 4≤Big)
 (ihE:∀ x∈n.kids,exW x = true->(ptE x).length + 4≤Big->PE x) (ihB:∀ x∈n.kids,biW x = true∨sgW x = true->(ptB x).length + 4≤Big->PD x) (ihL:∀ x∈n.kids,alW x = true->(ptL x).length + 4≤Big->qq Tryz.prog 138 [enc x] (.str (ptL x))):PE n:=by
 refine qbhc (qg c0o (by simp) (by simp only [go_sem]) rfl fun hw=>?_)
 have hM:=qj6
 have hkl:=qo1 n
 have hwr:IntKind.i64.wrap ((n.kids.length:Int) - 1) = (n.kids.length:Int) - 1:=q3z (by omega) (by omega)
 have hE:=q4m n
 rcases qgs ht with ⟨h0,h1,h2,h3⟩ | ⟨h0,h1,h2,h3⟩ | ⟨h0,h1,h2,h3⟩ | ⟨h0,h1,h2,h3,h4,h5⟩ | ⟨h0,h1,h2,h3,h4⟩ | ⟨h0,h1,h2,h3,h4,h5,h6⟩ | ⟨h0,h1,h2,h3,h4,h5,h6⟩ | ⟨h0,h1,h2,h3,h4,h5,h6⟩
 ·simp only [h0,Int.reduceEq,if_false,if_true] at hE
  rw [hE]
  obtain ⟨e23,e24,e25,e26,e27,e28⟩:=kd_n h0
  simp only [Int.reduceEq,decide_false,decide_true] at e23 e24 e25 e26 e27 e28
  repeat' (first | refine vs_ ?_ | ((first | refine vr_ ?_ | fail)<;>(try simp only [e23,e24,e25,e26,e27,e28,hwr,go_sem,↓reduceIte])) | ((first | (refine cs_ ?_ ?_<;>intro hc) | refine cj_ ?_ | simp (disch:=omega) only [qb,qm])<;>(try refine ev_ ?_)) | with_reducible exact ti_)
 ·simp only [h0,Int.reduceEq,if_false,if_true] at hE
  rw [hE]
  obtain ⟨e23,e24,e25,e26,e27,e28⟩:=kd_n h0
  simp only [Int.reduceEq,decide_false,decide_true] at e23 e24 e25 e26 e27 e28
  repeat' (first | refine vs_ ?_ | ((first | refine vr_ ?_ | fail)<;>(try simp only [e23,e24,e25,e26,e27,e28,hwr,go_sem,↓reduceIte])) | ((first | (refine cs_ ?_ ?_<;>intro hc) | refine cj_ ?_ | simp (disch:=omega) only [qb,qm])<;>(try refine ev_ ?_)) | with_reducible exact ti_)
 ·simp only [h0,Int.reduceEq,if_false,if_true] at hE
  rw [hE]
  obtain ⟨e23,e24,e25,e26,e27,e28⟩:=kd_n h0
  simp only [Int.reduceEq,decide_false,decide_true] at e23 e24 e25 e26 e27 e28
  repeat' (first | refine vs_ ?_ | ((first | refine vr_ ?_ | fail)<;>(try simp only [e23,e24,e25,e26,e27,e28,hwr,go_sem,↓reduceIte])) | ((first | (refine cs_ ?_ ?_<;>intro hc) | refine cj_ ?_ | simp (disch:=omega) only [qb,qm] | refine qa (qku n.num) fun _=>?_ | refine qe (qku n.num) ?_)<;>(try refine ev_ ?_)) | with_reducible exact ti_)
 ·have hkl2:n.kids.length = 2:=by rw [h2];rfl
  have m0:ekN n 0∈n.kids:=qf (by omega)
  have m1:ekN n 1∈n.kids:=qf (by omega)
  simp only [h0,Int.reduceEq,if_false,if_true,hkl2,show (0 < 2) = True by simp,show (1 < 2) = True by simp] at hE
  change ptE n = cloW (qba (ekN n 0) || decide ((ekN n 0).kind = 24)) (ptE (ekN n 0)) ++ 32 :: cloW (qba (ekN n 1)) (ptE (ekN n 1)) at hE
  have hb0:=(qct (qba (ekN n 0) || decide ((ekN n 0).kind = 24)) (ptE (ekN n 0))).1
  have hb1:=(qct (qba (ekN n 1)) (ptE (ekN n 1))).1
  rw [hE] at hl ⊢
  simp only [List.length_append,List.length_cons,List.length_nil] at hl
  have p0:=ihE _ m0 h4 (by omega)
  have p1:=ihE _ m1 h5 (by omega)
  have hc0:=qd4 (b:=qba (ekN n 0) || decide ((ekN n 0).kind = 24)) (qlt (ekN n 0)) p0 (by omega)
  have hc1:=qd4 (b:=qba (ekN n 1)) (qlt (ekN n 1)) p1 (by omega)
  have g0:(encs n.kids).getD 0 .junk = enc (ekN n 0):=qb (by omega)
  have g1:(encs n.kids).getD 1 .junk = enc (ekN n 1):=qb (by omega)
  have hlf0:=qd9 (ekN n 0)
  have hlf1:=qd9 (ekN n 1)
  obtain ⟨e23,e24,e25,e26,e27,e28⟩:=kd_n h0
  simp only [Int.reduceEq,decide_false,decide_true] at e23 e24 e25 e26 e27 e28
  cases hb:qba (ekN n 0) with
  | true =>
    rw [hb,Bool.true_or] at hc0 hb0 hl
    rw [hb] at hlf0
    unfold k0o
    obtain ⟨z7,h7⟩:∃ z,z = qvc:=⟨_,rfl⟩
    rw [← h7]
    repeat' (first | refine vs_ ?_ | ((first | refine vr_ ?_ | fail)<;>(try simp only [e23,e24,e25,e26,e27,e28,hwr,go_sem,↓reduceIte])) | ((first | (refine cs_ ?_ ?_<;>intro hc) | refine cj_ ?_ | simp (disch:=omega) only [qb,qm])<;>(try refine ev_ ?_)) | with_reducible exact ti_)
    subst h7
    unfold qvc
    refine q4c 8 9 (by rfl) ?_ ?_
    ·simp only [qqk,Nat.zero_add,Nat.reduceAdd,Nat.reduceEqDiff,if_false,if_true,List.filter,decide_true,decide_false,ne_eq,not_true_eq_false,not_false_eq_true]
     (simp (disch:=first | omega | (simp only [List.length_set,List.length_append,List.length_cons,List.length_nil];done) | (simp only [List.length_set,List.length_append,List.length_cons,List.length_nil];omega)) only [hkl2,g0,g1,go_sem,↓reduceIte])
     repeat' (first | refine vs_ ?_ | ((first | refine vr_ ?_ | fail)<;>(try simp only [hkl2,g0,g1,List.length_append,Bool.true_or,go_sem,↓reduceIte])) | ((first | (refine cs_ ?_ ?_<;>intro hc) | refine cj_ ?_ | simp (disch:=omega) only [qb,qm] | refine qa hc0 fun _=>?_ | refine qa hc1 fun _=>?_ | refine qa hlf0 fun _=>?_ | refine qa hlf1 fun _=>?_ | refine qe hc0 ?_ | refine qe hc1 ?_ | refine qe hlf0 ?_ | refine qe hlf1 ?_)<;>(try refine ev_ ?_)) | with_reducible exact ti_)
    ·simp only [qlj,qif,posL,List.getElem?_cons_succ,List.getElem?_cons_zero,List.map_cons,List.map_nil,Nat.reduceAdd,Nat.reduceEqDiff,Nat.reduceLT,if_false,if_true,ne_eq,not_true_eq_false,not_false_eq_true,and_true,and_false,true_and,false_and]
     (simp (disch:=first | omega | (simp only [List.length_set,List.length_append,List.length_cons,List.length_nil];done) | (simp only [List.length_set,List.length_append,List.length_cons,List.length_nil];omega)) only [hkl2,g0,g1,go_sem,↓reduceIte])
     repeat' (first | refine vs_ ?_ | ((first | refine vr_ ?_ | fail)<;>(try simp only [hkl2,g0,g1,List.length_append,Bool.true_or,go_sem,↓reduceIte])) | ((first | (refine cs_ ?_ ?_<;>intro hc) | refine cj_ ?_ | simp (disch:=omega) only [qb,qm] | refine qa hc0 fun _=>?_ | refine qa hc1 fun _=>?_ | refine qa hlf0 fun _=>?_ | refine qa hlf1 fun _=>?_ | refine qe hc0 ?_ | refine qe hc1 ?_ | refine qe hlf0 ?_ | refine qe hlf1 ?_)<;>(try refine ev_ ?_)) | with_reducible exact ti_)
  | false =>
    rw [hb,Bool.false_or] at hc0 hb0 hl
    rw [hb] at hlf0
    unfold k0o
    obtain ⟨z7,h7⟩:∃ z,z = qvc:=⟨_,rfl⟩
    rw [← h7]
    repeat' (first | refine vs_ ?_ | ((first | refine vr_ ?_ | fail)<;>(try simp only [e23,e24,e25,e26,e27,e28,hwr,go_sem,↓reduceIte])) | ((first | (refine cs_ ?_ ?_<;>intro hc) | refine cj_ ?_ | simp (disch:=omega) only [qb,qm])<;>(try refine ev_ ?_)) | with_reducible exact ti_)
    subst h7
    unfold qvc
    refine q4c 8 9 (by rfl) ?_ ?_
    ·simp only [qqk,Nat.zero_add,Nat.reduceAdd,Nat.reduceEqDiff,if_false,if_true,List.filter,decide_true,decide_false,ne_eq,not_true_eq_false,not_false_eq_true]
     (simp (disch:=first | omega | (simp only [List.length_set,List.length_append,List.length_cons,List.length_nil];done) | (simp only [List.length_set,List.length_append,List.length_cons,List.length_nil];omega)) only [hkl2,g0,g1,go_sem,↓reduceIte])
     repeat' (first | refine vs_ ?_ | ((first | refine vr_ ?_ | fail)<;>(try simp only [hkl2,g0,g1,List.length_append,Bool.false_or,go_sem,↓reduceIte])) | ((first | (refine cs_ ?_ ?_<;>intro hc) | refine cj_ ?_ | simp (disch:=omega) only [qb,qm] | refine qa hc0 fun _=>?_ | refine qa hc1 fun _=>?_ | refine qa hlf0 fun _=>?_ | refine qa hlf1 fun _=>?_ | refine qe hc0 ?_ | refine qe hc1 ?_ | refine qe hlf0 ?_ | refine qe hlf1 ?_)<;>(try refine ev_ ?_)) | with_reducible exact ti_)
    ·simp only [qlj,qif,posL,List.getElem?_cons_succ,List.getElem?_cons_zero,List.map_cons,List.map_nil,Nat.reduceAdd,Nat.reduceEqDiff,Nat.reduceLT,if_false,if_true,ne_eq,not_true_eq_false,not_false_eq_true,and_true,and_false,true_and,false_and]
     (simp (disch:=first | omega | (simp only [List.length_set,List.length_append,List.length_cons,List.length_nil];done) | (simp only [List.length_set,List.length_append,List.length_cons,List.length_nil];omega)) only [hkl2,g0,g1,go_sem,↓reduceIte])
     repeat' (first | refine vs_ ?_ | ((first | refine vr_ ?_ | fail)<;>(try simp only [hkl2,g0,g1,List.length_append,Bool.false_or,go_sem,↓reduceIte])) | ((first | (refine cs_ ?_ ?_<;>intro hc) | refine cj_ ?_ | simp (disch:=omega) only [qb,qm] | refine qa hc0 fun _=>?_ | refine qa hc1 fun _=>?_ | refine qa hlf0 fun _=>?_ | refine qa hlf1 fun _=>?_ | refine qe hc0 ?_ | refine qe hc1 ?_ | refine qe hlf0 ?_ | refine qe hlf1 ?_)<;>(try refine ev_ ?_)) | with_reducible exact ti_)
 ·have hkl1:n.kids.length = 1:=by rw [h2];rfl
  have m0:ekN n 0∈n.kids:=qf (by omega)
  simp only [h0,Int.reduceEq,if_false,if_true,hkl1,show (0 < 1) = True by simp] at hE
  change ptE n = [92,32] ++ (n.text ++ ([32,45,62,32] ++ ptE (ekN n 0))) at hE
  rw [hE] at hl ⊢
  simp only [List.length_append,List.length_cons,List.length_nil] at hl
  have p0:=ihE _ m0 h4 (by omega)
  obtain ⟨e23,e24,e25,e26,e27,e28⟩:=kd_n h0
  simp only [Int.reduceEq,decide_false,decide_true] at e23 e24 e25 e26 e27 e28
  repeat' (first | refine vs_ ?_ | ((first | refine vr_ ?_ | fail)<;>(try simp only [e23,e24,e25,e26,e27,e28,hwr,hkl1,List.length_append,go_sem,↓reduceIte])) | ((first | (refine cs_ ?_ ?_<;>intro hc) | refine cj_ ?_ | simp (disch:=omega) only [qb,qm] | refine qzz (n:=n) 1 0 (by omega) p0 ?_)<;>(try refine ev_ ?_)) | with_reducible exact ti_)
 ·have hpos:0 < n.kids.length:=by rw [h2];simp
  have m1:ekN n (n.kids.length - 1)∈n.kids:=qf (by omega)
  have hm:∀ x∈eitN n,x∈n.kids:=fun x hx=>List.mem_of_mem_take hx
  simp only [h0,Int.reduceEq,if_false,if_true,hpos] at hE
  change ptE n = [108,101,116,32] ++ (brW (Lib.join ((eitN n).map ptB) smW) ++ ([32,105,110,32] ++ ptE (ekN n (n.kids.length - 1)))) at hE
  have hbl:=(qtz (Lib.join ((eitN n).map ptB) smW)).1
  rw [hE] at hl ⊢
  simp only [List.length_append,List.length_cons,List.length_nil] at hl
  have hbs:(brW (Lib.join ((eitN n).map ptB) smW)).length + 4≤Big:=by omega
  have p1:=ihE _ m1 h6 (by omega)
  have hmem:∀ x∈eitN n,PD x∧ptD x = ptB x:=fun x hx=>by
   have:=qef (m:=smW) (List.mem_map_of_mem (f:=ptB) hx)
   refine ⟨ihB x (hm x hx) (h4 x hx) (by omega),?_⟩
   rcases h4 x hx with h | h
   ·exact qqg (.inl (qfu h).1)
   ·exact qqg (.inr (qfs h).1)
  have hM2:=qf5 hmem (by omega) (by rw [eitN,List.length_take];omega)
  have e1:((n.kids.length:Int) - 1).toNat = n.kids.length - 1:=by omega
  have g1:(encs n.kids).take (n.kids.length - 1) = encs (eitN n):=qhc _ _
  obtain ⟨e23,e24,e25,e26,e27,e28⟩:=kd_n h0
  simp only [Int.reduceEq,decide_false,decide_true] at e23 e24 e25 e26 e27 e28
  repeat' (first | refine vs_ ?_ | ((first | refine vr_ ?_ | fail)<;>(try simp only [e23,e24,e25,e26,e27,e28,hwr,e1,g1,List.length_append,go_sem,↓reduceIte])) | ((first | (refine cs_ ?_ ?_<;>intro hc) | refine cj_ ?_ | simp (disch:=omega) only [qb,qm] | refine qa hM2 fun _=>?_ | refine qow (n:=n) 1 (n.kids.length - 1) (by omega) p1 ?_ | refine qe hM2 ?_)<;>(try refine ev_ ?_)) | with_reducible exact ti_)
 ·have hpos:0 < n.kids.length:=by rw [h2];simp
  have m0:ekN n 0∈n.kids:=qf (by omega)
  have hm:∀ x∈n.kids.drop 1,x∈n.kids:=fun x hx=>List.mem_of_mem_drop hx
  simp only [h0,Int.reduceEq,if_false,if_true,hpos] at hE
  change ptE n = [99,97,115,101,32] ++ (ptE (ekN n 0) ++ ([32,111,102,32] ++ brW (Lib.join ((n.kids.drop 1).map ptL) smW))) at hE
  have hbl:=(qtz (Lib.join ((n.kids.drop 1).map ptL) smW)).1
  rw [hE] at hl ⊢
  simp only [List.length_append,List.length_cons,List.length_nil] at hl
  have p0:=ihE _ m0 h4 (by omega)
  have hmem:∀ x∈n.kids.drop 1,qq Tryz.prog 138 [enc x] (.str (ptL x)):=fun x hx=>by
   have:=qef (m:=smW) (List.mem_map_of_mem (f:=ptL) hx)
   exact ihL x (hm x hx) (h5 x hx) (by omega)
  have hj:=qcn (m:=[59,32]) hmem (by show (Lib.join ((n.kids.drop 1).map ptL) smW).length≤Big;omega) (by rw [List.length_drop];omega)
  have hj:qq Tryz.prog 44 [.sl 5 (encs (n.kids.drop 1)),.str [59,32],.fn 138 [] []] (.str (Lib.join ((n.kids.drop 1).map ptL) smW)):=hj
  have hbr:=qj0 (Lib.join ((n.kids.drop 1).map ptL) smW) (by omega)
  have g1:(encs n.kids).drop 1 = encs (n.kids.drop 1):=qf2 _ _
  obtain ⟨e23,e24,e25,e26,e27,e28⟩:=kd_n h0
  simp only [Int.reduceEq,decide_false,decide_true] at e23 e24 e25 e26 e27 e28
  repeat' (first | refine vs_ ?_ | ((first | refine vr_ ?_ | fail)<;>(try simp only [e23,e24,e25,e26,e27,e28,hwr,g1,List.length_append,go_sem,↓reduceIte])) | ((first | (refine cs_ ?_ ?_<;>intro hc) | refine cj_ ?_ | simp (disch:=omega) only [qb,qm] | refine qa hj fun _=>?_ | refine qa hbr fun _=>?_ | refine qzz (n:=n) 1 0 (by omega) p0 ?_ | refine qe hj ?_ | refine qe hbr ?_)<;>(try refine ev_ ?_)) | with_reducible exact ti_)
 ·have hkl3:n.kids.length = 3:=by rw [h2];rfl
  have m0:ekN n 0∈n.kids:=qf (by omega)
  have m1:ekN n 1∈n.kids:=qf (by omega)
  have m2:ekN n 2∈n.kids:=qf (by omega)
  simp only [h0,Int.reduceEq,if_false,if_true,hkl3,show (0 < 3) = True by simp,show (1 < 3) = True by simp,show (2 < 3) = True by simp] at hE
  change ptE n = [105,102,32] ++ (ptE (ekN n 0) ++ ([32,116,104,101,110,32] ++ (ptE (ekN n 1) ++ ([32,101,108,115,101,32] ++ ptE (ekN n 2))))) at hE
  rw [hE] at hl ⊢
  simp only [List.length_append,List.length_cons,List.length_nil] at hl
  have p0:=ihE _ m0 h4 (by omega)
  have p1:=ihE _ m1 h5 (by omega)
  have p2:=ihE _ m2 h6 (by omega)
  obtain ⟨e23,e24,e25,e26,e27,e28⟩:=kd_n h0
  simp only [Int.reduceEq,decide_false,decide_true] at e23 e24 e25 e26 e27 e28
  repeat' (first | refine vs_ ?_ | ((first | refine vr_ ?_ | fail)<;>(try simp only [e23,e24,e25,e26,e27,e28,hwr,hkl3,List.length_append,go_sem,↓reduceIte])) | ((first | (refine cs_ ?_ ?_<;>intro hc) | refine cj_ ?_ | simp (disch:=omega) only [qb,qm] | refine qow (n:=n) 1 0 (by omega) p0 ?_ | refine qow (n:=n) 1 1 (by omega) p1 ?_ | refine qow (n:=n) 1 2 (by omega) p2 ?_)<;>(try refine ev_ ?_)) | with_reducible exact ti_)
set_option maxRecDepth 4000

theorem qfi:∀ n,sz n≤1000000->(exW n = true->(ptE n).length + 4≤Big->PE n)∧((biW n = true∨sgW n = true)->(ptB n).length + 4≤Big->PD n)∧(alW n = true->(ptL n).length + 4≤Big->qq Tryz.prog 138 [enc n] (.str (ptL n))):=N.ind fun n ih hs=>by
 have hk:∀ x∈n.kids,sz x≤1000000:=fun x hx=>by have:=qi9 hx;omega
 refine ⟨fun h hl=>qyh h hs hl (fun x hx=>(ih x hx (hk x hx)).1) (fun x hx=>(ih x hx (hk x hx)).2.1) (fun x hx=>(ih x hx (hk x hx)).2.2),fun h hl=>?_,fun h hl=>?_⟩
 ·rcases h with h | h
  ·obtain ⟨h1,h2,h3,h4,h5⟩:=qfu h
   have hkl:n.kids.length = 1:=by rw [h4];rfl
   have m0:ekN n 0∈n.kids:=qf (by omega)
   have he:ptB n = n.text ++ ([32,61,32] ++ ptE (ekN n 0)):=by rw [qml,if_pos h1,if_pos (by omega)];rfl
   exact quh h ((ih _ m0 (hk _ m0)).1 h5 (by rw [he] at hl;simp only [List.length_append] at hl;omega)) hl
  ·exact qxr h hs hl
 ·obtain ⟨h1,h2,h3,h4,h5,h6⟩:=qh2 h
  have hkl:n.kids.length = 2:=by rw [h4];rfl
  have m1:ekN n 1∈n.kids:=qf (by omega)
  have he:ptL n = ptP (ekN n 0) ++ ([32,45,62,32] ++ ptE (ekN n 1)):=by rw [quc,if_pos (by omega)];rfl
  exact qxg h hs ((ih _ m1 (hk _ m1)).1 h6 (by rw [he] at hl;simp only [List.length_append] at hl;omega)) hl
theorem kd_d {n:N} {k:Int} (h:n.kind = k):decide (n.kind = 31) = decide (k = 31)∧decide (n.kind = 32) = decide (k = 32)∧decide (n.kind = 33) = decide (k = 33)∧decide (n.kind = 35) = decide (k = 35):=by
 rw [h];exact ⟨rfl,rfl,rfl,rfl⟩
theorem dwr {n:N} (h3:((ahN n).length:Int) = n.num):(n.num.toNat:Int) = n.num∧n.num.toNat≤n.kids.length:=by
 have:(ahN n).length≤n.kids.length:=by rw [ahN,List.length_take];omega
 have h2:(ahN n).length = min n.num.toNat n.kids.length:=by rw [ahN,List.length_take]
 omega
set_option maxHeartbeats 2000000 in
theorem qmq {n:N} (ht:deW n = true) (hs:sz n≤1000000) (hl:(ptD n).length + 4≤Big):PD n:=by
 have hkl:=qo1 n
 have hM:=qj6
 have hsk:∀ x∈n.kids,sz x≤1000000:=fun x hx=>by have:=qi9 hx;omega
 rcases qkx ht with ⟨h0,h1⟩ | ⟨h0,h1⟩ | ⟨h0,h1,h2,h3,h4,h5,h6⟩ | ⟨h0,h1,h2,h3,h5,h6,h7⟩ | ⟨h0,h1,h2,h3,h5,h6,h7⟩
 ·rw [qqg (.inl h0)] at hl
  exact (qfi n hs).2.1 (.inl h1) hl
 ·rw [qqg (.inr h0)] at hl
  exact (qfi n hs).2.1 (.inr h1) hl
 ·refine qiw (qg c0m (by simp) (by simp only [go_sem]) rfl fun hw=>?_)
  obtain ⟨w1,w2⟩:=dwr h3
  have hpos:n.num.toNat < n.kids.length:=by
   rcases Nat.lt_or_ge n.num.toNat n.kids.length with h | h
   ·exact h
   ·exact absurd (show beN n = [] from List.drop_of_length_le h) h4
  have hma:∀ x∈ahN n,x∈n.kids:=fun x hx=>List.mem_of_mem_take hx
  have hmb:∀ x∈beN n,x∈n.kids:=fun x hx=>List.mem_of_mem_drop hx
  have hD:ptD n = [100,97,116,97,32] ++ (n.text ++ (Lib.join ((ahN n).map atT) [] ++ ([32,61,32] ++ Lib.join ((beN n).map ptT) [32,124,32]))):=by
   simp only [ptD,h0,Int.reduceEq,or_self,if_false,if_true,qfd]
  rw [hD] at hl ⊢
  simp only [List.length_append,List.length_cons,List.length_nil] at hl
  have hj1:=qcn (l:=ahN n) (g:=atT) (m:=[]) (fun x hx=>qea (qdk x (qql (h5 x hx)).2 (hsk x (hma x hx)) (by
   have e1:=qef (m:=[]) (List.mem_map_of_mem (f:=atT) hx)
   have e2:=(qct (qba x) (ptT x)).1
   have e3:(atT x).length = (cloW (qba x) (ptT x)).length + 1:=rfl
   omega)) (by
   have e1:=qef (m:=[]) (List.mem_map_of_mem (f:=atT) hx)
   have e2:=(qct (qba x) (ptT x)).1
   have e3:(atT x).length = (cloW (qba x) (ptT x)).length + 1:=rfl
   omega)) (by omega) (by rw [ahN,List.length_take];omega)
  have hc1:∀ x∈beN n,qq Tryz.prog 139 [enc x] (.str (ptT x)):=fun x hx=>by
   have e1:=qef (m:=[32,124,32]) (List.mem_map_of_mem (f:=ptT) hx)
   have hp:=qu7 (h6 x hx) (hsk x (hmb x hx)) (by omega)
   unfold PT at hp
   refine qg c0n (by simp) (by simp only [go_sem]) rfl fun hw=>?_
   repeat' (first | refine vs_ ?_ | ((first | refine vr_ ?_ | refine qa hp fun _=>?_ | refine qe hp ?_ | (refine cs_ ?_ ?_<;>intro hc) | refine cj_ ?_ | simp (disch:=omega) only [qb,qm])<;>(try refine ev_ ?_)) | with_reducible exact ti_)
  have hj2:=qcn (l:=beN n) (m:=[32,124,32]) hc1 (by omega) (by rw [beN,List.length_drop];omega)
  obtain ⟨e31,e32,e33,e35⟩:=kd_d h0
  simp only [Int.reduceEq,decide_false,decide_true] at e31 e32 e33 e35
  have g1:(encs n.kids).take n.num.toNat = encs (ahN n):=qhc _ _
  have g2:(encs n.kids).drop n.num.toNat = encs (beN n):=qf2 _ _
  repeat' (first | refine vs_ ?_ | ((first | refine vr_ ?_ | fail)<;>(try simp only [e31,e32,e33,e35,w1,g1,g2,List.length_append,go_sem,↓reduceIte])) | ((first | (refine cs_ ?_ ?_<;>intro hc) | refine cj_ ?_ | simp (disch:=omega) only [qb,qm] | refine qa hj1 fun _=>?_ | refine qa hj2 fun _=>?_ | refine qe hj1 ?_ | refine qe hj2 ?_)<;>(try refine ev_ ?_)) | with_reducible exact ti_)
 ·refine qiw (qg c0m (by simp) (by simp only [go_sem]) rfl fun hw=>?_)
  obtain ⟨w1,w2⟩:=dwr h3
  have hlen:0 < (beN n).length∧n.num.toNat < n.kids.length:=by
   have e1:=congrArg List.length h2
   have e2:(ahN n).length = n.num.toNat:=by omega
   have e3:(beN n).length = n.kids.length - n.num.toNat:=by rw [beN,List.length_drop]
   simp only [List.length_append,List.length_cons] at e1
   omega
  have hma:∀ x∈ahN n,x∈n.kids:=fun x hx=>List.mem_of_mem_take hx
  have hm0:(beN n).getD 0 N0∈n.kids:=by rw [h2];simp
  have hmb:∀ x∈(beN n).drop 1,x∈n.kids:=fun x hx=>by rw [h2];simp only [List.mem_append,List.mem_cons];exact .inr (.inr hx)
  have hD:ptD n = [99,108,97,115,115,32] ++ (ctT (ahN n) ++ (n.text ++ (atT ((beN n).getD 0 N0) ++ ([32,119,104,101,114,101,32] ++ brW (Lib.join (((beN n).drop 1).map ptB) smW))))):=by
   simp only [ptD,h0,Int.reduceEq,or_self,if_false,if_true];rfl
  have hbl:=(qtz (Lib.join (((beN n).drop 1).map ptB) smW)).1
  have hal:=(qct (qba ((beN n).getD 0 N0)) (ptT ((beN n).getD 0 N0))).1
  have hat:(atT ((beN n).getD 0 N0)).length = (cloW (qba ((beN n).getD 0 N0)) (ptT ((beN n).getD 0 N0))).length + 1:=rfl
  rw [hD] at hl ⊢
  simp only [List.length_append,List.length_cons,List.length_nil] at hl
  have hc:=qgb (l:=ahN n) (fun x hx=>⟨h5 x hx,hsk x (hma x hx)⟩) (by rw [ahN,List.length_take];omega) (by omega)
  have ha:=qea (qdk _ (qql h6).2 (hsk _ hm0) (by omega)) (by omega)
  have hmem:∀ x∈(beN n).drop 1,PD x∧ptD x = ptB x:=fun x hx=>by
   have e1:=qef (m:=smW) (List.mem_map_of_mem (f:=ptB) hx)
   exact ⟨(qfi x (hsk x (hmb x hx))).2.1 (.inr (h7 x hx)) (by omega),qqg (.inr (qfs (h7 x hx)).1)⟩
  have hM2:=qf5 hmem (by omega) (by rw [List.length_drop,beN,List.length_drop];omega)
  obtain ⟨e31,e32,e33,e35⟩:=kd_d h0
  simp only [Int.reduceEq,decide_false,decide_true] at e31 e32 e33 e35
  have g1:(encs n.kids).take n.num.toNat = encs (ahN n):=qhc _ _
  have g2:(encs n.kids).drop n.num.toNat = encs (beN n):=qf2 _ _
  have g3:(encs (beN n)).drop 1 = encs ((beN n).drop 1):=qf2 _ _
  have g4:(encs (beN n)).getD 0 .junk = enc ((beN n).getD 0 N0):=qb hlen.1
  have hlb:(beN n).length = n.kids.length - n.num.toNat:=by rw [beN,List.length_drop]
  repeat' (first | refine vs_ ?_ | ((first | refine vr_ ?_ | fail)<;>(try simp only [e31,e32,e33,e35,w1,g1,g2,g3,g4,List.length_append,go_sem,↓reduceIte])) | ((first | (refine cs_ ?_ ?_<;>intro hc) | refine cj_ ?_ | simp (disch:=omega) only [qb,qm] | refine qa hc fun _=>?_ | refine qa ha fun _=>?_ | refine qa hM2 fun _=>?_ | refine qe hc ?_ | refine qe ha ?_ | refine qe hM2 ?_)<;>(try refine ev_ ?_)) | with_reducible exact ti_)
 ·refine qiw (qg c0m (by simp) (by simp only [go_sem]) rfl fun hw=>?_)
  obtain ⟨w1,w2⟩:=dwr h3
  have hlen:0 < (beN n).length∧n.num.toNat < n.kids.length:=by
   have e1:=congrArg List.length h2
   have e2:(ahN n).length = n.num.toNat:=by omega
   have e3:(beN n).length = n.kids.length - n.num.toNat:=by rw [beN,List.length_drop]
   simp only [List.length_append,List.length_cons] at e1
   omega
  have hma:∀ x∈ahN n,x∈n.kids:=fun x hx=>List.mem_of_mem_take hx
  have hm0:(beN n).getD 0 N0∈n.kids:=by rw [h2];simp
  have hmb:∀ x∈(beN n).drop 1,x∈n.kids:=fun x hx=>by rw [h2];simp only [List.mem_append,List.mem_cons];exact .inr (.inr hx)
  have hD:ptD n = [105,110,115,116,97,110,99,101,32] ++ (ctT (ahN n) ++ (n.text ++ (atT ((beN n).getD 0 N0) ++ ([32,119,104,101,114,101,32] ++ brW (Lib.join (((beN n).drop 1).map ptB) smW))))):=by
   simp only [ptD,h0,Int.reduceEq,or_self,if_false,if_true];rfl
  have hbl:=(qtz (Lib.join (((beN n).drop 1).map ptB) smW)).1
  have hal:=(qct (qba ((beN n).getD 0 N0)) (ptT ((beN n).getD 0 N0))).1
  have hat:(atT ((beN n).getD 0 N0)).length = (cloW (qba ((beN n).getD 0 N0)) (ptT ((beN n).getD 0 N0))).length + 1:=rfl
  rw [hD] at hl ⊢
  simp only [List.length_append,List.length_cons,List.length_nil] at hl
  have hc:=qgb (l:=ahN n) (fun x hx=>⟨h5 x hx,hsk x (hma x hx)⟩) (by rw [ahN,List.length_take];omega) (by omega)
  have ha:=qea (qdk _ h6 (hsk _ hm0) (by omega)) (by omega)
  have hmem:∀ x∈(beN n).drop 1,PD x∧ptD x = ptB x:=fun x hx=>by
   have e1:=qef (m:=smW) (List.mem_map_of_mem (f:=ptB) hx)
   exact ⟨(qfi x (hsk x (hmb x hx))).2.1 (.inl (h7 x hx)) (by omega),qqg (.inl (qfu (h7 x hx)).1)⟩
  have hM2:=qf5 hmem (by omega) (by rw [List.length_drop,beN,List.length_drop];omega)
  obtain ⟨e31,e32,e33,e35⟩:=kd_d h0
  simp only [Int.reduceEq,decide_false,decide_true] at e31 e32 e33 e35
  have g1:(encs n.kids).take n.num.toNat = encs (ahN n):=qhc _ _
  have g2:(encs n.kids).drop n.num.toNat = encs (beN n):=qf2 _ _
  have g3:(encs (beN n)).drop 1 = encs ((beN n).drop 1):=qf2 _ _
  have g4:(encs (beN n)).getD 0 .junk = enc ((beN n).getD 0 N0):=qb hlen.1
  have hlb:(beN n).length = n.kids.length - n.num.toNat:=by rw [beN,List.length_drop]
  repeat' (first | refine vs_ ?_ | ((first | refine vr_ ?_ | fail)<;>(try simp only [e31,e32,e33,e35,w1,g1,g2,g3,g4,List.length_append,go_sem,↓reduceIte])) | ((first | (refine cs_ ?_ ?_<;>intro hc) | refine cj_ ?_ | simp (disch:=omega) only [qb,qm] | refine qa hc fun _=>?_ | refine qa ha fun _=>?_ | refine qa hM2 fun _=>?_ | refine qe hc ?_ | refine qe ha ?_ | refine qe hM2 ?_)<;>(try refine ev_ ?_)) | with_reducible exact ti_)
set_option maxRecDepth 4000

def orE (b:Bool) (s:List UInt8):List UInt8:=if b = true then s else []
def outT (n:N):List UInt8:=orE (lowW n && tyW n) (ptT n)
def outP (n:N):List UInt8:=orE (lowW n && paW n) (ptP n)
def outE (n:N):List UInt8:=orE (lowW n && exW n) (ptE n)
def sigN (n:N):N:=.mk 32 0 0 [120] [n]
def outQ (n:N):List UInt8:=orE (qim (sigN n)) (quT n)
def outD (n:N):List UInt8:=orE (!decide (n.kind = 37) && qim n) (ptD n)
def outG (n:N):List UInt8:=orE (decide (n.kind = 37) && qim n) (ptG n)
theorem qhv {x:AV} {s:List UInt8} {b:Bool} (hx:x.bd 0 = true) (h:b = true->qq Tryz.prog 46 [x] (.str s)):qq Tryz.prog 33 [.bool b,x] (.str (orE b s)):=by
 refine qg c0e (by simp) (by simp only [AV.bds,AV.bd,hx];rfl) rfl fun hw=>?_
 cases b with
 | true =>
   have h:=h rfl
   repeat' (first | refine vs_ ?_ | ((first | refine vr_ ?_ | refine qa h fun _=>?_ | (refine cs_ ?_ ?_<;>intro hc) | refine cj_ ?_ | fail)<;>(try refine ev_ ?_)) | with_reducible exact ti_)
   all_goals rfl
 | false =>
   repeat' (first | refine vs_ ?_ | ((first | refine vr_ ?_ | (refine cs_ ?_ ?_<;>intro hc) | refine cj_ ?_ | fail)<;>(try refine ev_ ?_)) | with_reducible exact ti_)
   all_goals rfl
theorem qmh {n:N} (hs:sz n≤1000000) (hl:(outT n).length + 4≤Big):qq Tryz.prog 9 [enc n] (.str (outT n)):=by
 refine qg c0f (by simp) (by simp only [go_sem]) rfl fun hw=>?_
 have h1:=qq5 n
 have h2:=qhv (b:=lowW n && tyW n) (s:=ptT n) (qlt (t:=37) n) fun hb=>by
  rw [outT,orE,if_pos hb] at hl
  rw [Bool.and_eq_true] at hb
  exact qdk n hb.2 hs (by omega)
 repeat' (first | refine vs_ ?_ | ((first | refine vr_ ?_ | refine qa h1 fun _=>?_ | refine qa h2 fun _=>?_ | refine qe h1 ?_ | refine qe h2 ?_ | (refine cs_ ?_ ?_<;>intro hc) | refine cj_ ?_ | fail)<;>(try refine ev_ ?_)) | with_reducible exact ti_)
 all_goals rfl
theorem qqa {n:N} (hs:sz n≤1000000) (hl:(outP n).length + 4≤Big):qq Tryz.prog 13 [enc n] (.str (outP n)):=by
 refine qg c0g (by simp) (by simp only [go_sem]) rfl fun hw=>?_
 have h1:=qvf n
 have h2:=qhv (b:=lowW n && paW n) (s:=ptP n) (qlt (t:=38) n) fun hb=>by
  rw [outP,orE,if_pos hb] at hl
  rw [Bool.and_eq_true] at hb
  exact qme n hb.2 hs (by omega)
 repeat' (first | refine vs_ ?_ | ((first | refine vr_ ?_ | refine qa h1 fun _=>?_ | refine qa h2 fun _=>?_ | refine qe h1 ?_ | refine qe h2 ?_ | (refine cs_ ?_ ?_<;>intro hc) | refine cj_ ?_ | fail)<;>(try refine ev_ ?_)) | with_reducible exact ti_)
 all_goals rfl
theorem qkg {n:N} (hs:sz n≤1000000) (hl:(outE n).length + 4≤Big):qq Tryz.prog 15 [enc n] (.str (outE n)):=by
 refine qg c0h (by simp) (by simp only [go_sem]) rfl fun hw=>?_
 have h1:=qu2 n
 have h2:=qhv (b:=lowW n && exW n) (s:=ptE n) (qlt (t:=39) n) fun hb=>by
  rw [outE,orE,if_pos hb] at hl
  rw [Bool.and_eq_true] at hb
  exact (qfi n hs).1 hb.2 (by omega)
 repeat' (first | refine vs_ ?_ | ((first | refine vr_ ?_ | refine qa h1 fun _=>?_ | refine qa h2 fun _=>?_ | refine qe h1 ?_ | refine qe h2 ?_ | (refine cs_ ?_ ?_<;>intro hc) | refine cj_ ?_ | fail)<;>(try refine ev_ ?_)) | with_reducible exact ti_)
 all_goals rfl
theorem qb9h {n:N} (h:qim (sigN n) = true):lowW (sigN n) = true∧quW n = true:=by
 unfold qim at h
 rw [if_neg (show ¬ (sigN n).kind = 37 by show ¬ (32:Int) = 37;decide),Bool.and_eq_true] at h
 refine ⟨h.1,?_⟩
 have h2:=h.2
 unfold deW at h2
 rw [if_neg (show ¬ (sigN n).kind = 31 by show ¬ (32:Int) = 31;decide),if_pos (show (sigN n).kind = 32 from rfl)] at h2
 exact (qfs h2).2.2.2.2
theorem qui {n:N} (hs:sz n≤900000) (hl:(outQ n).length + 4≤Big):qq Tryz.prog 11 [enc n] (.str (outQ n)):=by
 refine qg c0i (by simp) (by simp only [go_sem]) rfl fun hw=>?_
 have h1:=qjl (sigN n)
 have h1:qq Tryz.prog 30 [.agg [.int .i64 32,.int .i64 0,.int .i64 0,.str [120],.sl 5 [enc n]]] (.bool (qim (sigN n))):=h1
 cases hb:qim (sigN n) with
 | true =>
   rw [hb] at h1
   rw [outQ,orE,hb,if_pos rfl] at hl ⊢
   have h2:=qmt (qb9h hb).2 (by omega) hl
   repeat' (first | refine vs_ ?_ | ((first | refine vr_ ?_ | refine qa h1 fun _=>?_ | refine qa h2 fun _=>?_ | (refine cs_ ?_ ?_<;>intro hc) | refine cj_ ?_ | fail)<;>(try refine ev_ ?_)) | with_reducible exact ti_)
 | false =>
   rw [hb] at h1
   rw [outQ,orE,hb,if_neg Bool.false_ne_true]
   repeat' (first | refine vs_ ?_ | ((first | refine vr_ ?_ | refine qa h1 fun _=>?_ | (refine cs_ ?_ ?_<;>intro hc) | refine cj_ ?_ | fail)<;>(try refine ev_ ?_)) | with_reducible exact ti_)
theorem qxc {n:N} (h0:¬ n.kind = 37) (h:qim n = true):lowW n = true∧deW n = true:=by
 unfold qim at h
 rw [if_neg h0,Bool.and_eq_true] at h
 exact h
theorem qn0 {n:N} (h0:n.kind = 37) (h:qim n = true):lowW n = true∧qlp n = true∧∀ x∈n.kids,deW x = true:=by
 unfold qim at h
 rw [if_pos h0,Bool.and_eq_true,Bool.and_eq_true,List.all_eq_true] at h
 exact ⟨h.1.1,h.1.2,h.2⟩
theorem qmv {n:N} (hs:sz n≤1000000) (hl:(outD n).length + 4≤Big):qq Tryz.prog 17 [enc n] (.str (outD n)):=by
 refine qg c0j (by simp) (by simp only [go_sem]) rfl fun hw=>?_
 have h1:=qjl n
 have h2:=qhv (b:=!decide (n.kind = 37) && qim n) (s:=ptD n) (qlt (t:=40) n) fun hb=>by
  rw [outD,orE,if_pos hb] at hl
  rw [Bool.and_eq_true,Bool.not_eq_true',decide_eq_false_iff_not] at hb
  have:=qmq (qxc hb.1 hb.2).2 hs hl
  exact this
 by_cases h0:n.kind = 37
 ·have e:decide (n.kind = 37) = true:=decide_eq_true h0
  rw [e,Bool.not_true,Bool.false_and] at h2
  rw [outD,e,Bool.not_true,Bool.false_and]
  repeat' (first | refine vs_ ?_ | ((first | refine vr_ ?_ | fail)<;>(try simp only [e,go_sem,↓reduceIte])) | ((first | (refine cs_ ?_ ?_<;>intro hc) | refine cj_ ?_ | fail | refine qa h1 fun _=>?_ | refine qa h2 fun _=>?_ | refine qe h1 ?_ | refine qe h2 ?_)<;>(try refine ev_ ?_)) | with_reducible exact ti_)
 ·have e:decide (n.kind = 37) = false:=decide_eq_false h0
  rw [e,Bool.not_false,Bool.true_and] at h2
  rw [outD,e,Bool.not_false,Bool.true_and]
  repeat' (first | refine vs_ ?_ | ((first | refine vr_ ?_ | fail)<;>(try simp only [e,go_sem,↓reduceIte])) | ((first | (refine cs_ ?_ ?_<;>intro hc) | refine cj_ ?_ | fail | refine qa h1 fun _=>?_ | refine qa h2 fun _=>?_ | refine qe h1 ?_ | refine qe h2 ?_)<;>(try refine ev_ ?_)) | with_reducible exact ti_)
theorem qis {n:N} (hs:sz n≤1000000) (hl:(outG n).length + 4≤Big):qq Tryz.prog 19 [enc n] (.str (outG n)):=by
 refine qg c0k (by simp) (by simp only [go_sem]) rfl fun hw=>?_
 have h1:=qjl n
 have hM:=qj6
 have hkl:=qo1 n
 by_cases h0:n.kind = 37
 ·have e:decide (n.kind = 37) = true:=decide_eq_true h0
  rw [outG,e,Bool.true_and] at hl ⊢
  cases hb:qim n with
  | true =>
    rw [hb] at h1
    rw [orE,hb,if_pos rfl] at hl
    rw [orE,if_pos rfl]
    have hG:ptG n = Lib.join (n.kids.map fun x=>ptD x ++ [59,10]) []:=by rw [qfd];rfl
    rw [hG] at hl ⊢
    have hj:=qcn (l:=n.kids) (so:=45) (g:=fun x=>ptD x ++ [59,10]) (m:=[]) (fun x hx=>by
     have e1:=qef (m:=[]) (List.mem_map_of_mem (f:=fun x=>ptD x ++ [59,10]) hx)
     simp only [List.length_append,List.length_cons,List.length_nil] at e1
     have hp:=qmq ((qn0 h0 hb).2.2 x hx) (by have:=qi9 hx;omega) (by omega)
     unfold PD at hp
     refine qg c0l (by simp) (by simp only [go_sem]) rfl fun hw=>?_
     repeat' (first | refine vs_ ?_ | ((first | refine vr_ ?_ | fail)<;>(try simp only [List.length_append,go_sem,↓reduceIte])) | ((first | (refine cs_ ?_ ?_<;>intro hc) | refine cj_ ?_ | fail | refine qa hp fun _=>?_)<;>(try refine ev_ ?_)) | with_reducible exact ti_)) (by omega) (by omega)
    repeat' (first | refine vs_ ?_ | ((first | refine vr_ ?_ | fail)<;>(try simp only [e,go_sem,↓reduceIte])) | ((first | (refine cs_ ?_ ?_<;>intro hc) | refine cj_ ?_ | fail | refine qa h1 fun _=>?_ | refine qa hj fun _=>?_)<;>(try refine ev_ ?_)) | with_reducible exact ti_)
  | false =>
    rw [hb] at h1
    rw [orE,if_neg Bool.false_ne_true]
    repeat' (first | refine vs_ ?_ | ((first | refine vr_ ?_ | fail)<;>(try simp only [e,go_sem,↓reduceIte])) | ((first | (refine cs_ ?_ ?_<;>intro hc) | refine cj_ ?_ | fail | refine qa h1 fun _=>?_)<;>(try refine ev_ ?_)) | with_reducible exact ti_)
 ·have e:decide (n.kind = 37) = false:=decide_eq_false h0
  rw [outG,e,Bool.false_and,orE,if_neg Bool.false_ne_true]
  repeat' (first | refine vs_ ?_ | ((first | refine vr_ ?_ | fail)<;>(try simp only [e,go_sem,↓reduceIte])) | ((first | (refine cs_ ?_ ?_<;>intro hc) | refine cj_ ?_ | fail | refine qa h1 fun _=>?_)<;>(try refine ev_ ?_)) | with_reducible exact ti_)
end Go.Proofs.YtlmcofjcpadmiaaGreat
