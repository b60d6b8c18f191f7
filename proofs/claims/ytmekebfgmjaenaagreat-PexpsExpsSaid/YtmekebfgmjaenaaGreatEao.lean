/- A text of this proof. -/
import Derived.Test.YtmekebfgmjaenaaGreatEaf
import Derived.Test.YtmekebfgmjaenaaGreatEan

/- names -/
set_option maxRecDepth 4000
namespace Go.Proofs.YtmekebfgmjaenaaGreat
open Go Go.RowKit Go.V
set_option linter.unusedVariables false
set_option linter.unusedSimpArgs false

def qkc (c : Int) : Bool := decide (97 ≤ c) && decide (c ≤ 122) || decide (c = 95)
def qio (c : Int) : Bool := decide (65 ≤ c) && decide (c ≤ 90)
def qcm (c : Int) : Bool := decide (48 ≤ c) && decide (c ≤ 57)

theorem qia (c : Int) : qbf Tryz.prog 108 [.int .u8 c] (.bool (qkc c)) := by
  refine qu c0dq (by simp) (by simp only [go_sem]) rfl fun hw => ?_
  repeat' (first | refine ql ?_ | ((first | refine qn ?_ | refine qm ?_); simp only [go_sem, ↓reduceIte, Nat.reduceEqDiff, Nat.reduceAdd, Nat.reduceSub, Nat.reduceMul, Nat.reduceLT, Nat.reduceLeDiff, reduceCtorEq, Int.reduceToNat]) | ((first | refine qf ?_ ?_ | refine qe ?_ ?_) <;> intro hc <;> simp only [hc, go_sem, ↓reduceIte, Nat.reduceEqDiff, Nat.reduceAdd, Nat.reduceSub, Nat.reduceMul, Nat.reduceLT, Nat.reduceLeDiff, reduceCtorEq, Int.reduceToNat] <;> (try simp only [qb, qa, decide_eq_true_eq, decide_eq_false_iff_not, Bool.and_eq_true] at hc)) | refine And.intro (by first | assumption | omega | (have := qg (by assumption); omega) | (unfold qp; omega)) ?_ | fail)
  all_goals simp [qkc, *]
theorem qh7 (c : Int) : qbf Tryz.prog 103 [.int .u8 c] (.bool (qkc c)) := by
  refine qu c0dr (by simp) (by simp only [go_sem]) rfl fun hw => ?_
  repeat' (first | refine ql ?_ | ((first | refine qn ?_ | refine qm ?_); simp only [go_sem, ↓reduceIte, Nat.reduceEqDiff, Nat.reduceAdd, Nat.reduceSub, Nat.reduceMul, Nat.reduceLT, Nat.reduceLeDiff, reduceCtorEq, Int.reduceToNat]) | ((first | refine qf ?_ ?_ | refine qe ?_ ?_) <;> intro hc <;> simp only [hc, go_sem, ↓reduceIte, Nat.reduceEqDiff, Nat.reduceAdd, Nat.reduceSub, Nat.reduceMul, Nat.reduceLT, Nat.reduceLeDiff, reduceCtorEq, Int.reduceToNat] <;> (try simp only [qb, qa, decide_eq_true_eq, decide_eq_false_iff_not, Bool.and_eq_true] at hc)) | refine And.intro (by first | assumption | omega | (have := qg (by assumption); omega) | (unfold qp; omega)) ?_ | fail)
  all_goals simp [qkc, *]
theorem qh9 (c : Int) : qbf Tryz.prog 111 [.int .u8 c] (.bool (qio c)) := by
  refine qu c0ds (by simp) (by simp only [go_sem]) rfl fun hw => ?_
  repeat' (first | refine ql ?_ | ((first | refine qn ?_ | refine qm ?_); simp only [go_sem, ↓reduceIte, Nat.reduceEqDiff, Nat.reduceAdd, Nat.reduceSub, Nat.reduceMul, Nat.reduceLT, Nat.reduceLeDiff, reduceCtorEq, Int.reduceToNat]) | ((first | refine qf ?_ ?_ | refine qe ?_ ?_) <;> intro hc <;> simp only [hc, go_sem, ↓reduceIte, Nat.reduceEqDiff, Nat.reduceAdd, Nat.reduceSub, Nat.reduceMul, Nat.reduceLT, Nat.reduceLeDiff, reduceCtorEq, Int.reduceToNat] <;> (try simp only [qb, qa, decide_eq_true_eq, decide_eq_false_iff_not, Bool.and_eq_true] at hc)) | refine And.intro (by first | assumption | omega | (have := qg (by assumption); omega) | (unfold qp; omega)) ?_ | fail)
  all_goals simp [qio, *]
theorem qel (c : Int) : qbf Tryz.prog 104 [.int .u8 c] (.bool (qio c)) := by
  refine qu c0dt (by simp) (by simp only [go_sem]) rfl fun hw => ?_
  repeat' (first | refine ql ?_ | ((first | refine qn ?_ | refine qm ?_); simp only [go_sem, ↓reduceIte, Nat.reduceEqDiff, Nat.reduceAdd, Nat.reduceSub, Nat.reduceMul, Nat.reduceLT, Nat.reduceLeDiff, reduceCtorEq, Int.reduceToNat]) | ((first | refine qf ?_ ?_ | refine qe ?_ ?_) <;> intro hc <;> simp only [hc, go_sem, ↓reduceIte, Nat.reduceEqDiff, Nat.reduceAdd, Nat.reduceSub, Nat.reduceMul, Nat.reduceLT, Nat.reduceLeDiff, reduceCtorEq, Int.reduceToNat] <;> (try simp only [qb, qa, decide_eq_true_eq, decide_eq_false_iff_not, Bool.and_eq_true] at hc)) | refine And.intro (by first | assumption | omega | (have := qg (by assumption); omega) | (unfold qp; omega)) ?_ | fail)
  all_goals simp [qio, *]
theorem qfs (c : Int) : qbf Tryz.prog 101 [.int .u8 c] (.bool (qcm c)) := by
  refine qu c0du (by simp) (by simp only [go_sem]) rfl fun hw => ?_
  repeat' (first | refine ql ?_ | ((first | refine qn ?_ | refine qm ?_); simp only [go_sem, ↓reduceIte, Nat.reduceEqDiff, Nat.reduceAdd, Nat.reduceSub, Nat.reduceMul, Nat.reduceLT, Nat.reduceLeDiff, reduceCtorEq, Int.reduceToNat]) | ((first | refine qf ?_ ?_ | refine qe ?_ ?_) <;> intro hc <;> simp only [hc, go_sem, ↓reduceIte, Nat.reduceEqDiff, Nat.reduceAdd, Nat.reduceSub, Nat.reduceMul, Nat.reduceLT, Nat.reduceLeDiff, reduceCtorEq, Int.reduceToNat] <;> (try simp only [qb, qa, decide_eq_true_eq, decide_eq_false_iff_not, Bool.and_eq_true] at hc)) | refine And.intro (by first | assumption | omega | (have := qg (by assumption); omega) | (unfold qp; omega)) ?_ | fail)
  all_goals simp [qcm, *]
def onW (c : Int) : Bool := qkc c || qio c || qcm c || decide (c = 39)
theorem qna (c : Int) : qbf Tryz.prog 105 [.int .u8 c] (.bool (onW c)) := by
  refine qu c0dv (by simp) (by simp only [go_sem]) rfl fun hw => ?_
  repeat' (first | refine ql ?_ | ((first | refine qn ?_ | refine qm ?_ | refine qc (qh7 _) fun _ => ?_ | refine qc (qel _) fun _ => ?_ | refine qc (qfs _) fun _ => ?_ | refine qd  (qh7 _) ?_ | refine qd  (qel _) ?_ | refine qd  (qfs _) ?_); simp only [go_sem, ↓reduceIte, Nat.reduceEqDiff, Nat.reduceAdd, Nat.reduceSub, Nat.reduceMul, Nat.reduceLT, Nat.reduceLeDiff, reduceCtorEq, Int.reduceToNat]) | ((first | refine qf ?_ ?_ | refine qe ?_ ?_) <;> intro hc <;> simp only [hc, go_sem, ↓reduceIte, Nat.reduceEqDiff, Nat.reduceAdd, Nat.reduceSub, Nat.reduceMul, Nat.reduceLT, Nat.reduceLeDiff, reduceCtorEq, Int.reduceToNat] <;> (try simp only [qb, qa, decide_eq_true_eq, decide_eq_false_iff_not, Bool.and_eq_true] at hc)) | refine And.intro (by first | assumption | omega | (have := qg (by assumption); omega) | (unfold qp; omega)) ?_ | fail)
  all_goals simp [onW, *]

def onsW (l : List UInt8) : Bool := l.all fun c => onW c.toNat
theorem qd4 {l : List UInt8} {i : Nat} (h : i < l.length) : l.drop i = l.getD i 0 :: l.drop (i + 1) := by
  rw [List.drop_eq_getElem_cons h, List.getD_eq_getElem?_getD, List.getElem?_eq_getElem h]; rfl
theorem qs5 {l : List UInt8} {i : Nat} (h : i < l.length) : onsW (l.drop i) = (onW (l.getD i 0).toNat && onsW (l.drop (i + 1))) := by
  rw [qd4 h]; rfl
theorem qj3 (l : List UInt8) : qbf Tryz.prog 109 [.str l] (.bool (onsW l)) := by
  refine qu c0dw (by simp) (by simp only [go_sem]) rfl fun hw => ?_
  have hl : l.length ≤ maxLen := hw.1
  repeat' (first | refine ql ?_ | refine qk ?_ | ((first | refine qn ?_ | refine qm ?_ | refine qs ?_ | refine qi ?_ | refine qh ?_); simp only [go_sem, ↓reduceIte, Nat.reduceEqDiff, Nat.reduceAdd, Nat.reduceSub, Nat.reduceMul, Nat.reduceLT, Nat.reduceLeDiff, reduceCtorEq, Int.reduceToNat]) | ((first | refine qf ?_ ?_ | refine qe ?_ ?_) <;> intro hc <;> simp only [hc, go_sem, ↓reduceIte, Nat.reduceEqDiff, Nat.reduceAdd, Nat.reduceSub, Nat.reduceMul, Nat.reduceLT, Nat.reduceLeDiff, reduceCtorEq, Int.reduceToNat] <;> (try simp only [qb, qa, decide_eq_true_eq, decide_eq_false_iff_not, Bool.and_eq_true] at hc)) | refine And.intro (by first | assumption | omega | (have := qg (by assumption); omega) | (unfold qp; omega)) ?_ | ((first | simp (disch := omega) only [qr] | simp (disch := omega) only [qbb]); (try simp only [go_sem, ↓reduceIte, Nat.reduceEqDiff, Nat.reduceAdd, Nat.reduceSub, Nat.reduceMul, Nat.reduceLT, Nat.reduceLeDiff, reduceCtorEq, Int.reduceToNat])))
  refine qby (S := Nat) (fun i => i ≤ l.length ∧ onsW (l.drop i) = onsW l) (fun i => (⟨[(0, .str l), (6, .int .i64 l.length), (7, .int .i64 i)], []⟩, [])) (fun i => l.length - i) ?_ fun i hi => ?_
  · refine qbn 0 [] ⟨Nat.zero_le _, rfl⟩ rfl (by simp) ?_ ?_ ?_ <;> (try simp only [go_sem, ↓reduceIte, Nat.reduceEqDiff, Nat.reduceAdd, Nat.reduceSub, Nat.reduceMul, Nat.reduceLT, Nat.reduceLeDiff, reduceCtorEq, Int.reduceToNat]) <;> (try simp (disch := omega) only [qbb])
  · obtain ⟨hi, ha⟩ := hi
    repeat' (first | refine ql ?_ | refine qk ?_ | ((first | refine qn ?_ | refine qm ?_ | refine qs ?_ | refine qi ?_ | refine qh ?_ | refine qc (qia _) fun _ => ?_ | refine qc (qh9 _) fun _ => ?_ | refine qd  (qia _) ?_ | refine qd  (qh9 _) ?_); simp only [go_sem, ↓reduceIte, Nat.reduceEqDiff, Nat.reduceAdd, Nat.reduceSub, Nat.reduceMul, Nat.reduceLT, Nat.reduceLeDiff, reduceCtorEq, Int.reduceToNat]) | ((first | refine qf ?_ ?_ | refine qe ?_ ?_) <;> intro hc <;> simp only [hc, go_sem, ↓reduceIte, Nat.reduceEqDiff, Nat.reduceAdd, Nat.reduceSub, Nat.reduceMul, Nat.reduceLT, Nat.reduceLeDiff, reduceCtorEq, Int.reduceToNat] <;> (try simp only [qb, qa, decide_eq_true_eq, decide_eq_false_iff_not, Bool.and_eq_true] at hc)) | refine And.intro (by first | assumption | omega | (have := qg (by assumption); omega) | (unfold qp; omega)) ?_ | ((first | simp (disch := omega) only [qr] | simp (disch := omega) only [qbb]); (try simp only [go_sem, ↓reduceIte, Nat.reduceEqDiff, Nat.reduceAdd, Nat.reduceSub, Nat.reduceMul, Nat.reduceLT, Nat.reduceLeDiff, reduceCtorEq, Int.reduceToNat])))
    all_goals first
      | (refine qbn (i + 1) [] ⟨⟨by omega, ?_⟩, by omega⟩ rfl (by simp) ?_ ?_ ?_ <;> (try simp only [go_sem, ↓reduceIte, Nat.reduceEqDiff, Nat.reduceAdd, Nat.reduceSub, Nat.reduceMul, Nat.reduceLT, Nat.reduceLeDiff, reduceCtorEq, Int.reduceToNat]) <;> (try simp (disch := omega) only [qbb])
         rw [← ha, qs5 (l := l) (i := i) (by omega)]
         simp_all [onW, qcm]
         try omega)
      | (rw [← ha, show i = l.length by omega, List.drop_length]; rfl)
      | (rw [← ha, qs5 (l := l) (i := i) (by omega)]
         simp_all [onW, qcm]
         try omega)

def wordsW : List (List UInt8) := [[100, 97, 116, 97], [99, 108, 97, 115, 115], [105, 110, 115, 116, 97, 110, 99, 101], [119, 104, 101, 114, 101], [108, 101, 116], [105, 110], [99, 97, 115, 101], [111, 102], [105, 102], [116, 104, 101, 110], [101, 108, 115, 101]]
def resW (l : List UInt8) : Bool := wordsW.contains l
theorem qf3 (l : List UInt8) : qbf Tryz.prog 106 [.str l] (.bool (resW l)) := by
  refine qu c0dx (by simp) (by simp only [go_sem]) rfl fun hw => ?_
  repeat' (first | refine ql ?_ | refine qk ?_ | ((first | refine qn ?_ | refine qm ?_ | refine qi ?_ | refine qh ?_); simp only [go_sem, ↓reduceIte, Nat.reduceEqDiff, Nat.reduceAdd, Nat.reduceSub, Nat.reduceMul, Nat.reduceLT, Nat.reduceLeDiff, reduceCtorEq, Int.reduceToNat]) | ((first | refine qf ?_ ?_ | refine qe ?_ ?_) <;> intro hc <;> simp only [hc, go_sem, ↓reduceIte, Nat.reduceEqDiff, Nat.reduceAdd, Nat.reduceSub, Nat.reduceMul, Nat.reduceLT, Nat.reduceLeDiff, reduceCtorEq, Int.reduceToNat] <;> (try simp only [qb, qa, decide_eq_true_eq, decide_eq_false_iff_not, Bool.and_eq_true] at hc)) | refine And.intro (by first | assumption | omega | (have := qg (by assumption); omega) | (unfold qp; omega)) ?_ | fail)
  all_goals simp_all [resW, wordsW]
theorem q1s : (wordsW.map AV.str).length = 11 := rfl
theorem q10 {i : Nat} (h : i < 11) : (wordsW.map AV.str).getD i .junk = .str (wordsW.getD i []) := by
  have h' : i < wordsW.length := h
  rw [List.getD_eq_getElem?_getD, List.getElem?_map, List.getD_eq_getElem?_getD, List.getElem?_eq_getElem h']; rfl
theorem qqh {i : Nat} (h : i < 11) : wordsW.drop i = wordsW.getD i [] :: wordsW.drop (i + 1) := by
  have h' : i < wordsW.length := h
  rw [List.drop_eq_getElem_cons h', List.getD_eq_getElem?_getD, List.getElem?_eq_getElem h']; rfl
theorem qf4 (l : List UInt8) : qbf Tryz.prog 110 [.str l] (.bool (resW l)) := by
  refine qu c0dy (by simp) (by simp only [go_sem]) rfl fun hw => ?_
  repeat' (first | refine ql ?_ | refine qk ?_ | refine qe0 ?_ | ((first | refine qn ?_ | refine qew ?_ | refine qgh ?_ | refine qm ?_ | refine qs ?_ | refine qi ?_ | refine qh ?_); simp only [go_sem, ↓reduceIte, Nat.reduceEqDiff, Nat.reduceAdd, Nat.reduceSub, Nat.reduceMul, Nat.reduceLT, Nat.reduceLeDiff, reduceCtorEq, Int.reduceToNat]) | ((first | refine qf ?_ ?_ | refine qe ?_ ?_) <;> intro hc <;> simp only [hc, go_sem, ↓reduceIte, Nat.reduceEqDiff, Nat.reduceAdd, Nat.reduceSub, Nat.reduceMul, Nat.reduceLT, Nat.reduceLeDiff, reduceCtorEq, Int.reduceToNat] <;> (try simp only [qb, qa, decide_eq_true_eq, decide_eq_false_iff_not, Bool.and_eq_true] at hc)) | refine And.intro (by first | assumption | omega | (have := qg (by assumption); omega) | (unfold qp; omega)) ?_ | ((first | simp (disch := omega) only [qr] | simp (disch := omega) only [qbb]); (try simp only [go_sem, ↓reduceIte, Nat.reduceEqDiff, Nat.reduceAdd, Nat.reduceSub, Nat.reduceMul, Nat.reduceLT, Nat.reduceLeDiff, reduceCtorEq, Int.reduceToNat])))
  refine qby (S := Nat) (fun i => i ≤ 11 ∧ (wordsW.drop i).contains l = resW l) (fun i => (⟨[(0, .str l), (3, .bool false), (6, .agg (wordsW.map AV.str)), (7, .int .i64 i)], []⟩, [])) (fun i => 11 - i) ?_ fun i hi => ?_
  · refine qbn 0 [] ⟨Nat.zero_le _, rfl⟩ rfl (by simp) ?_ ?_ ?_ <;> (try simp only [go_sem, ↓reduceIte, Nat.reduceEqDiff, Nat.reduceAdd, Nat.reduceSub, Nat.reduceMul, Nat.reduceLT, Nat.reduceLeDiff, reduceCtorEq, Int.reduceToNat]) <;> (try simp (disch := omega) only [qbb])
    exact ⟨rfl, rfl⟩
  · obtain ⟨hi, ha⟩ := hi
    repeat' (first | refine ql ?_ | refine qk ?_ | refine qe0 ?_ | ((first | refine qn ?_ | refine qew ?_ | refine qgh ?_ | refine qm ?_ | refine qs ?_ | refine qi ?_ | refine qh ?_); simp only [go_sem, ↓reduceIte, Nat.reduceEqDiff, Nat.reduceAdd, Nat.reduceSub, Nat.reduceMul, Nat.reduceLT, Nat.reduceLeDiff, reduceCtorEq, Int.reduceToNat]) | ((first | refine qf ?_ ?_ | refine qe ?_ ?_) <;> intro hc <;> simp only [hc, go_sem, ↓reduceIte, Nat.reduceEqDiff, Nat.reduceAdd, Nat.reduceSub, Nat.reduceMul, Nat.reduceLT, Nat.reduceLeDiff, reduceCtorEq, Int.reduceToNat] <;> (try simp only [qb, qa, decide_eq_true_eq, decide_eq_false_iff_not, Bool.and_eq_true] at hc)) | refine And.intro (by first | assumption | omega | (have := qg (by assumption); omega) | (unfold qp; omega)) ?_ | ((first | simp (disch := omega) only [qr] | simp (disch := omega) only [qbb]); (try simp only [go_sem, ↓reduceIte, Nat.reduceEqDiff, Nat.reduceAdd, Nat.reduceSub, Nat.reduceMul, Nat.reduceLT, Nat.reduceLeDiff, reduceCtorEq, Int.reduceToNat])))
    · simp (disch := omega) only [q1s, q10, Nat.mul_one]
      refine ⟨by omega, ?_⟩
      repeat' (first | refine ql ?_ | refine qk ?_ | refine qe0 ?_ | ((first | refine qn ?_ | refine qew ?_ | refine qgh ?_ | refine qm ?_ | refine qs ?_ | refine qi ?_ | refine qh ?_); simp only [go_sem, ↓reduceIte, Nat.reduceEqDiff, Nat.reduceAdd, Nat.reduceSub, Nat.reduceMul, Nat.reduceLT, Nat.reduceLeDiff, reduceCtorEq, Int.reduceToNat]) | ((first | refine qf ?_ ?_ | refine qe ?_ ?_) <;> intro hc <;> simp only [hc, go_sem, ↓reduceIte, Nat.reduceEqDiff, Nat.reduceAdd, Nat.reduceSub, Nat.reduceMul, Nat.reduceLT, Nat.reduceLeDiff, reduceCtorEq, Int.reduceToNat] <;> (try simp only [qb, qa, decide_eq_true_eq, decide_eq_false_iff_not, Bool.and_eq_true] at hc)) | refine And.intro (by first | assumption | omega | (have := qg (by assumption); omega) | (unfold qp; omega)) ?_ | ((first | simp (disch := omega) only [qr] | simp (disch := omega) only [qbb]); (try simp only [go_sem, ↓reduceIte, Nat.reduceEqDiff, Nat.reduceAdd, Nat.reduceSub, Nat.reduceMul, Nat.reduceLT, Nat.reduceLeDiff, reduceCtorEq, Int.reduceToNat])))
      · refine qbn (i + 1) [] ⟨⟨by omega, ?_⟩, by omega⟩ rfl (by simp) ?_ ?_ ?_ <;> (try simp only [go_sem, ↓reduceIte, Nat.reduceEqDiff, Nat.reduceAdd, Nat.reduceSub, Nat.reduceMul, Nat.reduceLT, Nat.reduceLeDiff, reduceCtorEq, Int.reduceToNat]) <;> (try simp (disch := omega) only [qbb])
        · rw [← ha, qqh (i := i) (by omega), List.contains_cons]
          rw [show (l == wordsW.getD i []) = false by simpa using fun h => hc h.symm]; simp
        · have : i < maxLen := by unfold maxLen; omega
          rw [qbb this]
          exact ⟨⟨rfl, rfl⟩, rfl⟩
      · rw [← ha, qqh (i := i) (by omega), List.contains_cons, show (l == wordsW.getD i []) = true by simpa using hc.symm]; rfl
    · rw [← ha, show i = 11 by omega]; rfl
def conW (l : List UInt8) : Bool := decide (l ≠ []) && qio (l.getD 0 0).toNat && onsW l
theorem qet (l : List UInt8) : qbf Tryz.prog 72 [.str l] (.bool (conW l)) := by
  refine qu c0dz (by simp) (by simp only [go_sem]) rfl fun hw => ?_
  have hl : l.length ≤ maxLen := hw.1
  repeat' (first | refine ql ?_ | ((first | refine qn ?_ | refine qm ?_ | refine qc (qj3 _) fun _ => ?_ | refine qc (qh9 _) fun _ => ?_ | refine qd  (qj3 _) ?_ | refine qd  (qh9 _) ?_); simp only [go_sem, ↓reduceIte, Nat.reduceEqDiff, Nat.reduceAdd, Nat.reduceSub, Nat.reduceMul, Nat.reduceLT, Nat.reduceLeDiff, reduceCtorEq, Int.reduceToNat]) | ((first | refine qf ?_ ?_ | refine qe ?_ ?_) <;> intro hc <;> simp only [hc, go_sem, ↓reduceIte, Nat.reduceEqDiff, Nat.reduceAdd, Nat.reduceSub, Nat.reduceMul, Nat.reduceLT, Nat.reduceLeDiff, reduceCtorEq, Int.reduceToNat] <;> (try simp only [qb, qa, decide_eq_true_eq, decide_eq_false_iff_not, Bool.and_eq_true] at hc)) | refine And.intro (by first | assumption | omega | (have := qg (by assumption); omega) | (unfold qp; omega)) ?_ | ((first | simp (disch := omega) only [qr] | simp (disch := omega) only [qbb]); (try simp only [go_sem, ↓reduceIte, Nat.reduceEqDiff, Nat.reduceAdd, Nat.reduceSub, Nat.reduceMul, Nat.reduceLT, Nat.reduceLeDiff, reduceCtorEq, Int.reduceToNat])))
  all_goals simp_all [conW]
def varW (l : List UInt8) : Bool := decide (l ≠ []) && decide (l ≠ [95]) && qkc (l.getD 0 0).toNat && onsW l && !resW l
theorem qes (l : List UInt8) : qbf Tryz.prog 71 [.str l] (.bool (varW l)) := by
  refine qu c0ea (by simp) (by simp only [go_sem]) rfl fun hw => ?_
  have hl : l.length ≤ maxLen := hw.1
  repeat' (first | refine ql ?_ | ((first | refine qn ?_ | refine qm ?_ | refine qc (qj3 _) fun _ => ?_ | refine qc (qia _) fun _ => ?_ | refine qc (qf4 _) fun _ => ?_ | refine qd  (qj3 _) ?_ | refine qd  (qia _) ?_ | refine qd  (qf4 _) ?_); simp only [go_sem, ↓reduceIte, Nat.reduceEqDiff, Nat.reduceAdd, Nat.reduceSub, Nat.reduceMul, Nat.reduceLT, Nat.reduceLeDiff, reduceCtorEq, Int.reduceToNat]) | ((first | refine qf ?_ ?_ | refine qe ?_ ?_) <;> intro hc <;> simp only [hc, go_sem, ↓reduceIte, Nat.reduceEqDiff, Nat.reduceAdd, Nat.reduceSub, Nat.reduceMul, Nat.reduceLT, Nat.reduceLeDiff, reduceCtorEq, Int.reduceToNat] <;> (try simp only [qb, qa, decide_eq_true_eq, decide_eq_false_iff_not, Bool.and_eq_true] at hc)) | refine And.intro (by first | assumption | omega | (have := qg (by assumption); omega) | (unfold qp; omega)) ?_ | ((first | simp (disch := omega) only [qr] | simp (disch := omega) only [qbb]); (try simp only [go_sem, ↓reduceIte, Nat.reduceEqDiff, Nat.reduceAdd, Nat.reduceSub, Nat.reduceMul, Nat.reduceLT, Nat.reduceLeDiff, reduceCtorEq, Int.reduceToNat])))
  all_goals simp_all [varW]
end Go.Proofs.YtmekebfgmjaenaaGreat
