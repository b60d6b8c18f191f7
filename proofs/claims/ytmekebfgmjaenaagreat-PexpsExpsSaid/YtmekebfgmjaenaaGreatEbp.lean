/- A text of this proof. -/
import Derived.Test.YtmekebfgmjaenaaGreatEbm
import Derived.Test.YtmekebfgmjaenaaGreatEbn
import Derived.Test.YtmekebfgmjaenaaGreatEbo

/- expressions: of a text: the statement's function -/
set_option maxRecDepth 4000
namespace Go.Proofs.YtmekebfgmjaenaaGreat
open Go Go.RowKit Go.V
set_option linter.unusedVariables false
set_option linter.unusedSimpArgs false

/-- What is read is an expression. -/
theorem qbkz {s : List UInt8} (hs : s.length ≤ 3000) (h : (expV s).2.2 = 0) : (lowW (expV s).1 && exW (expV s).1) = true := by
  unfold expV qba8 at h ⊢
  split at h
  · rename_i he
    rw [if_pos he]
    unfold qmx at h ⊢
    split at h
    · rename_i hd
      rw [if_pos hd]
      split at h
      · exact absurd h (by simp)
      · rename_i hdp
        rw [if_neg hdp]
        have hem := qji (newK (lexV s).1)
        have hal := qoe (rest (newK (lexV s).1) + 2) (newK (lexV s).1) (fun t ht => qkv ht) (by omega)
        cases ho : (qgf (rest (newK (lexV s).1) + 2) (newK (lexV s).1)).2 with
        | none => exact absurd (q16 hd) (hal.2.2 ho)
        | some n =>
          rw [ho] at hdp
          simp only [Option.getD_some] at hdp ⊢
          have h1 := qbdf _ _ (qboq s) n ho
          have h2 := q4n _ _ n ho
          have h3 := qjz (lexV s).1
          have h5 := (qk0 s).2
          have h4 : rest (newK (lexV s).1) = (qgj (lexV s).1).length := rfl
          rw [h1, q6q (by omega), Bool.and_true, decide_eq_true_eq]
          omega
    · rename_i hd; exact absurd h hd
  · rename_i he; exact absurd h he
theorem qoj (s : List UInt8) : qbf Tryz.prog 4 [.str s] (.bool true) := by
  refine qu c0a (by simp) (by simp only [go_sem]) rfl fun hw => ?_
  by_cases hs : s.length ≤ 3000
  · have hJ : qbf Tryz.prog 14 [enc (expV s).1, enc (expV s).1] (.bool true) := qvn (q0h _ _) (by rw [q0v])
    have hP : (expV s).2.2 = 0 → qbf Tryz.prog 19 [enc (expV s).1] (.bool true) := fun h => qvn (q02 _) (by rw [qbkz hs h])
    have hsi : ¬ (3000 : Int) < s.length := by omega
    by_cases he : (expV s).2.2 = 0
    · have hP := hP he
      repeat' (first | refine ql ?_ | ((first | refine qn ?_ | refine qm ?_ | refine qi ?_ | refine qh ?_); simp (disch := first | omega | (simp only [List.length_set, List.length_append, List.length_cons, List.length_nil]; done) | (simp only [List.length_set, List.length_append, List.length_cons, List.length_nil]; omega)) only [hsi, he, Int.reduceEq, decide_true, ne_eq, not_true_eq_false, go_sem, ↓reduceIte, Nat.reduceEqDiff, Nat.reduceAdd, Nat.reduceSub, Nat.reduceMul, Nat.reduceLT, Nat.reduceLeDiff, reduceCtorEq, Int.reduceToNat]) | ((first | refine qf ?_ ?_ | refine qe ?_ ?_) <;> intro hc <;> simp only [hc, go_sem, ↓reduceIte, Nat.reduceEqDiff, Nat.reduceAdd, Nat.reduceSub, Nat.reduceMul, Nat.reduceLT, Nat.reduceLeDiff, reduceCtorEq, Int.reduceToNat] <;> (try simp only [qb, qa, decide_eq_true_eq, decide_eq_false_iff_not, Bool.and_eq_true] at hc)) | refine And.intro (by first | assumption | omega | (have := qg (by assumption); omega) | (unfold qp; omega)) ?_ | fail | ((first | refine qc qf1 fun _ => ?_ | refine qc (qha s (by omega)) fun _ => ?_ | refine qc (qln s) fun _ => ?_ | refine qc hJ fun _ => ?_ | refine qc hP fun _ => ?_ | refine qd  qf1 ?_ | refine qd  (qha s (by omega)) ?_ | refine qd  (qln s) ?_ | refine qd  hJ ?_ | refine qd  hP ?_); simp only [go_sem, ↓reduceIte, Nat.reduceEqDiff, Nat.reduceAdd, Nat.reduceSub, Nat.reduceMul, Nat.reduceLT, Nat.reduceLeDiff, reduceCtorEq, Int.reduceToNat]))
    · repeat' (first | refine ql ?_ | ((first | refine qn ?_ | refine qm ?_ | refine qi ?_ | refine qh ?_); simp (disch := first | omega | (simp only [List.length_set, List.length_append, List.length_cons, List.length_nil]; done) | (simp only [List.length_set, List.length_append, List.length_cons, List.length_nil]; omega)) only [hsi, he, Int.reduceEq, decide_true, ne_eq, not_true_eq_false, go_sem, ↓reduceIte, Nat.reduceEqDiff, Nat.reduceAdd, Nat.reduceSub, Nat.reduceMul, Nat.reduceLT, Nat.reduceLeDiff, reduceCtorEq, Int.reduceToNat]) | ((first | refine qf ?_ ?_ | refine qe ?_ ?_) <;> intro hc <;> simp only [hc, go_sem, ↓reduceIte, Nat.reduceEqDiff, Nat.reduceAdd, Nat.reduceSub, Nat.reduceMul, Nat.reduceLT, Nat.reduceLeDiff, reduceCtorEq, Int.reduceToNat] <;> (try simp only [qb, qa, decide_eq_true_eq, decide_eq_false_iff_not, Bool.and_eq_true] at hc)) | refine And.intro (by first | assumption | omega | (have := qg (by assumption); omega) | (unfold qp; omega)) ?_ | fail | ((first | refine qc qf1 fun _ => ?_ | refine qc (qha s (by omega)) fun _ => ?_ | refine qc (qln s) fun _ => ?_ | refine qc hJ fun _ => ?_ | refine qd  qf1 ?_ | refine qd  (qha s (by omega)) ?_ | refine qd  (qln s) ?_ | refine qd  hJ ?_); simp only [go_sem, ↓reduceIte, Nat.reduceEqDiff, Nat.reduceAdd, Nat.reduceSub, Nat.reduceMul, Nat.reduceLT, Nat.reduceLeDiff, reduceCtorEq, Int.reduceToNat]))
      all_goals first | exact absurd (by assumption) he | trace_state
  · have hsi : (3000 : Int) < s.length := by omega
    repeat' (first | refine ql ?_ | ((first | refine qn ?_ | refine qm ?_ | refine qi ?_ | refine qh ?_); simp (disch := first | omega | (simp only [List.length_set, List.length_append, List.length_cons, List.length_nil]; done) | (simp only [List.length_set, List.length_append, List.length_cons, List.length_nil]; omega)) only [hsi, go_sem, ↓reduceIte, Nat.reduceEqDiff, Nat.reduceAdd, Nat.reduceSub, Nat.reduceMul, Nat.reduceLT, Nat.reduceLeDiff, reduceCtorEq, Int.reduceToNat]) | ((first | refine qf ?_ ?_ | refine qe ?_ ?_) <;> intro hc <;> simp only [hc, go_sem, ↓reduceIte, Nat.reduceEqDiff, Nat.reduceAdd, Nat.reduceSub, Nat.reduceMul, Nat.reduceLT, Nat.reduceLeDiff, reduceCtorEq, Int.reduceToNat] <;> (try simp only [qb, qa, decide_eq_true_eq, decide_eq_false_iff_not, Bool.and_eq_true] at hc)) | refine And.intro (by first | assumption | omega | (have := qg (by assumption); omega) | (unfold qp; omega)) ?_ | fail | ((first | refine qc qf1 fun _ => ?_ | refine qd  qf1 ?_); simp only [go_sem, ↓reduceIte, Nat.reduceEqDiff, Nat.reduceAdd, Nat.reduceSub, Nat.reduceMul, Nat.reduceLT, Nat.reduceLeDiff, reduceCtorEq, Int.reduceToNat]))
end Go.Proofs.YtmekebfgmjaenaaGreat
