/- A text of this proof. -/
import Derived.Test.YtmekebfgmjaenaaRbq
import Derived.Test.YtmekebfgmjaenaaRbr

/- PexpsBrackets: the function -/
set_option maxRecDepth 4000
namespace Go.Proofs.Ytmekebfgmjaenaa
open Go Go.RowKit Go.V
set_option linter.unusedVariables false
set_option linter.unusedSimpArgs false

set_option maxHeartbeats 2000000 in
theorem qob (s : List UInt8) : qda Try.prog 4 [.str s] (.bool true) := by
  refine qb3 c0a (by simp) (by simp only [go_sem]) (by simp only [go_sem]) fun hw => ?_
  have hsl : s.length ≤ maxLen := by simpa [go_sem] using hw.1
  have hM : 100000 ≤ maxLen := by decide
  by_cases hs : s.length ≤ 2000
  · have l2 : (qdi s).length ≤ 400000 := by simp only [qdi, endB, List.length_cons, List.length_append, List.length_nil]; omega
    have e1 := qkg 2 (by decide) s (by omega)
    have e2 := qkg 2 (by decide) _ l2
    have hlaw : (expK 2 s).2.2 = 0 → ((expK 2 (qdi s)).2.2 = 0 ∧ qqk (expK 2 s).1 (expK 2 (qdi s)).1 = true) ∨ (expK 2 (qdi s)).2.2 = 2 := fun h => (qsm (by omega) h).imp (fun q => ⟨q.1, qbgn _ _ q.2⟩) id
    generalize expK 2 s = r1 at *
    generalize expK 2 (qdi s) = r2 at *
    simp only [qdi, endB] at e2
    repeat' (first | refine ql ?_ | ((first | refine qn ?_ | refine qm ?_ | refine qj ?_ | refine qi ?_ | refine qx qg5 fun _ => ?_ | refine qx e1 fun _ => ?_ | refine qx e2 fun _ => ?_ | refine qx (qpi _ _) fun _ => ?_ | refine qba  qg5 ?_ | refine qba  e1 ?_ | refine qba  e2 ?_ | refine qba  (qpi _ _) ?_ | ((first | refine qf ?_ ?_ | refine qc ?_ ?_) <;> intro hc <;> (try simp only [hc]) <;> (try simp only [qb, qa, decide_eq_true_eq, decide_eq_false_iff_not, Bool.and_eq_true] at hc)) | refine And.intro (by first | assumption | omega | (have := qh (by assumption); omega) | (unfold qs; omega)) ?_ | simp (disch := omega) only [qd] | simp (disch := omega) only [qr]) <;> (try simp only [go_sem, ↓reduceIte, Nat.reduceEqDiff, Nat.reduceAdd, Nat.reduceSub, Nat.reduceMul, Nat.reduceLT, Nat.reduceLeDiff, reduceCtorEq, Int.reduceToNat])))
    all_goals first | (exfalso; omega) | (simp_all; done) | (rcases hlaw (by assumption) with ⟨q1, q2⟩ | q <;> simp_all; done) | trace_state
  · repeat' (first | refine ql ?_ | ((first | refine qn ?_ | refine qm ?_ | refine qj ?_ | refine qi ?_ | refine qx qg5 fun _ => ?_ | refine qba  qg5 ?_ | ((first | refine qf ?_ ?_ | refine qc ?_ ?_) <;> intro hc <;> (try simp only [hc]) <;> (try simp only [qb, qa, decide_eq_true_eq, decide_eq_false_iff_not, Bool.and_eq_true] at hc)) | refine And.intro (by first | assumption | omega | (have := qh (by assumption); omega) | (unfold qs; omega)) ?_ | simp (disch := omega) only [qd] | simp (disch := omega) only [qr]) <;> (try simp only [go_sem, ↓reduceIte, Nat.reduceEqDiff, Nat.reduceAdd, Nat.reduceSub, Nat.reduceMul, Nat.reduceLT, Nat.reduceLeDiff, reduceCtorEq, Int.reduceToNat])))
    all_goals (exfalso; omega)
end Go.Proofs.Ytmekebfgmjaenaa
