/- A text of this proof. -/
import Derived.Test.YtmekebfgmjaenaaGreatEbf
import Derived.Test.YtmekebfgmjaenaaGreatEbi

/- expressions: what is read tells that nothing failed; of a text: the reference; PexpsAt: the function -/
set_option maxRecDepth 4000
namespace Go.Proofs.YtmekebfgmjaenaaGreat
open Go Go.RowKit Go.V
set_option linter.unusedVariables false
set_option linter.unusedSimpArgs false

theorem qln (s : List UInt8) : qbf Tryz.prog 18 [.str s] (resV (expV s)) := by
  have g := qu6 (qk0 s).1
  have hem := qji (newK (lexV s).1)
  have hwh := qwj (qoe (rest (newK (lexV s).1) + 2) (newK (lexV s).1) (fun t ht => qkv ht) (by omega))
  refine qu c0b (by simp) (by simp only [go_sem]) (by simp only [go_sem]) fun hw => ?_
  repeat' (first | refine ql ?_ | ((first | refine qn ?_ | refine qm ?_ | refine qi ?_ | refine qh ?_ | refine qc (qtv s) fun _ => ?_ | refine qc (qto _) fun _ => ?_ | refine qc (qxc (rest (newK (lexV s).1) + 2) _ g (by omega)) fun _ => ?_ | refine qc (qoi _ _) fun _ => ?_ | refine qd  (qtv s) ?_ | refine qd  (qto _) ?_ | refine qd  (qxc (rest (newK (lexV s).1) + 2) _ g (by omega)) ?_ | refine qd  (qoi _ _) ?_); simp only [go_sem, ↓reduceIte, Nat.reduceEqDiff, Nat.reduceAdd, Nat.reduceSub, Nat.reduceMul, Nat.reduceLT, Nat.reduceLeDiff, reduceCtorEq, Int.reduceToNat]) | ((first | refine qf ?_ ?_ | refine qe ?_ ?_) <;> intro hc <;> simp only [hc, go_sem, ↓reduceIte, Nat.reduceEqDiff, Nat.reduceAdd, Nat.reduceSub, Nat.reduceMul, Nat.reduceLT, Nat.reduceLeDiff, reduceCtorEq, Int.reduceToNat] <;> (try simp only [qb, qa, decide_eq_true_eq, decide_eq_false_iff_not, Bool.and_eq_true] at hc)) | refine And.intro (by first | assumption | omega | (have := qg (by assumption); omega) | (unfold qp; omega)) ?_ | fail)
  all_goals (try rw [qd3])
  all_goals unfold expV qba8
  all_goals (repeat' split)
  all_goals first | omega | rfl | (exfalso; omega) | (rw [hwh]) | simp_all [go_sem]
end Go.Proofs.YtmekebfgmjaenaaGreat
