/- A text of this proof. -/
import Derived.Test.YtmekebfgmjaenaaGreatEbb
import Derived.Test.YtmekebfgmjaenaaGreatEbg

/- types: of a text: the reference; the statements' functions -/
set_option maxRecDepth 4000
namespace Go.Proofs.YtmekebfgmjaenaaGreat
open Go Go.RowKit Go.V
set_option linter.unusedVariables false
set_option linter.unusedSimpArgs false

theorem qoi (c : K) (n : N) : qbf Tryz.prog 40 [refC c, enc n] (resV (qmx c n)) := by
  refine qu c0ez (by simp) (by simp only [go_sem]) (by simp only [go_sem]) fun hw => ?_
  repeat' (first | refine ql ?_ | ((first | refine qn ?_ | refine qbc (by rfl) ?_ | refine qy ?_ | refine qm ?_ | refine qi ?_ | refine qh ?_ | refine qc (qpv c) fun _ => ?_ | refine qc (q4x n) fun _ => ?_ | refine qd  (qpv c) ?_ | refine qd  (q4x n) ?_); simp only [go_sem, ↓reduceIte, Nat.reduceEqDiff, Nat.reduceAdd, Nat.reduceSub, Nat.reduceMul, Nat.reduceLT, Nat.reduceLeDiff, reduceCtorEq, Int.reduceToNat]) | ((first | refine qf ?_ ?_ | refine qe ?_ ?_) <;> intro hc <;> simp only [hc, go_sem, ↓reduceIte, Nat.reduceEqDiff, Nat.reduceAdd, Nat.reduceSub, Nat.reduceMul, Nat.reduceLT, Nat.reduceLeDiff, reduceCtorEq, Int.reduceToNat] <;> (try simp only [qb, qa, decide_eq_true_eq, decide_eq_false_iff_not, Bool.and_eq_true] at hc)) | refine And.intro (by first | assumption | omega | (have := qg (by assumption); omega) | (unfold qp; omega)) ?_ | fail)
  all_goals (try rw [qd3])
  all_goals unfold qmx
  all_goals (repeat' split)
  all_goals first | omega | rfl | simp_all [go_sem]
theorem qwj {p : K × Option N} {r : K × N} (h : qed p r) : qmx r.1 r.2 = qmx p.1 (p.2.getD N0) := by
  obtain ⟨a1, a2, a3⟩ := h
  rw [← a1]
  unfold qmx
  split
  · rename_i hd
    cases ho : p.2 with
    | none => exact absurd (q16 hd) (a3 ho)
    | some n => rw [a2 n ho]; rfl
  · rfl
theorem q0v : ∀ n, qut n n = true := N.ind fun n ih => by
  rw [qic]
  have key : ∀ l : List N, (∀ x ∈ l, qut x x = true) → qe8 l l = true := by
    intro l
    induction l with
    | nil => intro _; rw [qe8]
    | cons x r ihr => intro h; rw [qe8, h x (by simp), ihr fun y hy => h y (by simp [hy])]; rfl
  simp [key n.kids ih]
end Go.Proofs.YtmekebfgmjaenaaGreat
