/- A text of this proof. -/
import Derived.Test.YtfjbmjplnmaclaaObt
import Derived.Test.YtfjbmjplnmaclaaObu

/- a program of one declaration: the function -/
set_option maxRecDepth 4000
namespace Go.Proofs.Ytfjbmjplnmaclaa
open Go Go.RowKit Go.V
set_option linter.unusedVariables false
set_option linter.unusedSimpArgs false

theorem qbea (n : N) : AV.agg [.int .i64 37, .int .i64 0, .int .i64 0, .str [], .sl 5 [enc n]] = enc (qj8 [n]) := by simp only [qj8, enc, encs]
theorem q8h (n : N) : qde Try.prog 10 [enc (qj8 [n]), enc (qj8 [n])] (.bool true) := qt7 (q2f _ _) (by rw [q30])
set_option maxHeartbeats 2000000 in
theorem q3p (s : List UInt8) : qde Try.prog 4 [.str s] (.bool true) := by
  refine qb7 c0a (by simp) (by simp only [go_sem]) (by simp only [go_sem]) fun hw => ?_
  have hsl : s.length ≤ maxLen := by simpa [go_sem] using hw.1
  have hM : 100000 ≤ maxLen := by decide
  by_cases hs : s.length ≤ 3000
  · have e0 := qo9 s (by omega)
    have e1 := qd1 s (by omega)
    have l2 : (s ++ [10, 59]).length ≤ 400000 := by simp only [List.length_append, List.length_cons, List.length_nil]; omega
    have e2 := qd1 _ l2
    have hlaw : (ql1 s).2.2 = 0 → depR (ql1 s).1 < 100 → qji s = (qj8 [(ql1 s).1], 0, 0) ∧ qji (s ++ [10, 59]) = (qj8 [(ql1 s).1], 0, 0) := fun h h2 => EX.law_one hs h h2
    have hd := qbiu (ql1 s).1
    have hj := q8h (ql1 s).1
    generalize ql1 s = r0 at *
    obtain ⟨n, p, e⟩ := r0
    simp only at hlaw hd hj
    have hjs : qde Try.prog 10 [enc (qj8 [n]), .agg [.int .i64 37, .int .i64 0, .int .i64 0, .str [], .sl 5 [enc n]]] (.bool true) := by rw [qbea]; exact hj
    by_cases he : e = 0
    · by_cases hdp : depR n < 100
      · obtain ⟨q1, q2⟩ := hlaw he hdp
        rw [q1] at e1
        rw [q2] at e2
        subst he
        clear hlaw q1 q2
        repeat' (first | refine qj ?_ | ((first | refine qn ?_ | refine qk ?_ | refine qh ?_ | refine qg ?_ | refine qv qeb fun _ => ?_ | refine qv e0 fun _ => ?_ | refine qv e1 fun _ => ?_ | refine qv e2 fun _ => ?_ | refine qv hd fun _ => ?_ | refine qv hj fun _ => ?_ | refine qv hjs fun _ => ?_ | refine qy  qeb ?_ | refine qy  e0 ?_ | refine qy  e1 ?_ | refine qy  e2 ?_ | refine qy  hd ?_ | refine qy  hj ?_ | refine qy  hjs ?_ | ((first | refine qe ?_ ?_ | refine qd ?_ ?_) <;> intro hc <;> (try simp only [hc]) <;> (try simp only [qb, qa, decide_eq_true_eq, decide_eq_false_iff_not, Bool.and_eq_true] at hc)) | refine And.intro (by first | assumption | omega | (have := qf (by assumption); omega) | (unfold qp; omega)) ?_ | simp (disch := omega) only [qc] | simp (disch := omega) only [qo]) <;> (try simp only [go_sem, ↓reduceIte, Nat.reduceEqDiff, Nat.reduceAdd, Nat.reduceSub, Nat.reduceMul, Nat.reduceLT, Nat.reduceLeDiff, reduceCtorEq, Int.reduceToNat])))
        all_goals first | (exfalso; omega) | (simp_all; done) | trace_state
      · subst he
        clear hlaw
        generalize qji s = r1 at *
        generalize qji (s ++ [10, 59]) = r2 at *
        repeat' (first | refine qj ?_ | ((first | refine qn ?_ | refine qk ?_ | refine qh ?_ | refine qg ?_ | refine qv qeb fun _ => ?_ | refine qv e0 fun _ => ?_ | refine qv e1 fun _ => ?_ | refine qv e2 fun _ => ?_ | refine qv hd fun _ => ?_ | refine qy  qeb ?_ | refine qy  e0 ?_ | refine qy  e1 ?_ | refine qy  e2 ?_ | refine qy  hd ?_ | ((first | refine qe ?_ ?_ | refine qd ?_ ?_) <;> intro hc <;> (try simp only [hc]) <;> (try simp only [qb, qa, decide_eq_true_eq, decide_eq_false_iff_not, Bool.and_eq_true] at hc)) | refine And.intro (by first | assumption | omega | (have := qf (by assumption); omega) | (unfold qp; omega)) ?_ | simp (disch := omega) only [qc] | simp (disch := omega) only [qo]) <;> (try simp only [go_sem, ↓reduceIte, Nat.reduceEqDiff, Nat.reduceAdd, Nat.reduceSub, Nat.reduceMul, Nat.reduceLT, Nat.reduceLeDiff, reduceCtorEq, Int.reduceToNat])))
        all_goals first | (exfalso; omega) | (simp_all; done) | trace_state
    · clear hlaw
      generalize qji s = r1 at *
      generalize qji (s ++ [10, 59]) = r2 at *
      repeat' (first | refine qj ?_ | ((first | refine qn ?_ | refine qk ?_ | refine qh ?_ | refine qg ?_ | refine qv qeb fun _ => ?_ | refine qv e0 fun _ => ?_ | refine qv e1 fun _ => ?_ | refine qv e2 fun _ => ?_ | refine qv hd fun _ => ?_ | refine qy  qeb ?_ | refine qy  e0 ?_ | refine qy  e1 ?_ | refine qy  e2 ?_ | refine qy  hd ?_ | ((first | refine qe ?_ ?_ | refine qd ?_ ?_) <;> intro hc <;> (try simp only [hc]) <;> (try simp only [qb, qa, decide_eq_true_eq, decide_eq_false_iff_not, Bool.and_eq_true] at hc)) | refine And.intro (by first | assumption | omega | (have := qf (by assumption); omega) | (unfold qp; omega)) ?_ | simp (disch := omega) only [qc] | simp (disch := omega) only [qo]) <;> (try simp only [go_sem, ↓reduceIte, Nat.reduceEqDiff, Nat.reduceAdd, Nat.reduceSub, Nat.reduceMul, Nat.reduceLT, Nat.reduceLeDiff, reduceCtorEq, Int.reduceToNat])))
      all_goals first | (exfalso; omega) | (simp_all; done) | trace_state
  · repeat' (first | refine qj ?_ | ((first | refine qn ?_ | refine qk ?_ | refine qh ?_ | refine qg ?_ | refine qv qeb fun _ => ?_ | refine qy  qeb ?_ | ((first | refine qe ?_ ?_ | refine qd ?_ ?_) <;> intro hc <;> (try simp only [hc]) <;> (try simp only [qb, qa, decide_eq_true_eq, decide_eq_false_iff_not, Bool.and_eq_true] at hc)) | refine And.intro (by first | assumption | omega | (have := qf (by assumption); omega) | (unfold qp; omega)) ?_ | simp (disch := omega) only [qc] | simp (disch := omega) only [qo]) <;> (try simp only [go_sem, ↓reduceIte, Nat.reduceEqDiff, Nat.reduceAdd, Nat.reduceSub, Nat.reduceMul, Nat.reduceLT, Nat.reduceLeDiff, reduceCtorEq, Int.reduceToNat])))
    all_goals (exfalso; omega)
end Go.Proofs.Ytfjbmjplnmaclaa
