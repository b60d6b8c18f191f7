/- A text of this proof. -/
import Derived.Test.YtmekebfgmjaenaaPbq
import Derived.Test.YtmekebfgmjaenaaPbr

/- PexpsParams: the function -/
set_option maxRecDepth 4000
namespace Go.Proofs.Ytmekebfgmjaenaa
open Go Go.RowKit Go.V
set_option linter.unusedVariables false
set_option linter.unusedSimpArgs false

theorem qbm7 (k : Int) : ∃ n : Nat, IntKind.i64.wrap (1 + IntKind.i64.wrap ((IntKind.u64.wrap k).tmod 5)) = (n : Int) ∧ 1 ≤ n ∧ n ≤ 5 := by
  have h0 : 0 ≤ IntKind.u64.wrap k := by simp [IntKind.wrap, IntKind.signed, IntKind.bits]; omega
  have h1 : (IntKind.u64.wrap k).tmod 5 = (IntKind.u64.wrap k) % 5 := Int.tmod_eq_emod_of_nonneg h0
  rw [h1]
  have h2 := Int.emod_nonneg (IntKind.u64.wrap k) (show (5 : Int) ≠ 0 by decide)
  have h3 := Int.emod_lt_of_pos (IntKind.u64.wrap k) (show (0 : Int) < 5 by decide)
  generalize IntKind.u64.wrap k % 5 = m at *
  refine ⟨(1 + m).toNat, ?_, by omega, by omega⟩
  simp only [IntKind.wrap, IntKind.signed, IntKind.bits]
  simp
  omega
set_option maxHeartbeats 2000000 in
theorem qth (k : Int) (s : List UInt8) : qdb Try.prog 3 [.int .i64 k, .str s] (.bool true) := by
  refine qb5 c0a (by simp) (by simp only [go_sem]) (by simp only [go_sem]) fun hw => ?_
  have hsl : s.length ≤ maxLen := by simpa [go_sem] using hw.2.1
  obtain ⟨n, hn, hn1, hn5⟩ := qbm7 k
  repeat' (first | refine ql ?_ | refine qk ?_ | ((first | refine qn ?_ | refine qm ?_ | refine qz ?_ | refine qj ?_ | refine qi ?_ | refine qy qg4 fun _ => ?_ | refine qba  qg4 ?_ | ((first | refine qf ?_ ?_ | refine qc ?_ ?_) <;> intro hc <;> (try simp only [hc]) <;> (try simp only [qb, qa, decide_eq_true_eq, decide_eq_false_iff_not, Bool.and_eq_true] at hc)) | refine And.intro (by first | assumption | omega | (have := qh (by assumption); omega) | (unfold qt; omega)) ?_ | simp (disch := omega) only [qd] | simp (disch := omega) only [qq]) <;> (try simp only [go_sem, ↓reduceIte, Nat.reduceEqDiff, Nat.reduceAdd, Nat.reduceSub, Nat.reduceMul, Nat.reduceLT, Nat.reduceLeDiff, reduceCtorEq, Int.reduceToNat])))
  have hM : 100000 ≤ maxLen := by decide
  rw [hn]
  refine qc5 (S := Nat) (fun i => i ≤ n) (fun i => (⟨[(0, .int .i64 k), (1, .str s), (4, .bool false), (5, .int .i64 n), (6, .str (aB i)), (7, .str (bB i)), (8, .str []), (9, .int .i64 i)], []⟩, [])) (fun i => n - i) ?_ fun i hi => ?_
  · refine qcq 0 [] (Nat.zero_le _) rfl (by simp) ?_ ?_ ?_ <;> (try simp only [go_sem, ↓reduceIte, Nat.reduceEqDiff, Nat.reduceAdd, Nat.reduceSub, Nat.reduceMul, Nat.reduceLT, Nat.reduceLeDiff, reduceCtorEq, Int.reduceToNat]) <;> (try simp (disch := omega) only [qq])
    all_goals exact ⟨rfl, rfl⟩
  have ha := q7v i
  have hb := q7u i
  by_cases hin : i = n
  · subst hin
    have hs : s.length ≤ 1000 := by omega
    obtain ⟨y1, y2⟩ := qyf (s := s) hs hn1 hn5
    have l1 : (bT i s).length ≤ 400000 := by rw [qtn]; omega
    have l2 : (cT i s).length ≤ 400000 := by simp only [cT, List.length_cons, qr4]; omega
    have l3 : (lT i (s ++ qix)).length ≤ 400000 := by simp only [lT, List.length_cons, qr4, List.length_append, qix, List.length_nil]; omega
    have l4 : (mT i (s ++ qix)).length ≤ 400000 := by simp only [mT, List.length_cons, qtn, List.length_append, qix, List.length_nil]; omega
    have e1 := qgq 2 (by decide) _ l1
    have e2 := qgq 10 (by decide) _ l2
    have e3 := qgq 20 (by decide) _ l3
    have e4 := qgq 2 (by decide) _ l4
    generalize expK 2 (bT i s) = r1 at *
    generalize expK 10 (cT i s) = r2 at *
    generalize expK 20 (lT i (s ++ qix)) = r3 at *
    generalize expK 2 (mT i (s ++ qix)) = r4 at *
    rw [← qbkp] at e1
    rw [← qbq8] at e2
    rw [← qblo] at e3
    rw [← qbmf] at e4
    simp only [qix, List.append_assoc, List.cons_append, List.nil_append] at e2 e3 e4
    repeat' (first | refine ql ?_ | refine qk ?_ | ((first | refine qn ?_ | refine qm ?_ | refine qz ?_ | refine qj ?_ | refine qi ?_) <;> (try simp (disch := first | omega | (simp only [List.length_set, List.length_append, List.length_cons, List.length_nil]; done) | (simp only [List.length_set, List.length_append, List.length_cons, List.length_nil]; omega)) only [ha, hb, go_sem, ↓reduceIte, Nat.reduceEqDiff, Nat.reduceAdd, Nat.reduceSub, Nat.reduceMul, Nat.reduceLT, Nat.reduceLeDiff, reduceCtorEq, Int.reduceToNat])) | ((first | ((first | refine qf ?_ ?_ | refine qc ?_ ?_) <;> intro hc <;> (try simp only [hc]) <;> (try simp only [qb, qa, decide_eq_true_eq, decide_eq_false_iff_not, Bool.and_eq_true] at hc)) | refine And.intro (by first | assumption | omega | (have := qh (by assumption); omega) | (unfold qt; omega)) ?_ | simp (disch := omega) only [qd] | simp (disch := omega) only [qq] | refine qy e1 fun _ => ?_ | refine qy e2 fun _ => ?_ | refine qy e3 fun _ => ?_ | refine qy e4 fun _ => ?_ | refine qy (qon _ _) fun _ => ?_ | refine qy qg4 fun _ => ?_ | refine qba  e1 ?_ | refine qba  e2 ?_ | refine qba  e3 ?_ | refine qba  e4 ?_ | refine qba  (qon _ _) ?_ | refine qba  qg4 ?_) <;> (try simp only [go_sem, ↓reduceIte, Nat.reduceEqDiff, Nat.reduceAdd, Nat.reduceSub, Nat.reduceMul, Nat.reduceLT, Nat.reduceLeDiff, reduceCtorEq, Int.reduceToNat])))
    all_goals first | (exfalso; omega) | (simp_all; done) | trace_state
  · repeat' (first | refine ql ?_ | refine qk ?_ | ((first | refine qn ?_ | refine qm ?_ | refine qz ?_ | refine qj ?_ | refine qi ?_) <;> (try simp (disch := first | omega | (simp only [List.length_set, List.length_append, List.length_cons, List.length_nil]; done) | (simp only [List.length_set, List.length_append, List.length_cons, List.length_nil]; omega)) only [ha, hb, go_sem, ↓reduceIte, Nat.reduceEqDiff, Nat.reduceAdd, Nat.reduceSub, Nat.reduceMul, Nat.reduceLT, Nat.reduceLeDiff, reduceCtorEq, Int.reduceToNat])) | ((first | ((first | refine qf ?_ ?_ | refine qc ?_ ?_) <;> intro hc <;> (try simp only [hc]) <;> (try simp only [qb, qa, decide_eq_true_eq, decide_eq_false_iff_not, Bool.and_eq_true] at hc)) | refine And.intro (by first | assumption | omega | (have := qh (by assumption); omega) | (unfold qt; omega)) ?_ | simp (disch := omega) only [qd] | simp (disch := omega) only [qq]) <;> (try simp only [go_sem, ↓reduceIte, Nat.reduceEqDiff, Nat.reduceAdd, Nat.reduceSub, Nat.reduceMul, Nat.reduceLT, Nat.reduceLeDiff, reduceCtorEq, Int.reduceToNat])))
    · refine qcq (i + 1) [] ⟨by omega, by omega⟩ rfl (by simp) ?_ ?_ ?_ <;> (try simp only [go_sem, ↓reduceIte, Nat.reduceEqDiff, Nat.reduceAdd, Nat.reduceSub, Nat.reduceMul, Nat.reduceLT, Nat.reduceLeDiff, reduceCtorEq, Int.reduceToNat]) <;> (try simp (disch := omega) only [qq])
      all_goals first | rfl | exact ⟨rfl, rfl⟩
    · omega
end Go.Proofs.Ytmekebfgmjaenaa
