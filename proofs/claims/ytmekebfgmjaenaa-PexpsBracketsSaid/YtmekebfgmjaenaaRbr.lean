/- A text of this proof. -/
import Derived.Test.YtmekebfgmjaenaaRbp

/- expressions: of any words: the statement's function -/
set_option maxRecDepth 4000
namespace Go.Proofs.Ytmekebfgmjaenaa
open Go Go.RowKit Go.V
set_option linter.unusedVariables false
set_option linter.unusedSimpArgs false

def en1 : N := .mk 24 0 0 [] [.mk 24 0 0 [] [.mk 21 0 0 [102] [], .mk 21 2 0 [120] []], .mk 23 4 1 [] []]
def enS : List UInt8 := [92, 32, 120, 32, 121, 32, 45, 62, 32, 108, 101, 116, 32, 123, 32, 103, 32, 122, 32, 61, 32, 122, 59, 32, 125, 32, 105, 110, 32, 99, 97, 115, 101, 32, 120, 32, 111, 102, 32, 123, 32, 75, 32, 97, 32, 45, 62, 32, 105, 102, 32, 97, 32, 116, 104, 101, 110, 32, 121, 32, 101, 108, 115, 101, 32, 50, 32, 125]
def en3 : N := .mk 26 9 0 [] [.mk 31 15 0 [103] [.mk 25 17 0 [122] [.mk 21 21 0 [122] []]], .mk 27 29 0 [] [.mk 21 34 0 [120] [], .mk 15 41 0 [] [.mk 14 41 0 [75] [.mk 11 43 0 [97] []], .mk 28 48 0 [] [.mk 21 51 0 [97] [], .mk 21 58 0 [121] [], .mk 23 65 2 [] []]]]]
def en2 : N := .mk 25 2 0 [120] [.mk 25 4 0 [121] [en3]]
theorem awE1 : qda Try.prog 6 [.str [102, 32, 120, 32, 49]] (.tup [enc en1, .int .i64 0, .int .i64 0]) := qzl (qm2 _ (by decide)) (by rw [show expV [102, 32, 120, 32, 49] = (en1, 0, 0) by kernel_rfl]; rfl)
theorem awE2 : qda Try.prog 6 [.str enS] (.tup [enc en2, .int .i64 0, .int .i64 0]) := qzl (qm2 _ (by decide)) (by rw [show expV enS = (en2, 0, 0) by kernel_rfl]; rfl)
theorem awE3 : qda Try.prog 6 [.str [108, 101, 116, 32, 123, 32, 125, 32, 105, 110, 32, 120]] (.tup [enc N0, .int .i64 6, .int .i64 5]) := qzl (qm2 _ (by decide)) (by rw [show expV [108, 101, 116, 32, 123, 32, 125, 32, 105, 110, 32, 120] = (N0, 6, 5) by kernel_rfl]; rfl)
theorem q4g : en1.kind = 24 := rfl
theorem qbdq : en1.kids.length = 2 := rfl
theorem q32 : (encs en1.kids).getD 0 .junk = .agg [.int .i64 24, .int .i64 0, .int .i64 0, .str [], .sl 5 [enc (.mk 21 0 0 [102] []), enc (.mk 21 2 0 [120] [])]] := rfl
theorem q5s : (encs en1.kids).getD 1 .junk = .agg [.int .i64 23, .int .i64 4, .int .i64 1, .str [], .sl 5 []] := rfl
theorem q3f : en2.kind = 25 := rfl
theorem q4a : en2.text = [120] := rfl
theorem qbcy : en2.kids.length = 1 := rfl
theorem q3e : (encs en2.kids).getD 0 .junk = .agg [.int .i64 25, .int .i64 4, .int .i64 0, .str [121], .sl 5 [enc en3]] := rfl
attribute [go_sem] q4g qbdq q32 q5s q3f q4a qbcy q3e
theorem qg5 : qda Try.prog 5 [] (.bool true) := by
  refine qb3 c0cp (by simp) (by simp only [go_sem]) rfl fun hw => ?_
  have h2 := awE2
  unfold enS at h2
  repeat' (first | refine ql ?_ | ((first | refine qn ?_ | refine qm ?_ | refine qj ?_ | refine qi ?_) <;> (try simp (disch := first | omega | (simp only [List.length_set, List.length_append, List.length_cons, List.length_nil]; done) | (simp only [List.length_set, List.length_append, List.length_cons, List.length_nil]; omega)) only [Int.reduceLT, Int.reduceLE, Int.reduceEq, decide_true, ne_eq, not_true_eq_false, go_sem, ↓reduceIte, Nat.reduceEqDiff, Nat.reduceAdd, Nat.reduceSub, Nat.reduceMul, Nat.reduceLT, Nat.reduceLeDiff, reduceCtorEq, Int.reduceToNat])) | ((first | ((first | refine qf ?_ ?_ | refine qc ?_ ?_) <;> intro hc <;> (try simp only [hc]) <;> (try simp only [qb, qa, decide_eq_true_eq, decide_eq_false_iff_not, Bool.and_eq_true] at hc)) | refine And.intro (by first | assumption | omega | (have := qh (by assumption); omega) | (unfold qs; omega)) ?_ | simp (disch := omega) only [qd] | simp (disch := omega) only [qr] | refine qx awE1 fun _ => ?_ | refine qx h2 fun _ => ?_ | refine qx awE3 fun _ => ?_ | refine qba  awE1 ?_ | refine qba  h2 ?_ | refine qba  awE3 ?_) <;> (try simp only [go_sem, ↓reduceIte, Nat.reduceEqDiff, Nat.reduceAdd, Nat.reduceSub, Nat.reduceMul, Nat.reduceLT, Nat.reduceLeDiff, reduceCtorEq, Int.reduceToNat])))
  all_goals first | exact absurd rfl (by assumption) | trace_state
end Go.Proofs.Ytmekebfgmjaenaa
