/- A text of this proof. -/
import Derived.Test.YtfjbmjplnmaclaaObq

/- declarations: the examples of the statements -/
set_option maxRecDepth 4000
namespace Go.Proofs.Ytfjbmjplnmaclaa
open Go Go.RowKit Go.V
set_option linter.unusedVariables false
set_option linter.unusedSimpArgs false

def dcS : List UInt8 := [99, 108, 97, 115, 115, 32, 69, 113, 32, 97, 32, 61, 62, 32, 79, 114, 100, 32, 97, 32, 119, 104, 101, 114, 101, 32, 123, 32, 108, 116, 32, 58, 58, 32, 97, 32, 45, 62, 32, 97, 32, 45, 62, 32, 66, 32, 125, 59, 32, 105, 110, 115, 116, 97, 110, 99, 101, 32, 69, 113, 32, 66, 32, 119, 104, 101, 114, 101, 32, 123, 32, 101, 113, 32, 120, 32, 121, 32, 61, 32, 84, 59, 32, 125, 59, 32, 102, 32, 58, 58, 32, 66, 59, 32, 102, 32, 61, 32, 84]
def dn1k : N := .mk 33 0 0 [66] [.mk 34 9 0 [84] [], .mk 34 13 0 [70] []]
def dn1 : N := .mk 37 0 0 [] [dn1k]
def dn2a : List N := [.mk 3 6 0 [69, 113] [.mk 1 9 0 [97] []], .mk 1 18 0 [97] [], .mk 32 28 0 [108, 116] [.mk 4 34 0 [] [.mk 2 34 0 [45, 62] [.mk 1 34 0 [97] [], .mk 2 39 0 [45, 62] [.mk 1 39 0 [97] [], .mk 2 44 0 [66] []]]]]]
def dn2b : List N := [.mk 2 61 0 [66] [], .mk 31 71 0 [101, 113] [.mk 25 74 0 [120] [.mk 25 76 0 [121] [.mk 22 80 0 [84] []]]]]
def dn2c : List N := [.mk 32 86 0 [102] [.mk 4 91 0 [] [.mk 2 91 0 [66] []]], .mk 31 94 0 [102] [.mk 22 98 0 [84] []]]
def dn2 : N := .mk 37 0 0 [] (.mk 35 0 1 [79, 114, 100] dn2a :: .mk 36 49 0 [69, 113] dn2b :: dn2c)
def dn3 : N := .mk 33 0 1 [77] [.mk 1 7 0 [97] [], .mk 34 11 0 [78] [], .mk 34 15 0 [74] [.mk 1 17 0 [97] []]]
def dn5 : N := .mk 37 0 0 [] []
theorem awD1 : qde Try.prog 7 [.str [100, 97, 116, 97, 32, 66, 32, 61, 32, 84, 32, 124, 32, 70, 59]] (.tup [enc dn1, .int .i64 0, .int .i64 0]) := qt7 (qd1 _ (by decide)) (by rw [show qji [100, 97, 116, 97, 32, 66, 32, 61, 32, 84, 32, 124, 32, 70, 59] = (dn1, 0, 0) by kernel_rfl]; rfl)
theorem awD2 : qde Try.prog 7 [.str dcS] (.tup [enc dn2, .int .i64 0, .int .i64 0]) := qt7 (qd1 _ (by decide)) (by rw [show qji dcS = (dn2, 0, 0) by kernel_rfl]; rfl)
theorem awD3 : qde Try.prog 8 [.str [100, 97, 116, 97, 32, 77, 32, 97, 32, 61, 32, 78, 32, 124, 32, 74, 32, 97]] (.tup [enc dn3, .int .i64 0, .int .i64 0]) := qt7 (qo9 _ (by decide)) (by rw [show ql1 [100, 97, 116, 97, 32, 77, 32, 97, 32, 61, 32, 78, 32, 124, 32, 74, 32, 97] = (dn3, 0, 0) by kernel_rfl]; rfl)
theorem awD4 : qde Try.prog 7 [.str [120, 32, 61, 32, 49, 59, 32, 59]] (.tup [enc N0, .int .i64 7, .int .i64 5]) := qt7 (qd1 _ (by decide)) (by rw [show qji [120, 32, 61, 32, 49, 59, 32, 59] = (N0, 7, 5) by kernel_rfl]; rfl)
theorem awD5 : qde Try.prog 7 [.str []] (.tup [enc dn5, .int .i64 0, .int .i64 0]) := qt7 (qd1 _ (by decide)) (by rw [show qji [] = (dn5, 0, 0) by kernel_rfl]; rfl)
theorem qbmy : dn1.kids.length = 1 := rfl
theorem qbas : (encs dn1.kids).getD 0 .junk = .agg [.int .i64 33, .int .i64 0, .int .i64 0, .str [66], .sl 5 [enc (.mk 34 9 0 [84] []), enc (.mk 34 13 0 [70] [])]] := rfl
theorem qbpa : dn2.kids.length = 4 := rfl
theorem q8t : (encs dn2.kids).getD 0 .junk = .agg [.int .i64 35, .int .i64 0, .int .i64 1, .str [79, 114, 100], .sl 5 (encs dn2a)] := rfl
theorem qbb3 : (encs dn2.kids).getD 1 .junk = .agg [.int .i64 36, .int .i64 49, .int .i64 0, .str [69, 113], .sl 5 (encs dn2b)] := rfl
theorem qbed : dn3.num = 1 := rfl
theorem qbko : dn3.kids.length = 3 := rfl
theorem qba8 : dn5.kind = 37 := rfl
attribute [go_sem] qbmy qbas qbpa q8t qbb3 qbed qbko qba8
theorem qeb : qde Try.prog 6 [] (.bool true) := by
  refine qb7 c0do (by simp) (by simp only [go_sem]) rfl fun hw => ?_
  have h2 := awD2
  unfold dcS at h2
  repeat' (first | refine qj ?_ | ((first | refine qn ?_ | refine qk ?_ | refine qh ?_ | refine qg ?_) <;> (try simp (disch := first | omega | (simp only [List.length_set, List.length_append, List.length_cons, List.length_nil]; done) | (simp only [List.length_set, List.length_append, List.length_cons, List.length_nil]; omega)) only [Int.reduceLT, Int.reduceLE, Int.reduceEq, decide_true, ne_eq, not_true_eq_false, go_sem, ↓reduceIte, Nat.reduceEqDiff, Nat.reduceAdd, Nat.reduceSub, Nat.reduceMul, Nat.reduceLT, Nat.reduceLeDiff, reduceCtorEq, Int.reduceToNat])) | ((first | ((first | refine qe ?_ ?_ | refine qd ?_ ?_) <;> intro hc <;> (try simp only [hc]) <;> (try simp only [qb, qa, decide_eq_true_eq, decide_eq_false_iff_not, Bool.and_eq_true] at hc)) | refine And.intro (by first | assumption | omega | (have := qf (by assumption); omega) | (unfold qp; omega)) ?_ | simp (disch := omega) only [qc] | simp (disch := omega) only [qo] | refine qv awD1 fun _ => ?_ | refine qv h2 fun _ => ?_ | refine qv awD3 fun _ => ?_ | refine qv awD4 fun _ => ?_ | refine qv awD5 fun _ => ?_ | refine qy  awD1 ?_ | refine qy  h2 ?_ | refine qy  awD3 ?_ | refine qy  awD4 ?_ | refine qy  awD5 ?_) <;> (try simp only [go_sem, ↓reduceIte, Nat.reduceEqDiff, Nat.reduceAdd, Nat.reduceSub, Nat.reduceMul, Nat.reduceLT, Nat.reduceLeDiff, reduceCtorEq, Int.reduceToNat])))
  all_goals first | exact absurd rfl (by assumption) | trace_state
end Go.Proofs.Ytfjbmjplnmaclaa
