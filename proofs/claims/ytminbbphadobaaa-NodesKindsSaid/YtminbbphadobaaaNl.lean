/- trees: the head of each statement -/
import Derived.Test.YtminbbphadobaaaNj
namespace Go.Proofs.Ytminbbphadobaaa
open Go Go.RowKit Go.V
set_option linter.unusedVariables false
set_option linter.unusedSimpArgs false

def aX : N := .mk 21 3 0 [120] []
def aN : N := .mk 24 0 0 [] [aX, aX]
def aT : N := .mk 2 0 0 [45, 62] [.mk 1 0 0 [97] [], .mk 2 0 0 [84] []]
def aE : N := .mk 24 0 0 [] []
def aP : N := .mk 12 0 0 [] []
def aD : N := .mk 37 0 0 [] []
theorem pure_eq {f : FuncId} {args : List AV} {r r' : AV} (h : VPure Try.prog f args r) (e : r = r') : VPure Try.prog f args r' := e ▸ h
theorem aw1 : VPure Try.prog 11 [enc aN] (.int .i64 2) := pure_eq (depth11 aN) rfl
theorem aw2 : VPure Try.prog 9 [enc aN] (.int .i64 3) := pure_eq (size9 aN) rfl
theorem okX : okN aX := by simp [okN, okNs, aX]
theorem aw3 : VPure Try.prog 13 [enc aX] (.agg [.int .i64 21, .int .i64 0, .int .i64 0, .str [120], .sl 5 []]) := pure_eq (nodes_Strip aX okX) rfl
theorem aw4 : VPure Try.prog 14 [enc aX, enc (.mk 21 0 0 [120] [])] (.bool true) := pure_eq (nodes_Same _ _) rfl
theorem aw5 : VPure Try.prog 14 [enc aX, enc aN] (.bool false) := pure_eq (nodes_Same _ _) rfl
theorem aw6 : VPure Try.prog 22 [enc aN] (.bool true) := pure_eq (nodes_Exp _) (by rw [show (lowW aN && exW aN) = true by decide])
theorem aw7 : VPure Try.prog 22 [enc aE] (.bool false) := pure_eq (nodes_Exp _) (by rw [show (lowW aE && exW aE) = false by decide])
theorem aw8 : VPure Try.prog 18 [enc aT] (.bool true) := pure_eq (nodes_Type _) (by rw [show (lowW aT && tyW aT) = true by decide])
theorem aw9 : VPure Try.prog 18 [enc aX] (.bool false) := pure_eq (nodes_Type _) (by rw [show (lowW aX && tyW aX) = false by decide])
theorem aw10 : VPure Try.prog 20 [enc aP] (.bool true) := pure_eq (nodes_Pat _) (by rw [show (lowW aP && paW aP) = true by decide])
theorem aw11 : VPure Try.prog 20 [enc aX] (.bool false) := pure_eq (nodes_Pat _) (by rw [show (lowW aX && paW aX) = false by decide])
theorem aw12 : VPure Try.prog 24 [enc aD] (.bool true) := pure_eq (nodes_Decl _) (by rw [show declW aD = true by decide])
theorem aw13 : VPure Try.prog 24 [enc aX] (.bool false) := pure_eq (nodes_Decl _) (by rw [show declW aX = false by decide])

theorem law06_awake : VPure Try.prog 8 [] (.bool true) := by
  refine vpure_of c_envoylaw06_awake (by simp) (by simp only [go_sem]) rfl fun hw => ?_
  refine vi_seq (vi_reg ?_)
  simp only [go_sem, ↓reduceIte, Nat.reduceEqDiff, Nat.reduceAdd, Nat.reduceSub, Nat.reduceMul, Nat.reduceLT, Nat.reduceLeDiff, reduceCtorEq, Int.reduceToNat]
  refine vi_seq (vi_reg ?_)
  simp only [go_sem, ↓reduceIte, Nat.reduceEqDiff, Nat.reduceAdd, Nat.reduceSub, Nat.reduceMul, Nat.reduceLT, Nat.reduceLeDiff, reduceCtorEq, Int.reduceToNat]
  refine vi_seq (vi_reg ?_)
  simp only [go_sem, ↓reduceIte, Nat.reduceEqDiff, Nat.reduceAdd, Nat.reduceSub, Nat.reduceMul, Nat.reduceLT, Nat.reduceLeDiff, reduceCtorEq, Int.reduceToNat]
  refine vi_seq (vi_reg ?_)
  simp only [go_sem, ↓reduceIte, Nat.reduceEqDiff, Nat.reduceAdd, Nat.reduceSub, Nat.reduceMul, Nat.reduceLT, Nat.reduceLeDiff, reduceCtorEq, Int.reduceToNat]
  refine vi_seq (vi_regE (by rfl) ?_)
  simp only [go_sem, ↓reduceIte, Nat.reduceEqDiff, Nat.reduceAdd, Nat.reduceSub, Nat.reduceMul, Nat.reduceLT, Nat.reduceLeDiff, reduceCtorEq, Int.reduceToNat]
  repeat' (first | (refine dapp_pure aw1 ?_; simp only [go_sem, ↓reduceIte, Nat.reduceEqDiff, Nat.reduceAdd, Nat.reduceSub, Nat.reduceMul, Nat.reduceLT, Nat.reduceLeDiff, reduceCtorEq, Int.reduceToNat]) | (refine dapp_pure aw2 ?_; simp only [go_sem, ↓reduceIte, Nat.reduceEqDiff, Nat.reduceAdd, Nat.reduceSub, Nat.reduceMul, Nat.reduceLT, Nat.reduceLeDiff, reduceCtorEq, Int.reduceToNat]) | (refine dapp_pure aw3 ?_; simp only [go_sem, ↓reduceIte, Nat.reduceEqDiff, Nat.reduceAdd, Nat.reduceSub, Nat.reduceMul, Nat.reduceLT, Nat.reduceLeDiff, reduceCtorEq, Int.reduceToNat]) | (refine dapp_pure aw4 ?_; simp only [go_sem, ↓reduceIte, Nat.reduceEqDiff, Nat.reduceAdd, Nat.reduceSub, Nat.reduceMul, Nat.reduceLT, Nat.reduceLeDiff, reduceCtorEq, Int.reduceToNat]) | (refine dapp_pure aw5 ?_; simp only [go_sem, ↓reduceIte, Nat.reduceEqDiff, Nat.reduceAdd, Nat.reduceSub, Nat.reduceMul, Nat.reduceLT, Nat.reduceLeDiff, reduceCtorEq, Int.reduceToNat]) | (refine dapp_pure aw6 ?_; simp only [go_sem, ↓reduceIte, Nat.reduceEqDiff, Nat.reduceAdd, Nat.reduceSub, Nat.reduceMul, Nat.reduceLT, Nat.reduceLeDiff, reduceCtorEq, Int.reduceToNat]) | (refine dapp_pure aw7 ?_; simp only [go_sem, ↓reduceIte, Nat.reduceEqDiff, Nat.reduceAdd, Nat.reduceSub, Nat.reduceMul, Nat.reduceLT, Nat.reduceLeDiff, reduceCtorEq, Int.reduceToNat]) | (refine dapp_pure aw8 ?_; simp only [go_sem, ↓reduceIte, Nat.reduceEqDiff, Nat.reduceAdd, Nat.reduceSub, Nat.reduceMul, Nat.reduceLT, Nat.reduceLeDiff, reduceCtorEq, Int.reduceToNat]) | (refine dapp_pure aw9 ?_; simp only [go_sem, ↓reduceIte, Nat.reduceEqDiff, Nat.reduceAdd, Nat.reduceSub, Nat.reduceMul, Nat.reduceLT, Nat.reduceLeDiff, reduceCtorEq, Int.reduceToNat]) | (refine dapp_pure aw10 ?_; simp only [go_sem, ↓reduceIte, Nat.reduceEqDiff, Nat.reduceAdd, Nat.reduceSub, Nat.reduceMul, Nat.reduceLT, Nat.reduceLeDiff, reduceCtorEq, Int.reduceToNat]) | (refine dapp_pure aw11 ?_; simp only [go_sem, ↓reduceIte, Nat.reduceEqDiff, Nat.reduceAdd, Nat.reduceSub, Nat.reduceMul, Nat.reduceLT, Nat.reduceLeDiff, reduceCtorEq, Int.reduceToNat]) | (refine dapp_pure aw12 ?_; simp only [go_sem, ↓reduceIte, Nat.reduceEqDiff, Nat.reduceAdd, Nat.reduceSub, Nat.reduceMul, Nat.reduceLT, Nat.reduceLeDiff, reduceCtorEq, Int.reduceToNat]) | (refine dapp_pure aw13 ?_; simp only [go_sem, ↓reduceIte, Nat.reduceEqDiff, Nat.reduceAdd, Nat.reduceSub, Nat.reduceMul, Nat.reduceLT, Nat.reduceLeDiff, reduceCtorEq, Int.reduceToNat]) | (refine vi_ret ?_; simp only [go_sem, ↓reduceIte, Nat.reduceEqDiff, Nat.reduceAdd, Nat.reduceSub, Nat.reduceMul, Nat.reduceLT, Nat.reduceLeDiff, reduceCtorEq, Int.reduceToNat]))
end Go.Proofs.Ytminbbphadobaaa
