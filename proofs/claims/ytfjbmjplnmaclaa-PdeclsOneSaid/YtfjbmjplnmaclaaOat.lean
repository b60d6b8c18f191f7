/- A text of this proof. -/
import Derived.Test.YtfjbmjplnmaclaaOas
import Derived.Test.YtfjbmjplnmaclaaOai

/- the lexer's words: the reference -/
namespace Go.Proofs.Ytfjbmjplnmaclaa
open Go Go.RowKit Go.V
set_option linter.unusedVariables false
set_option linter.unusedSimpArgs false

theorem qkt (f : Int → Bool) : ∀ l : List UInt8, (l.take (qbn f l)).all (fun c => f c.toNat) = true
  | [] => rfl
  | c :: r => by
    unfold qbn
    rw [List.takeWhile_cons]
    by_cases h : f c.toNat = true
    · rw [if_pos h]
      simp only [List.length_cons, List.take_succ_cons, List.all_cons, h, Bool.true_and]
      exact qkt f r
    · rw [if_neg h]; rfl
theorem qig {f : Int → Bool} {c : UInt8} {r : List UInt8} (h : f c.toNat = true) : qbn f (c :: r) = qbn f r + 1 := by
  unfold qbn; rw [List.takeWhile_cons, if_pos h, List.length_cons]
theorem qj6 {f : Int → Bool} {l : List UInt8} (h : f (l.getD 0 0).toNat = false) : qbn f l = 0 := by
  cases l with
  | nil => rfl
  | cons c r => unfold qbn; rw [List.takeWhile_cons, if_neg (by simpa using h)]; rfl
theorem qi5 {l : List UInt8} (h : qcq (l.getD 0 0).toNat = true) : qco l = (⟨3, 0, (qqs (l.take (qbn qcq l))).1, l.take (qbn qcq l)⟩, (qqs (l.take (qbn qcq l))).2) := if_pos h
theorem qlr {l : List UInt8} (h : qcq (l.getD 0 0).toNat = false) (h2 : (onW (l.getD 0 0).toNat && !decide (((l.getD 0 0).toNat : Int) = 39)) = true) : qco l = (qnj (l.take (qbn onW l)), 0) := by
  rw [qco, h, if_neg Bool.false_ne_true, if_pos h2]
theorem qs4 {l : List UInt8} (h : qcq (l.getD 0 0).toNat = false) (h2 : (onW (l.getD 0 0).toNat && !decide (((l.getD 0 0).toNat : Int) = 39)) = false) (h3 : qka l = 0) : qco l = (T0, 3) := by
  rw [qco, h, if_neg Bool.false_ne_true, h2, if_neg Bool.false_ne_true, if_pos h3]
theorem qhv {l : List UInt8} (h : qcq (l.getD 0 0).toNat = false) (h2 : (onW (l.getD 0 0).toNat && !decide (((l.getD 0 0).toNat : Int) = 39)) = false) (h3 : qka l ≠ 0) : qco l = (⟨5, 0, 0, l.take (qka l)⟩, 0) := by
  rw [qco, h, if_neg Bool.false_ne_true, h2, if_neg Bool.false_ne_true, if_neg h3]
theorem q4m {l : List UInt8} {n : Nat} (hl : l ≠ []) (hn : n ≠ 0) : l.take n ≠ [] := by
  cases l with
  | nil => exact absurd rfl hl
  | cons c r => cases n with
    | zero => exact absurd rfl hn
    | succ n => simp

end Go.Proofs.Ytfjbmjplnmaclaa
