/- A text of this proof. -/
import Derived.Test.YtmekebfgmjaenaaRat
import Derived.Test.YtmekebfgmjaenaaRai

/- the lexer's words: the reference -/
namespace Go.Proofs.Ytmekebfgmjaenaa
open Go Go.RowKit Go.V
set_option linter.unusedVariables false
set_option linter.unusedSimpArgs false

theorem qiu (f : Int → Bool) : ∀ l : List UInt8, (l.take (qbi f l)).all (fun c => f c.toNat) = true
  | [] => rfl
  | c :: r => by
    unfold qbi
    rw [List.takeWhile_cons]
    by_cases h : f c.toNat = true
    · rw [if_pos h]
      simp only [List.length_cons, List.take_succ_cons, List.all_cons, h, Bool.true_and]
      exact qiu f r
    · rw [if_neg h]; rfl
theorem qg4 {f : Int → Bool} {c : UInt8} {r : List UInt8} (h : f c.toNat = true) : qbi f (c :: r) = qbi f r + 1 := by
  unfold qbi; rw [List.takeWhile_cons, if_pos h, List.length_cons]
theorem qgo {f : Int → Bool} {l : List UInt8} (h : f (l.getD 0 0).toNat = false) : qbi f l = 0 := by
  cases l with
  | nil => rfl
  | cons c r => unfold qbi; rw [List.takeWhile_cons, if_neg (by simpa using h)]; rfl
theorem qhq {l : List UInt8} (h : qb6 (l.getD 0 0).toNat = true) : qb0 l = (⟨3, 0, (qod (l.take (qbi qb6 l))).1, l.take (qbi qb6 l)⟩, (qod (l.take (qbi qb6 l))).2) := if_pos h
theorem qjq {l : List UInt8} (h : qb6 (l.getD 0 0).toNat = false) (h2 : (onW (l.getD 0 0).toNat && !decide (((l.getD 0 0).toNat : Int) = 39)) = true) : qb0 l = (qk8 (l.take (qbi onW l)), 0) := by
  rw [qb0, h, if_neg Bool.false_ne_true, if_pos h2]
theorem qqv {l : List UInt8} (h : qb6 (l.getD 0 0).toNat = false) (h2 : (onW (l.getD 0 0).toNat && !decide (((l.getD 0 0).toNat : Int) = 39)) = false) (h3 : qg8 l = 0) : qb0 l = (T0, 3) := by
  rw [qb0, h, if_neg Bool.false_ne_true, h2, if_neg Bool.false_ne_true, if_pos h3]
theorem qfe {l : List UInt8} (h : qb6 (l.getD 0 0).toNat = false) (h2 : (onW (l.getD 0 0).toNat && !decide (((l.getD 0 0).toNat : Int) = 39)) = false) (h3 : qg8 l ≠ 0) : qb0 l = (⟨5, 0, 0, l.take (qg8 l)⟩, 0) := by
  rw [qb0, h, if_neg Bool.false_ne_true, h2, if_neg Bool.false_ne_true, if_neg h3]
theorem q0u {l : List UInt8} {n : Nat} (hl : l ≠ []) (hn : n ≠ 0) : l.take n ≠ [] := by
  cases l with
  | nil => exact absurd rfl hl
  | cons c r => cases n with
    | zero => exact absurd rfl hn
    | succ n => simp

end Go.Proofs.Ytmekebfgmjaenaa
