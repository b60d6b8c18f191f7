/- A text of this proof. -/
import Derived.Test.YtmekebfgmjaenaaPat
import Derived.Test.YtmekebfgmjaenaaPai

/- the lexer's words: the reference -/
namespace Go.Proofs.Ytmekebfgmjaenaa
open Go Go.RowKit Go.V
set_option linter.unusedVariables false
set_option linter.unusedSimpArgs false

theorem qi8 (f : Int → Bool) : ∀ l : List UInt8, (l.take (qbq f l)).all (fun c => f c.toNat) = true
  | [] => rfl
  | c :: r => by
    unfold qbq
    rw [List.takeWhile_cons]
    by_cases h : f c.toNat = true
    · rw [if_pos h]
      simp only [List.length_cons, List.take_succ_cons, List.all_cons, h, Bool.true_and]
      exact qi8 f r
    · rw [if_neg h]; rfl
theorem qmk {f : Int → Bool} {c : UInt8} {r : List UInt8} (h : f c.toNat = true) : qbq f (c :: r) = qbq f r + 1 := by
  unfold qbq; rw [List.takeWhile_cons, if_pos h, List.length_cons]
theorem qqb {f : Int → Bool} {l : List UInt8} (h : f (l.getD 0 0).toNat = false) : qbq f l = 0 := by
  cases l with
  | nil => rfl
  | cons c r => unfold qbq; rw [List.takeWhile_cons, if_neg (by simpa using h)]; rfl
theorem qmc {l : List UInt8} (h : qcg (l.getD 0 0).toNat = true) : qb9 l = (⟨3, 0, (qog (l.take (qbq qcg l))).1, l.take (qbq qcg l)⟩, (qog (l.take (qbq qcg l))).2) := if_pos h
theorem qqo {l : List UInt8} (h : qcg (l.getD 0 0).toNat = false) (h2 : (onW (l.getD 0 0).toNat && !decide (((l.getD 0 0).toNat : Int) = 39)) = true) : qb9 l = (qld (l.take (qbq onW l)), 0) := by
  rw [qb9, h, if_neg Bool.false_ne_true, if_pos h2]
theorem qvo {l : List UInt8} (h : qcg (l.getD 0 0).toNat = false) (h2 : (onW (l.getD 0 0).toNat && !decide (((l.getD 0 0).toNat : Int) = 39)) = false) (h3 : qkd l = 0) : qb9 l = (T0, 3) := by
  rw [qb9, h, if_neg Bool.false_ne_true, h2, if_neg Bool.false_ne_true, if_pos h3]
theorem qki {l : List UInt8} (h : qcg (l.getD 0 0).toNat = false) (h2 : (onW (l.getD 0 0).toNat && !decide (((l.getD 0 0).toNat : Int) = 39)) = false) (h3 : qkd l ≠ 0) : qb9 l = (⟨5, 0, 0, l.take (qkd l)⟩, 0) := by
  rw [qb9, h, if_neg Bool.false_ne_true, h2, if_neg Bool.false_ne_true, if_neg h3]
theorem q05 {l : List UInt8} {n : Nat} (hl : l ≠ []) (hn : n ≠ 0) : l.take n ≠ [] := by
  cases l with
  | nil => exact absurd rfl hl
  | cons c r => cases n with
    | zero => exact absurd rfl hn
    | succ n => simp

end Go.Proofs.Ytmekebfgmjaenaa
