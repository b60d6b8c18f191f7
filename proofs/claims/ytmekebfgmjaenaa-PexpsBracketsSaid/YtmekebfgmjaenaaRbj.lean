/- A text of this proof. -/
import Derived.Test.YtmekebfgmjaenaaRbh
import Derived.Test.YtmekebfgmjaenaaRbi

/- the words of a text that is put together -/
namespace Go.Proofs.Ytmekebfgmjaenaa
open Go Go.RowKit Go.V
set_option linter.unusedVariables false
set_option linter.unusedSimpArgs false

/-- The words without their places, and the error. -/
def BL (s : List UInt8) (k : Nat) : List T × Int := ((lexG s k).1.map bare, (lexG s k).2.2)
def wl (s : List UInt8) : List T × Int := BL s (qcc s)
def qq0 (t : T) (r : List T × Int) : List T × Int := if r.2 = 0 then (bare t :: r.1, 0) else r
theorem BL_0 {s : List UInt8} {k : Nat} (h : ¬ k < s.length) : BL s k = ([], 0) := by rw [BL, q68 h]; rfl
theorem BL_1 {s : List UInt8} {k : Nat} (h : k < s.length) (h2 : (qb0 (s.drop k)).2 = 0) : BL s k = qq0 (qb0 (s.drop k)).1 (BL s (lexK s k)) := by
  unfold BL
  rw [q7b h h2, qq0, appR]
  simp only
  split
  · rename_i h3; rw [h3]; rfl
  · rfl
theorem BL_2 {s : List UInt8} {k : Nat} (h : k < s.length) (h2 : ¬ (qb0 (s.drop k)).2 = 0) : BL s k = ([], (qb0 (s.drop k)).2) := by rw [BL, q66 h h2]; rfl
theorem qgr (p u : List UInt8) (k : Nat) : (p ++ u).drop (p.length + k) = u.drop k := by
  rw [List.drop_append]; simp
theorem qvi (p u : List UInt8) : ∀ (n k : Nat), u.length - k ≤ n → BL (p ++ u) (p.length + k) = BL u k
  | 0, k, h => by rw [BL_0 (by simp only [List.length_append]; omega), BL_0 (by omega)]
  | n + 1, k, h => by
    by_cases hk : k < u.length
    · have hk' : p.length + k < (p ++ u).length := by simp only [List.length_append]; omega
      by_cases h2 : (qb0 (u.drop k)).2 = 0
      · have hlt := qj9 hk h2
        have hl : lexK (p ++ u) (p.length + k) = p.length + lexK u k := by
          have h3 : lexN (p ++ u) (p.length + k) = p.length + lexN u k := by unfold lexN; rw [qgr]; omega
          unfold lexK
          rw [h3, qgr]; omega
        rw [BL_1 hk' (by rw [qgr]; exact h2), BL_1 hk h2, qgr, hl, qvi p u n _ (by omega)]
      · rw [BL_2 hk' (by rw [qgr]; exact h2), BL_2 hk h2, qgr]
    · rw [BL_0 (by simp only [List.length_append]; omega), BL_0 hk]
theorem qbqo (p u : List UInt8) : BL (p ++ u) (p.length + qcc u) = wl u := qvi p u _ _ (Nat.le_refl _)
theorem qbh0 {d u : List UInt8} {t : T} (hd : d ≠ []) (hs : qcc (d ++ u) = 0) (hw : qb0 (d ++ u) = (t, 0)) (ht : t.text = d) : wl (d ++ u) = qq0 t (wl u) := by
  have hl : 0 < (d ++ u).length := by
    have := List.length_pos_iff.2 hd
    simp only [List.length_append]; omega
  unfold wl
  rw [hs, BL_1 hl (by rw [List.drop_zero, hw]), List.drop_zero, hw]
  have hk : lexK (d ++ u) 0 = d.length + qcc u := by
    have : lexN (d ++ u) 0 = d.length := by unfold lexN; rw [List.drop_zero, hw, ht]; simp
    have h2 := qgr d u 0
    rw [Nat.add_zero, List.drop_zero] at h2
    unfold lexK
    rw [this, h2]
  rw [hk, qbqo]; rfl
def tkn (k : Int) (d : List UInt8) : T := ⟨k, 0, 0, d⟩
end Go.Proofs.Ytmekebfgmjaenaa
