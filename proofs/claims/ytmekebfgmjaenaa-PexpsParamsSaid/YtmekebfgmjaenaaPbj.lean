/- A text of this proof. -/
import Derived.Test.YtmekebfgmjaenaaPbh
import Derived.Test.YtmekebfgmjaenaaPbi

/- the words of a text that is put together -/
namespace Go.Proofs.Ytmekebfgmjaenaa
open Go Go.RowKit Go.V
set_option linter.unusedVariables false
set_option linter.unusedSimpArgs false

/-- The words without their places, and the error. -/
def BL (s : List UInt8) (k : Nat) : List T × Int := ((lexG s k).1.map bare, (lexG s k).2.2)
def wl (s : List UInt8) : List T × Int := BL s (qck s)
def qel (t : T) (r : List T × Int) : List T × Int := if r.2 = 0 then (bare t :: r.1, 0) else r
theorem BL_0 {s : List UInt8} {k : Nat} (h : ¬ k < s.length) : BL s k = ([], 0) := by rw [BL, q7q h]; rfl
theorem BL_1 {s : List UInt8} {k : Nat} (h : k < s.length) (h2 : (qb9 (s.drop k)).2 = 0) : BL s k = qel (qb9 (s.drop k)).1 (BL s (lexK s k)) := by
  unfold BL
  rw [q76 h h2, qel, appR]
  simp only
  split
  · rename_i h3; rw [h3]; rfl
  · rfl
theorem BL_2 {s : List UInt8} {k : Nat} (h : k < s.length) (h2 : ¬ (qb9 (s.drop k)).2 = 0) : BL s k = ([], (qb9 (s.drop k)).2) := by rw [BL, q7o h h2]; rfl
theorem qg1 (p u : List UInt8) (k : Nat) : (p ++ u).drop (p.length + k) = u.drop k := by
  rw [List.drop_append]; simp
theorem qwi (p u : List UInt8) : ∀ (n k : Nat), u.length - k ≤ n → BL (p ++ u) (p.length + k) = BL u k
  | 0, k, h => by rw [BL_0 (by simp only [List.length_append]; omega), BL_0 (by omega)]
  | n + 1, k, h => by
    by_cases hk : k < u.length
    · have hk' : p.length + k < (p ++ u).length := by simp only [List.length_append]; omega
      by_cases h2 : (qb9 (u.drop k)).2 = 0
      · have hlt := qm6 hk h2
        have hl : lexK (p ++ u) (p.length + k) = p.length + lexK u k := by
          have h3 : lexN (p ++ u) (p.length + k) = p.length + lexN u k := by unfold lexN; rw [qg1]; omega
          unfold lexK
          rw [h3, qg1]; omega
        rw [BL_1 hk' (by rw [qg1]; exact h2), BL_1 hk h2, qg1, hl, qwi p u n _ (by omega)]
      · rw [BL_2 hk' (by rw [qg1]; exact h2), BL_2 hk h2, qg1]
    · rw [BL_0 (by simp only [List.length_append]; omega), BL_0 hk]
theorem qbkz (p u : List UInt8) : BL (p ++ u) (p.length + qck u) = wl u := qwi p u _ _ (Nat.le_refl _)
theorem qyg {b : UInt8} (hb : qdj b.toNat = true) (u : List UInt8) : qck (b :: u) = 1 + qck u := by
  have hw : qbq qdj (b :: u) = 1 + qbq qdj u := by
    unfold qbq
    rw [List.takeWhile_cons, if_pos hb, List.length_cons]; omega
  have hk : qfj (b :: u) = 1 + qfj u := by
    unfold qfj
    rw [hw, show (1 + qbq qdj u) = qbq qdj u + 1 by omega, List.drop_succ_cons]
    split <;> omega
  rw [qmm (by omega), hk, show 1 + qfj u = qfj u + 1 by omega, List.drop_succ_cons]
  by_cases h0 : qfj u = 0
  · rw [h0, List.drop_zero, qmf h0]
  · rw [qmm h0]; omega
theorem q5q (u : List UInt8) : wl (32 :: u) = wl u := by
  unfold wl
  rw [qyg (by decide)]
  exact qbkz [32] u
theorem qbhy {d u : List UInt8} {t : T} (hd : d ≠ []) (hs : qck (d ++ u) = 0) (hw : qb9 (d ++ u) = (t, 0)) (ht : t.text = d) : wl (d ++ u) = qel t (wl u) := by
  have hl : 0 < (d ++ u).length := by
    have := List.length_pos_iff.2 hd
    simp only [List.length_append]; omega
  unfold wl
  rw [hs, BL_1 hl (by rw [List.drop_zero, hw]), List.drop_zero, hw]
  have hk : lexK (d ++ u) 0 = d.length + qck u := by
    have : lexN (d ++ u) 0 = d.length := by unfold lexN; rw [List.drop_zero, hw, ht]; simp
    have h2 := qg1 d u 0
    rw [Nat.add_zero, List.drop_zero] at h2
    unfold lexK
    rw [this, h2]
  rw [hk, qbkz]; rfl
/-- A word and a blank ahead. -/
theorem qjc {t : T} (hg : Good t) (hp : t.pos = 0) (u : List UInt8) : wl (t.text ++ 32 :: u) = qel t (wl u) := by
  obtain ⟨h1, h2⟩ := hg.2 (32 :: u) (.inr ⟨u, rfl⟩)
  rw [qbhy hg.1 h2 (t := t) (by rw [h1]; cases t; cases hp; rfl) rfl, q5q]
theorem qjg {l : List UInt8} {t : T} (h : qb9 l = (t, 0)) (hl : l ≠ []) : Good t := by
  have := qs6 hl (by rw [h])
  rw [h] at this; exact this
def tkn (k : Int) (d : List UInt8) : T := ⟨k, 0, 0, d⟩
theorem qbke : Good (tkn 1 [120]) := qjg (l := [120]) (by decide) (by decide)
theorem q64 : Good (tkn 5 [92]) := qjg (l := [92]) (by decide) (by decide)
theorem q50 : Good (tkn 5 [45, 62]) := qjg (l := [45, 62]) (by decide) (by decide)
theorem q5v : Good (tkn 4 [108, 101, 116]) := qjg (l := [108, 101, 116]) (by decide) (by decide)
theorem q30 : Good (tkn 5 [123]) := qjg (l := [123]) (by decide) (by decide)
theorem qbmq : Good (tkn 1 [102]) := qjg (l := [102]) (by decide) (by decide)
theorem q9u : Good (tkn 5 [61]) := qjg (l := [61]) (by decide) (by decide)
end Go.Proofs.Ytmekebfgmjaenaa
