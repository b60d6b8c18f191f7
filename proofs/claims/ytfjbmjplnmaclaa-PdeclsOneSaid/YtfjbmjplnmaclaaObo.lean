/- A text of this proof. -/
import Derived.Test.YtfjbmjplnmaclaaObg
import Derived.Test.YtfjbmjplnmaclaaObh
import Derived.Test.YtfjbmjplnmaclaaObn

/- the words of a text with a new line and a semicolon behind it -/
namespace Go.Proofs.Ytfjbmjplnmaclaa.EX
open Go Go.RowKit Go.V
set_option linter.unusedVariables false
set_option linter.unusedSimpArgs false
set_option linter.unusedSectionVars false

/-- A new line and a semicolon. -/
def endB : List UInt8 := [10, 59]
theorem qip (f : Int → Bool) : ∀ (l r : List UInt8), qbn f (l ++ r) = if qbn f l < l.length then qbn f l else l.length + qbn f r
  | [], r => by simp [qbn]
  | c :: l, r => by
    rw [List.cons_append]
    by_cases h : f c.toNat = true
    · rw [qig h, qig h, qip f l r, List.length_cons]
      split <;> split <;> omega
    · have h : f c.toNat = false := by simpa using h
      rw [qj6 (l := c :: l) (by simpa using h), qj6 (l := c :: (l ++ r)) (by simpa using h), if_pos (by simp)]
theorem qmh {f : Int → Bool} (hf : f 10 = false) (l : List UInt8) : qbn f (l ++ endB) = qbn f l := by
  have h0 : qbn f endB = 0 := qj6 (by simpa [endB] using hf)
  have := qdx f l
  rw [qip, h0]
  split <;> omega
theorem q3x {m l : List UInt8} (hm : (10 : UInt8) ∉ m) : pfx m (l ++ endB) = pfx m l := by
  unfold pfx
  by_cases h : m.length ≤ l.length
  · rw [List.take_append_of_le_length h]
  · have h1 : ¬ l.take m.length = m := by
      intro e
      have := congrArg List.length e
      rw [List.length_take] at this; omega
    have h2 : ¬ (l ++ endB).take m.length = m := by
      intro e
      apply hm
      rw [← e, List.take_append, List.mem_append]
      refine .inr ?_
      rw [endB, show m.length - l.length = (m.length - l.length - 1) + 1 by omega, List.take_succ_cons]
      simp
    rw [decide_eq_false h1, decide_eq_false h2]
theorem qul {l : List UInt8} : ∀ {ms : List (List UInt8)}, (∀ m ∈ ms, (10 : UInt8) ∉ m) → qko (l ++ endB) ms = qko l ms
  | [], _ => rfl
  | m :: r, h => by rw [qko, qko, q3x (h m (by simp)), qul fun x hx => h x (by simp [hx])]
theorem q0m (l : List UInt8) : qka (l ++ endB) = qka l := qul (by decide)
theorem qlm {l : List UInt8} (hl : l ≠ []) : (l ++ endB).getD 0 0 = l.getD 0 0 := qq1 hl
theorem qsp {l : List UInt8} {n : Nat} (h : n ≤ l.length) : (l ++ endB).take n = l.take n := List.take_append_of_le_length h
/-- A word that is all right is the same with a new line behind the text. -/
theorem q68 {l : List UInt8} (hl : l ≠ []) (he : (qco l).2 = 0) : qco (l ++ endB) = qco l := by
  by_cases hd : qcq (l.getD 0 0).toNat = true
  · rw [qi5 hd, qi5 (by rw [qlm hl]; exact hd), qmh (by decide), qsp (qdx _ _)]
  · have hd : qcq (l.getD 0 0).toNat = false := by simpa using hd
    by_cases ho : (onW (l.getD 0 0).toNat && !decide (((l.getD 0 0).toNat : Int) = 39)) = true
    · rw [qlr hd ho, qlr (by rw [qlm hl]; exact hd) (by rw [qlm hl]; exact ho), qmh (by decide), qsp (qdx _ _)]
    · have ho : (onW (l.getD 0 0).toNat && !decide (((l.getD 0 0).toNat : Int) = 39)) = false := by simpa using ho
      by_cases hm : qka l = 0
      · rw [qs4 hd ho hm] at he; simp at he
      · rw [qhv hd ho hm, qhv (by rw [qlm hl]; exact hd) (by rw [qlm hl]; exact ho) (by rw [q0m]; exact hm), q0m, qsp (qoa _)]
theorem qn7 {l : List UInt8} {n : Nat} (h : n ≤ l.length) : (l ++ endB).drop n = l.drop n ++ endB := List.drop_append_of_le_length h
theorem q4k {l : List UInt8} : qfw (l ++ endB) = if qbn qdu l < l.length then qfw l else l.length + 1 := by
  have hb := qip qdu l endB
  have h1 : qbn qdu endB = 1 := by decide
  rw [h1] at hb
  by_cases h : qbn qdu l < l.length
  · rw [if_pos h] at hb ⊢
    unfold qfw
    rw [hb, qn7 (by omega), q3x (by decide)]
    split
    · rw [qmh (by decide)]
    · rfl
  · rw [if_neg h] at hb ⊢
    unfold qfw
    rw [hb, show (l ++ endB).drop (l.length + 1) = [59] by rw [List.drop_append]; simp [endB]]
    rfl
theorem quh : ∀ (n : Nat) (l : List UInt8), l.length ≤ n → qcl (l ++ endB) = if qcl l < l.length then qcl l else l.length + 1 := by
  intro n
  induction n with
  | zero =>
    intro l hn
    have : l = [] := List.eq_nil_of_length_eq_zero (by omega)
    subst this
    decide
  | succ n ih =>
    intro l hn
    have hle := qlv l
    have hlw := qk8 l
    have hK := q4k (l := l)
    have h59 : qcl [59] = 0 := by decide
    by_cases h : qbn qdu l < l.length
    · rw [if_pos h] at hK
      by_cases h0 : qfw l = 0
      · rw [qki (l := l ++ endB) (by rw [hK]; exact h0), qki h0, if_pos (by omega)]
      · rw [qks (l := l ++ endB) (by rw [hK]; exact h0), hK, qn7 hle, ih _ (by rw [List.length_drop]; omega)]
        rw [qks h0] at hlw ⊢
        rw [List.length_drop]
        split <;> split <;> omega
    · rw [if_neg h] at hK
      have hw : qcl l = l.length := by
        have h2 := qdx qdu l
        have h3 : qbn qdu l = l.length := by omega
        have h4 : qfw l = l.length := by
          unfold qfw
          rw [h3, List.drop_length]
          rfl
        by_cases h0 : l.length = 0
        · rw [qki (by omega)]; omega
        · rw [qks (by omega), h4, List.drop_length]; rfl
      rw [qks (by omega), hK, show (l ++ endB).drop (l.length + 1) = [59] by rw [List.drop_append]; simp [endB], h59, hw, if_neg (by omega)]
/-- The place behind what stands ahead of the next word. -/
def endK (s : List UInt8) (k : Nat) : Nat := if k < s.length then k else s.length + 1
theorem q96 {s : List UInt8} {k : Nat} (h : qco ((s ++ endB).drop k) = qco (s.drop k)) : lexT (s ++ endB) k = lexT s k := by unfold lexT; rw [h]
def qs0 (s : List UInt8) : T := ⟨5, (s.length : Int) + 1, 0, [59]⟩
theorem qy6 {s : List UInt8} : ∀ (n k : Nat), s.length - k ≤ n → k ≤ s.length → (lexG s k).2.2 = 0 → (lexG (s ++ endB) (endK s k)).2.2 = 0 ∧ (lexG (s ++ endB) (endK s k)).1 = (lexG s k).1 ++ [qs0 s]
  | n, k, hn, hk, h => by
    by_cases h1 : k < s.length
    · rw [endK, if_pos h1]
      by_cases h2 : (qco (s.drop k)).2 = 0
      · cases n with
        | zero => omega
        | succ n =>
        have hlt := qpi h1 h2
        have hle := qwy (Nat.le_of_lt h1)
        have hne : s.drop k ≠ [] := by intro e; have := congrArg List.length e; simp at this; omega
        have hd := qn7 (l := s) (n := k) (by omega)
        have hw := q68 hne h2
        have hN : lexN (s ++ endB) k = lexN s k := by unfold lexN; rw [hd, hw]
        have hNl := qxd (Nat.le_of_lt h1)
        have hK : lexK (s ++ endB) k = endK s (lexK s k) := by
          unfold lexK
          rw [hN, qn7 hNl, quh _ _ (Nat.le_refl _), List.length_drop, endK]
          have := qk8 (s.drop (lexN s k))
          rw [List.length_drop] at this
          split <;> split <;> omega
        have hT : lexT (s ++ endB) k = lexT s k := q96 (by rw [hd, hw])
        have h0 : (lexG s (lexK s k)).2.2 = 0 := by
          rw [qwo h1 h2, appR] at h
          split at h
          · rename_i e; exact e
          · exact h
        obtain ⟨g1, g2⟩ := qy6 n (lexK s k) (by omega) hle h0
        rw [qwo h1 h2, qwo (s := s ++ endB) (by rw [List.length_append]; omega) (by rw [hd, hw]; exact h2), hK, hT, appR, appR, if_pos h0, if_pos g1]
        exact ⟨g1, by rw [g2, List.append_assoc]⟩
      · rw [qbda h1 h2] at h; exact absurd h h2
    · have hs : (s ++ endB).drop (s.length + 1) = [59] := by rw [List.drop_append]; simp [endB]
      have h59 : qco [59] = (⟨5, 0, 0, [59]⟩, 0) := by decide
      have hN : lexN (s ++ endB) (s.length + 1) = s.length + 2 := by unfold lexN; rw [hs, h59]; rfl
      have h0 : lexG (s ++ endB) (lexK (s ++ endB) (s.length + 1)) = ([], 0, 0) := q5g (by
        unfold lexK
        rw [hN, List.length_append]; simp [endB])
      have hT : lexT (s ++ endB) (s.length + 1) = qs0 s := by
        unfold lexT qs0
        rw [hs, h59]
        simp
      rw [endK, if_neg h1, q5g h1, qwo (by rw [List.length_append]; simp [endB]) (by rw [hs, h59]), h0, hT]
      exact ⟨rfl, rfl⟩
theorem qbhg {s : List UInt8} (hs : s.length ≤ 1000000) (h : (lexV s).2.2 = 0) : (lexV (s ++ endB)).2.2 = 0 ∧ remT (newK (lexV (s ++ endB)).1) = remT (newK (lexV s).1) ++ [qs0 s] := by
  have hb : (s ++ endB).length ≤ 1048576 := by rw [List.length_append]; simp [endB]; omega
  have e1 := qr8 (s := s) (by omega)
  have e2 := qr8 hb
  rw [e1] at h
  rw [e1, e2]
  have h1 : (lexG s (qcl s)).2.2 = 0 := by
    by_cases e : (lexG s (qcl s)).2.2 = 0
    · exact e
    · rw [if_neg e] at h; exact h
  obtain ⟨g1, g2⟩ := qy6 _ _ (Nat.le_refl _) (qk8 s) h1
  have hK : qcl (s ++ endB) = endK s (qcl s) := quh _ _ (Nat.le_refl _)
  rw [hK, if_pos h1, if_pos g1]
  refine ⟨rfl, ?_⟩
  have ha : ∀ (l : List T) (t : T), (∀ u ∈ l, u.kind ≠ 0) → t.kind = 0 → qfb (l ++ [t]) = l := by
    intro l t hl ht
    induction l with
    | nil => simp [qfb, ht]
    | cons u r ih => rw [List.cons_append, qfb, if_neg (hl u (by simp)), ih (fun v hv => hl v (by simp [hv]))]
  have hk : ∀ t ∈ (lexG s (qcl s)).1, t.kind ≠ 0 := fun t ht => (q0j _ _ h1 t ht).2
  have hk2 : ∀ t ∈ (lexG s (qcl s)).1 ++ [qs0 s], t.kind ≠ 0 := fun t ht => by
    rcases List.mem_append.1 ht with q | q
    · exact hk t q
    · simp only [List.mem_singleton] at q
      subst q; exact (by decide : (5 : Int) ≠ 0)
  show (qfb ((lexG (s ++ endB) (endK s (qcl s))).1 ++ [_])).drop 0 = (qfb ((lexG s (qcl s)).1 ++ [_])).drop 0 ++ [qs0 s]
  rw [List.drop_zero, List.drop_zero, ha _ _ (by rw [g2]; exact hk2) rfl, ha _ _ hk rfl, g2]
end Go.Proofs.Ytfjbmjplnmaclaa.EX
