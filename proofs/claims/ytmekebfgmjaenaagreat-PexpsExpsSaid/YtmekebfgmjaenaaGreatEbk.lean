/- Texts of this proof, joined. -/
import Derived.Test.YtmekebfgmjaenaaGreatEat
import Derived.Lib.Join

/- the lexer: plain laws -/
namespace Go.Proofs.YtmekebfgmjaenaaGreat
open Go Go.RowKit Go.V
set_option linter.unusedVariables false
set_option linter.unusedSimpArgs false

theorem qy9 {l : List UInt8} {n : Nat} (h : 0 < n) : (l.take n).getD 0 0 = l.getD 0 0 := by
  cases l with
  | nil => simp
  | cons c r => cases n with
    | zero => omega
    | succ n => rfl
theorem qt9 {f : Int → Bool} {l : List UInt8} (hl : l ≠ []) (h : f (l.getD 0 0).toNat = true) : 0 < qbh f l := by
  cases l with
  | nil => exact absurd rfl hl
  | cons c r => rw [qon (by simpa using h)]; omega
/-! Where it fails. -/
/-! Each word stands where it says. -/

/-- A word as the lexer makes them. -/
def q4l (t : T) : Prop := (t.kind = 1 → varW t.text = true) ∧ (t.kind = 2 → conW t.text = true) ∧ (t.kind = 3 → 0 ≤ t.num)
theorem q1w {z : Int} (h0 : 0 ≤ z) (h1 : z ≤ 9223372036854775807) : IntKind.i64.wrap z = z := by
  simp [IntKind.wrap, IntKind.signed, IntKind.bits]
  omega
theorem qb7b {z : Int} (h0 : 0 ≤ z) (h1 : z ≤ 255) : IntKind.u8.wrap z = z := by
  simp [IntKind.wrap, IntKind.signed, IntKind.bits]
  omega
theorem qxy : ∀ (l : List UInt8) (k : Int), digW l = true → 0 ≤ k → k ≤ 9223372036854775807 → 0 ≤ (qjl k l).1
  | [], k, _, h, _ => h
  | c :: r, k, hd, h0, h1 => by
    simp only [digW, List.all_cons, Bool.and_eq_true, qcm, decide_eq_true_eq] at hd
    have hr : digW r = true := by
      simp only [digW, qcm]; exact hd.2
    have hu : IntKind.u8.wrap ((c.toNat : Int) - 48) = (c.toNat : Int) - 48 := qb7b (by omega) (by omega)
    have hv : digV c = (c.toNat : Int) - 48 := by
      unfold digV; rw [hu]; exact q1w (by omega) (by omega)
    rw [qjl]
    split
    · exact Int.le_refl 0
    · rename_i hlt
      have ht : topV c = (9223372036854775807 - digV c).tdiv 10 := by
        unfold topV
        have e1 : IntKind.i64.wrap (9223372036854775807 - digV c) = 9223372036854775807 - digV c := q1w (by omega) (by omega)
        have e3 : (9223372036854775807 - digV c).tdiv 10 = (9223372036854775807 - digV c) / 10 := Int.tdiv_eq_ediv_of_nonneg (by omega)
        rw [e1, e3]; exact q1w (by omega) (by omega)
      have e3 : (9223372036854775807 - digV c).tdiv 10 = (9223372036854775807 - digV c) / 10 := Int.tdiv_eq_ediv_of_nonneg (by omega)
      rw [ht, e3] at hlt
      have hn : nxtV k c = 10 * k + digV c := by
        unfold nxtV
        have e1 : IntKind.i64.wrap (10 * k) = 10 * k := q1w (by omega) (by omega)
        rw [e1]; exact q1w (by omega) (by omega)
      exact qxy r _ hr (by rw [hn]; omega) (by rw [hn]; omega)
theorem q5n {l : List UInt8} (hl : l ≠ []) (he : (qc2 l).2 = 0) : q4l (qc2 l).1 := by
  by_cases hd : qcm (l.getD 0 0).toNat = true
  · rw [qom hd]
    refine ⟨fun h => by simp at h, fun h => by simp at h, fun _ => ?_⟩
    have hne : l.take (qbh qcm l) ≠ [] := qv7 hl (by have := qt9 hl hd; omega)
    have hdg : digW (l.take (qbh qcm l)) = true := qil qcm l
    simp only
    rw [qjg hne hdg]
    exact qxy _ 0 hdg (by omega) (by omega)
  · have hd : qcm (l.getD 0 0).toNat = false := by simpa using hd
    by_cases ho : (onW (l.getD 0 0).toNat && !decide (((l.getD 0 0).toNat : Int) = 39)) = true
    · have hon : onW (l.getD 0 0).toNat = true := by simp only [Bool.and_eq_true] at ho; exact ho.1
      have h39 : ¬ ((l.getD 0 0).toNat : Int) = 39 := by simp only [Bool.and_eq_true, Bool.not_eq_true', decide_eq_false_iff_not] at ho; exact ho.2
      have hp := qt9 hl hon
      have hne : l.take (qbh onW l) ≠ [] := qv7 hl (by omega)
      have h0 : (l.take (qbh onW l)).getD 0 0 = l.getD 0 0 := qy9 hp
      have hall : onsW (l.take (qbh onW l)) = true := qil onW l
      rw [qxm hd ho]
      unfold quq
      generalize l.take (qbh onW l) = w at hne h0 hall
      rw [← h0] at hd hon h39
      refine ⟨fun h => ?_, fun h => ?_, fun h => ?_⟩
      all_goals simp only [q9i] at h ⊢
      · split at h
        · exact absurd h (by decide)
        · rename_i h1
          split at h
          · exact absurd h (by decide)
          · rename_i h2
            split at h
            · exact absurd h (by decide)
            · rename_i h3
              have hg : qio (w.getD 0 0).toNat = false := by
                apply Bool.eq_false_iff.2
                intro hg
                exact h3 (by simp only [conW, hg, hall, decide_eq_true hne, Bool.and_true])
              have hs : qkc (w.getD 0 0).toNat = true := by
                simp only [onW, hg, hd, Bool.or_false, decide_eq_false h39] at hon
                exact hon
              simp only [varW, hs, hall, decide_eq_true hne, decide_eq_true h1, Bool.and_true, Bool.true_and, Bool.not_eq_true']
              simpa using h2
      · split at h
        · exact absurd h (by decide)
        · split at h
          · exact absurd h (by decide)
          · split at h
            · assumption
            · exact absurd h (by decide)
      · repeat' split at h
        all_goals exact absurd h (by decide)
    · have ho : (onW (l.getD 0 0).toNat && !decide (((l.getD 0 0).toNat : Int) = 39)) = false := by simpa using ho
      by_cases hm : qiw l = 0
      · rw [qxj hd ho hm] at he; simp at he
      · rw [qpw hd ho hm]
        refine ⟨fun h => by simp at h, fun h => by simp at h, fun h => by simp at h⟩
theorem q43 {s : List UInt8} : ∀ (f k : Nat), (lexF f s k).2.2 = 0 → ∀ t ∈ (lexF f s k).1, q4l t
  | 0, k, _, t, ht => by simp [lexF] at ht
  | f + 1, k, h, t, ht => by
    rw [lexF] at h ht
    by_cases h1 : k < s.length
    · rw [if_pos h1] at h ht
      by_cases h2 : (qc2 (s.drop k)).2 = 0
      · rw [if_pos h2] at h ht
        have hr : (lexF f s (lexK s k)).2.2 = 0 := by
          unfold appR at h
          split at h
          · rename_i e; exact e
          · exact h
        rw [appR, if_pos hr] at ht
        rcases List.mem_append.1 ht with ht | ht
        · simp only [List.mem_singleton] at ht
          subst ht
          have hne : s.drop k ≠ [] := by intro e; have := congrArg List.length e; simp at this; omega
          exact q5n hne h2
        · exact q43 f _ hr t ht
      · rw [if_neg h2] at h; exact absurd h h2
    · rw [if_neg h1] at ht; simp at ht
theorem qz7 {s : List UInt8} : ∀ t ∈ (lexV s).1, q4l t := by
  intro t ht
  by_cases h : 1048576 < (s.length : Int)
  · rw [qm9 h] at ht; simp at ht
  · by_cases he : (lexG s (qcz s)).2.2 = 0
    · rw [qoa h he] at ht
      simp only [List.mem_append, List.mem_singleton] at ht
      rcases ht with ht | rfl
      · exact q43 _ _ he t ht
      · exact ⟨fun h => by simp at h, fun h => by simp at h, fun h => by simp at h⟩
    · rw [qlk h he] at ht; simp at ht
end Go.Proofs.YtmekebfgmjaenaaGreat
