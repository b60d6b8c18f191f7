/- Texts of this proof, joined. -/
import Derived.Test.YtmekebfgmjaenaaRau
import Derived.Lib.Join

/- the lexer: plain laws -/
namespace Go.Proofs.Ytmekebfgmjaenaa
open Go Go.RowKit Go.V
set_option linter.unusedVariables false
set_option linter.unusedSimpArgs false

theorem qo7 {l : List UInt8} {n : Nat} (h : 0 < n) : (l.take n).getD 0 0 = l.getD 0 0 := by
  cases l with
  | nil => simp
  | cons c r => cases n with
    | zero => omega
    | succ n => rfl
theorem qri {f : Int → Bool} {l : List UInt8} (hl : l ≠ []) (h : f (l.getD 0 0).toNat = true) : 0 < qbi f l := by
  cases l with
  | nil => exact absurd rfl hl
  | cons c r => rw [qg4 (by simpa using h)]; omega
/-! Where it fails. -/
/-! Each word stands where it says. -/
theorem qyo {l : List UInt8} (he : (qb0 l).2 = 0) : l.take (qb0 l).1.text.length = (qb0 l).1.text ∧ (qb0 l).1.kind ≠ 0 := by
  have key : ∀ n, n ≤ l.length → l.take (l.take n).length = l.take n := fun n hn => by rw [List.length_take, Nat.min_eq_left hn]
  by_cases hd : qb6 (l.getD 0 0).toNat = true
  · rw [qhq hd]
    exact ⟨key _ (qdb _ _), by simp⟩
  · have hd : qb6 (l.getD 0 0).toNat = false := by simpa using hd
    by_cases ho : (onW (l.getD 0 0).toNat && !decide (((l.getD 0 0).toNat : Int) = 39)) = true
    · rw [qjq hd ho]
      refine ⟨key _ (qdb _ _), ?_⟩
      simp only [qk8, qbez]
      repeat' split
      all_goals simp
    · have ho : (onW (l.getD 0 0).toNat && !decide (((l.getD 0 0).toNat : Int) = 39)) = false := by simpa using ho
      by_cases hm : qg8 l = 0
      · rw [qqv hd ho hm] at he; simp at he
      · rw [qfe hd ho hm]
        exact ⟨key _ (qlj _), by simp⟩

theorem qnc {f : Int → Bool} : ∀ {d r : List UInt8}, d.all (fun c => f c.toNat) = true → qbi f r = 0 → qbi f (d ++ r) = d.length
  | [], r, _, h => by simpa using h
  | c :: d, r, h, hr => by
    simp only [List.all_cons, Bool.and_eq_true] at h
    rw [List.cons_append, qg4 h.1, qnc h.2 hr, List.length_cons]
/-- What stands behind a word: nothing, or a space. -/
def Gap (r : List UInt8) : Prop := r = [] ∨ ∃ r', r = 32 :: r'
theorem qsq {f : Int → Bool} (hf : f 32 = false) {r : List UInt8} (h : Gap r) : qbi f r = 0 := by
  rcases h with rfl | ⟨r', rfl⟩
  · rfl
  · exact qgo (by simpa using hf)
theorem qwb {l : List UInt8} : ∀ {ms : List (List UInt8)}, qin l ms ≠ 0 → l.take (qin l ms) ∈ ms
  | [], h => absurd rfl h
  | m :: r, h => by
    rw [qin] at h ⊢
    by_cases hp : pfx m l = true
    · rw [if_pos hp, of_decide_eq_true hp]; simp
    · rw [if_neg hp] at h ⊢
      exact List.mem_cons_of_mem _ (qwb h)
theorem qwa {d r : List UInt8} (hd : d ∈ marksW) (h : Gap r) : qg8 (d ++ r) = d.length ∧ qb6 ((d ++ r).getD 0 0).toNat = false ∧ onW ((d ++ r).getD 0 0).toNat = false ∧ qcc (d ++ r) = 0 ∧ d ≠ [] := by
  have hsk : ∀ {c : UInt8} {l : List UInt8}, qc1 c.toNat = false → pfx [45, 45] (c :: l) = false → qcc (c :: l) = 0 := fun hb hp => qkb hp (qgo (by simpa using hb))
  simp only [marksW, List.mem_cons, List.not_mem_nil, or_false] at hd
  rcases h with rfl | ⟨r', rfl⟩
  all_goals
    rcases hd with rfl | rfl | rfl | rfl | rfl | rfl | rfl | rfl | rfl | rfl | rfl | rfl
    all_goals
      refine ⟨?_, by first | decide | exact (by decide : qb6 45 = false) | (simp only [List.cons_append, List.getD_cons_zero]; decide), by first | decide | (simp only [List.cons_append, List.getD_cons_zero]; decide), ?_, by decide⟩
      · simp [qg8, marksW, qin, pfx]
      · exact hsk (by decide) (by simp [pfx])
theorem qoi {d r : List UInt8} (h : d ≠ []) : (d ++ r).getD 0 0 = d.getD 0 0 := by
  cases d with
  | nil => exact absurd rfl h
  | cons c d => rfl
theorem qs0 {l : List UInt8} (h : onW (l.getD 0 0).toNat = true) : qcc l = 0 := by
  cases l with
  | nil => simp at h; revert h; decide
  | cons c r =>
    have h : onW c.toNat = true := h
    have hb : qc1 c.toNat = false := by
      apply Bool.eq_false_iff.2
      intro hb
      simp only [qc1, Bool.or_eq_true, decide_eq_true_eq] at hb
      simp only [onW, qrw, qpj, qb6, Bool.or_eq_true, Bool.and_eq_true, decide_eq_true_eq] at h
      omega
    have h45 : c ≠ 45 := by
      intro e; subst e; revert h; decide
    exact qkb (by simp [pfx, h45]) (qgo (by simpa using hb))
/-- A word that is all right is read again, whatever stands behind the space behind it. -/
def Good (t : T) : Prop := t.text ≠ [] ∧ ∀ r, Gap r → qb0 (t.text ++ r) = (⟨t.kind, 0, t.num, t.text⟩, 0) ∧ qcc (t.text ++ r) = 0
theorem q2a {l : List UInt8} (hl : l ≠ []) (he : (qb0 l).2 = 0) : Good (qb0 l).1 := by
  by_cases hd : qb6 (l.getD 0 0).toNat = true
  · have hp := qri hl hd
    rw [qhq hd] at he ⊢
    have hne : l.take (qbi qb6 l) ≠ [] := q0u hl (by omega)
    have h0 : (l.take (qbi qb6 l)).getD 0 0 = l.getD 0 0 := qo7 hp
    refine ⟨hne, fun r hr => ?_⟩
    have hw := qnc (r := r) (qiu qb6 l) (qsq (f := qb6) (by decide) hr)
    simp only at he
    refine ⟨?_, ?_⟩
    · rw [qhq (by rw [qoi hne, h0]; exact hd), hw, List.take_left, he]
    · exact qs0 (by rw [qoi hne, h0, onW, hd]; simp)
  · have hd : qb6 (l.getD 0 0).toNat = false := by simpa using hd
    by_cases ho : (onW (l.getD 0 0).toNat && !decide (((l.getD 0 0).toNat : Int) = 39)) = true
    · have hon : onW (l.getD 0 0).toNat = true := by simp only [Bool.and_eq_true] at ho; exact ho.1
      have hp := qri hl hon
      rw [qjq hd ho] at he ⊢
      have hne : l.take (qbi onW l) ≠ [] := q0u hl (by omega)
      have h0 : (l.take (qbi onW l)).getD 0 0 = l.getD 0 0 := qo7 hp
      refine ⟨hne, fun r hr => ?_⟩
      have hw := qnc (r := r) (qiu onW l) (qsq (f := onW) (by decide) hr)
      refine ⟨?_, ?_⟩
      · rw [qjq (by rw [qoi (by exact hne), show (qk8 (l.take (qbi onW l))).text.getD 0 0 = l.getD 0 0 from h0]; exact hd) (by rw [qoi (by exact hne), show (qk8 (l.take (qbi onW l))).text.getD 0 0 = l.getD 0 0 from h0]; exact ho)]
        rw [show qbi onW ((qk8 (l.take (qbi onW l))).text ++ r) = (qk8 (l.take (qbi onW l))).text.length from hw, List.take_left]
        rfl
      · exact qs0 (by rw [qoi (by exact hne), show (qk8 (l.take (qbi onW l))).text.getD 0 0 = l.getD 0 0 from h0]; exact hon)
    · have ho : (onW (l.getD 0 0).toNat && !decide (((l.getD 0 0).toNat : Int) = 39)) = false := by simpa using ho
      by_cases hm : qg8 l = 0
      · rw [qqv hd ho hm] at he; simp at he
      · rw [qfe hd ho hm]
        have hmem : l.take (qg8 l) ∈ marksW := qwb hm
        have hne := (qwa hmem (.inl rfl)).2.2.2.2
        refine ⟨hne, fun r hr => ?_⟩
        obtain ⟨g1, g2, g3, g4, _⟩ := qwa hmem hr
        refine ⟨?_, g4⟩
        simp only
        rw [qfe g2 (by rw [g3]; rfl) (by rw [g1]; intro e; exact hne (List.eq_nil_of_length_eq_zero e)), g1, List.take_left]

theorem qvy {s : List UInt8} : ∀ (f k : Nat), (lexF f s k).2.2 = 0 → ∀ t ∈ (lexF f s k).1, Good t ∧ t.kind ≠ 0
  | 0, k, _, t, ht => by simp [lexF] at ht
  | f + 1, k, h, t, ht => by
    rw [lexF] at h ht
    by_cases h1 : k < s.length
    · rw [if_pos h1] at h ht
      by_cases h2 : (qb0 (s.drop k)).2 = 0
      · rw [if_pos h2] at h ht
        have hr : (lexF f s (lexK s k)).2.2 = 0 := by
          unfold appR at h
          split at h
          · rename_i e; exact e
          · exact h
        rw [appR, if_pos hr] at ht
        rcases List.mem_append.1 ht with ht | ht
        · simp only [List.mem_singleton] at ht
          subst ht
          have hne : s.drop k ≠ [] := by intro e; have := congrArg List.length e; simp at this; omega
          exact ⟨q2a hne h2, (qyo h2).2⟩
        · exact qvy f _ hr t ht
      · rw [if_neg h2] at h; exact absurd h h2
    · rw [if_neg h1] at ht; simp at ht

end Go.Proofs.Ytmekebfgmjaenaa
