/- Texts of this proof, joined. -/
import Derived.Test.YtmekebfgmjaenaaPau
import Derived.Lib.Join

/- the lexer: plain laws -/
namespace Go.Proofs.Ytmekebfgmjaenaa
open Go Go.RowKit Go.V
set_option linter.unusedVariables false
set_option linter.unusedSimpArgs false

theorem qpc {l : List UInt8} {n : Nat} (h : 0 < n) : (l.take n).getD 0 0 = l.getD 0 0 := by
  cases l with
  | nil => simp
  | cons c r => cases n with
    | zero => omega
    | succ n => rfl
theorem qri {f : Int → Bool} {l : List UInt8} (hl : l ≠ []) (h : f (l.getD 0 0).toNat = true) : 0 < qbq f l := by
  cases l with
  | nil => exact absurd rfl hl
  | cons c r => rw [qmk (by simpa using h)]; omega
/-! Where it fails. -/
/-! Each word stands where it says. -/
theorem qxh {l : List UInt8} (he : (qb9 l).2 = 0) : l.take (qb9 l).1.text.length = (qb9 l).1.text ∧ (qb9 l).1.kind ≠ 0 := by
  have key : ∀ n, n ≤ l.length → l.take (l.take n).length = l.take n := fun n hn => by rw [List.length_take, Nat.min_eq_left hn]
  by_cases hd : qcg (l.getD 0 0).toNat = true
  · rw [qmc hd]
    exact ⟨key _ (qew _ _), by simp⟩
  · have hd : qcg (l.getD 0 0).toNat = false := by simpa using hd
    by_cases ho : (onW (l.getD 0 0).toNat && !decide (((l.getD 0 0).toNat : Int) = 39)) = true
    · rw [qqo hd ho]
      refine ⟨key _ (qew _ _), ?_⟩
      simp only [qld, qba9]
      repeat' split
      all_goals simp
    · have ho : (onW (l.getD 0 0).toNat && !decide (((l.getD 0 0).toNat : Int) = 39)) = false := by simpa using ho
      by_cases hm : qkd l = 0
      · rw [qvo hd ho hm] at he; simp at he
      · rw [qki hd ho hm]
        exact ⟨key _ (qqx _), by simp⟩

theorem qnh {f : Int → Bool} : ∀ {d r : List UInt8}, d.all (fun c => f c.toNat) = true → qbq f r = 0 → qbq f (d ++ r) = d.length
  | [], r, _, h => by simpa using h
  | c :: d, r, h, hr => by
    simp only [List.all_cons, Bool.and_eq_true] at h
    rw [List.cons_append, qmk h.1, qnh h.2 hr, List.length_cons]
/-- What stands behind a word: nothing, or a space. -/
def Gap (r : List UInt8) : Prop := r = [] ∨ ∃ r', r = 32 :: r'
theorem qr2 {f : Int → Bool} (hf : f 32 = false) {r : List UInt8} (h : Gap r) : qbq f r = 0 := by
  rcases h with rfl | ⟨r', rfl⟩
  · rfl
  · exact qqb (by simpa using hf)
theorem qwt {l : List UInt8} : ∀ {ms : List (List UInt8)}, ql1 l ms ≠ 0 → l.take (ql1 l ms) ∈ ms
  | [], h => absurd rfl h
  | m :: r, h => by
    rw [ql1] at h ⊢
    by_cases hp : pfx m l = true
    · rw [if_pos hp, of_decide_eq_true hp]; simp
    · rw [if_neg hp] at h ⊢
      exact List.mem_cons_of_mem _ (qwt h)
theorem qv8 {d r : List UInt8} (hd : d ∈ marksW) (h : Gap r) : qkd (d ++ r) = d.length ∧ qcg ((d ++ r).getD 0 0).toNat = false ∧ onW ((d ++ r).getD 0 0).toNat = false ∧ qck (d ++ r) = 0 ∧ d ≠ [] := by
  have hsk : ∀ {c : UInt8} {l : List UInt8}, qdj c.toNat = false → pfx [45, 45] (c :: l) = false → qck (c :: l) = 0 := fun hb hp => qou hp (qqb (by simpa using hb))
  simp only [marksW, List.mem_cons, List.not_mem_nil, or_false] at hd
  rcases h with rfl | ⟨r', rfl⟩
  all_goals
    rcases hd with rfl | rfl | rfl | rfl | rfl | rfl | rfl | rfl | rfl | rfl | rfl | rfl
    all_goals
      refine ⟨?_, by first | decide | exact (by decide : qcg 45 = false) | (simp only [List.cons_append, List.getD_cons_zero]; decide), by first | decide | (simp only [List.cons_append, List.getD_cons_zero]; decide), ?_, by decide⟩
      · simp [qkd, marksW, ql1, pfx]
      · exact hsk (by decide) (by simp [pfx])
theorem qs4 {d r : List UInt8} (h : d ≠ []) : (d ++ r).getD 0 0 = d.getD 0 0 := by
  cases d with
  | nil => exact absurd rfl h
  | cons c d => rfl
theorem qr7 {l : List UInt8} (h : onW (l.getD 0 0).toNat = true) : qck l = 0 := by
  cases l with
  | nil => simp at h; revert h; decide
  | cons c r =>
    have h : onW c.toNat = true := h
    have hb : qdj c.toNat = false := by
      apply Bool.eq_false_iff.2
      intro hb
      simp only [qdj, Bool.or_eq_true, decide_eq_true_eq] at hb
      simp only [onW, qtc, qok, qcg, Bool.or_eq_true, Bool.and_eq_true, decide_eq_true_eq] at h
      omega
    have h45 : c ≠ 45 := by
      intro e; subst e; revert h; decide
    exact qou (by simp [pfx, h45]) (qqb (by simpa using hb))
/-- A word that is all right is read again, whatever stands behind the space behind it. -/
def Good (t : T) : Prop := t.text ≠ [] ∧ ∀ r, Gap r → qb9 (t.text ++ r) = (⟨t.kind, 0, t.num, t.text⟩, 0) ∧ qck (t.text ++ r) = 0
theorem qs6 {l : List UInt8} (hl : l ≠ []) (he : (qb9 l).2 = 0) : Good (qb9 l).1 := by
  by_cases hd : qcg (l.getD 0 0).toNat = true
  · have hp := qri hl hd
    rw [qmc hd] at he ⊢
    have hne : l.take (qbq qcg l) ≠ [] := q05 hl (by omega)
    have h0 : (l.take (qbq qcg l)).getD 0 0 = l.getD 0 0 := qpc hp
    refine ⟨hne, fun r hr => ?_⟩
    have hw := qnh (r := r) (qi8 qcg l) (qr2 (f := qcg) (by decide) hr)
    simp only at he
    refine ⟨?_, ?_⟩
    · rw [qmc (by rw [qs4 hne, h0]; exact hd), hw, List.take_left, he]
    · exact qr7 (by rw [qs4 hne, h0, onW, hd]; simp)
  · have hd : qcg (l.getD 0 0).toNat = false := by simpa using hd
    by_cases ho : (onW (l.getD 0 0).toNat && !decide (((l.getD 0 0).toNat : Int) = 39)) = true
    · have hon : onW (l.getD 0 0).toNat = true := by simp only [Bool.and_eq_true] at ho; exact ho.1
      have hp := qri hl hon
      rw [qqo hd ho] at he ⊢
      have hne : l.take (qbq onW l) ≠ [] := q05 hl (by omega)
      have h0 : (l.take (qbq onW l)).getD 0 0 = l.getD 0 0 := qpc hp
      refine ⟨hne, fun r hr => ?_⟩
      have hw := qnh (r := r) (qi8 onW l) (qr2 (f := onW) (by decide) hr)
      refine ⟨?_, ?_⟩
      · rw [qqo (by rw [qs4 (by exact hne), show (qld (l.take (qbq onW l))).text.getD 0 0 = l.getD 0 0 from h0]; exact hd) (by rw [qs4 (by exact hne), show (qld (l.take (qbq onW l))).text.getD 0 0 = l.getD 0 0 from h0]; exact ho)]
        rw [show qbq onW ((qld (l.take (qbq onW l))).text ++ r) = (qld (l.take (qbq onW l))).text.length from hw, List.take_left]
        rfl
      · exact qr7 (by rw [qs4 (by exact hne), show (qld (l.take (qbq onW l))).text.getD 0 0 = l.getD 0 0 from h0]; exact hon)
    · have ho : (onW (l.getD 0 0).toNat && !decide (((l.getD 0 0).toNat : Int) = 39)) = false := by simpa using ho
      by_cases hm : qkd l = 0
      · rw [qvo hd ho hm] at he; simp at he
      · rw [qki hd ho hm]
        have hmem : l.take (qkd l) ∈ marksW := qwt hm
        have hne := (qv8 hmem (.inl rfl)).2.2.2.2
        refine ⟨hne, fun r hr => ?_⟩
        obtain ⟨g1, g2, g3, g4, _⟩ := qv8 hmem hr
        refine ⟨?_, g4⟩
        simp only
        rw [qki g2 (by rw [g3]; rfl) (by rw [g1]; intro e; exact hne (List.eq_nil_of_length_eq_zero e)), g1, List.take_left]

theorem qvt {s : List UInt8} : ∀ (f k : Nat), (lexF f s k).2.2 = 0 → ∀ t ∈ (lexF f s k).1, Good t ∧ t.kind ≠ 0
  | 0, k, _, t, ht => by simp [lexF] at ht
  | f + 1, k, h, t, ht => by
    rw [lexF] at h ht
    by_cases h1 : k < s.length
    · rw [if_pos h1] at h ht
      by_cases h2 : (qb9 (s.drop k)).2 = 0
      · rw [if_pos h2] at h ht
        have hr : (lexF f s (lexK s k)).2.2 = 0 := by
          unfold appR at h
          split at h
          · rename_i e; exact e
          · exact h
        rw [appR, if_pos hr] at ht
        rcases List.mem_append.1 ht with ht | ht
        · simp only [List.mem_singleton] at ht
          subst ht
          have hne : s.drop k ≠ [] := by intro e; have := congrArg List.length e; simp at this; omega
          exact ⟨qs6 hne h2, (qxh h2).2⟩
        · exact qvt f _ hr t ht
      · rw [if_neg h2] at h; exact absurd h h2
    · rw [if_neg h1] at ht; simp at ht

end Go.Proofs.Ytmekebfgmjaenaa
