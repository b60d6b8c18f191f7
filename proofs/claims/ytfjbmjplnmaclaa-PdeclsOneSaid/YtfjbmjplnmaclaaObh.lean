/- Texts of this proof, joined. -/
import Derived.Test.YtfjbmjplnmaclaaOat
import Derived.Lib.Join

/- the lexer: plain laws -/
namespace Go.Proofs.Ytfjbmjplnmaclaa
open Go Go.RowKit Go.V
set_option linter.unusedVariables false
set_option linter.unusedSimpArgs false

theorem qr2 {l : List UInt8} {n : Nat} (h : 0 < n) : (l.take n).getD 0 0 = l.getD 0 0 := by
  cases l with
  | nil => simp
  | cons c r => cases n with
    | zero => omega
    | succ n => rfl
theorem quf {f : Int → Bool} {l : List UInt8} (hl : l ≠ []) (h : f (l.getD 0 0).toNat = true) : 0 < qbn f l := by
  cases l with
  | nil => exact absurd rfl hl
  | cons c r => rw [qig (by simpa using h)]; omega
/-! Where it fails. -/
theorem qr8 {s : List UInt8} (h : s.length ≤ 1048576) : lexV s = if (lexG s (qcl s)).2.2 = 0 then ((lexG s (qcl s)).1 ++ [⟨0, s.length, 0, []⟩], 0, 0) else lexG s (qcl s) := by
  rw [lexV, if_neg (by omega), qnx]
/-! Each word stands where it says. -/
theorem q1t {l : List UInt8} (he : (qco l).2 = 0) : l.take (qco l).1.text.length = (qco l).1.text ∧ (qco l).1.kind ≠ 0 := by
  have key : ∀ n, n ≤ l.length → l.take (l.take n).length = l.take n := fun n hn => by rw [List.length_take, Nat.min_eq_left hn]
  by_cases hd : qcq (l.getD 0 0).toNat = true
  · rw [qi5 hd]
    exact ⟨key _ (qdx _ _), by simp⟩
  · have hd : qcq (l.getD 0 0).toNat = false := by simpa using hd
    by_cases ho : (onW (l.getD 0 0).toNat && !decide (((l.getD 0 0).toNat : Int) = 39)) = true
    · rw [qlr hd ho]
      refine ⟨key _ (qdx _ _), ?_⟩
      simp only [qnj, qbgi]
      repeat' split
      all_goals simp
    · have ho : (onW (l.getD 0 0).toNat && !decide (((l.getD 0 0).toNat : Int) = 39)) = false := by simpa using ho
      by_cases hm : qka l = 0
      · rw [qs4 hd ho hm] at he; simp at he
      · rw [qhv hd ho hm]
        exact ⟨key _ (qoa _), by simp⟩

theorem qqc {f : Int → Bool} : ∀ {d r : List UInt8}, d.all (fun c => f c.toNat) = true → qbn f r = 0 → qbn f (d ++ r) = d.length
  | [], r, _, h => by simpa using h
  | c :: d, r, h, hr => by
    simp only [List.all_cons, Bool.and_eq_true] at h
    rw [List.cons_append, qig h.1, qqc h.2 hr, List.length_cons]
/-- What stands behind a word: nothing, or a space. -/
def Gap (r : List UInt8) : Prop := r = [] ∨ ∃ r', r = 32 :: r'
theorem qv3 {f : Int → Bool} (hf : f 32 = false) {r : List UInt8} (h : Gap r) : qbn f r = 0 := by
  rcases h with rfl | ⟨r', rfl⟩
  · rfl
  · exact qj6 (by simpa using hf)
theorem qz2 {l : List UInt8} : ∀ {ms : List (List UInt8)}, qko l ms ≠ 0 → l.take (qko l ms) ∈ ms
  | [], h => absurd rfl h
  | m :: r, h => by
    rw [qko] at h ⊢
    by_cases hp : pfx m l = true
    · rw [if_pos hp, of_decide_eq_true hp]; simp
    · rw [if_neg hp] at h ⊢
      exact List.mem_cons_of_mem _ (qz2 h)
theorem qzr {d r : List UInt8} (hd : d ∈ marksW) (h : Gap r) : qka (d ++ r) = d.length ∧ qcq ((d ++ r).getD 0 0).toNat = false ∧ onW ((d ++ r).getD 0 0).toNat = false ∧ qcl (d ++ r) = 0 ∧ d ≠ [] := by
  have hsk : ∀ {c : UInt8} {l : List UInt8}, qdu c.toNat = false → pfx [45, 45] (c :: l) = false → qcl (c :: l) = 0 := fun hb hp => qru hp (qj6 (by simpa using hb))
  simp only [marksW, List.mem_cons, List.not_mem_nil, or_false] at hd
  rcases h with rfl | ⟨r', rfl⟩
  all_goals
    rcases hd with rfl | rfl | rfl | rfl | rfl | rfl | rfl | rfl | rfl | rfl | rfl | rfl
    all_goals
      refine ⟨?_, by first | decide | exact (by decide : qcq 45 = false) | (simp only [List.cons_append, List.getD_cons_zero]; decide), by first | decide | (simp only [List.cons_append, List.getD_cons_zero]; decide), ?_, by decide⟩
      · simp [qka, marksW, qko, pfx]
      · exact hsk (by decide) (by simp [pfx])
theorem qq1 {d r : List UInt8} (h : d ≠ []) : (d ++ r).getD 0 0 = d.getD 0 0 := by
  cases d with
  | nil => exact absurd rfl h
  | cons c d => rfl
theorem qv6 {l : List UInt8} (h : onW (l.getD 0 0).toNat = true) : qcl l = 0 := by
  cases l with
  | nil => simp at h; revert h; decide
  | cons c r =>
    have h : onW c.toNat = true := h
    have hb : qdu c.toNat = false := by
      apply Bool.eq_false_iff.2
      intro hb
      simp only [qdu, Bool.or_eq_true, decide_eq_true_eq] at hb
      simp only [onW, qwr, qrq, qcq, Bool.or_eq_true, Bool.and_eq_true, decide_eq_true_eq] at h
      omega
    have h45 : c ≠ 45 := by
      intro e; subst e; revert h; decide
    exact qru (by simp [pfx, h45]) (qj6 (by simpa using hb))
/-- A word that is all right is read again, whatever stands behind the space behind it. -/
def Good (t : T) : Prop := t.text ≠ [] ∧ ∀ r, Gap r → qco (t.text ++ r) = (⟨t.kind, 0, t.num, t.text⟩, 0) ∧ qcl (t.text ++ r) = 0
theorem q53 {l : List UInt8} (hl : l ≠ []) (he : (qco l).2 = 0) : Good (qco l).1 := by
  by_cases hd : qcq (l.getD 0 0).toNat = true
  · have hp := quf hl hd
    rw [qi5 hd] at he ⊢
    have hne : l.take (qbn qcq l) ≠ [] := q4m hl (by omega)
    have h0 : (l.take (qbn qcq l)).getD 0 0 = l.getD 0 0 := qr2 hp
    refine ⟨hne, fun r hr => ?_⟩
    have hw := qqc (r := r) (qkt qcq l) (qv3 (f := qcq) (by decide) hr)
    simp only at he
    refine ⟨?_, ?_⟩
    · rw [qi5 (by rw [qq1 hne, h0]; exact hd), hw, List.take_left, he]
    · exact qv6 (by rw [qq1 hne, h0, onW, hd]; simp)
  · have hd : qcq (l.getD 0 0).toNat = false := by simpa using hd
    by_cases ho : (onW (l.getD 0 0).toNat && !decide (((l.getD 0 0).toNat : Int) = 39)) = true
    · have hon : onW (l.getD 0 0).toNat = true := by simp only [Bool.and_eq_true] at ho; exact ho.1
      have hp := quf hl hon
      rw [qlr hd ho] at he ⊢
      have hne : l.take (qbn onW l) ≠ [] := q4m hl (by omega)
      have h0 : (l.take (qbn onW l)).getD 0 0 = l.getD 0 0 := qr2 hp
      refine ⟨hne, fun r hr => ?_⟩
      have hw := qqc (r := r) (qkt onW l) (qv3 (f := onW) (by decide) hr)
      refine ⟨?_, ?_⟩
      · rw [qlr (by rw [qq1 (by exact hne), show (qnj (l.take (qbn onW l))).text.getD 0 0 = l.getD 0 0 from h0]; exact hd) (by rw [qq1 (by exact hne), show (qnj (l.take (qbn onW l))).text.getD 0 0 = l.getD 0 0 from h0]; exact ho)]
        rw [show qbn onW ((qnj (l.take (qbn onW l))).text ++ r) = (qnj (l.take (qbn onW l))).text.length from hw, List.take_left]
        rfl
      · exact qv6 (by rw [qq1 (by exact hne), show (qnj (l.take (qbn onW l))).text.getD 0 0 = l.getD 0 0 from h0]; exact hon)
    · have ho : (onW (l.getD 0 0).toNat && !decide (((l.getD 0 0).toNat : Int) = 39)) = false := by simpa using ho
      by_cases hm : qka l = 0
      · rw [qs4 hd ho hm] at he; simp at he
      · rw [qhv hd ho hm]
        have hmem : l.take (qka l) ∈ marksW := qz2 hm
        have hne := (qzr hmem (.inl rfl)).2.2.2.2
        refine ⟨hne, fun r hr => ?_⟩
        obtain ⟨g1, g2, g3, g4, _⟩ := qzr hmem hr
        refine ⟨?_, g4⟩
        simp only
        rw [qhv g2 (by rw [g3]; rfl) (by rw [g1]; intro e; exact hne (List.eq_nil_of_length_eq_zero e)), g1, List.take_left]

theorem q0j {s : List UInt8} : ∀ (f k : Nat), (lexF f s k).2.2 = 0 → ∀ t ∈ (lexF f s k).1, Good t ∧ t.kind ≠ 0
  | 0, k, _, t, ht => by simp [lexF] at ht
  | f + 1, k, h, t, ht => by
    rw [lexF] at h ht
    by_cases h1 : k < s.length
    · rw [if_pos h1] at h ht
      by_cases h2 : (qco (s.drop k)).2 = 0
      · rw [if_pos h2] at h ht
        have hr : (lexF f s (lexK s k)).2.2 = 0 := by
          unfold appR at h
          split at h
          · rename_i e; exact e
          · exact h
        rw [appR, if_pos hr] at ht
        rcases List.mem_append.1 ht with ht | ht
        · simp only [List.mem_singleton] at ht
          subst ht
          have hne : s.drop k ≠ [] := by intro e; have := congrArg List.length e; simp at this; omega
          exact ⟨q53 hne h2, (q1t h2).2⟩
        · exact q0j f _ hr t ht
      · rw [if_neg h2] at h; exact absurd h h2
    · rw [if_neg h1] at ht; simp at ht

end Go.Proofs.Ytfjbmjplnmaclaa
