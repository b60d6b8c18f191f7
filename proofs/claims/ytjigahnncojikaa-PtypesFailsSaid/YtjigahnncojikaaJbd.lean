/- Texts of this proof, joined. -/
import Derived.Test.YtjigahnncojikaaJas
import Derived.Lib.Join

/- the lexer: plain laws -/
namespace Go.Proofs.Ytjigahnncojikaa
open Go Go.RowKit Go.V
set_option linter.unusedVariables false
set_option linter.unusedSimpArgs false

theorem while_take (f : Int → Bool) : ∀ (l : List UInt8) (n : Nat), whileW f (l.take n) = min (whileW f l) n
  | [], n => by simp [whileW]
  | c :: r, 0 => by simp [whileW]
  | c :: r, n + 1 => by
    rw [List.take_succ_cons]
    by_cases h : f c.toNat = true
    · rw [whileW_cons h, whileW_cons h, while_take f r n]; omega
    · have h : f c.toNat = false := by simpa using h
      rw [whileW_0 (l := c :: r) (by simpa using h), whileW_0 (l := c :: List.take n r) (by simpa using h)]; omega
theorem while_same {f : Int → Bool} {l : List UInt8} {n : Nat} (h : whileW f l ≤ n) : whileW f (l.take n) = whileW f l := by rw [while_take]; omega
theorem pfx_take {p l : List UInt8} {n : Nat} (h : p.length ≤ n) : pfx p (l.take n) = pfx p l := by
  unfold pfx; rw [List.take_take, Nat.min_eq_left h]
theorem pfx_take' {p l : List UInt8} {n : Nat} (h : pfx p (l.take n) = true) : pfx p l = true := by
  have hl := congrArg List.length (of_decide_eq_true h)
  rw [List.length_take, List.length_take] at hl
  rw [← pfx_take (n := n) (by omega)]; exact h
theorem markG_take {l : List UInt8} {n : Nat} : ∀ {ms : List (List UInt8)}, markG l ms ≠ 0 → markG l ms ≤ n → markG (l.take n) ms = markG l ms
  | [], h, _ => absurd rfl h
  | m :: r, h, hn => by
    rw [markG] at h hn ⊢
    rw [markG]
    by_cases hp : pfx m l = true
    · rw [if_pos hp] at h hn ⊢
      rw [if_pos (by rw [pfx_take hn]; exact hp)]
    · rw [if_neg hp] at h hn ⊢
      rw [if_neg (fun h2 => hp (pfx_take' h2)), markG_take h hn]
theorem getD_take0 {l : List UInt8} {n : Nat} (h : 0 < n) : (l.take n).getD 0 0 = l.getD 0 0 := by
  cases l with
  | nil => simp
  | cons c r => cases n with
    | zero => omega
    | succ n => rfl
theorem while_pos {f : Int → Bool} {l : List UInt8} (hl : l ≠ []) (h : f (l.getD 0 0).toNat = true) : 0 < whileW f l := by
  cases l with
  | nil => exact absurd rfl hl
  | cons c r => rw [whileW_cons (by simpa using h)]; omega
/-- A word that is all right ends where it ends. -/
theorem wordT_take {l : List UInt8} {n : Nat} (hl : l ≠ []) (he : (wordT l).2 = 0) (hn : (wordT l).1.text.length ≤ n) : wordT (l.take n) = wordT l := by
  by_cases hd : digitW (l.getD 0 0).toNat = true
  · have hp := while_pos hl hd
    have hle := whileW_le digitW l
    rw [wordT_dig hd] at hn
    simp only [List.length_take] at hn
    rw [wordT_dig hd, wordT_dig (by rw [getD_take0 (by omega)]; exact hd), while_same (by omega), List.take_take, Nat.min_eq_left (by omega)]
  · have hd : digitW (l.getD 0 0).toNat = false := by simpa using hd
    by_cases ho : (onW (l.getD 0 0).toNat && !decide (((l.getD 0 0).toNat : Int) = 39)) = true
    · have hp := while_pos hl (by simp only [Bool.and_eq_true] at ho; exact ho.1)
      have hle := whileW_le onW l
      rw [wordT_on hd ho] at hn
      simp only [nameT, List.length_take] at hn
      rw [wordT_on hd ho, wordT_on (by rw [getD_take0 (by omega)]; exact hd) (by rw [getD_take0 (by omega)]; exact ho), while_same (by omega), List.take_take, Nat.min_eq_left (by omega)]
    · have ho : (onW (l.getD 0 0).toNat && !decide (((l.getD 0 0).toNat : Int) = 39)) = false := by simpa using ho
      by_cases hm : markW l = 0
      · rw [wordT_no hd ho hm] at he; simp at he
      · have hle := markW_le l
        rw [wordT_mark hd ho hm] at hn
        simp only [List.length_take] at hn
        have hmt : markW (l.take n) = markW l := markG_take hm (by unfold markW at hle hn; omega)
        rw [wordT_mark hd ho hm, wordT_mark (by rw [getD_take0 (by omega)]; exact hd) (by rw [getD_take0 (by omega)]; exact ho) (by rw [hmt]; exact hm), hmt, List.take_take, Nat.min_eq_left (by omega)]
theorem line_two {l : List UInt8} (h : pfx [45, 45] l = true) : 2 ≤ whileW lineW l := by
  obtain ⟨r, rfl⟩ := pfx_head h
  cases r with
  | nil => simp [pfx] at h
  | cons d r =>
    simp only [pfx, List.length_cons, List.length_nil, List.take_succ_cons, decide_eq_true_eq, List.cons.injEq, true_and] at h
    rw [whileW_cons (by rfl), h.1, whileW_cons (by rfl)]; omega
theorem skipK_take {l : List UInt8} {n : Nat} (h : skipK l ≤ n) : skipK (l.take n) = skipK l := by
  have hb : whileW blankW l ≤ n := by unfold skipK at h; split at h <;> omega
  by_cases hp : pfx [45, 45] (l.drop (whileW blankW l)) = true
  · have h2 := line_two hp
    rw [skipK_p hp] at h
    have hw := while_same hb
    rw [skipK_p (l := l.take n) (by rw [hw, List.drop_take, pfx_take (by simp only [List.length_cons, List.length_nil]; omega)]; exact hp), skipK_p hp, hw, List.drop_take, while_same (by omega)]
  · have hp : pfx [45, 45] (l.drop (whileW blankW l)) = false := by simpa using hp
    have hw := while_same hb
    rw [skipK_n hp, skipK_n (l := l.take n) (by
      rw [hw, List.drop_take]
      apply Bool.eq_false_iff.2
      intro h2
      rw [pfx_take' h2] at hp; cases hp), hw]
theorem skipW_take {l : List UInt8} {n : Nat} (h : skipW l ≤ n) : skipW (l.take n) = skipW l := by
  generalize hm : l.length = m
  induction m using Nat.strongRecOn generalizing l n with
  | _ m ih =>
    subst hm
    by_cases h0 : skipK l = 0
    · rw [skipW_0 h0, skipW_0 (by rw [skipK_take (by omega)]; exact h0)]
    · have hle := skipK_le l
      rw [skipW_1 h0] at h
      rw [skipW_1 h0, skipW_1 (l := l.take n) (by rw [skipK_take (by omega)]; exact h0), skipK_take (by omega), List.drop_take, ih _ (by rw [List.length_drop]; omega) (l := l.drop (skipK l)) (by omega) rfl]
theorem skipW_idem (l : List UInt8) : skipW (l.drop (skipW l)) = 0 := by
  generalize hm : l.length = m
  induction m using Nat.strongRecOn generalizing l with
  | _ m ih =>
    subst hm
    by_cases h0 : skipK l = 0
    · rw [skipW_0 h0, List.drop_zero, skipW_0 h0]
    · have hle := skipK_le l
      rw [skipW_1 h0, ← List.drop_drop]
      exact ih _ (by rw [List.length_drop]; omega) _ rfl
theorem lexK_idem (s : List UInt8) (k : Nat) : skipW (s.drop (lexK s k)) = 0 := by
  unfold lexK; rw [← List.drop_drop]; exact skipW_idem _

/-! Where it fails. -/
theorem lex_fails {s : List UInt8} : ∀ (f k : Nat), (lexF f s k).2.2 ≠ 0 → s.length - k ≤ f → skipW (s.drop k) = 0 →
    ∃ j, k ≤ j ∧ j < s.length ∧ (lexF f s k).2.1 = (j : Int) ∧ (lexF f s k).2.2 = (wordT (s.drop j)).2 ∧ skipW (s.drop j) = 0 ∧ (lexG (s.take j) k).2.2 = 0
  | 0, k, h, _, _ => absurd rfl h
  | f + 1, k, h, hf, hs => by
    rw [lexF] at h ⊢
    by_cases h1 : k < s.length
    · rw [if_pos h1] at h ⊢
      by_cases h2 : (wordT (s.drop k)).2 = 0
      · rw [if_pos h2] at h ⊢
        have hr : (lexF f s (lexK s k)).2.2 ≠ 0 := by
          intro e
          rw [appR, if_pos e] at h
          exact h e
        have hlt := lexK_lt h1 h2
        have hle := lexK_le (Nat.le_of_lt h1)
        obtain ⟨j, g1, g2, g3, g4, g5, g6⟩ := lex_fails f (lexK s k) hr (by omega) (lexK_idem s k)
        rw [appR, if_neg hr]
        refine ⟨j, by omega, g2, g3, g4, g5, ?_⟩
        have hkn : lexN s k ≤ lexK s k := by unfold lexK; omega
        have hw : wordT ((s.take j).drop k) = wordT (s.drop k) := by
          rw [List.drop_take]
          exact wordT_take (by intro e; have := congrArg List.length e; simp at this; omega) h2 (by unfold lexN at hkn; omega)
        have hN : lexN (s.take j) k = lexN s k := by unfold lexN; rw [hw]
        have hK : lexK (s.take j) k = lexK s k := by
          unfold lexK
          rw [hN, List.drop_take, skipW_take (by unfold lexK at g1; omega)]
        rw [lexG_1 (by rw [List.length_take]; omega) (by rw [hw]; exact h2), hK, appR, if_pos g6]
        exact g6
      · rw [if_neg h2] at h ⊢
        exact ⟨k, Nat.le_refl _, h1, rfl, rfl, hs, by rw [lexG_0 (by rw [List.length_take]; omega)]⟩
    · rw [if_neg h1] at h; exact absurd rfl h
theorem lexV_small {s : List UInt8} (h : s.length ≤ 1048576) : lexV s = if (lexG s (skipW s)).2.2 = 0 then ((lexG s (skipW s)).1 ++ [⟨0, s.length, 0, []⟩], 0, 0) else lexG s (skipW s) := by
  rw [lexV, if_neg (by omega), appR_nil]
theorem law_fails {s : List UInt8} (hs : s.length ≤ 1048576) (h : (lexV s).2.2 ≠ 0) : ∃ j : Nat, j < s.length ∧ (lexV s).2.1 = (j : Int) ∧ (lexV (s.take j)).2.2 = 0 ∧ (lexV (s.drop j)).2 = (0, (lexV s).2.2) := by
  rw [lexV_small hs] at h ⊢
  have h1 : (lexG s (skipW s)).2.2 ≠ 0 := by
    intro e; rw [if_pos e] at h; exact h rfl
  rw [if_neg h1]
  obtain ⟨j, g1, g2, g3, g4, g5, g6⟩ := lex_fails _ _ h1 (Nat.le_refl _) (skipW_idem s)
  refine ⟨j, g2, g3, ?_, ?_⟩
  · rw [lexV_small (by rw [List.length_take]; omega), skipW_take g1, if_pos g6]
  · have h4 : (lexG s (skipW s)).2.2 = (wordT (s.drop j)).2 := g4
    have hne : (wordT (s.drop j)).2 ≠ 0 := by rw [← h4]; exact h1
    have hx : lexG (s.drop j) 0 = ([], 0, (wordT (s.drop j)).2) := by
      rw [lexG_2 (by rw [List.length_drop]; omega) (by rw [List.drop_zero]; exact hne), List.drop_zero]; rfl
    rw [lexV_small (by rw [List.length_drop]; omega), g5, hx, if_neg hne, h4]

/-! Each word stands where it says. -/
def Chain (s : List UInt8) : Nat → List T → Prop
  | a, [] => a = s.length
  | a, t :: r => ∃ p : Nat, t.pos = (p : Int) ∧ p = a + skipW (s.drop a) ∧ p + t.text.length ≤ s.length ∧ (s.drop p).take t.text.length = t.text ∧ Chain s (p + t.text.length) r
theorem wordT_text {l : List UInt8} (he : (wordT l).2 = 0) : l.take (wordT l).1.text.length = (wordT l).1.text ∧ (wordT l).1.kind ≠ 0 := by
  have key : ∀ n, n ≤ l.length → l.take (l.take n).length = l.take n := fun n hn => by rw [List.length_take, Nat.min_eq_left hn]
  by_cases hd : digitW (l.getD 0 0).toNat = true
  · rw [wordT_dig hd]
    exact ⟨key _ (whileW_le _ _), by simp⟩
  · have hd : digitW (l.getD 0 0).toNat = false := by simpa using hd
    by_cases ho : (onW (l.getD 0 0).toNat && !decide (((l.getD 0 0).toNat : Int) = 39)) = true
    · rw [wordT_on hd ho]
      refine ⟨key _ (whileW_le _ _), ?_⟩
      simp only [nameT, nameK]
      repeat' split
      all_goals simp
    · have ho : (onW (l.getD 0 0).toNat && !decide (((l.getD 0 0).toNat : Int) = 39)) = false := by simpa using ho
      by_cases hm : markW l = 0
      · rw [wordT_no hd ho hm] at he; simp at he
      · rw [wordT_mark hd ho hm]
        exact ⟨key _ (markW_le _), by simp⟩
theorem chain_lex {s : List UInt8} : ∀ (f a k : Nat), (lexF f s k).2.2 = 0 → s.length - k ≤ f → k ≤ s.length → k = a + skipW (s.drop a) → Chain s a ((lexF f s k).1 ++ [⟨0, s.length, 0, []⟩])
  | 0, a, k, h, hf, hk, ha => by
    have hk2 : k = s.length := by omega
    exact ⟨s.length, rfl, by omega, by simp, by simp, by simp [Chain]⟩
  | f + 1, a, k, h, hf, hk, ha => by
    rw [lexF] at h ⊢
    by_cases h1 : k < s.length
    · rw [if_pos h1] at h ⊢
      by_cases h2 : (wordT (s.drop k)).2 = 0
      · rw [if_pos h2] at h ⊢
        have hr : (lexF f s (lexK s k)).2.2 = 0 := by
          unfold appR at h
          split at h
          · rename_i e; exact e
          · exact h
        have hlt := lexK_lt h1 h2
        have hle := lexK_le (Nat.le_of_lt h1)
        have hn := lexN_le (Nat.le_of_lt h1)
        rw [appR, if_pos hr]
        exact ⟨k, rfl, ha, hn, (wordT_text h2).1, chain_lex f (lexN s k) (lexK s k) hr (by omega) hle rfl⟩
      · rw [if_neg h2] at h; exact absurd h h2
    · rw [if_neg h1] at h ⊢
      exact ⟨s.length, rfl, by omega, by simp, by simp, by simp [Chain]⟩
theorem law_chain {s : List UInt8} (hs : s.length ≤ 1048576) (h : (lexV s).2.2 = 0) : Chain s 0 (lexV s).1 := by
  rw [lexV_small hs] at h ⊢
  have h1 : (lexG s (skipW s)).2.2 = 0 := by
    by_cases e : (lexG s (skipW s)).2.2 = 0
    · exact e
    · rw [if_neg e] at h; exact h
  rw [if_pos h1]
  exact chain_lex _ 0 _ h1 (Nat.le_refl _) (skipW_le s) (by simp)
theorem gap_lex {s : List UInt8} {a p : Nat} (hs : s.length ≤ 1048576) (hp : p = a + skipW (s.drop a)) (ha : a ≤ s.length) : lexV ((s.take p).drop a) = ([⟨0, ((p - a : Nat) : Int), 0, []⟩], 0, 0) := by
  have hle := skipW_le (s.drop a)
  rw [List.length_drop] at hle
  have hx : (s.take p).drop a = (s.drop a).take (skipW (s.drop a)) := by rw [List.drop_take, hp]; congr 1; omega
  have hl : ((s.take p).drop a).length = p - a := by rw [List.length_drop, List.length_take]; omega
  have hk : skipW ((s.take p).drop a) = p - a := by rw [hx, skipW_take (Nat.le_refl _)]; omega
  rw [lexV_small (by omega), hk, lexG_0 (by omega), if_pos rfl, hl]
  rfl
end Go.Proofs.Ytjigahnncojikaa

/- words: what each kind of word is like -/
namespace Go.Proofs.Ytjigahnncojikaa
open Go Go.RowKit Go.V
set_option linter.unusedVariables false
set_option linter.unusedSimpArgs false

/-- A word as the lexer makes them. -/
def okTok (t : T) : Prop := (t.kind = 1 → varW t.text = true) ∧ (t.kind = 2 → conW t.text = true) ∧ (t.kind = 3 → 0 ≤ t.num)
theorem wrapI {z : Int} (h0 : 0 ≤ z) (h1 : z ≤ 9223372036854775807) : IntKind.i64.wrap z = z := by
  simp [IntKind.wrap, IntKind.signed, IntKind.bits]
  omega
theorem wrapU {z : Int} (h0 : 0 ≤ z) (h1 : z ≤ 255) : IntKind.u8.wrap z = z := by
  simp [IntKind.wrap, IntKind.signed, IntKind.bits]
  omega
theorem readV_ge : ∀ (l : List UInt8) (k : Int), digW l = true → 0 ≤ k → k ≤ 9223372036854775807 → 0 ≤ (readV k l).1
  | [], k, _, h, _ => h
  | c :: r, k, hd, h0, h1 => by
    simp only [digW, List.all_cons, Bool.and_eq_true, digitW, decide_eq_true_eq] at hd
    have hr : digW r = true := by
      simp only [digW, digitW]; exact hd.2
    have hu : IntKind.u8.wrap ((c.toNat : Int) - 48) = (c.toNat : Int) - 48 := wrapU (by omega) (by omega)
    have hv : digV c = (c.toNat : Int) - 48 := by
      unfold digV; rw [hu]; exact wrapI (by omega) (by omega)
    rw [readV]
    split
    · exact Int.le_refl 0
    · rename_i hlt
      have ht : topV c = (9223372036854775807 - digV c).tdiv 10 := by
        unfold topV
        have e1 : IntKind.i64.wrap (9223372036854775807 - digV c) = 9223372036854775807 - digV c := wrapI (by omega) (by omega)
        have e3 : (9223372036854775807 - digV c).tdiv 10 = (9223372036854775807 - digV c) / 10 := Int.tdiv_eq_ediv_of_nonneg (by omega)
        rw [e1, e3]; exact wrapI (by omega) (by omega)
      have e3 : (9223372036854775807 - digV c).tdiv 10 = (9223372036854775807 - digV c) / 10 := Int.tdiv_eq_ediv_of_nonneg (by omega)
      rw [ht, e3] at hlt
      have hn : nxtV k c = 10 * k + digV c := by
        unfold nxtV
        have e1 : IntKind.i64.wrap (10 * k) = 10 * k := wrapI (by omega) (by omega)
        rw [e1]; exact wrapI (by omega) (by omega)
      exact readV_ge r _ hr (by rw [hn]; omega) (by rw [hn]; omega)
theorem wordT_ok {l : List UInt8} (hl : l ≠ []) (he : (wordT l).2 = 0) : okTok (wordT l).1 := by
  by_cases hd : digitW (l.getD 0 0).toNat = true
  · rw [wordT_dig hd]
    refine ⟨fun h => by simp at h, fun h => by simp at h, fun _ => ?_⟩
    have hne : l.take (whileW digitW l) ≠ [] := take_ne hl (by have := while_pos hl hd; omega)
    have hdg : digW (l.take (whileW digitW l)) = true := whileW_take digitW l
    simp only
    rw [readW_dig hne hdg]
    exact readV_ge _ 0 hdg (by omega) (by omega)
  · have hd : digitW (l.getD 0 0).toNat = false := by simpa using hd
    by_cases ho : (onW (l.getD 0 0).toNat && !decide (((l.getD 0 0).toNat : Int) = 39)) = true
    · have hon : onW (l.getD 0 0).toNat = true := by simp only [Bool.and_eq_true] at ho; exact ho.1
      have h39 : ¬ ((l.getD 0 0).toNat : Int) = 39 := by simp only [Bool.and_eq_true, Bool.not_eq_true', decide_eq_false_iff_not] at ho; exact ho.2
      have hp := while_pos hl hon
      have hne : l.take (whileW onW l) ≠ [] := take_ne hl (by omega)
      have h0 : (l.take (whileW onW l)).getD 0 0 = l.getD 0 0 := getD_take0 hp
      have hall : onsW (l.take (whileW onW l)) = true := whileW_take onW l
      rw [wordT_on hd ho]
      unfold nameT
      generalize l.take (whileW onW l) = w at hne h0 hall
      rw [← h0] at hd hon h39
      refine ⟨fun h => ?_, fun h => ?_, fun h => ?_⟩
      all_goals simp only [nameK] at h ⊢
      · split at h
        · exact absurd h (by decide)
        · rename_i h1
          split at h
          · exact absurd h (by decide)
          · rename_i h2
            split at h
            · exact absurd h (by decide)
            · rename_i h3
              have hg : greatW (w.getD 0 0).toNat = false := by
                apply Bool.eq_false_iff.2
                intro hg
                exact h3 (by simp only [conW, hg, hall, decide_eq_true hne, Bool.and_true])
              have hs : smallW (w.getD 0 0).toNat = true := by
                simp only [onW, hg, hd, Bool.or_false, decide_eq_false h39] at hon
                exact hon
              simp only [varW, hs, hall, decide_eq_true hne, decide_eq_true h1, Bool.and_true, Bool.true_and, Bool.not_eq_true']
              simpa using h2
      · split at h
        · exact absurd h (by decide)
        · split at h
          · exact absurd h (by decide)
          · split at h
            · assumption
            · exact absurd h (by decide)
      · repeat' split at h
        all_goals exact absurd h (by decide)
    · have ho : (onW (l.getD 0 0).toNat && !decide (((l.getD 0 0).toNat : Int) = 39)) = false := by simpa using ho
      by_cases hm : markW l = 0
      · rw [wordT_no hd ho hm] at he; simp at he
      · rw [wordT_mark hd ho hm]
        refine ⟨fun h => by simp at h, fun h => by simp at h, fun h => by simp at h⟩
theorem lexF_ok {s : List UInt8} : ∀ (f k : Nat), (lexF f s k).2.2 = 0 → ∀ t ∈ (lexF f s k).1, okTok t
  | 0, k, _, t, ht => by simp [lexF] at ht
  | f + 1, k, h, t, ht => by
    rw [lexF] at h ht
    by_cases h1 : k < s.length
    · rw [if_pos h1] at h ht
      by_cases h2 : (wordT (s.drop k)).2 = 0
      · rw [if_pos h2] at h ht
        have hr : (lexF f s (lexK s k)).2.2 = 0 := by
          unfold appR at h
          split at h
          · rename_i e; exact e
          · exact h
        rw [appR, if_pos hr] at ht
        rcases List.mem_append.1 ht with ht | ht
        · simp only [List.mem_singleton] at ht
          subst ht
          have hne : s.drop k ≠ [] := by intro e; have := congrArg List.length e; simp at this; omega
          exact wordT_ok hne h2
        · exact lexF_ok f _ hr t ht
      · rw [if_neg h2] at h; exact absurd h h2
    · rw [if_neg h1] at ht; simp at ht
theorem lexV_okTok {s : List UInt8} : ∀ t ∈ (lexV s).1, okTok t := by
  intro t ht
  by_cases h : 1048576 < (s.length : Int)
  · rw [lexV_big h] at ht; simp at ht
  · by_cases he : (lexG s (skipW s)).2.2 = 0
    · rw [lexV_ok h he] at ht
      simp only [List.mem_append, List.mem_singleton] at ht
      rcases ht with ht | rfl
      · exact lexF_ok _ _ he t ht
      · exact ⟨fun h => by simp at h, fun h => by simp at h, fun h => by simp at h⟩
    · rw [lexV_bad h he] at ht; simp at ht
end Go.Proofs.Ytjigahnncojikaa
