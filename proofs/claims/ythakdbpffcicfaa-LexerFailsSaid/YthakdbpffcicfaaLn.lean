
/- the lexer: plain laws: what is written is read -/
import Derived.Test.YthakdbpffcicfaaLm
import Derived.Test.YthakdbpffcicfaaLj
namespace Go.Proofs.Ythakdbpffcicfaa
open Go Go.RowKit Go.V
set_option linter.unusedVariables false
set_option linter.unusedSimpArgs false

theorem while_app {f : Int → Bool} : ∀ {d r : List UInt8}, d.all (fun c => f c.toNat) = true → whileW f r = 0 → whileW f (d ++ r) = d.length
  | [], r, _, h => by simpa using h
  | c :: d, r, h, hr => by
    simp only [List.all_cons, Bool.and_eq_true] at h
    rw [List.cons_append, whileW_cons h.1, while_app h.2 hr, List.length_cons]
/-- What stands behind a word: nothing, or a space. -/
def Gap (r : List UInt8) : Prop := r = [] ∨ ∃ r', r = 32 :: r'
theorem gap_while {f : Int → Bool} (hf : f 32 = false) {r : List UInt8} (h : Gap r) : whileW f r = 0 := by
  rcases h with rfl | ⟨r', rfl⟩
  · rfl
  · exact whileW_0 (by simpa using hf)
theorem mark_mem {l : List UInt8} : ∀ {ms : List (List UInt8)}, markG l ms ≠ 0 → l.take (markG l ms) ∈ ms
  | [], h => absurd rfl h
  | m :: r, h => by
    rw [markG] at h ⊢
    by_cases hp : pfx m l = true
    · rw [if_pos hp, of_decide_eq_true hp]; simp
    · rw [if_neg hp] at h ⊢
      exact List.mem_cons_of_mem _ (mark_mem h)
theorem mark_gap {d r : List UInt8} (hd : d ∈ marksW) (h : Gap r) : markW (d ++ r) = d.length ∧ digitW ((d ++ r).getD 0 0).toNat = false ∧ onW ((d ++ r).getD 0 0).toNat = false ∧ skipW (d ++ r) = 0 ∧ d ≠ [] := by
  have hsk : ∀ {c : UInt8} {l : List UInt8}, blankW c.toNat = false → pfx [45, 45] (c :: l) = false → skipW (c :: l) = 0 := fun hb hp => skipW_none hp (whileW_0 (by simpa using hb))
  simp only [marksW, List.mem_cons, List.not_mem_nil, or_false] at hd
  rcases h with rfl | ⟨r', rfl⟩
  all_goals
    rcases hd with rfl | rfl | rfl | rfl | rfl | rfl | rfl | rfl | rfl | rfl | rfl | rfl
    all_goals
      refine ⟨?_, by first | decide | exact (by decide : digitW 45 = false) | (simp only [List.cons_append, List.getD_cons_zero]; decide), by first | decide | (simp only [List.cons_append, List.getD_cons_zero]; decide), ?_, by decide⟩
      · simp [markW, marksW, markG, pfx]
      · exact hsk (by decide) (by simp [pfx])
theorem nz_app {d r : List UInt8} (h : d ≠ []) : (d ++ r).getD 0 0 = d.getD 0 0 := by
  cases d with
  | nil => exact absurd rfl h
  | cons c d => rfl
theorem skip_head {l : List UInt8} (h : onW (l.getD 0 0).toNat = true) : skipW l = 0 := by
  cases l with
  | nil => simp at h; revert h; decide
  | cons c r =>
    have h : onW c.toNat = true := h
    have hb : blankW c.toNat = false := by
      apply Bool.eq_false_iff.2
      intro hb
      simp only [blankW, Bool.or_eq_true, decide_eq_true_eq] at hb
      simp only [onW, smallW, greatW, digitW, Bool.or_eq_true, Bool.and_eq_true, decide_eq_true_eq] at h
      omega
    have h45 : c ≠ 45 := by
      intro e; subst e; revert h; decide
    exact skipW_none (by simp [pfx, h45]) (whileW_0 (by simpa using hb))
/-- A word that is all right is read again, whatever stands behind the space behind it. -/
def Good (t : T) : Prop := t.text ≠ [] ∧ ∀ r, Gap r → wordT (t.text ++ r) = (⟨t.kind, 0, t.num, t.text⟩, 0) ∧ skipW (t.text ++ r) = 0
theorem good_word {l : List UInt8} (hl : l ≠ []) (he : (wordT l).2 = 0) : Good (wordT l).1 := by
  by_cases hd : digitW (l.getD 0 0).toNat = true
  · have hp := while_pos hl hd
    rw [wordT_dig hd] at he ⊢
    have hne : l.take (whileW digitW l) ≠ [] := take_ne hl (by omega)
    have h0 : (l.take (whileW digitW l)).getD 0 0 = l.getD 0 0 := getD_take0 hp
    refine ⟨hne, fun r hr => ?_⟩
    have hw := while_app (r := r) (whileW_take digitW l) (gap_while (f := digitW) (by decide) hr)
    simp only at he
    refine ⟨?_, ?_⟩
    · rw [wordT_dig (by rw [nz_app hne, h0]; exact hd), hw, List.take_left, he]
    · exact skip_head (by rw [nz_app hne, h0, onW, hd]; simp)
  · have hd : digitW (l.getD 0 0).toNat = false := by simpa using hd
    by_cases ho : (onW (l.getD 0 0).toNat && !decide (((l.getD 0 0).toNat : Int) = 39)) = true
    · have hon : onW (l.getD 0 0).toNat = true := by simp only [Bool.and_eq_true] at ho; exact ho.1
      have hp := while_pos hl hon
      rw [wordT_on hd ho] at he ⊢
      have hne : l.take (whileW onW l) ≠ [] := take_ne hl (by omega)
      have h0 : (l.take (whileW onW l)).getD 0 0 = l.getD 0 0 := getD_take0 hp
      refine ⟨hne, fun r hr => ?_⟩
      have hw := while_app (r := r) (whileW_take onW l) (gap_while (f := onW) (by decide) hr)
      refine ⟨?_, ?_⟩
      · rw [wordT_on (by rw [nz_app (by exact hne), show (nameT (l.take (whileW onW l))).text.getD 0 0 = l.getD 0 0 from h0]; exact hd) (by rw [nz_app (by exact hne), show (nameT (l.take (whileW onW l))).text.getD 0 0 = l.getD 0 0 from h0]; exact ho)]
        rw [show whileW onW ((nameT (l.take (whileW onW l))).text ++ r) = (nameT (l.take (whileW onW l))).text.length from hw, List.take_left]
        rfl
      · exact skip_head (by rw [nz_app (by exact hne), show (nameT (l.take (whileW onW l))).text.getD 0 0 = l.getD 0 0 from h0]; exact hon)
    · have ho : (onW (l.getD 0 0).toNat && !decide (((l.getD 0 0).toNat : Int) = 39)) = false := by simpa using ho
      by_cases hm : markW l = 0
      · rw [wordT_no hd ho hm] at he; simp at he
      · rw [wordT_mark hd ho hm]
        have hmem : l.take (markW l) ∈ marksW := mark_mem hm
        have hne := (mark_gap hmem (.inl rfl)).2.2.2.2
        refine ⟨hne, fun r hr => ?_⟩
        obtain ⟨g1, g2, g3, g4, _⟩ := mark_gap hmem hr
        refine ⟨?_, g4⟩
        simp only
        rw [wordT_mark g2 (by rw [g3]; rfl) (by rw [g1]; intro e; exact hne (List.eq_nil_of_length_eq_zero e)), g1, List.take_left]

/-- But for the place. -/
def strip (t : T) : T := ⟨t.kind, 0, t.num, t.text⟩
theorem tSame_strip (a b : T) : tSame a b = true ↔ strip a = strip b := by
  simp [tSame, strip]
theorem sameT_strip : ∀ {a b : List T}, a.map strip = b.map strip → sameT a b = true
  | [], [], _ => rfl
  | [], _ :: _, h => by simp at h
  | _ :: _, [], h => by simp at h
  | x :: a, y :: b, h => by
    simp only [List.map_cons, List.cons.injEq] at h
    have := sameT_strip h.2
    simp only [sameT, allS, Bool.and_eq_true, decide_eq_true_eq] at this
    simp only [sameT, allS, List.length_cons, List.zip_cons_cons, List.all_cons, Bool.and_eq_true, decide_eq_true_eq]
    exact ⟨by omega, (tSame_strip x y).2 h.1, this.2⟩

theorem lex_good {s : List UInt8} : ∀ (f k : Nat), (lexF f s k).2.2 = 0 → ∀ t ∈ (lexF f s k).1, Good t ∧ t.kind ≠ 0
  | 0, k, _, t, ht => by simp [lexF] at ht
  | f + 1, k, h, t, ht => by
    rw [lexF] at h ht
    by_cases h1 : k < s.length
    · rw [if_pos h1] at h ht
      by_cases h2 : (wordT (s.drop k)).2 = 0
      · rw [if_pos h2] at h ht
        have hr : (lexF f s (lexK s k)).2.2 = 0 := by
          unfold appR at h
          split at h
          · rename_i e; exact e
          · exact h
        rw [appR, if_pos hr] at ht
        rcases List.mem_append.1 ht with ht | ht
        · simp only [List.mem_singleton] at ht
          subst ht
          have hne : s.drop k ≠ [] := by intro e; have := congrArg List.length e; simp at this; omega
          exact ⟨good_word hne h2, (wordT_text h2).2⟩
        · exact lex_good f _ hr t ht
      · rw [if_neg h2] at h; exact absurd h h2
    · rw [if_neg h1] at ht; simp at ht

theorem gap_tail (u : T) (W : List T) : ∃ r', Lib.joinTail [32] ((u :: W).map T.text) = 32 :: r' := ⟨u.text ++ Lib.joinTail [32] (W.map T.text), by simp [Lib.joinTail]⟩
/-- Good words with a space between are read as they are. -/
theorem join_lex : ∀ (W : List T), W ≠ [] → (∀ t ∈ W, Good t) → ∀ (P : List UInt8), ∃ M, lexG (P ++ Lib.join (W.map T.text) [32]) P.length = (M, 0, 0) ∧ M.map strip = W.map strip
  | [], h, _, P => absurd rfl h
  | [t], _, hg, P => by
    obtain ⟨h1, h2⟩ := hg t (by simp)
    obtain ⟨h3, h4⟩ := h2 [] (.inl rfl)
    rw [List.append_nil] at h3
    have hl := List.length_pos_iff.2 h1
    rw [List.map_cons, List.map_nil, Lib.join_one]
    have hd : (P ++ t.text).drop P.length = t.text := List.drop_left
    have hN : lexN (P ++ t.text) P.length = (P ++ t.text).length := by unfold lexN; rw [hd, h3, List.length_append]
    have hK : lexK (P ++ t.text) P.length = (P ++ t.text).length := by
      unfold lexK; rw [hN, List.drop_length]
      exact Nat.add_zero _
    rw [lexG_1 (by rw [List.length_append]; omega) (by rw [hd, h3]), hK, lexG_0 (by omega)]
    refine ⟨[lexT (P ++ t.text) P.length], by rw [appR, if_pos rfl]; rfl, ?_⟩
    simp only [List.map_cons, List.map_nil, lexT, strip, hd, h3]
  | t :: t' :: W, _, hg, P => by
    obtain ⟨h1, h2⟩ := hg t (by simp)
    obtain ⟨h1', h2'⟩ := hg t' (by simp)
    have hl := List.length_pos_iff.2 h1
    have hj : Lib.join ((t :: t' :: W).map T.text) [32] = t.text ++ 32 :: Lib.join ((t' :: W).map T.text) [32] := by
      rw [List.map_cons, List.map_cons, Lib.join_cons, Lib.join_cons]; simp [Lib.joinTail]
    obtain ⟨h3, h4⟩ := h2 (32 :: Lib.join ((t' :: W).map T.text) [32]) (.inr ⟨_, rfl⟩)
    obtain ⟨M, g1, g2⟩ := join_lex (t' :: W) (by simp) (fun x hx => hg x (by simp [hx])) (P ++ (t.text ++ [32]))
    have hs : P ++ (t.text ++ [32]) ++ Lib.join ((t' :: W).map T.text) [32] = P ++ (t.text ++ 32 :: Lib.join ((t' :: W).map T.text) [32]) := by simp
    rw [hs] at g1
    rw [hj]
    generalize hJ : Lib.join ((t' :: W).map T.text) [32] = J at *
    have hd : (P ++ (t.text ++ 32 :: J)).drop P.length = t.text ++ 32 :: J := List.drop_left
    have hN : lexN (P ++ (t.text ++ 32 :: J)) P.length = P.length + t.text.length := by unfold lexN; rw [hd, h3]
    have hdN : (P ++ (t.text ++ 32 :: J)).drop (P.length + t.text.length) = 32 :: J := by
      rw [← List.drop_drop, hd, List.drop_left]
    have hsJ : skipW J = 0 := by
      rw [← hJ, List.map_cons, Lib.join_cons]
      refine (h2' _ ?_).2
      cases W with
      | nil => exact .inl rfl
      | cons u W => exact .inr (gap_tail _ _)
    have hK : lexK (P ++ (t.text ++ 32 :: J)) P.length = (P ++ (t.text ++ [32])).length := by
      unfold lexK
      rw [hN, hdN, skipW_blank (by decide), hsJ]
      simp only [List.length_append, List.length_cons, List.length_nil]; omega
    rw [lexG_1 (by simp only [List.length_append, List.length_cons]; omega) (by rw [hd, h3]), hK, g1, appR, if_pos rfl]
    refine ⟨[lexT (P ++ (t.text ++ 32 :: J)) P.length] ++ M, rfl, ?_⟩
    rw [List.map_append, g2]
    simp only [List.map_cons, List.map_nil, lexT, strip, hd, h3, List.singleton_append]
theorem lens_lex {s : List UInt8} : ∀ (f k : Nat), (lexF f s k).2.2 = 0 → (((lexF f s k).1.map fun t => 1 + t.text.length).sum) ≤ 2 * (s.length - k)
  | 0, k, _ => by simp [lexF]
  | f + 1, k, h => by
    rw [lexF] at h ⊢
    by_cases h1 : k < s.length
    · rw [if_pos h1] at h ⊢
      by_cases h2 : (wordT (s.drop k)).2 = 0
      · rw [if_pos h2] at h ⊢
        have hr : (lexF f s (lexK s k)).2.2 = 0 := by
          unfold appR at h
          split at h
          · rename_i e; exact e
          · exact h
        have hp := wordT_pos (l := s.drop k) (by intro e; have := congrArg List.length e; simp at this; omega) h2
        have hle := lexK_le (Nat.le_of_lt h1)
        have ih := lens_lex (s := s) f _ hr
        have hN : lexN s k ≤ lexK s k := by unfold lexK; omega
        rw [appR, if_pos hr]
        simp only [List.map_append, List.map_cons, List.map_nil, List.sum_append, List.sum_cons, List.sum_nil, lexT]
        unfold lexN at hN
        omega
      · rw [if_neg h2] at h; exact absurd h h2
    · rw [if_neg h1]; simp
theorem join_le_sum (W : List T) : (Lib.join (W.map T.text) [32]).length ≤ (W.map fun t => 1 + t.text.length).sum := by
  have key : ∀ r : List T, (Lib.joinTail [32] (r.map T.text)).length = (r.map fun t => 1 + t.text.length).sum := by
    intro r
    induction r with
    | nil => rfl
    | cons t r ih =>
      simp only [Lib.joinTail, List.map_cons, List.flatten_cons, List.length_append, List.length_cons, List.length_nil, List.sum_cons] at ih ⊢
      omega
  cases W with
  | nil => simp [Lib.join_nil]
  | cons t r => rw [List.map_cons, Lib.join_cons, List.length_append, key, List.map_cons, List.sum_cons]; omega
theorem wordsT_end {W : List T} (h : ∀ t ∈ W, t.kind ≠ 0) (n : Int) : wordsT (W ++ [⟨0, n, 0, []⟩]) = W.map T.text := by
  induction W with
  | nil => simp [wordsT]
  | cons t W ih =>
    rw [List.cons_append, wordsT, if_neg (h t (by simp)), ih fun u hu => h u (by simp [hu])]; rfl
theorem law_back {s : List UInt8} (hs : s.length ≤ 20000) (h : (lexV s).2.2 = 0) : (textT (lexV s).1).length ≤ 40000 ∧ (lexV s).1.length ≤ 20001 ∧ (lexV (textT (lexV s).1)).2.2 = 0 ∧ sameT (lexV s).1 (lexV (textT (lexV s).1)).1 = true := by
  rw [lexV_small (by omega)] at h ⊢
  have h1 : (lexG s (skipW s)).2.2 = 0 := by
    by_cases e : (lexG s (skipW s)).2.2 = 0
    · exact e
    · rw [if_neg e] at h; exact h
  rw [if_pos h1]
  have hg := lex_good _ _ h1
  have hlen := lens_lex _ _ h1
  have hll := lexF_len (s := s) (s.length - skipW s) (skipW s)
  have ht : textT ((lexG s (skipW s)).1 ++ [⟨0, s.length, 0, []⟩]) = Lib.join ((lexG s (skipW s)).1.map T.text) [32] := by
    unfold textT; rw [wordsT_end (W := (lexG s (skipW s)).1) fun t h => (hg t h).2]
  have hjl := join_le_sum (lexG s (skipW s)).1
  have hb : (Lib.join ((lexG s (skipW s)).1.map T.text) [32]).length ≤ 40000 := by unfold lexG at hjl ⊢; omega
  simp only [ht]
  refine ⟨hb, by simp only [List.length_append, List.length_cons, List.length_nil]; unfold lexG; omega, ?_⟩
  rw [lexV_small (by omega)]
  by_cases hW : (lexG s (skipW s)).1 = []
  · rw [hW]
    refine ⟨rfl, ?_⟩
    exact sameT_strip rfl
  · obtain ⟨M, g1, g2⟩ := join_lex _ hW (fun t ht => (hg t ht).1) []
    rw [List.nil_append] at g1
    have hk0 : skipW (Lib.join ((lexG s (skipW s)).1.map T.text) [32]) = 0 := by
      cases hw : (lexG s (skipW s)).1 with
      | nil => exact absurd hw hW
      | cons t r =>
        rw [List.map_cons, Lib.join_cons]
        refine ((hg t (by unfold lexG at hw; rw [hw]; simp)).1.2 _ ?_).2
        cases r with
        | nil => exact .inl rfl
        | cons u r => exact .inr (gap_tail _ _)
    have g1' : lexG (Lib.join ((lexG s (skipW s)).1.map T.text) [32]) 0 = (M, 0, 0) := g1
    rw [hk0, g1', if_pos rfl]
    refine ⟨rfl, sameT_strip ?_⟩
    rw [List.map_append, List.map_append, g2]
    rfl
end Go.Proofs.Ythakdbpffcicfaa
