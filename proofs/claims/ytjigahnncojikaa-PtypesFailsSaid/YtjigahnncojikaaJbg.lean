/- A text of this proof. -/
import Derived.Test.YtjigahnncojikaaJbe

/- types: where a text fails -/
set_option maxRecDepth 4000
namespace Go.Proofs.Ytjigahnncojikaa
open Go Go.RowKit Go.V
set_option linter.unusedVariables false
set_option linter.unusedSimpArgs false

/-- A failure's place is a word's, or the end's. -/
def posOK (L : List T) (c : K) : Prop := (∀ t ∈ c.l, t ∈ L) ∧ (∃ t ∈ L, t.pos = c.ep) ∧ (c.err ≠ 0 → ∃ t ∈ L, t.pos = c.pos)
theorem posOK_peek {L : List T} {c : K} (h : posOK L c) (he : c.err = 0) : ∃ t ∈ L, t.pos = (peekK c).pos := by
  unfold peekK
  rw [if_pos he]
  split
  · exact ⟨_, h.1 _ (getT_mem (by assumption)), rfl⟩
  · exact h.2.1
theorem Stp.posOK {L : List T} {c c' : K} (h : Stp c c') (hc : posOK L c) : posOK L c' := by
  induction h with
  | refl c => exact hc
  | next c =>
    unfold nextK
    split
    · split
      · exact hc
      · exact hc
    · exact hc
  | fail c e =>
    unfold failK
    split
    · rename_i he; exact ⟨hc.1, hc.2.1, fun _ => posOK_peek hc he⟩
    · exact hc
  | nest c n => exact hc
  | trans _ _ h1 h2 => exact h2 (h1 hc)
theorem endT_mem : ∀ {l : List T}, (∃ t ∈ l, t.kind = 0) → ∃ t ∈ l, t.pos = endT l
  | [], ⟨t, h, _⟩ => by simp at h
  | u :: r, h => by
    rw [endT]
    split
    · exact ⟨u, by simp, rfl⟩
    · rename_i hk
      obtain ⟨t, ht, h0⟩ := h
      rcases List.mem_cons.1 ht with rfl | ht
      · exact absurd h0 hk
      · obtain ⟨v, hv, e⟩ := endT_mem ⟨t, ht, h0⟩
        exact ⟨v, List.mem_cons_of_mem _ hv, e⟩
theorem posOK_new {s : List UInt8} (h : (lexV s).2.2 = 0) : posOK (lexV s).1 (newK (lexV s).1) := by
  refine ⟨fun t ht => ahead_mem ht, endT_mem ?_, fun h => absurd rfl h⟩
  by_cases hb : 1048576 < (s.length : Int)
  · rw [lexV_big hb] at h; exact absurd h (by simp)
  · by_cases he : (lexG s (skipW s)).2.2 = 0
    · rw [lexV_ok hb he]; exact ⟨⟨0, s.length, 0, []⟩, by simp, rfl⟩
    · rw [lexV_bad hb he] at h; exact absurd h he
theorem done_pos {L : List T} {c : K} (h : posOK L c) : ∃ t ∈ L, t.pos = (doneK c).1 := by
  unfold doneK
  split
  · split
    · exact ⟨_, h.1 _ (getT_mem (by assumption)), rfl⟩
    · exact h.2.1
  · exact h.2.2 (by assumption)
theorem fails_at {s : List UInt8} (hl : (lexV s).2.2 = 0) (h : (textV (typRd false) s).2.2 = 5) : ∃ t ∈ (lexV s).1, t.pos = (textV (typRd false) s).2.1 := by
  unfold textV at h ⊢
  rw [if_pos hl] at h ⊢
  unfold wholeV at h ⊢
  split at h
  · split at h
    · exact absurd h (by simp)
    · exact absurd h (by simp)
  · rename_i hd
    rw [if_neg hd]
    exact done_pos ((stp_typAt (rest (newK (lexV s).1) + 2) (newK (lexV s).1)).posOK (posOK_new hl))
/-! A text that is a name. -/
theorem onsW_while : ∀ {s : List UInt8}, onsW s = true → whileW onW s = s.length
  | [], _ => rfl
  | c :: r, h => by
    simp only [onsW, List.all_cons, Bool.and_eq_true] at h
    rw [whileW_cons h.1, onsW_while (s := r) h.2, List.length_cons]
theorem skip_name {l : List UInt8} (h : onW (l.getD 0 0).toNat = true) : skipW l = 0 := by
  cases l with
  | nil => simp at h; revert h; decide
  | cons c r =>
    have h : onW c.toNat = true := h
    have hb : blankW c.toNat = false := by
      apply Bool.eq_false_iff.2
      intro hb
      simp only [blankW, Bool.or_eq_true, decide_eq_true_eq] at hb
      simp only [onW, smallW, greatW, digitW, Bool.or_eq_true, Bool.and_eq_true, decide_eq_true_eq] at h
      omega
    have h45 : c ≠ 45 := by
      intro e; subst e; revert h; decide
    exact skipW_none (by simp [pfx, h45]) (whileW_0 (by simpa using hb))
theorem name_lex {s : List UInt8} (hs : s.length ≤ 3000) (hne : s ≠ []) (hon : onsW s = true) (ho : onW (s.getD 0 0).toNat = true) (hd : digitW (s.getD 0 0).toNat = false) (h39 : ¬ ((s.getD 0 0).toNat : Int) = 39) : lexV s = ([⟨nameK s, 0, 0, s⟩, ⟨0, s.length, 0, []⟩], 0, 0) := by
  have hlen : 0 < s.length := List.length_pos_iff.2 hne
  have hwt : wordT s = (nameT s, 0) := by
    rw [wordT_on hd (by rw [ho, decide_eq_false h39]; rfl), onsW_while hon, List.take_length]
  have hsk : skipW s = 0 := skip_name ho
  have hN : lexN s 0 = s.length := by rw [lexN, List.drop_zero, hwt]; simp [nameT]
  have hK : lexK s 0 = s.length := by
    have : skipW [] = 0 := skipW_none rfl rfl
    rw [lexK, hN, List.drop_length, this, Nat.add_zero]
  have hT : lexT s 0 = ⟨nameK s, 0, 0, s⟩ := by rw [lexT, List.drop_zero, hwt]; rfl
  have hG : lexG s (skipW s) = ([⟨nameK s, 0, 0, s⟩], 0, 0) := by
    rw [hsk, lexG_1 hlen (by rw [List.drop_zero, hwt]), hK, lexG_0 (by omega), hT]; rfl
  rw [lexV_ok (by omega) (by rw [hG]), hG]; rfl
theorem var_name {s : List UInt8} {p : Int} : wholeV (typRd false (newK [⟨1, 0, 0, s⟩, ⟨0, p, 0, []⟩])).1 ((typRd false (newK [⟨1, 0, 0, s⟩, ⟨0, p, 0, []⟩])).2.getD N0) = (.mk 1 0 0 s [], 0, 0) := by rfl
theorem con_name {s : List UInt8} {p : Int} : wholeV (typRd false (newK [⟨2, 0, 0, s⟩, ⟨0, p, 0, []⟩])).1 ((typRd false (newK [⟨2, 0, 0, s⟩, ⟨0, p, 0, []⟩])).2.getD N0) = (.mk 2 0 0 s [], 0, 0) := by rfl
theorem great_no : ∀ w ∈ wordsW, greatW (w.getD 0 0).toNat = false := by decide
theorem fails_var {s : List UInt8} (hs : s.length ≤ 3000) (h : varW s = true) : (textV (typRd false) s).2.2 = 0 := by
  simp only [varW, Bool.and_eq_true, decide_eq_true_eq, Bool.not_eq_true'] at h
  obtain ⟨⟨⟨⟨h1, h2⟩, h3⟩, h4⟩, h5⟩ := h
  have h3' := h3
  simp only [smallW, Bool.or_eq_true, Bool.and_eq_true, decide_eq_true_eq] at h3'
  have hg : greatW (s.getD 0 0).toNat = false := by
    apply Bool.eq_false_iff.2
    intro hg
    simp only [greatW, Bool.and_eq_true, decide_eq_true_eq] at hg
    omega
  have hd : digitW (s.getD 0 0).toNat = false := by
    apply Bool.eq_false_iff.2
    intro hg
    simp only [digitW, Bool.and_eq_true, decide_eq_true_eq] at hg
    omega
  have hk : nameK s = 1 := by
    rw [nameK, if_neg h2, if_neg (by rw [h5]; simp), if_neg (by simp only [conW, hg, Bool.and_false, Bool.false_and]; simp)]
  have hl := name_lex hs h1 h4 (small_on h3) hd (by omega)
  rw [textV, hl, hk, if_pos rfl, var_name]
theorem fails_con {s : List UInt8} (hs : s.length ≤ 3000) (h : conW s = true) : (textV (typRd false) s).2.2 = 0 := by
  have hc := h
  simp only [conW, Bool.and_eq_true, decide_eq_true_eq] at h
  obtain ⟨⟨h1, h3⟩, h4⟩ := h
  have h3' := h3
  simp only [greatW, Bool.and_eq_true, decide_eq_true_eq] at h3'
  have hd : digitW (s.getD 0 0).toNat = false := by
    apply Bool.eq_false_iff.2
    intro hg
    simp only [digitW, Bool.and_eq_true, decide_eq_true_eq] at hg
    omega
  have hk : nameK s = 2 := by
    rw [nameK, if_neg (by intro e; rw [e] at h3; revert h3; decide), if_neg ?_, if_pos hc]
    intro hr
    have := great_no s (by simpa [resW] using hr)
    rw [this] at h3; cases h3
  have hl := name_lex hs h1 h4 (great_on h3) hd (by omega)
  rw [textV, hl, hk, if_pos rfl, con_name]
def standsW (l : List T) (p : Int) : Bool := l.any fun t => decide (t.pos = p)
theorem law07_PtypesFails (s : List UInt8) : VPure Try.prog 6 [.str s] (.bool true) := by
  refine vpure_of c_envoylaw07_PtypesFails (by simp) (by simp only [go_sem]) rfl fun hw => ?_
  by_cases hs : s.length ≤ 3000
  · have hsi : ¬ (3000 : Int) < s.length := by omega
    have h0 : (textV (typRd false) s).2.2 = 0 → (textV (typRd false) s).2.1 = 0 := fun h => (textV_ok (by omega) h).2.2.2
    by_cases he : (textV (typRd false) s).2.2 = 5
    · by_cases hf : (lexV s).2.2 = 0
      · have hat := fails_at hf he
        have hv : varW s = false := by
          apply Bool.eq_false_iff.2
          intro h
          have := fails_var hs h
          omega
        have hc : conW s = false := by
          apply Bool.eq_false_iff.2
          intro h
          have := fails_con hs h
          omega
        have hlen := (lexV_len s).1
        have hmx : (1048577 : Nat) ≤ maxLen := by unfold maxLen; omega
        repeat' (first | refine vi_seq ?_ | refine vi_block ?_ | refine vi_scope ?_ | ((first | refine vi_reg ?_ | refine vi_regE (by rfl) ?_ | refine vi_regD ?_ | refine vi_label ?_ | refine vi_goto ?_ | refine vi_ret ?_ | refine vi_exit ?_ | refine vi_skip ?_ | refine vi_cond ?_); simp (disch := first | omega | (simp only [List.length_set, List.length_append, List.length_cons, List.length_nil]; done) | (simp only [List.length_set, List.length_append, List.length_cons, List.length_nil]; omega)) only [hsi, he, hf, Int.reduceEq, decide_true, ne_eq, not_true_eq_false, go_sem, ↓reduceIte, Nat.reduceEqDiff, Nat.reduceAdd, Nat.reduceSub, Nat.reduceMul, Nat.reduceLT, Nat.reduceLeDiff, reduceCtorEq, Int.reduceToNat]) | ((first | refine gd_caseb ?_ ?_ | refine cnd_caseb ?_ ?_) <;> intro hc <;> simp only [hc, go_sem, ↓reduceIte, Nat.reduceEqDiff, Nat.reduceAdd, Nat.reduceSub, Nat.reduceMul, Nat.reduceLT, Nat.reduceLeDiff, reduceCtorEq, Int.reduceToNat] <;> (try simp only [bool_not_true, bool_not_false, decide_eq_true_eq, decide_eq_false_iff_not, Bool.and_eq_true] at hc)) | refine And.intro (by first | assumption | omega | (have := len_pos (by assumption); omega) | (unfold capOK; omega)) ?_ | ((first | simp (disch := omega) only [encs_getN] | simp (disch := omega) only [wrapS]); (try simp only [go_sem, ↓reduceIte, Nat.reduceEqDiff, Nat.reduceAdd, Nat.reduceSub, Nat.reduceMul, Nat.reduceLT, Nat.reduceLeDiff, reduceCtorEq, Int.reduceToNat])) | ((first | refine vapp_pure0 law07_awake fun _ => ?_ | refine vapp_pure0 (ptypes_Type s (by omega)) fun _ => ?_ | refine vapp_pure0 (ref04_Lex s) fun _ => ?_ | refine dapp_pure  law07_awake ?_ | refine dapp_pure  (ptypes_Type s (by omega)) ?_ | refine dapp_pure  (ref04_Lex s) ?_); simp only [go_sem, ↓reduceIte, Nat.reduceEqDiff, Nat.reduceAdd, Nat.reduceSub, Nat.reduceMul, Nat.reduceLT, Nat.reduceLeDiff, reduceCtorEq, Int.reduceToNat]))
        have hst : standsW (lexV s).1 (textV (typRd false) s).2.1 = true := by
          obtain ⟨t, ht, e⟩ := hat
          exact List.any_eq_true.2 ⟨t, ht, decide_eq_true e⟩
        generalize (textV (typRd false) s).2.1 = p at *
        generalize (lexV s).1 = l at *
        refine vi_loop (S := Nat × Bool) (fun x => x.1 ≤ l.length ∧ (x.2 || standsW (l.drop x.1) p) = true) (fun x => (⟨[(0, .str s), (4, .int .i64 p), (6, .sl 4 (encTs l)), (9, .bool x.2), (10, .int .i64 x.1)], []⟩, [])) (fun x => l.length - x.1) ?_ ?_
        · refine at_of (0, false) [] ⟨Nat.zero_le _, hst⟩ rfl (by simp) ?_ ?_ ?_ <;> (try simp only [go_sem, ↓reduceIte, Nat.reduceEqDiff, Nat.reduceAdd, Nat.reduceSub, Nat.reduceMul, Nat.reduceLT, Nat.reduceLeDiff, reduceCtorEq, Int.reduceToNat]) <;> (try simp (disch := omega) only [wrapS])
        · rintro ⟨i, b⟩ ⟨hi, hb⟩
          simp only at hi hb
          by_cases hlt : i < l.length
          · have hil : (i : Int) < l.length := by omega
            rw [dropT hlt] at hb
            simp only [standsW, List.any_cons] at hb
            cases b with
            | true =>
              repeat' (first | refine vi_seq ?_ | refine vi_block ?_ | refine vi_scope ?_ | ((first | refine vi_reg ?_ | refine vi_regE (by rfl) ?_ | refine vi_regD ?_ | refine vi_label ?_ | refine vi_goto ?_ | refine vi_ret ?_ | refine vi_exit ?_ | refine vi_skip ?_ | refine vi_cond ?_); simp (disch := first | omega | (simp only [List.length_set, List.length_append, List.length_cons, List.length_nil]; done) | (simp only [List.length_set, List.length_append, List.length_cons, List.length_nil]; omega)) only [hil, go_sem, ↓reduceIte, Nat.reduceEqDiff, Nat.reduceAdd, Nat.reduceSub, Nat.reduceMul, Nat.reduceLT, Nat.reduceLeDiff, reduceCtorEq, Int.reduceToNat]) | ((first | simp (disch := omega) only [encTs_getT]); (try simp only [go_sem, ↓reduceIte, Nat.reduceEqDiff, Nat.reduceAdd, Nat.reduceSub, Nat.reduceMul, Nat.reduceLT, Nat.reduceLeDiff, reduceCtorEq, Int.reduceToNat])) | ((first | refine gd_caseb ?_ ?_ | refine cnd_caseb ?_ ?_) <;> intro hc <;> simp only [hc, go_sem, ↓reduceIte, Nat.reduceEqDiff, Nat.reduceAdd, Nat.reduceSub, Nat.reduceMul, Nat.reduceLT, Nat.reduceLeDiff, reduceCtorEq, Int.reduceToNat] <;> (try simp only [bool_not_true, bool_not_false, decide_eq_true_eq, decide_eq_false_iff_not, Bool.and_eq_true] at hc)) | refine And.intro (by first | assumption | omega | (have := len_pos (by assumption); omega) | (unfold capOK; omega)) ?_ | ((first | simp (disch := omega) only [encs_getN] | simp (disch := omega) only [wrapS]); (try simp only [go_sem, ↓reduceIte, Nat.reduceEqDiff, Nat.reduceAdd, Nat.reduceSub, Nat.reduceMul, Nat.reduceLT, Nat.reduceLeDiff, reduceCtorEq, Int.reduceToNat])))
              refine at_of (i + 1, true) [] ⟨⟨by omega, rfl⟩, by simp only; omega⟩ rfl (by simp) ?_ ?_ ?_ <;> (try simp only [go_sem, ↓reduceIte, Nat.reduceEqDiff, Nat.reduceAdd, Nat.reduceSub, Nat.reduceMul, Nat.reduceLT, Nat.reduceLeDiff, reduceCtorEq, Int.reduceToNat]) <;> (try simp (disch := omega) only [wrapS])
            | false =>
              repeat' (first | refine vi_seq ?_ | refine vi_block ?_ | refine vi_scope ?_ | ((first | refine vi_reg ?_ | refine vi_regE (by rfl) ?_ | refine vi_regD ?_ | refine vi_label ?_ | refine vi_goto ?_ | refine vi_ret ?_ | refine vi_exit ?_ | refine vi_skip ?_ | refine vi_cond ?_); simp (disch := first | omega | (simp only [List.length_set, List.length_append, List.length_cons, List.length_nil]; done) | (simp only [List.length_set, List.length_append, List.length_cons, List.length_nil]; omega)) only [hil, go_sem, ↓reduceIte, Nat.reduceEqDiff, Nat.reduceAdd, Nat.reduceSub, Nat.reduceMul, Nat.reduceLT, Nat.reduceLeDiff, reduceCtorEq, Int.reduceToNat]) | ((first | simp (disch := omega) only [encTs_getT]); (try simp only [go_sem, ↓reduceIte, Nat.reduceEqDiff, Nat.reduceAdd, Nat.reduceSub, Nat.reduceMul, Nat.reduceLT, Nat.reduceLeDiff, reduceCtorEq, Int.reduceToNat])) | ((first | refine gd_caseb ?_ ?_ | refine cnd_caseb ?_ ?_) <;> intro hc <;> simp only [hc, go_sem, ↓reduceIte, Nat.reduceEqDiff, Nat.reduceAdd, Nat.reduceSub, Nat.reduceMul, Nat.reduceLT, Nat.reduceLeDiff, reduceCtorEq, Int.reduceToNat] <;> (try simp only [bool_not_true, bool_not_false, decide_eq_true_eq, decide_eq_false_iff_not, Bool.and_eq_true] at hc)) | refine And.intro (by first | assumption | omega | (have := len_pos (by assumption); omega) | (unfold capOK; omega)) ?_ | ((first | simp (disch := omega) only [encs_getN] | simp (disch := omega) only [wrapS]); (try simp only [go_sem, ↓reduceIte, Nat.reduceEqDiff, Nat.reduceAdd, Nat.reduceSub, Nat.reduceMul, Nat.reduceLT, Nat.reduceLeDiff, reduceCtorEq, Int.reduceToNat])))
              refine at_of (i + 1, decide ((l.getD i T0).pos = p)) [] ⟨⟨by omega, by simpa only [Bool.false_or, standsW] using hb⟩, by simp only; omega⟩ rfl (by simp) ?_ ?_ ?_ <;> (try simp only [go_sem, ↓reduceIte, Nat.reduceEqDiff, Nat.reduceAdd, Nat.reduceSub, Nat.reduceMul, Nat.reduceLT, Nat.reduceLeDiff, reduceCtorEq, Int.reduceToNat]) <;> (try simp (disch := omega) only [wrapS])
          · have hil : ¬ (i : Int) < l.length := by omega
            rw [List.drop_of_length_le (by omega)] at hb
            have hb : b = true := by simpa [standsW] using hb
            subst hb
            repeat' (first | refine vi_seq ?_ | refine vi_block ?_ | refine vi_scope ?_ | ((first | refine vi_reg ?_ | refine vi_regE (by rfl) ?_ | refine vi_regD ?_ | refine vi_label ?_ | refine vi_goto ?_ | refine vi_ret ?_ | refine vi_exit ?_ | refine vi_skip ?_ | refine vi_cond ?_); simp (disch := first | omega | (simp only [List.length_set, List.length_append, List.length_cons, List.length_nil]; done) | (simp only [List.length_set, List.length_append, List.length_cons, List.length_nil]; omega)) only [hil, go_sem, ↓reduceIte, Nat.reduceEqDiff, Nat.reduceAdd, Nat.reduceSub, Nat.reduceMul, Nat.reduceLT, Nat.reduceLeDiff, reduceCtorEq, Int.reduceToNat]) | ((first | refine gd_caseb ?_ ?_ | refine cnd_caseb ?_ ?_) <;> intro hc <;> simp only [hc, go_sem, ↓reduceIte, Nat.reduceEqDiff, Nat.reduceAdd, Nat.reduceSub, Nat.reduceMul, Nat.reduceLT, Nat.reduceLeDiff, reduceCtorEq, Int.reduceToNat] <;> (try simp only [bool_not_true, bool_not_false, decide_eq_true_eq, decide_eq_false_iff_not, Bool.and_eq_true] at hc)) | refine And.intro (by first | assumption | omega | (have := len_pos (by assumption); omega) | (unfold capOK; omega)) ?_ | ((first | simp (disch := omega) only [encs_getN] | simp (disch := omega) only [wrapS]); (try simp only [go_sem, ↓reduceIte, Nat.reduceEqDiff, Nat.reduceAdd, Nat.reduceSub, Nat.reduceMul, Nat.reduceLT, Nat.reduceLeDiff, reduceCtorEq, Int.reduceToNat])) | ((first | refine vapp_pure0 law07_awake fun _ => ?_ | refine vapp_pure0 (vp_eq (ref03_Var s) (by rw [hv])) fun _ => ?_ | refine vapp_pure0 (vp_eq (ref03_Con s) (by rw [hc])) fun _ => ?_ | refine dapp_pure  law07_awake ?_ | refine dapp_pure  (vp_eq (ref03_Var s) (by rw [hv])) ?_ | refine dapp_pure  (vp_eq (ref03_Con s) (by rw [hc])) ?_); simp only [go_sem, ↓reduceIte, Nat.reduceEqDiff, Nat.reduceAdd, Nat.reduceSub, Nat.reduceMul, Nat.reduceLT, Nat.reduceLeDiff, reduceCtorEq, Int.reduceToNat]))
      · repeat' (first | refine vi_seq ?_ | refine vi_block ?_ | refine vi_scope ?_ | ((first | refine vi_reg ?_ | refine vi_regE (by rfl) ?_ | refine vi_regD ?_ | refine vi_label ?_ | refine vi_goto ?_ | refine vi_ret ?_ | refine vi_exit ?_ | refine vi_skip ?_ | refine vi_cond ?_); simp (disch := first | omega | (simp only [List.length_set, List.length_append, List.length_cons, List.length_nil]; done) | (simp only [List.length_set, List.length_append, List.length_cons, List.length_nil]; omega)) only [hsi, he, hf, Int.reduceEq, decide_true, ne_eq, not_true_eq_false, go_sem, ↓reduceIte, Nat.reduceEqDiff, Nat.reduceAdd, Nat.reduceSub, Nat.reduceMul, Nat.reduceLT, Nat.reduceLeDiff, reduceCtorEq, Int.reduceToNat]) | ((first | refine gd_caseb ?_ ?_ | refine cnd_caseb ?_ ?_) <;> intro hc <;> simp only [hc, go_sem, ↓reduceIte, Nat.reduceEqDiff, Nat.reduceAdd, Nat.reduceSub, Nat.reduceMul, Nat.reduceLT, Nat.reduceLeDiff, reduceCtorEq, Int.reduceToNat] <;> (try simp only [bool_not_true, bool_not_false, decide_eq_true_eq, decide_eq_false_iff_not, Bool.and_eq_true] at hc)) | refine And.intro (by first | assumption | omega | (have := len_pos (by assumption); omega) | (unfold capOK; omega)) ?_ | ((first | simp (disch := omega) only [encs_getN] | simp (disch := omega) only [wrapS]); (try simp only [go_sem, ↓reduceIte, Nat.reduceEqDiff, Nat.reduceAdd, Nat.reduceSub, Nat.reduceMul, Nat.reduceLT, Nat.reduceLeDiff, reduceCtorEq, Int.reduceToNat])) | ((first | refine vapp_pure0 law07_awake fun _ => ?_ | refine vapp_pure0 (ptypes_Type s (by omega)) fun _ => ?_ | refine vapp_pure0 (ref04_Lex s) fun _ => ?_ | refine dapp_pure  law07_awake ?_ | refine dapp_pure  (ptypes_Type s (by omega)) ?_ | refine dapp_pure  (ref04_Lex s) ?_); simp only [go_sem, ↓reduceIte, Nat.reduceEqDiff, Nat.reduceAdd, Nat.reduceSub, Nat.reduceMul, Nat.reduceLT, Nat.reduceLeDiff, reduceCtorEq, Int.reduceToNat]))
    · repeat' (first | refine vi_seq ?_ | refine vi_block ?_ | refine vi_scope ?_ | ((first | refine vi_reg ?_ | refine vi_regE (by rfl) ?_ | refine vi_regD ?_ | refine vi_label ?_ | refine vi_goto ?_ | refine vi_ret ?_ | refine vi_exit ?_ | refine vi_skip ?_ | refine vi_cond ?_); simp (disch := first | omega | (simp only [List.length_set, List.length_append, List.length_cons, List.length_nil]; done) | (simp only [List.length_set, List.length_append, List.length_cons, List.length_nil]; omega)) only [hsi, he, Int.reduceEq, decide_true, ne_eq, not_true_eq_false, go_sem, ↓reduceIte, Nat.reduceEqDiff, Nat.reduceAdd, Nat.reduceSub, Nat.reduceMul, Nat.reduceLT, Nat.reduceLeDiff, reduceCtorEq, Int.reduceToNat]) | ((first | refine gd_caseb ?_ ?_ | refine cnd_caseb ?_ ?_) <;> intro hc <;> simp only [hc, go_sem, ↓reduceIte, Nat.reduceEqDiff, Nat.reduceAdd, Nat.reduceSub, Nat.reduceMul, Nat.reduceLT, Nat.reduceLeDiff, reduceCtorEq, Int.reduceToNat] <;> (try simp only [bool_not_true, bool_not_false, decide_eq_true_eq, decide_eq_false_iff_not, Bool.and_eq_true] at hc)) | refine And.intro (by first | assumption | omega | (have := len_pos (by assumption); omega) | (unfold capOK; omega)) ?_ | ((first | simp (disch := omega) only [encs_getN] | simp (disch := omega) only [wrapS]); (try simp only [go_sem, ↓reduceIte, Nat.reduceEqDiff, Nat.reduceAdd, Nat.reduceSub, Nat.reduceMul, Nat.reduceLT, Nat.reduceLeDiff, reduceCtorEq, Int.reduceToNat])) | ((first | refine vapp_pure0 law07_awake fun _ => ?_ | refine vapp_pure0 (ptypes_Type s (by omega)) fun _ => ?_ | refine vapp_pure0 (ref04_Lex s) fun _ => ?_ | refine dapp_pure  law07_awake ?_ | refine dapp_pure  (ptypes_Type s (by omega)) ?_ | refine dapp_pure  (ref04_Lex s) ?_); simp only [go_sem, ↓reduceIte, Nat.reduceEqDiff, Nat.reduceAdd, Nat.reduceSub, Nat.reduceMul, Nat.reduceLT, Nat.reduceLeDiff, reduceCtorEq, Int.reduceToNat]))
      all_goals exact absurd (h0 (by assumption)) (by assumption)
  · have hsi : (3000 : Int) < s.length := by omega
    repeat' (first | refine vi_seq ?_ | refine vi_block ?_ | refine vi_scope ?_ | ((first | refine vi_reg ?_ | refine vi_regE (by rfl) ?_ | refine vi_regD ?_ | refine vi_label ?_ | refine vi_goto ?_ | refine vi_ret ?_ | refine vi_exit ?_ | refine vi_skip ?_ | refine vi_cond ?_); simp (disch := first | omega | (simp only [List.length_set, List.length_append, List.length_cons, List.length_nil]; done) | (simp only [List.length_set, List.length_append, List.length_cons, List.length_nil]; omega)) only [hsi, go_sem, ↓reduceIte, Nat.reduceEqDiff, Nat.reduceAdd, Nat.reduceSub, Nat.reduceMul, Nat.reduceLT, Nat.reduceLeDiff, reduceCtorEq, Int.reduceToNat]) | ((first | refine gd_caseb ?_ ?_ | refine cnd_caseb ?_ ?_) <;> intro hc <;> simp only [hc, go_sem, ↓reduceIte, Nat.reduceEqDiff, Nat.reduceAdd, Nat.reduceSub, Nat.reduceMul, Nat.reduceLT, Nat.reduceLeDiff, reduceCtorEq, Int.reduceToNat] <;> (try simp only [bool_not_true, bool_not_false, decide_eq_true_eq, decide_eq_false_iff_not, Bool.and_eq_true] at hc)) | refine And.intro (by first | assumption | omega | (have := len_pos (by assumption); omega) | (unfold capOK; omega)) ?_ | ((first | simp (disch := omega) only [encs_getN] | simp (disch := omega) only [wrapS]); (try simp only [go_sem, ↓reduceIte, Nat.reduceEqDiff, Nat.reduceAdd, Nat.reduceSub, Nat.reduceMul, Nat.reduceLT, Nat.reduceLeDiff, reduceCtorEq, Int.reduceToNat])) | ((first | refine vapp_pure0 law07_awake fun _ => ?_ | refine dapp_pure  law07_awake ?_); simp only [go_sem, ↓reduceIte, Nat.reduceEqDiff, Nat.reduceAdd, Nat.reduceSub, Nat.reduceMul, Nat.reduceLT, Nat.reduceLeDiff, reduceCtorEq, Int.reduceToNat]))
end Go.Proofs.Ytjigahnncojikaa
