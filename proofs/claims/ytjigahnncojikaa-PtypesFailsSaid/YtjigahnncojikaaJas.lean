/- A text of this proof. -/
import Derived.Test.YtjigahnncojikaaJar
import Derived.Test.YtjigahnncojikaaJah

/- the lexer's words: the reference -/
set_option maxRecDepth 4000
namespace Go.Proofs.Ytjigahnncojikaa
open Go Go.RowKit Go.V
set_option linter.unusedVariables false
set_option linter.unusedSimpArgs false

theorem whileW_take (f : Int → Bool) : ∀ l : List UInt8, (l.take (whileW f l)).all (fun c => f c.toNat) = true
  | [] => rfl
  | c :: r => by
    unfold whileW
    rw [List.takeWhile_cons]
    by_cases h : f c.toNat = true
    · rw [if_pos h]
      simp only [List.length_cons, List.take_succ_cons, List.all_cons, h, Bool.true_and]
      exact whileW_take f r
    · rw [if_neg h]; rfl
theorem whileW_cons {f : Int → Bool} {c : UInt8} {r : List UInt8} (h : f c.toNat = true) : whileW f (c :: r) = whileW f r + 1 := by
  unfold whileW; rw [List.takeWhile_cons, if_pos h, List.length_cons]
theorem whileW_0 {f : Int → Bool} {l : List UInt8} (h : f (l.getD 0 0).toNat = false) : whileW f l = 0 := by
  cases l with
  | nil => rfl
  | cons c r => unfold whileW; rw [List.takeWhile_cons, if_neg (by simpa using h)]; rfl
theorem conW_take {l : List UInt8} (hl : l ≠ []) (h : onW (l.getD 0 0).toNat = true) : conW (l.take (whileW onW l)) = greatW (l.getD 0 0).toNat := by
  cases l with
  | nil => exact absurd rfl hl
  | cons c r =>
    have h : onW c.toNat = true := h
    have hx : onsW (List.take (whileW onW (c :: r)) (c :: r)) = true := whileW_take onW (c :: r)
    rw [whileW_cons h] at hx ⊢
    rw [List.take_succ_cons] at hx ⊢
    unfold conW
    rw [hx]
    simp
theorem wordT_dig {l : List UInt8} (h : digitW (l.getD 0 0).toNat = true) : wordT l = (⟨3, 0, (readW (l.take (whileW digitW l))).1, l.take (whileW digitW l)⟩, (readW (l.take (whileW digitW l))).2) := if_pos h
theorem wordT_on {l : List UInt8} (h : digitW (l.getD 0 0).toNat = false) (h2 : (onW (l.getD 0 0).toNat && !decide (((l.getD 0 0).toNat : Int) = 39)) = true) : wordT l = (nameT (l.take (whileW onW l)), 0) := by
  rw [wordT, h, if_neg Bool.false_ne_true, if_pos h2]
theorem wordT_no {l : List UInt8} (h : digitW (l.getD 0 0).toNat = false) (h2 : (onW (l.getD 0 0).toNat && !decide (((l.getD 0 0).toNat : Int) = 39)) = false) (h3 : markW l = 0) : wordT l = (T0, 3) := by
  rw [wordT, h, if_neg Bool.false_ne_true, h2, if_neg Bool.false_ne_true, if_pos h3]
theorem wordT_mark {l : List UInt8} (h : digitW (l.getD 0 0).toNat = false) (h2 : (onW (l.getD 0 0).toNat && !decide (((l.getD 0 0).toNat : Int) = 39)) = false) (h3 : markW l ≠ 0) : wordT l = (⟨5, 0, 0, l.take (markW l)⟩, 0) := by
  rw [wordT, h, if_neg Bool.false_ne_true, h2, if_neg Bool.false_ne_true, if_neg h3]
theorem onW_sg {c : Int} (h : digitW c = false) : (onW c && !decide (c = 39)) = (smallW c || greatW c) := by
  unfold onW
  rw [h]
  by_cases h39 : c = 39
  · subst h39; rfl
  · simp [h39]
theorem take_ne {l : List UInt8} {n : Nat} (hl : l ≠ []) (hn : n ≠ 0) : l.take n ≠ [] := by
  cases l with
  | nil => exact absurd rfl hl
  | cons c r => cases n with
    | zero => exact absurd rfl hn
    | succ n => simp

theorem while_end {f : Int → Bool} {l : List UInt8} {n : Nat} (hn : n ≤ l.length) (ha : whileW f l = n + whileW f (l.drop n)) (h : ¬ (n : Int) < l.length) : n = whileW f l := by
  have : l.drop n = [] := List.drop_of_length_le (by omega)
  rw [this] at ha
  exact ha.symm
theorem while_no {f : Int → Bool} {l : List UInt8} {n : Nat} (ha : whileW f l = n + whileW f (l.drop n)) (hn : (n : Int) < l.length) (h : f (l.getD n 0).toNat = false) : n = whileW f l := by
  rw [ha, whileW_drop (by omega), if_neg (by rw [h]; simp)]; rfl
theorem while_next {f : Int → Bool} {l : List UInt8} {n : Nat} (ha : whileW f l = n + whileW f (l.drop n)) (hn : (n : Int) < l.length) (h : f (l.getD n 0).toNat = true) : whileW f l = (n + 1) + whileW f (l.drop (n + 1)) := by
  rw [ha, whileW_drop (by omega), if_pos h]; omega
theorem wordT_name {l : List UInt8} (hne : l ≠ []) (hd : digitW (l.getD 0 0).toNat = false) (hs : smallW (l.getD 0 0).toNat = true ∨ greatW (l.getD 0 0).toNat = true) {n : Nat} (hn : n = whileW onW l) :
    wordT l = (⟨if l.take n = [95] then 5 else if resW (l.take n) then 4 else if greatW (l.getD 0 0).toNat then 2 else 1, 0, 0, l.take n⟩, 0) := by
  subst hn
  have hon : onW (l.getD 0 0).toNat = true := by unfold onW; rcases hs with h | h <;> rw [h] <;> simp only [Bool.true_or, Bool.or_true]
  rw [wordT_on hd (by rw [onW_sg hd]; rcases hs with h | h <;> rw [h] <;> simp only [Bool.true_or, Bool.or_true]), nameT, nameK, conW_take hne hon]
theorem ref04_word (l : List UInt8) (hne : l ≠ []) : VPure Try.prog 61 [.str l] (pairT (wordT l)) := by
  refine vpure_of c_envoyref04_word (by simp) (by simp only [go_sem]) rfl fun hw => ?_
  have hl : l.length ≤ maxLen := hw.1
  have h1 := whileW_le digitW l
  have h2 := whileW_le onW l
  have h3 := markW_le l
  have h4 := List.length_pos_iff.2 hne
  repeat' (first | refine vi_seq ?_ | refine vi_block ?_ | refine vi_scope ?_ | ((first | refine vi_reg ?_ | refine vi_regE (by rfl) ?_ | refine vi_regD ?_ | refine vi_label ?_ | refine vi_goto ?_ | refine vi_ret ?_ | refine vi_exit ?_ | refine vi_skip ?_ | refine vi_cond ?_ | refine vapp_pure0 (ref03_Digit _) fun _ => ?_ | refine vapp_pure0 (ref03_Small _) fun _ => ?_ | refine vapp_pure0 (ref03_Great _) fun _ => ?_ | refine vapp_pure0 (ref04_mark _ hne) fun _ => ?_ | refine dapp_pure  (ref03_Digit _) ?_ | refine dapp_pure  (ref03_Small _) ?_ | refine dapp_pure  (ref03_Great _) ?_ | refine dapp_pure  (ref04_mark _ hne) ?_); simp only [go_sem, ↓reduceIte, Nat.reduceEqDiff, Nat.reduceAdd, Nat.reduceSub, Nat.reduceMul, Nat.reduceLT, Nat.reduceLeDiff, reduceCtorEq, Int.reduceToNat]) | ((first | refine gd_caseb ?_ ?_ | refine cnd_caseb ?_ ?_) <;> intro hc <;> simp only [hc, go_sem, ↓reduceIte, Nat.reduceEqDiff, Nat.reduceAdd, Nat.reduceSub, Nat.reduceMul, Nat.reduceLT, Nat.reduceLeDiff, reduceCtorEq, Int.reduceToNat] <;> (try simp only [bool_not_true, bool_not_false, decide_eq_true_eq, decide_eq_false_iff_not, Bool.and_eq_true] at hc)) | refine And.intro (by first | assumption | omega | (have := len_pos (by assumption); omega) | (unfold capOK; omega)) ?_ | ((first | simp (disch := omega) only [encs_getN] | simp (disch := omega) only [wrapS]); (try simp only [go_sem, ↓reduceIte, Nat.reduceEqDiff, Nat.reduceAdd, Nat.reduceSub, Nat.reduceMul, Nat.reduceLT, Nat.reduceLeDiff, reduceCtorEq, Int.reduceToNat])))
  · refine vi_loop (S := Nat) (fun n => n ≤ l.length ∧ whileW digitW l = n + whileW digitW (l.drop n)) (fun n => (⟨[(0, .str l), (2, .ptr 0 0), (3, .int .i64 0), (4, .int .i64 n)], []⟩, [.blk [.int .i64 0, .int .i64 0, .int .i64 0, .str []]])) (fun n => l.length - n) ?_ fun n hn => ?_
    · refine at_of 0 [0] ⟨Nat.zero_le _, by simp⟩ rfl (by simp) ?_ ?_ ?_ <;> (try simp only [go_sem, ↓reduceIte, Nat.reduceEqDiff, Nat.reduceAdd, Nat.reduceSub, Nat.reduceMul, Nat.reduceLT, Nat.reduceLeDiff, reduceCtorEq, Int.reduceToNat]) <;> (try simp (disch := omega) only [wrapS])
    · obtain ⟨hn, ha⟩ := hn
      repeat' (first | refine vi_seq ?_ | refine vi_block ?_ | refine vi_scope ?_ | ((first | refine vi_reg ?_ | refine vi_regE (by rfl) ?_ | refine vi_regD ?_ | refine vi_label ?_ | refine vi_goto ?_ | refine vi_ret ?_ | refine vi_exit ?_ | refine vi_skip ?_ | refine vi_cond ?_ | refine vapp_pure0 (ref03_Digit _) fun _ => ?_ | refine vapp_pure0 (ref02_Read _) fun _ => ?_ | refine dapp_pure  (ref03_Digit _) ?_ | refine dapp_pure  (ref02_Read _) ?_); simp only [go_sem, ↓reduceIte, Nat.reduceEqDiff, Nat.reduceAdd, Nat.reduceSub, Nat.reduceMul, Nat.reduceLT, Nat.reduceLeDiff, reduceCtorEq, Int.reduceToNat]) | ((first | refine gd_caseb ?_ ?_ | refine cnd_caseb ?_ ?_) <;> intro hc <;> simp only [hc, go_sem, ↓reduceIte, Nat.reduceEqDiff, Nat.reduceAdd, Nat.reduceSub, Nat.reduceMul, Nat.reduceLT, Nat.reduceLeDiff, reduceCtorEq, Int.reduceToNat] <;> (try simp only [bool_not_true, bool_not_false, decide_eq_true_eq, decide_eq_false_iff_not, Bool.and_eq_true] at hc)) | refine And.intro (by first | assumption | omega | (have := len_pos (by assumption); omega) | (unfold capOK; omega)) ?_ | ((first | simp (disch := omega) only [encs_getN] | simp (disch := omega) only [wrapS]); (try simp only [go_sem, ↓reduceIte, Nat.reduceEqDiff, Nat.reduceAdd, Nat.reduceSub, Nat.reduceMul, Nat.reduceLT, Nat.reduceLeDiff, reduceCtorEq, Int.reduceToNat])))
      · refine at_of (n + 1) [0] ⟨⟨by omega, while_next ha (by assumption) (by assumption)⟩, by omega⟩ rfl (by simp) ?_ ?_ ?_ <;> (try simp only [go_sem, ↓reduceIte, Nat.reduceEqDiff, Nat.reduceAdd, Nat.reduceSub, Nat.reduceMul, Nat.reduceLT, Nat.reduceLeDiff, reduceCtorEq, Int.reduceToNat]) <;> (try simp (disch := omega) only [wrapS])
      · have hnn := while_no ha (by assumption) (by assumption)
        rw [wordT_dig (by assumption), ← hnn]; rfl
      · have hnn := while_end hn ha (by assumption)
        rw [wordT_dig (by assumption), ← hnn]; rfl
  · refine vi_loop (S := Nat) (fun n => n ≤ l.length ∧ whileW onW l = n + whileW onW (l.drop n)) (fun n => (⟨[(0, .str l), (2, .ptr 0 0), (3, .int .i64 0), (4, .int .i64 n)], []⟩, [.blk [.int .i64 0, .int .i64 0, .int .i64 0, .str []]])) (fun n => l.length - n) ?_ fun n hn => ?_
    · refine at_of 0 [0] ⟨Nat.zero_le _, by simp⟩ rfl (by simp) ?_ ?_ ?_ <;> (try simp only [go_sem, ↓reduceIte, Nat.reduceEqDiff, Nat.reduceAdd, Nat.reduceSub, Nat.reduceMul, Nat.reduceLT, Nat.reduceLeDiff, reduceCtorEq, Int.reduceToNat]) <;> (try simp (disch := omega) only [wrapS])
    · obtain ⟨hn, ha⟩ := hn
      repeat' (first | refine vi_seq ?_ | refine vi_block ?_ | refine vi_scope ?_ | ((first | refine vi_reg ?_ | refine vi_regE (by rfl) ?_ | refine vi_regD ?_ | refine vi_label ?_ | refine vi_goto ?_ | refine vi_ret ?_ | refine vi_exit ?_ | refine vi_skip ?_ | refine vi_cond ?_ | refine vapp_pure0 (ref03_On _) fun _ => ?_ | refine vapp_pure0 (ref03_Reserved _) fun _ => ?_ | refine vapp_pure0 (ref03_Great _) fun _ => ?_ | refine dapp_pure  (ref03_On _) ?_ | refine dapp_pure  (ref03_Reserved _) ?_ | refine dapp_pure  (ref03_Great _) ?_); simp only [go_sem, ↓reduceIte, Nat.reduceEqDiff, Nat.reduceAdd, Nat.reduceSub, Nat.reduceMul, Nat.reduceLT, Nat.reduceLeDiff, reduceCtorEq, Int.reduceToNat]) | ((first | refine gd_caseb ?_ ?_ | refine cnd_caseb ?_ ?_) <;> intro hc <;> simp only [hc, go_sem, ↓reduceIte, Nat.reduceEqDiff, Nat.reduceAdd, Nat.reduceSub, Nat.reduceMul, Nat.reduceLT, Nat.reduceLeDiff, reduceCtorEq, Int.reduceToNat] <;> (try simp only [bool_not_true, bool_not_false, decide_eq_true_eq, decide_eq_false_iff_not, Bool.and_eq_true] at hc)) | refine And.intro (by first | assumption | omega | (have := len_pos (by assumption); omega) | (unfold capOK; omega)) ?_ | ((first | simp (disch := omega) only [encs_getN] | simp (disch := omega) only [wrapS]); (try simp only [go_sem, ↓reduceIte, Nat.reduceEqDiff, Nat.reduceAdd, Nat.reduceSub, Nat.reduceMul, Nat.reduceLT, Nat.reduceLeDiff, reduceCtorEq, Int.reduceToNat])))
      · refine at_of (n + 1) [0] ⟨⟨by omega, while_next ha (by assumption) (by assumption)⟩, by omega⟩ rfl (by simp) ?_ ?_ ?_ <;> (try simp only [go_sem, ↓reduceIte, Nat.reduceEqDiff, Nat.reduceAdd, Nat.reduceSub, Nat.reduceMul, Nat.reduceLT, Nat.reduceLeDiff, reduceCtorEq, Int.reduceToNat]) <;> (try simp (disch := omega) only [wrapS])
      all_goals
        have hnn : n = whileW onW l := by first | exact while_no ha (by assumption) (by assumption) | exact while_end hn ha (by assumption)
        rw [wordT_name hne (by assumption) (.inl (by assumption)) hnn]
        clear hnn ha hn
        first | (simp only [*, if_true, if_false, reduceIte, Bool.false_eq_true, encT]; done) | (simp_all; done)
  · refine vi_loop (S := Nat) (fun n => n ≤ l.length ∧ whileW onW l = n + whileW onW (l.drop n)) (fun n => (⟨[(0, .str l), (2, .ptr 0 0), (3, .int .i64 0), (4, .int .i64 n)], []⟩, [.blk [.int .i64 0, .int .i64 0, .int .i64 0, .str []]])) (fun n => l.length - n) ?_ fun n hn => ?_
    · refine at_of 0 [0] ⟨Nat.zero_le _, by simp⟩ rfl (by simp) ?_ ?_ ?_ <;> (try simp only [go_sem, ↓reduceIte, Nat.reduceEqDiff, Nat.reduceAdd, Nat.reduceSub, Nat.reduceMul, Nat.reduceLT, Nat.reduceLeDiff, reduceCtorEq, Int.reduceToNat]) <;> (try simp (disch := omega) only [wrapS])
    · obtain ⟨hn, ha⟩ := hn
      repeat' (first | refine vi_seq ?_ | refine vi_block ?_ | refine vi_scope ?_ | ((first | refine vi_reg ?_ | refine vi_regE (by rfl) ?_ | refine vi_regD ?_ | refine vi_label ?_ | refine vi_goto ?_ | refine vi_ret ?_ | refine vi_exit ?_ | refine vi_skip ?_ | refine vi_cond ?_ | refine vapp_pure0 (ref03_On _) fun _ => ?_ | refine vapp_pure0 (ref03_Reserved _) fun _ => ?_ | refine vapp_pure0 (ref03_Great _) fun _ => ?_ | refine dapp_pure  (ref03_On _) ?_ | refine dapp_pure  (ref03_Reserved _) ?_ | refine dapp_pure  (ref03_Great _) ?_); simp only [go_sem, ↓reduceIte, Nat.reduceEqDiff, Nat.reduceAdd, Nat.reduceSub, Nat.reduceMul, Nat.reduceLT, Nat.reduceLeDiff, reduceCtorEq, Int.reduceToNat]) | ((first | refine gd_caseb ?_ ?_ | refine cnd_caseb ?_ ?_) <;> intro hc <;> simp only [hc, go_sem, ↓reduceIte, Nat.reduceEqDiff, Nat.reduceAdd, Nat.reduceSub, Nat.reduceMul, Nat.reduceLT, Nat.reduceLeDiff, reduceCtorEq, Int.reduceToNat] <;> (try simp only [bool_not_true, bool_not_false, decide_eq_true_eq, decide_eq_false_iff_not, Bool.and_eq_true] at hc)) | refine And.intro (by first | assumption | omega | (have := len_pos (by assumption); omega) | (unfold capOK; omega)) ?_ | ((first | simp (disch := omega) only [encs_getN] | simp (disch := omega) only [wrapS]); (try simp only [go_sem, ↓reduceIte, Nat.reduceEqDiff, Nat.reduceAdd, Nat.reduceSub, Nat.reduceMul, Nat.reduceLT, Nat.reduceLeDiff, reduceCtorEq, Int.reduceToNat])))
      · refine at_of (n + 1) [0] ⟨⟨by omega, while_next ha (by assumption) (by assumption)⟩, by omega⟩ rfl (by simp) ?_ ?_ ?_ <;> (try simp only [go_sem, ↓reduceIte, Nat.reduceEqDiff, Nat.reduceAdd, Nat.reduceSub, Nat.reduceMul, Nat.reduceLT, Nat.reduceLeDiff, reduceCtorEq, Int.reduceToNat]) <;> (try simp (disch := omega) only [wrapS])
      all_goals
        have hnn : n = whileW onW l := by first | exact while_no ha (by assumption) (by assumption) | exact while_end hn ha (by assumption)
        rw [wordT_name hne (by assumption) (.inr (by assumption)) hnn]
        clear hnn ha hn
        first | (simp only [*, if_true, if_false, reduceIte, Bool.false_eq_true, encT]; done) | (simp_all; done)
  · have hm : markW l = 0 := by
      apply Decidable.byContradiction
      intro hm; exact take_ne hne hm hc
    rw [wordT_no (by assumption) (by rw [onW_sg (by assumption)]; simp only [*, Bool.or_false]) hm]; rfl
  · have hm : markW l ≠ 0 := by
      intro hm; rw [hm] at hc; exact hc rfl
    rw [wordT_mark (by assumption) (by rw [onW_sg (by assumption)]; simp only [*, Bool.or_false]) hm]; rfl

theorem encTs_ne {l : List T} (h : l ≠ []) : encTs l ≠ [] := by cases l with | nil => exact absurd rfl h | cons _ _ => simp [encTs]
theorem encTs_sing (t : T) : [encT t] = encTs [t] := rfl
def lexSt (s : List UInt8) (x : Nat × List T) : AF × List Ent :=
  (⟨[(0, .str s), (2, .nils), (3, .int .i64 0), (4, .int .i64 0), (5, accV 0 (encTs x.2)), (6, .int .i64 x.1)], []⟩, accE 4 (encTs x.2))
theorem ref04_Lex (s : List UInt8) : VPure Try.prog 28 [.str s] (lexR (lexV s)) := by
  refine vpure_of c_envoyref04_Lex (by simp) (by simp only [go_sem]) (by simp only [lexR, go_sem]) fun hw => ?_
  have hl : s.length ≤ maxLen := hw.1
  repeat' (first | refine vi_seq ?_ | refine vi_block ?_ | refine vi_scope ?_ | ((first | refine vi_reg ?_ | refine vi_regE (by rfl) ?_ | refine vi_regD ?_ | refine vi_label ?_ | refine vi_goto ?_ | refine vi_ret ?_ | refine vi_exit ?_ | refine vi_skip ?_ | refine vi_cond ?_ | refine vapp_pure0 (ref04_skip _ 0 (Nat.zero_le _)) fun _ => ?_ | refine dapp_pure  (ref04_skip _ 0 (Nat.zero_le _)) ?_); simp only [go_sem, ↓reduceIte, Nat.reduceEqDiff, Nat.reduceAdd, Nat.reduceSub, Nat.reduceMul, Nat.reduceLT, Nat.reduceLeDiff, reduceCtorEq, Int.reduceToNat]) | ((first | refine gd_caseb ?_ ?_ | refine cnd_caseb ?_ ?_) <;> intro hc <;> simp only [hc, go_sem, ↓reduceIte, Nat.reduceEqDiff, Nat.reduceAdd, Nat.reduceSub, Nat.reduceMul, Nat.reduceLT, Nat.reduceLeDiff, reduceCtorEq, Int.reduceToNat] <;> (try simp only [bool_not_true, bool_not_false, decide_eq_true_eq, decide_eq_false_iff_not, Bool.and_eq_true] at hc)) | refine And.intro (by first | assumption | omega | (have := len_pos (by assumption); omega) | (unfold capOK; omega)) ?_ | ((first | simp (disch := omega) only [encs_getN] | simp (disch := omega) only [wrapS]); (try simp only [go_sem, ↓reduceIte, Nat.reduceEqDiff, Nat.reduceAdd, Nat.reduceSub, Nat.reduceMul, Nat.reduceLT, Nat.reduceLeDiff, reduceCtorEq, Int.reduceToNat])))
  · rw [lexV_big hc]; rfl
  · have hk0 := skipW_le s
    have hs : s.length ≤ 1048576 := by omega
    refine vi_loop (S := Nat × List T) (fun x => x.1 ≤ s.length ∧ lexG s (skipW s) = appR x.2 (lexG s x.1) ∧ x.2.length ≤ x.1) (lexSt s) (fun x => s.length - x.1) ?_ ?_
    · refine at_of (skipW s, []) [] ⟨hk0, (appR_nil _).symm, Nat.zero_le _⟩ rfl (by simp) ?_ ?_ ?_ <;> simp only [lexSt, encTs, List.map_nil] <;> (try simp only [go_sem, ↓reduceIte, Nat.reduceEqDiff, Nat.reduceAdd, Nat.reduceSub, Nat.reduceMul, Nat.reduceLT, Nat.reduceLeDiff, reduceCtorEq, Int.reduceToNat]) <;> (try simp (disch := omega) only [wrapS])
      all_goals simp only [Nat.zero_add]
    · rintro ⟨k, acc⟩ ⟨hk, hG, hacc⟩
      simp only at hk hG hacc
      have hn := lexN_le hk
      have hk2 := lexK_le hk
      have w1 : IntKind.i64.wrap ((k : Int) + ((wordT (List.drop k s)).1.text.length : Nat)) = (lexN s k : Nat) := by
        rw [wrap_id (by unfold lexN at hn; omega) (by unfold lexN at hn; omega)]; rfl
      have hT : AV.agg [.int .i64 (wordT (List.drop k s)).1.kind, .int .i64 k, .int .i64 (wordT (List.drop k s)).1.num, .str (wordT (List.drop k s)).1.text] = encT (lexT s k) := rfl
      by_cases hA : acc = []
      · subst hA
        simp only [lexSt, encTs, List.map_nil]
        repeat' (first | refine vi_seq ?_ | refine vi_block ?_ | refine vi_scope ?_ | ((first | refine vi_reg ?_ | refine vi_regE (by rfl) ?_ | refine vi_regD ?_ | refine vi_label ?_ | refine vi_goto ?_ | refine vi_ret ?_ | refine vi_exit ?_ | refine vi_skip ?_ | refine vi_cond ?_); simp (disch := first | omega | (simp only [List.length_set, List.length_append, List.length_cons, List.length_nil]; done) | (simp only [List.length_set, List.length_append, List.length_cons, List.length_nil]; omega)) only [w1, go_sem, ↓reduceIte, Nat.reduceEqDiff, Nat.reduceAdd, Nat.reduceSub, Nat.reduceMul, Nat.reduceLT, Nat.reduceLeDiff, reduceCtorEq, Int.reduceToNat]) | ((first | refine gd_caseb ?_ ?_ | refine cnd_caseb ?_ ?_) <;> intro hc <;> simp only [hc, go_sem, ↓reduceIte, Nat.reduceEqDiff, Nat.reduceAdd, Nat.reduceSub, Nat.reduceMul, Nat.reduceLT, Nat.reduceLeDiff, reduceCtorEq, Int.reduceToNat] <;> (try simp only [bool_not_true, bool_not_false, decide_eq_true_eq, decide_eq_false_iff_not, Bool.and_eq_true] at hc)) | refine And.intro (by first | assumption | omega | (have := len_pos (by assumption); omega) | (unfold capOK; omega)) ?_ | ((first | simp (disch := omega) only [encs_getN] | simp (disch := omega) only [wrapS]); (try simp only [go_sem, ↓reduceIte, Nat.reduceEqDiff, Nat.reduceAdd, Nat.reduceSub, Nat.reduceMul, Nat.reduceLT, Nat.reduceLeDiff, reduceCtorEq, Int.reduceToNat])) | ((first | refine vapp_pure0 (ref04_skip _ _ hn) fun _ => ?_ | refine vapp_pure0 (ref04_word _ (by simp; omega)) fun _ => ?_ | refine dapp_pure  (ref04_skip _ _ hn) ?_ | refine dapp_pure  (ref04_word _ (by simp; omega)) ?_); simp only [go_sem, ↓reduceIte, Nat.reduceEqDiff, Nat.reduceAdd, Nat.reduceSub, Nat.reduceMul, Nat.reduceLT, Nat.reduceLeDiff, reduceCtorEq, Int.reduceToNat]))
        · rw [lexV_bad (by assumption) (by rw [hG, lexG_2 (by omega) hc, appR, if_neg hc]; exact hc), hG, lexG_2 (by omega) hc, appR, if_neg hc]; rfl
        · have hlt := lexK_lt (s := s) (k := k) (by omega) hc
          refine at_of (lexK s k, [] ++ [lexT s k]) [1] ⟨⟨hk2, ?_, ?_⟩, by simp only; omega⟩ rfl (by simp) ?_ ?_ ?_
          · simp only
            rw [hG, lexG_1 (by omega) hc, appR_app]
          · simp only [List.length_append, List.length_cons, List.length_nil]; omega
          all_goals simp only [lexSt, List.nil_append, hT, encTs_sing, accV_ne (encTs_ne (l := [lexT s k]) (by simp)), accE_ne (encTs_ne (l := [lexT s k]) (by simp)), lexK]
          all_goals simp only [go_sem, ↓reduceIte, Nat.reduceEqDiff, Nat.reduceAdd, Nat.reduceSub, Nat.reduceMul, Nat.reduceLT, Nat.reduceLeDiff, reduceCtorEq, Int.reduceToNat]
        · rw [lexV_ok (by assumption) (by rw [hG, lexG_0 (by omega)]; rfl), hG, lexG_0 (by omega)]; rfl
      · simp only [lexSt, accV_ne (encTs_ne hA), accE_ne (encTs_ne hA)]
        repeat' (first | refine vi_seq ?_ | refine vi_block ?_ | refine vi_scope ?_ | ((first | refine vi_reg ?_ | refine vi_regE (by rfl) ?_ | refine vi_regD ?_ | refine vi_label ?_ | refine vi_goto ?_ | refine vi_ret ?_ | refine vi_exit ?_ | refine vi_skip ?_ | refine vi_cond ?_); simp (disch := first | omega | (simp only [List.length_set, List.length_append, List.length_cons, List.length_nil]; done) | (simp only [List.length_set, List.length_append, List.length_cons, List.length_nil]; omega)) only [w1, go_sem, ↓reduceIte, Nat.reduceEqDiff, Nat.reduceAdd, Nat.reduceSub, Nat.reduceMul, Nat.reduceLT, Nat.reduceLeDiff, reduceCtorEq, Int.reduceToNat]) | ((first | refine gd_caseb ?_ ?_ | refine cnd_caseb ?_ ?_) <;> intro hc <;> simp only [hc, go_sem, ↓reduceIte, Nat.reduceEqDiff, Nat.reduceAdd, Nat.reduceSub, Nat.reduceMul, Nat.reduceLT, Nat.reduceLeDiff, reduceCtorEq, Int.reduceToNat] <;> (try simp only [bool_not_true, bool_not_false, decide_eq_true_eq, decide_eq_false_iff_not, Bool.and_eq_true] at hc)) | refine And.intro (by first | assumption | omega | (have := len_pos (by assumption); omega) | (unfold capOK; omega)) ?_ | ((first | simp (disch := omega) only [encs_getN] | simp (disch := omega) only [wrapS]); (try simp only [go_sem, ↓reduceIte, Nat.reduceEqDiff, Nat.reduceAdd, Nat.reduceSub, Nat.reduceMul, Nat.reduceLT, Nat.reduceLeDiff, reduceCtorEq, Int.reduceToNat])) | ((first | refine vapp_pure0 (ref04_skip _ _ hn) fun _ => ?_ | refine vapp_pure0 (ref04_word _ (by simp; omega)) fun _ => ?_ | refine dapp_pure  (ref04_skip _ _ hn) ?_ | refine dapp_pure  (ref04_word _ (by simp; omega)) ?_); simp only [go_sem, ↓reduceIte, Nat.reduceEqDiff, Nat.reduceAdd, Nat.reduceSub, Nat.reduceMul, Nat.reduceLT, Nat.reduceLeDiff, reduceCtorEq, Int.reduceToNat]))
        · rw [lexV_bad (by assumption) (by rw [hG, lexG_2 (by omega) hc, appR, if_neg hc]; exact hc), hG, lexG_2 (by omega) hc, appR, if_neg hc]; rfl
        · have hlt := lexK_lt (s := s) (k := k) (by omega) hc
          refine at_of (lexK s k, acc ++ [lexT s k]) [2] ⟨⟨hk2, ?_, ?_⟩, by simp only; omega⟩ rfl (by simp) ?_ ?_ ?_
          · simp only
            rw [hG, lexG_1 (by omega) hc, appR_app]
          · simp only [List.length_append, List.length_cons, List.length_nil]; omega
          all_goals simp only [lexSt, hT, encTs_one, accV_ne (encTs_ne (l := acc ++ [lexT s k]) (by simp)), accE_ne (encTs_ne (l := acc ++ [lexT s k]) (by simp)), lexK]
          all_goals simp only [go_sem, ↓reduceIte, Nat.reduceEqDiff, Nat.reduceAdd, Nat.reduceSub, Nat.reduceMul, Nat.reduceLT, Nat.reduceLeDiff, reduceCtorEq, Int.reduceToNat]
        · rw [lexV_ok (by assumption) (by rw [hG, lexG_0 (by omega)]; rfl), hG, lexG_0 (by omega)]
          have hen : encTs acc ++ [AV.agg [AV.int IntKind.i64 0, AV.int IntKind.i64 s.length, AV.int IntKind.i64 0, AV.str []]] = encTs (acc ++ [⟨0, s.length, 0, []⟩]) := encTs_one acc ⟨0, s.length, 0, []⟩
          rw [hen]
          refine ⟨encTs_bd _ _, ?_⟩
          simp only [appR, if_true, List.append_nil]
          rfl
end Go.Proofs.Ytjigahnncojikaa
