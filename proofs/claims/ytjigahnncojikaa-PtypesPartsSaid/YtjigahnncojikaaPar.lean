/- A text of this proof. -/
import Derived.Test.YtjigahnncojikaaPaq
import Derived.Test.YtjigahnncojikaaPam

/- the lexer's words: one word -/
set_option maxRecDepth 4000
namespace Go.Proofs.Ytjigahnncojikaa
open Go Go.RowKit Go.V
set_option linter.unusedVariables false
set_option linter.unusedSimpArgs false

theorem blank_iff {c : Int} : blankW c = true ↔ c = 9 ∨ c = 10 ∨ c = 13 ∨ c = 32 := by simp [blankW, or_assoc]
theorem line_iff {c : Int} : lineW c = true ↔ c ≠ 10 := by simp [lineW]
theorem natAdd1 (a : Nat) : (a : Int) + 1 = ((a + 1 : Nat) : Int) := rfl
theorem ref04_skip (l : List UInt8) (k : Nat) (hk : k ≤ l.length) : VPure Try.prog 60 [.str l, .int .i64 k] (.int .i64 ((k + skipW (l.drop k) : Nat) : Int)) := by
  refine vpure_of c0bx (by simp) (by simp only [go_sem]) rfl fun hw => ?_
  have hl : l.length ≤ maxLen := hw.1
  repeat' (first | refine vi_seq ?_ | refine vi_block ?_ | refine vi_scope ?_ | ((first | refine vi_reg ?_ | refine vi_regE (by rfl) ?_ | refine vi_regD ?_ | refine vi_label ?_ | refine vi_goto ?_ | refine vi_ret ?_ | refine vi_exit ?_ | refine vi_skip ?_ | refine vi_cond ?_); simp only [go_sem, ↓reduceIte, Nat.reduceEqDiff, Nat.reduceAdd, Nat.reduceSub, Nat.reduceMul, Nat.reduceLT, Nat.reduceLeDiff, reduceCtorEq, Int.reduceToNat]) | ((first | refine gd_caseb ?_ ?_ | refine cnd_caseb ?_ ?_) <;> intro hc <;> simp only [hc, go_sem, ↓reduceIte, Nat.reduceEqDiff, Nat.reduceAdd, Nat.reduceSub, Nat.reduceMul, Nat.reduceLT, Nat.reduceLeDiff, reduceCtorEq, Int.reduceToNat] <;> (try simp only [bool_not_true, bool_not_false, decide_eq_true_eq, decide_eq_false_iff_not, Bool.and_eq_true] at hc)) | refine And.intro (by first | assumption | omega | (have := len_pos (by assumption); omega) | (unfold capOK; omega)) ?_ | ((first | simp (disch := omega) only [encs_getN] | simp (disch := omega) only [wrapS]); (try simp only [go_sem, ↓reduceIte, Nat.reduceEqDiff, Nat.reduceAdd, Nat.reduceSub, Nat.reduceMul, Nat.reduceLT, Nat.reduceLeDiff, reduceCtorEq, Int.reduceToNat])))
  refine vi_loop (S := Nat) (fun n => n ≤ l.length ∧ k + skipW (l.drop k) = n + skipW (l.drop n)) (fun n => (⟨[(0, .str l), (1, .int .i64 n)], []⟩, [])) (fun n => l.length - n) ?_ fun n hn => ?_
  · refine at_of k [] ⟨hk, rfl⟩ rfl (by simp) ?_ ?_ ?_ <;> (try simp only [go_sem, ↓reduceIte, Nat.reduceEqDiff, Nat.reduceAdd, Nat.reduceSub, Nat.reduceMul, Nat.reduceLT, Nat.reduceLeDiff, reduceCtorEq, Int.reduceToNat]) <;> (try simp (disch := omega) only [wrapS])
  · obtain ⟨hn, ha⟩ := hn
    have nxt : n < l.length → ¬ blankW (l.getD n 0).toNat = true → ¬ pfx [45, 45] (l.drop n) = true → VO.val (AV.int IntKind.i64 ↑n) = VO.val (AV.int IntKind.i64 ↑(k + skipW (List.drop k l))) := by
      intro h1 h2 h3
      rw [ha, skipW_none (by simpa using h3)]
      · rfl
      · rw [whileW_drop h1, if_neg h2]
    have hp : pfx [45, 45] (l.drop n) = true → n + 1 < l.length ∧ (l.getD n 0).toNat = 45 ∧ (l.getD (n + 1) 0).toNat = 45 := by
      intro h
      have h1 : n < l.length := by
        apply Decidable.byContradiction
        intro h2
        rw [List.drop_of_length_le (by omega)] at h
        simp [pfx] at h
      rw [getD_drop h1, pfx] at h
      have h2 : n + 1 < l.length := by
        apply Decidable.byContradiction
        intro h2
        rw [List.drop_of_length_le (i := n + 1) (by omega)] at h
        simp at h
      rw [getD_drop h2] at h
      generalize l.getD n 0 = x at h ⊢
      generalize l.getD (n + 1) 0 = y at h ⊢
      simp at h
      exact ⟨h2, by rw [h.1]; rfl, by rw [h.2]; rfl⟩
    have nxp : n < l.length → ¬ blankW (l.getD n 0).toNat = true → ¬ (n + 1 < l.length ∧ (l.getD n 0).toNat = 45 ∧ (l.getD (n + 1) 0).toNat = 45) → VO.val (AV.int IntKind.i64 ↑n) = VO.val (AV.int IntKind.i64 ↑(k + skipW (List.drop k l))) := fun h1 h2 h3 => nxt h1 h2 fun h4 => h3 (hp h4)
    repeat' (first | refine vi_seq ?_ | refine vi_block ?_ | refine vi_scope ?_ | ((first | refine vi_reg ?_ | refine vi_regE (by rfl) ?_ | refine vi_regD ?_ | refine vi_label ?_ | refine vi_goto ?_ | refine vi_ret ?_ | refine vi_exit ?_ | refine vi_skip ?_ | refine vi_cond ?_); simp (disch := first | omega | (simp only [List.length_set, List.length_append, List.length_cons, List.length_nil]; done) | (simp only [List.length_set, List.length_append, List.length_cons, List.length_nil]; omega)) only [wrap_id, go_sem, ↓reduceIte, Nat.reduceEqDiff, Nat.reduceAdd, Nat.reduceSub, Nat.reduceMul, Nat.reduceLT, Nat.reduceLeDiff, reduceCtorEq, Int.reduceToNat]) | ((first | simp (disch := omega) only [wrap_id] | simp (disch := omega) only [wrapS] | simp (disch := omega) only [natAdd1] | simp (disch := omega) only [Int.toNat_natCast]); (try simp only [go_sem, ↓reduceIte, Nat.reduceEqDiff, Nat.reduceAdd, Nat.reduceSub, Nat.reduceMul, Nat.reduceLT, Nat.reduceLeDiff, reduceCtorEq, Int.reduceToNat])) | ((first | refine gd_caseb ?_ ?_ | refine cnd_caseb ?_ ?_) <;> intro hc <;> simp only [hc, go_sem, ↓reduceIte, Nat.reduceEqDiff, Nat.reduceAdd, Nat.reduceSub, Nat.reduceMul, Nat.reduceLT, Nat.reduceLeDiff, reduceCtorEq, Int.reduceToNat] <;> (try simp only [bool_not_true, bool_not_false, decide_eq_true_eq, decide_eq_false_iff_not, Bool.and_eq_true] at hc)) | refine And.intro (by first | assumption | omega | (have := len_pos (by assumption); omega) | (unfold capOK; omega)) ?_ | ((first | simp (disch := omega) only [encs_getN] | simp (disch := omega) only [wrapS]); (try simp only [go_sem, ↓reduceIte, Nat.reduceEqDiff, Nat.reduceAdd, Nat.reduceSub, Nat.reduceMul, Nat.reduceLT, Nat.reduceLeDiff, reduceCtorEq, Int.reduceToNat])))
    · refine at_of (n + 1) [] ⟨⟨by omega, ?_⟩, by omega⟩ rfl (by simp) ?_ ?_ ?_ <;> (try simp only [go_sem, ↓reduceIte, Nat.reduceEqDiff, Nat.reduceAdd, Nat.reduceSub, Nat.reduceMul, Nat.reduceLT, Nat.reduceLeDiff, reduceCtorEq, Int.reduceToNat]) <;> (try simp (disch := omega) only [wrapS])
      rw [ha, getD_drop (i := n) (by omega), skipW_blank (blank_iff.2 (by omega))]; omega
    · refine at_of (n + 1) [] ⟨⟨by omega, ?_⟩, by omega⟩ rfl (by simp) ?_ ?_ ?_ <;> (try simp only [go_sem, ↓reduceIte, Nat.reduceEqDiff, Nat.reduceAdd, Nat.reduceSub, Nat.reduceMul, Nat.reduceLT, Nat.reduceLeDiff, reduceCtorEq, Int.reduceToNat]) <;> (try simp (disch := omega) only [wrapS])
      rw [ha, getD_drop (i := n) (by omega), skipW_blank (blank_iff.2 (by omega))]; omega
    · refine at_of (n + 1) [] ⟨⟨by omega, ?_⟩, by omega⟩ rfl (by simp) ?_ ?_ ?_ <;> (try simp only [go_sem, ↓reduceIte, Nat.reduceEqDiff, Nat.reduceAdd, Nat.reduceSub, Nat.reduceMul, Nat.reduceLT, Nat.reduceLeDiff, reduceCtorEq, Int.reduceToNat]) <;> (try simp (disch := omega) only [wrapS])
      rw [ha, getD_drop (i := n) (by omega), skipW_blank (blank_iff.2 (by omega))]; omega
    · refine at_of (n + 1) [] ⟨⟨by omega, ?_⟩, by omega⟩ rfl (by simp) ?_ ?_ ?_ <;> (try simp only [go_sem, ↓reduceIte, Nat.reduceEqDiff, Nat.reduceAdd, Nat.reduceSub, Nat.reduceMul, Nat.reduceLT, Nat.reduceLeDiff, reduceCtorEq, Int.reduceToNat]) <;> (try simp (disch := omega) only [wrapS])
      rw [ha, getD_drop (i := n) (by omega), skipW_blank (blank_iff.2 (by omega))]; omega
    · rename_i q1 q2 q3 q4 q5 q6 q7
      have hpp : pfx [45, 45] (l.drop n) = true := by
        have e1 : l.getD n 0 = 45 := UInt8.toNat_inj.1 (by rw [show (45 : UInt8).toNat = 45 from rfl]; omega)
        have e2 : l.getD (n + 1) 0 = 45 := UInt8.toNat_inj.1 (by rw [show (45 : UInt8).toNat = 45 from rfl]; omega)
        rw [getD_drop (i := n) (by omega), getD_drop (i := n + 1) (by omega), e1, e2]
        simp [pfx]
      have hsl := skipW_line hpp
      rw [List.drop_drop] at hsl
      have hpos : whileW lineW (l.drop n) ≠ 0 := by
        rw [whileW_drop (by omega), show lineW (l.getD n 0).toNat = true from line_iff.2 (by omega)]; simp
      refine vi_loop (S := Nat) (fun m => n ≤ m ∧ m ≤ l.length ∧ n + whileW lineW (l.drop n) = m + whileW lineW (l.drop m)) (fun n => (⟨[(0, .str l), (1, .int .i64 n)], []⟩, [])) (fun n => l.length - n) ?_ fun m hm => ?_
      · refine at_of n [] ⟨Nat.le_refl _, by omega, rfl⟩ rfl (by simp) ?_ ?_ ?_ <;> (try simp only [go_sem, ↓reduceIte, Nat.reduceEqDiff, Nat.reduceAdd, Nat.reduceSub, Nat.reduceMul, Nat.reduceLT, Nat.reduceLeDiff, reduceCtorEq, Int.reduceToNat]) <;> (try simp (disch := omega) only [wrapS])
      · obtain ⟨hm1, hm2, hm3⟩ := hm
        have hend : n + whileW lineW (l.drop n) = m → (m ≤ l.length ∧ k + skipW (List.drop k l) = m + skipW (List.drop m l)) ∧ l.length - m < l.length - n := by
          intro h
          refine ⟨⟨by omega, ?_⟩, by omega⟩
          rw [ha, hsl, h]; omega
        repeat' (first | refine vi_seq ?_ | refine vi_block ?_ | refine vi_scope ?_ | ((first | refine vi_reg ?_ | refine vi_regE (by rfl) ?_ | refine vi_regD ?_ | refine vi_label ?_ | refine vi_goto ?_ | refine vi_ret ?_ | refine vi_exit ?_ | refine vi_skip ?_ | refine vi_cond ?_); simp (disch := first | omega | (simp only [List.length_set, List.length_append, List.length_cons, List.length_nil]; done) | (simp only [List.length_set, List.length_append, List.length_cons, List.length_nil]; omega)) only [wrap_id, go_sem, ↓reduceIte, Nat.reduceEqDiff, Nat.reduceAdd, Nat.reduceSub, Nat.reduceMul, Nat.reduceLT, Nat.reduceLeDiff, reduceCtorEq, Int.reduceToNat]) | ((first | simp (disch := omega) only [wrap_id] | simp (disch := omega) only [wrapS] | simp (disch := omega) only [natAdd1] | simp (disch := omega) only [Int.toNat_natCast]); (try simp only [go_sem, ↓reduceIte, Nat.reduceEqDiff, Nat.reduceAdd, Nat.reduceSub, Nat.reduceMul, Nat.reduceLT, Nat.reduceLeDiff, reduceCtorEq, Int.reduceToNat])) | ((first | refine gd_caseb ?_ ?_ | refine cnd_caseb ?_ ?_) <;> intro hc <;> simp only [hc, go_sem, ↓reduceIte, Nat.reduceEqDiff, Nat.reduceAdd, Nat.reduceSub, Nat.reduceMul, Nat.reduceLT, Nat.reduceLeDiff, reduceCtorEq, Int.reduceToNat] <;> (try simp only [bool_not_true, bool_not_false, decide_eq_true_eq, decide_eq_false_iff_not, Bool.and_eq_true] at hc)) | refine And.intro (by first | assumption | omega | (have := len_pos (by assumption); omega) | (unfold capOK; omega)) ?_ | ((first | simp (disch := omega) only [encs_getN] | simp (disch := omega) only [wrapS]); (try simp only [go_sem, ↓reduceIte, Nat.reduceEqDiff, Nat.reduceAdd, Nat.reduceSub, Nat.reduceMul, Nat.reduceLT, Nat.reduceLeDiff, reduceCtorEq, Int.reduceToNat])))
        · refine at_of (m + 1) [] ⟨⟨by omega, by omega, ?_⟩, by omega⟩ rfl (by simp) ?_ ?_ ?_ <;> (try simp only [go_sem, ↓reduceIte, Nat.reduceEqDiff, Nat.reduceAdd, Nat.reduceSub, Nat.reduceMul, Nat.reduceLT, Nat.reduceLeDiff, reduceCtorEq, Int.reduceToNat]) <;> (try simp (disch := omega) only [wrapS])
          rw [hm3, whileW_drop (i := m) (by omega), if_pos (line_iff.2 (by omega))]; omega
        · refine at_of m [] (hend ?_) rfl (by simp) ?_ ?_ ?_ <;> (try simp only [go_sem, ↓reduceIte, Nat.reduceEqDiff, Nat.reduceAdd, Nat.reduceSub, Nat.reduceMul, Nat.reduceLT, Nat.reduceLeDiff, reduceCtorEq, Int.reduceToNat]) <;> (try simp (disch := omega) only [wrapS])
          rw [hm3, whileW_drop (i := m) (by omega), if_neg (mt line_iff.1 (by omega))]; rfl
        · refine at_of m [] (hend ?_) rfl (by simp) ?_ ?_ ?_ <;> (try simp only [go_sem, ↓reduceIte, Nat.reduceEqDiff, Nat.reduceAdd, Nat.reduceSub, Nat.reduceMul, Nat.reduceLT, Nat.reduceLeDiff, reduceCtorEq, Int.reduceToNat]) <;> (try simp (disch := omega) only [wrapS])
          rw [hm3, List.drop_of_length_le (by omega)]; rfl
    · exact nxp (by omega) (mt blank_iff.1 (by omega)) (by omega)
    · exact nxp (by omega) (mt blank_iff.1 (by omega)) (by omega)
    · exact nxp (by omega) (mt blank_iff.1 (by omega)) (by omega)
    · rw [ha, List.drop_of_length_le (by omega)]
      have : skipW [] = 0 := skipW_none rfl rfl
      rw [this]; rfl

def nameK (l : List UInt8) : Int := if l = [95] then 5 else if resW l then 4 else if conW l then 2 else 1
def nameT (l : List UInt8) : T := ⟨nameK l, 0, 0, l⟩
theorem lexer_name (l : List UInt8) : VPure Try.prog 113 [.str l] (encT (nameT l)) := by
  refine vpure_of c0by (by simp) (by simp only [go_sem]) rfl fun hw => ?_
  have hl : l.length ≤ maxLen := hw.1
  repeat' (first | refine vi_seq ?_ | refine vi_block ?_ | refine vi_scope ?_ | ((first | refine vi_reg ?_ | refine vi_regE (by rfl) ?_ | refine vi_regD ?_ | refine vi_label ?_ | refine vi_goto ?_ | refine vi_ret ?_ | refine vi_exit ?_ | refine vi_skip ?_ | refine vi_cond ?_ | refine vapp_pure0 (names_Reserved _) fun _ => ?_ | refine vapp_pure0 (names_Con _) fun _ => ?_ | refine dapp_pure  (names_Reserved _) ?_ | refine dapp_pure  (names_Con _) ?_); simp only [go_sem, ↓reduceIte, Nat.reduceEqDiff, Nat.reduceAdd, Nat.reduceSub, Nat.reduceMul, Nat.reduceLT, Nat.reduceLeDiff, reduceCtorEq, Int.reduceToNat]) | ((first | refine gd_caseb ?_ ?_ | refine cnd_caseb ?_ ?_) <;> intro hc <;> simp only [hc, go_sem, ↓reduceIte, Nat.reduceEqDiff, Nat.reduceAdd, Nat.reduceSub, Nat.reduceMul, Nat.reduceLT, Nat.reduceLeDiff, reduceCtorEq, Int.reduceToNat] <;> (try simp only [bool_not_true, bool_not_false, decide_eq_true_eq, decide_eq_false_iff_not, Bool.and_eq_true] at hc)) | refine And.intro (by first | assumption | omega | (have := len_pos (by assumption); omega) | (unfold capOK; omega)) ?_ | ((first | simp (disch := omega) only [encs_getN] | simp (disch := omega) only [wrapS]); (try simp only [go_sem, ↓reduceIte, Nat.reduceEqDiff, Nat.reduceAdd, Nat.reduceSub, Nat.reduceMul, Nat.reduceLT, Nat.reduceLeDiff, reduceCtorEq, Int.reduceToNat])))
  all_goals simp_all [encT, nameT, nameK]

def marksW : List (List UInt8) := [[45, 62], [61, 62], [58, 58], [40], [41], [123], [125], [59], [44], [61], [124], [92]]
def markG (l : List UInt8) : List (List UInt8) → Nat
  | [] => 0
  | m :: r => if pfx m l then m.length else markG l r
def markW (l : List UInt8) : Nat := markG l marksW
theorem marks_len : (marksW.map AV.str).length = 12 := rfl
theorem marks_get {i : Nat} (h : i < 12) : (marksW.map AV.str).getD i .junk = .str (marksW.getD i []) := by
  have h' : i < marksW.length := h
  rw [List.getD_eq_getElem?_getD, List.getElem?_map, List.getD_eq_getElem?_getD, List.getElem?_eq_getElem h']; rfl
theorem marks_drop {i : Nat} (h : i < 12) : marksW.drop i = marksW.getD i [] :: marksW.drop (i + 1) := by
  have h' : i < marksW.length := h
  rw [List.drop_eq_getElem_cons h', List.getD_eq_getElem?_getD, List.getElem?_eq_getElem h']; rfl
theorem lexer_mark (l : List UInt8) : VPure Try.prog 114 [.str l] (.int .i64 (markW l)) := by
  refine vpure_of c0bz (by simp) (by simp only [go_sem]) rfl fun hw => ?_
  repeat' (first | refine vi_seq ?_ | refine vi_block ?_ | refine vi_scope ?_ | ((first | refine vi_reg ?_ | refine vi_regE (by rfl) ?_ | refine vi_regD ?_ | refine vi_label ?_ | refine vi_goto ?_ | refine vi_ret ?_ | refine vi_exit ?_ | refine vi_skip ?_ | refine vi_cond ?_); simp only [go_sem, ↓reduceIte, Nat.reduceEqDiff, Nat.reduceAdd, Nat.reduceSub, Nat.reduceMul, Nat.reduceLT, Nat.reduceLeDiff, reduceCtorEq, Int.reduceToNat]) | ((first | refine gd_caseb ?_ ?_ | refine cnd_caseb ?_ ?_) <;> intro hc <;> simp only [hc, go_sem, ↓reduceIte, Nat.reduceEqDiff, Nat.reduceAdd, Nat.reduceSub, Nat.reduceMul, Nat.reduceLT, Nat.reduceLeDiff, reduceCtorEq, Int.reduceToNat] <;> (try simp only [bool_not_true, bool_not_false, decide_eq_true_eq, decide_eq_false_iff_not, Bool.and_eq_true] at hc)) | refine And.intro (by first | assumption | omega | (have := len_pos (by assumption); omega) | (unfold capOK; omega)) ?_ | ((first | simp (disch := omega) only [encs_getN] | simp (disch := omega) only [wrapS]); (try simp only [go_sem, ↓reduceIte, Nat.reduceEqDiff, Nat.reduceAdd, Nat.reduceSub, Nat.reduceMul, Nat.reduceLT, Nat.reduceLeDiff, reduceCtorEq, Int.reduceToNat])))
  refine vi_loop (S := Nat) (fun i => i ≤ 12 ∧ markG l (marksW.drop i) = markW l) (fun i => (⟨[(0, .str l), (5, .agg (marksW.map AV.str)), (6, .int .i64 i)], []⟩, [])) (fun i => 12 - i) ?_ fun i hi => ?_
  · refine at_of 0 [] ⟨Nat.zero_le _, rfl⟩ rfl (by simp) ?_ ?_ ?_ <;> (try simp only [go_sem, ↓reduceIte, Nat.reduceEqDiff, Nat.reduceAdd, Nat.reduceSub, Nat.reduceMul, Nat.reduceLT, Nat.reduceLeDiff, reduceCtorEq, Int.reduceToNat]) <;> (try simp (disch := omega) only [wrapS])
    exact ⟨rfl, rfl⟩
  · obtain ⟨hi, ha⟩ := hi
    repeat' (first | refine vi_seq ?_ | refine vi_block ?_ | refine vi_scope ?_ | ((first | refine vi_reg ?_ | refine vi_regE (by rfl) ?_ | refine vi_regD ?_ | refine vi_label ?_ | refine vi_goto ?_ | refine vi_ret ?_ | refine vi_exit ?_ | refine vi_skip ?_ | refine vi_cond ?_ | refine vapp_pure0 (strings_HasPrefix _ _) fun _ => ?_ | refine dapp_pure  (strings_HasPrefix _ _) ?_); simp only [go_sem, ↓reduceIte, Nat.reduceEqDiff, Nat.reduceAdd, Nat.reduceSub, Nat.reduceMul, Nat.reduceLT, Nat.reduceLeDiff, reduceCtorEq, Int.reduceToNat]) | ((first | refine gd_caseb ?_ ?_ | refine cnd_caseb ?_ ?_) <;> intro hc <;> simp only [hc, go_sem, ↓reduceIte, Nat.reduceEqDiff, Nat.reduceAdd, Nat.reduceSub, Nat.reduceMul, Nat.reduceLT, Nat.reduceLeDiff, reduceCtorEq, Int.reduceToNat] <;> (try simp only [bool_not_true, bool_not_false, decide_eq_true_eq, decide_eq_false_iff_not, Bool.and_eq_true] at hc)) | refine And.intro (by first | assumption | omega | (have := len_pos (by assumption); omega) | (unfold capOK; omega)) ?_ | ((first | simp (disch := omega) only [encs_getN] | simp (disch := omega) only [wrapS]); (try simp only [go_sem, ↓reduceIte, Nat.reduceEqDiff, Nat.reduceAdd, Nat.reduceSub, Nat.reduceMul, Nat.reduceLT, Nat.reduceLeDiff, reduceCtorEq, Int.reduceToNat])))
    · simp (disch := omega) only [marks_len, marks_get, Nat.mul_one]
      refine ⟨by omega, ?_⟩
      repeat' (first | refine vi_seq ?_ | refine vi_block ?_ | refine vi_scope ?_ | ((first | refine vi_reg ?_ | refine vi_regE (by rfl) ?_ | refine vi_regD ?_ | refine vi_label ?_ | refine vi_goto ?_ | refine vi_ret ?_ | refine vi_exit ?_ | refine vi_skip ?_ | refine vi_cond ?_ | refine vapp_pure0 (strings_HasPrefix _ _) fun _ => ?_ | refine dapp_pure  (strings_HasPrefix _ _) ?_); simp only [go_sem, ↓reduceIte, Nat.reduceEqDiff, Nat.reduceAdd, Nat.reduceSub, Nat.reduceMul, Nat.reduceLT, Nat.reduceLeDiff, reduceCtorEq, Int.reduceToNat]) | ((first | refine gd_caseb ?_ ?_ | refine cnd_caseb ?_ ?_) <;> intro hc <;> simp only [hc, go_sem, ↓reduceIte, Nat.reduceEqDiff, Nat.reduceAdd, Nat.reduceSub, Nat.reduceMul, Nat.reduceLT, Nat.reduceLeDiff, reduceCtorEq, Int.reduceToNat] <;> (try simp only [bool_not_true, bool_not_false, decide_eq_true_eq, decide_eq_false_iff_not, Bool.and_eq_true] at hc)) | refine And.intro (by first | assumption | omega | (have := len_pos (by assumption); omega) | (unfold capOK; omega)) ?_ | ((first | simp (disch := omega) only [encs_getN] | simp (disch := omega) only [wrapS]); (try simp only [go_sem, ↓reduceIte, Nat.reduceEqDiff, Nat.reduceAdd, Nat.reduceSub, Nat.reduceMul, Nat.reduceLT, Nat.reduceLeDiff, reduceCtorEq, Int.reduceToNat])))
      · rw [← ha, marks_drop (i := i) (by omega), markG, if_pos hc]
      · refine at_of (i + 1) [] ⟨⟨by omega, ?_⟩, by omega⟩ rfl (by simp) ?_ ?_ ?_ <;> (try simp only [go_sem, ↓reduceIte, Nat.reduceEqDiff, Nat.reduceAdd, Nat.reduceSub, Nat.reduceMul, Nat.reduceLT, Nat.reduceLeDiff, reduceCtorEq, Int.reduceToNat]) <;> (try simp (disch := omega) only [wrapS])
        · rw [← ha, marks_drop (i := i) (by omega), markG, hc]; rfl
        · have : i < maxLen := by unfold maxLen; omega
          rw [wrapS this]
          exact ⟨⟨rfl, rfl⟩, rfl⟩
    · rw [← ha, show i = 12 by omega]; rfl
/-- The word that a text begins with, and the error. -/
def wordT (l : List UInt8) : T × Int :=
  if digitW (l.getD 0 0).toNat then (⟨3, 0, (readW (l.take (whileW digitW l))).1, l.take (whileW digitW l)⟩, (readW (l.take (whileW digitW l))).2)
  else if onW (l.getD 0 0).toNat && !decide (((l.getD 0 0).toNat : Int) = 39) then (nameT (l.take (whileW onW l)), 0)
  else if markW l = 0 then (T0, 3)
  else (⟨5, 0, 0, l.take (markW l)⟩, 0)
def pairT (p : T × Int) : AV := .tup [encT p.1, .int .i64 p.2]
theorem markG_le (l : List UInt8) : ∀ ms, markG l ms ≤ l.length
  | [] => Nat.zero_le _
  | m :: r => by
    rw [markG]
    split
    · rename_i h
      have := congrArg List.length (of_decide_eq_true h)
      rw [List.length_take] at this
      omega
    · exact markG_le l r
theorem markW_le (l : List UInt8) : markW l ≤ l.length := markG_le l _
attribute [go_sem] pairI
theorem lexer_word (l : List UInt8) (hne : l ≠ []) : VPure Try.prog 103 [.str l] (pairT (wordT l)) := by
  refine vpure_of c0ca (by simp) (by simp only [go_sem]) rfl fun hw => ?_
  have hl : l.length ≤ maxLen := hw.1
  have h1 := whileW_le digitW l
  have h2 := whileW_le onW l
  have h3 := markW_le l
  have h4 := List.length_pos_iff.2 hne
  repeat' (first | refine vi_seq ?_ | refine vi_block ?_ | refine vi_scope ?_ | ((first | refine vi_reg ?_ | refine vi_regE (by rfl) ?_ | refine vi_regD ?_ | refine vi_label ?_ | refine vi_goto ?_ | refine vi_ret ?_ | refine vi_exit ?_ | refine vi_skip ?_ | refine vi_cond ?_ | refine vapp_pure0 (lexer_digit _) fun _ => ?_ | refine vapp_pure0 (lexer_while lexer_digit _) fun _ => ?_ | refine vapp_pure0 (ints_Read _) fun _ => ?_ | refine vapp_pure0 (lexer_on _) fun _ => ?_ | refine vapp_pure0 (lexer_while lexer_on _) fun _ => ?_ | refine vapp_pure0 (lexer_name _) fun _ => ?_ | refine vapp_pure0 (lexer_mark _) fun _ => ?_ | refine dapp_pure  (lexer_digit _) ?_ | refine dapp_pure  (lexer_while lexer_digit _) ?_ | refine dapp_pure  (ints_Read _) ?_ | refine dapp_pure  (lexer_on _) ?_ | refine dapp_pure  (lexer_while lexer_on _) ?_ | refine dapp_pure  (lexer_name _) ?_ | refine dapp_pure  (lexer_mark _) ?_); simp only [go_sem, ↓reduceIte, Nat.reduceEqDiff, Nat.reduceAdd, Nat.reduceSub, Nat.reduceMul, Nat.reduceLT, Nat.reduceLeDiff, reduceCtorEq, Int.reduceToNat]) | ((first | refine gd_caseb ?_ ?_ | refine cnd_caseb ?_ ?_) <;> intro hc <;> simp only [hc, go_sem, ↓reduceIte, Nat.reduceEqDiff, Nat.reduceAdd, Nat.reduceSub, Nat.reduceMul, Nat.reduceLT, Nat.reduceLeDiff, reduceCtorEq, Int.reduceToNat] <;> (try simp only [bool_not_true, bool_not_false, decide_eq_true_eq, decide_eq_false_iff_not, Bool.and_eq_true] at hc)) | refine And.intro (by first | assumption | omega | (have := len_pos (by assumption); omega) | (unfold capOK; omega)) ?_ | ((first | simp (disch := omega) only [encs_getN] | simp (disch := omega) only [wrapS]); (try simp only [go_sem, ↓reduceIte, Nat.reduceEqDiff, Nat.reduceAdd, Nat.reduceSub, Nat.reduceMul, Nat.reduceLT, Nat.reduceLeDiff, reduceCtorEq, Int.reduceToNat])))
  all_goals (unfold wordT pairT; simp_all only [↓reduceIte, Bool.false_eq_true, decide_true, decide_false, Bool.not_true, Bool.not_false, Bool.and_true, Bool.and_false, Bool.true_and, Bool.false_and, Int.natCast_eq_zero]; try rfl)
  all_goals trace_state
end Go.Proofs.Ytjigahnncojikaa
