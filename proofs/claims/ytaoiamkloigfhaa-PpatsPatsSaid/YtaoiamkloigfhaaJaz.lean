/- A text of this proof. -/
import Derived.Test.YtaoiamkloigfhaaJax
import Derived.Test.YtaoiamkloigfhaaJay

/- patterns: of a text -/
set_option maxRecDepth 4000
namespace Go.Proofs.Ytaoiamkloigfhaa
open Go Go.RowKit Go.V
set_option linter.unusedVariables false
set_option linter.unusedSimpArgs false

/-! The size of what is read. -/
theorem szs_app : ∀ (a b : List N), szs (a ++ b) = szs a + szs b
  | [], b => by simp [szs]
  | x :: a, b => by rw [List.cons_append, szs, szs, szs_app a b]; omega
theorem sz_leaf {c : K} {n : N} (h : leafP c = some n) : sz n = 1 := by
  unfold leafP at h
  repeat' split at h
  all_goals first | (cases h; rw [sz_eq]; rfl) | cases h
section
variable {rec : K → K × Option N} (ih : ∀ c n, (rec c).2 = some n → sz n + rest (rec c).1 ≤ rest c)
include ih
theorem sz_atom {c : K} {n : N} (h : (patAtom rec c).2 = some n) : sz n + rest (patAtom rec c).1 ≤ rest c := by
  unfold patAtom at h ⊢
  split at h
  · rename_i h1
    rw [if_pos h1]
    have := rest_next (leaf_kind h)
    have := sz_leaf h
    simp only; omega
  · rename_i h1
    rw [if_neg h1]
    split at h
    · rename_i h2
      rw [if_pos h2]
      split at h
      · rename_i h3
        rw [if_pos h3]
        have hp := rest_next (c := (enterK c).1) (by rw [enter_peek h3]; exact isK_kind h2)
        have h0 := (mono_enter c).2
        split at h
        · rename_i h4
          rw [if_pos h4]
          split at h
          · rename_i h5
            rw [if_pos h5]
            have h6 := ih _ _ h
            have h7 := (mono_want (rec (nextK (enterK c).1)).1 [41]).2
            have h8 := (mono_leave (wantK (rec (nextK (enterK c).1)).1 [41]).1).2
            simp only at h6 ⊢; omega
          · cases h
        · cases h
      · cases h
    · cases h
theorem sz_kids : ∀ (f : Nat) (c : K) (acc l : List N), (kidsP rec f c acc).2 = some l → szs l + rest (kidsP rec f c acc).1 ≤ szs acc + rest c
  | 0, c, acc, l => fun h => by cases h
  | f + 1, c, acc, l => fun h => by
    rw [kidsP] at h ⊢
    split at h
    · rename_i h1
      rw [if_pos h1]
      split at h
      · rename_i h2
        rw [if_pos h2]
        obtain ⟨n, hn⟩ := Option.isSome_iff_exists.1 h2
        have h3 := sz_kids f _ _ _ h
        have h4 := sz_atom ih hn
        rw [szs_app, hn] at h3
        simp only [Option.getD_some, szs] at h3
        rw [hn]
        simp only [Option.getD_some]
        omega
      · cases h
    · rename_i h1
      rw [if_neg h1]
      cases h
      exact Nat.le_refl _
end
theorem sz_At : ∀ (f : Nat) (c : K) (n : N), (patAt f c).2 = some n → sz n + rest (patAt f c).1 ≤ rest c
  | 0, _, _ => fun h => by cases h
  | f + 1, c, n => fun h => by
    rw [patAt] at h ⊢
    have h0 := (mono_enter c).2
    split at h
    · rename_i h1
      rw [if_pos h1]
      split at h
      · rename_i h2
        rw [if_pos h2]
        have hr := rest_next (c := (enterK c).1) (by omega)
        obtain ⟨l, hl, rfl⟩ := Option.map_eq_some_iff.1 h
        have h3 := sz_kids (sz_At f) _ _ _ _ hl
        have h4 := (mono_leave (kidsP (patAt f) (rest (enterK c).1 + 1) (nextK (enterK c).1) []).1).2
        rw [sz_eq]
        simp only [N.kids, szs] at h3 ⊢
        omega
      · rename_i h2
        rw [if_neg h2]
        have h3 := sz_atom (sz_At f) h
        have h4 := (mono_leave (patAtom (patAt f) (enterK c).1).1).2
        simp only
        omega
    · cases h
theorem newK_good {l : List T} (h : l.length ≤ 1048577) : (newK l).good := ⟨Nat.zero_le _, Nat.le_trans (aheadT_len l) h, Nat.zero_le _⟩

/-! What is all there is. -/
def wholeV (c : K) (n : N) : N × Int × Int :=
  if (doneK c).2 = 0 then if depR n > 100 then (N0, n.pos, 2) else (n, 0, 0) else (N0, (doneK c).1, (doneK c).2)
def patV (s : List UInt8) : N × Int × Int :=
  if (lexV s).2.2 = 0 then wholeV (patAt (rest (newK (lexV s).1) + 2) (newK (lexV s).1)).1 ((patAt (rest (newK (lexV s).1) + 2) (newK (lexV s).1)).2.getD N0)
  else (N0, (lexV s).2.1, (lexV s).2.2)
def resV (r : N × Int × Int) : AV := .tup [enc r.1, .int .i64 r.2.1, .int .i64 r.2.2]
attribute [go_sem] resV
theorem resV_bd (k : Nat) (r : N × Int × Int) : (resV r).bd k = true := by simp only [resV, AV.bd, AV.bds, enc_bd, Bool.and_true]
theorem ref07_Whole (c : K) (n : N) : VPure Try.prog 26 [refC c, enc n] (resV (wholeV c n)) := by
  refine vpure_of c_envoyref07_Whole (by simp) (by simp only [go_sem]) (by simp only [go_sem]) fun hw => ?_
  repeat' (first | refine vi_seq ?_ | refine vi_block ?_ | refine vi_scope ?_ | ((first | refine vi_reg ?_ | refine vi_regE (by rfl) ?_ | refine vi_regD ?_ | refine vi_label ?_ | refine vi_goto ?_ | refine vi_ret ?_ | refine vi_exit ?_ | refine vi_skip ?_); simp only [go_sem, ↓reduceIte, Nat.reduceEqDiff, Nat.reduceAdd, Nat.reduceSub, Nat.reduceMul, Nat.reduceLT, Nat.reduceLeDiff, reduceCtorEq, Int.reduceToNat]) | ((first | refine gd_caseb ?_ ?_ | refine cnd_caseb ?_ ?_) <;> intro hc <;> simp only [hc, go_sem, ↓reduceIte, Nat.reduceEqDiff, Nat.reduceAdd, Nat.reduceSub, Nat.reduceMul, Nat.reduceLT, Nat.reduceLeDiff, reduceCtorEq, Int.reduceToNat] <;> (try simp only [bool_not_true, bool_not_false, decide_eq_true_eq, decide_eq_false_iff_not, Bool.and_eq_true] at hc)) | (refine vi_cond ?_; simp only [go_sem, ↓reduceIte, Nat.reduceEqDiff, Nat.reduceAdd, Nat.reduceSub, Nat.reduceMul, Nat.reduceLT, Nat.reduceLeDiff, reduceCtorEq, Int.reduceToNat]) | refine And.intro (by first | assumption | omega | (have := len_pos (by assumption); omega) | (unfold capOK; omega)) ?_ | (simp (disch := omega) only [encs_getN]; (try simp only [go_sem, ↓reduceIte, Nat.reduceEqDiff, Nat.reduceAdd, Nat.reduceSub, Nat.reduceMul, Nat.reduceLT, Nat.reduceLeDiff, reduceCtorEq, Int.reduceToNat])) | (simp (disch := omega) only [wrapS]; (try simp only [go_sem, ↓reduceIte, Nat.reduceEqDiff, Nat.reduceAdd, Nat.reduceSub, Nat.reduceMul, Nat.reduceLT, Nat.reduceLeDiff, reduceCtorEq, Int.reduceToNat])) | ((first | refine vapp_pure0 (ref05_Done c) fun _ => ?_ | refine vapp_pure0 (depth12 n) fun _ => ?_ | refine dapp_pure  (ref05_Done c) ?_ | refine dapp_pure  (depth12 n) ?_); simp only [go_sem, ↓reduceIte, Nat.reduceEqDiff, Nat.reduceAdd, Nat.reduceSub, Nat.reduceMul, Nat.reduceLT, Nat.reduceLeDiff, reduceCtorEq, Int.reduceToNat]))
  all_goals (try rw [enc_z])
  all_goals unfold wholeV
  all_goals (repeat' split)
  all_goals first | omega | rfl | simp_all [go_sem]
theorem done_ok {c : K} (h : (doneK c).2 = 0) : c.err = 0 := by
  by_cases he : c.err = 0
  · exact he
  · rw [doneK_err he] at h; exact absurd h he
attribute [go_sem] lexR
theorem ref08_Pat (s : List UInt8) : VPure Try.prog 11 [.str s] (resV (patV s)) := by
  have g := newK_good (lexV_len s).1
  have hem := em_le (newK (lexV s).1)
  obtain ⟨a1, a2, a3⟩ := alike_At (rest (newK (lexV s).1) + 2) (newK (lexV s).1) (by omega)
  have hwh : wholeV (refAt (rest (newK (lexV s).1) + 2) (newK (lexV s).1)).1 (refAt (rest (newK (lexV s).1) + 2) (newK (lexV s).1)).2 = wholeV (patAt (rest (newK (lexV s).1) + 2) (newK (lexV s).1)).1 ((patAt (rest (newK (lexV s).1) + 2) (newK (lexV s).1)).2.getD N0) := by
    rw [← a1]
    unfold wholeV
    split
    · rename_i hd
      cases ho : (patAt (rest (newK (lexV s).1) + 2) (newK (lexV s).1)).2 with
      | none => exact absurd (done_ok hd) (a3 ho)
      | some n => rw [a2 n ho]; rfl
    · rfl
  refine vpure_of c_envoyref08_Pat (by simp) (by simp only [go_sem]) (by simp only [go_sem]) fun hw => ?_
  repeat' (first | refine vi_seq ?_ | refine vi_block ?_ | refine vi_scope ?_ | ((first | refine vi_reg ?_ | refine vi_regE (by rfl) ?_ | refine vi_regD ?_ | refine vi_label ?_ | refine vi_goto ?_ | refine vi_ret ?_ | refine vi_exit ?_ | refine vi_skip ?_); simp only [go_sem, ↓reduceIte, Nat.reduceEqDiff, Nat.reduceAdd, Nat.reduceSub, Nat.reduceMul, Nat.reduceLT, Nat.reduceLeDiff, reduceCtorEq, Int.reduceToNat]) | ((first | refine gd_caseb ?_ ?_ | refine cnd_caseb ?_ ?_) <;> intro hc <;> simp only [hc, go_sem, ↓reduceIte, Nat.reduceEqDiff, Nat.reduceAdd, Nat.reduceSub, Nat.reduceMul, Nat.reduceLT, Nat.reduceLeDiff, reduceCtorEq, Int.reduceToNat] <;> (try simp only [bool_not_true, bool_not_false, decide_eq_true_eq, decide_eq_false_iff_not, Bool.and_eq_true] at hc)) | (refine vi_cond ?_; simp only [go_sem, ↓reduceIte, Nat.reduceEqDiff, Nat.reduceAdd, Nat.reduceSub, Nat.reduceMul, Nat.reduceLT, Nat.reduceLeDiff, reduceCtorEq, Int.reduceToNat]) | refine And.intro (by first | assumption | omega | (have := len_pos (by assumption); omega) | (unfold capOK; omega)) ?_ | (simp (disch := omega) only [encs_getN]; (try simp only [go_sem, ↓reduceIte, Nat.reduceEqDiff, Nat.reduceAdd, Nat.reduceSub, Nat.reduceMul, Nat.reduceLT, Nat.reduceLeDiff, reduceCtorEq, Int.reduceToNat])) | (simp (disch := omega) only [wrapS]; (try simp only [go_sem, ↓reduceIte, Nat.reduceEqDiff, Nat.reduceAdd, Nat.reduceSub, Nat.reduceMul, Nat.reduceLT, Nat.reduceLeDiff, reduceCtorEq, Int.reduceToNat])) | ((first | refine vapp_pure0 (ref04_Lex s) fun _ => ?_ | refine vapp_pure0 (ref05_New _) fun _ => ?_ | refine vapp_pure0 (ref08_At (rest (newK (lexV s).1) + 2) _ g (by omega)) fun _ => ?_ | refine vapp_pure0 (ref07_Whole _ _) fun _ => ?_ | refine dapp_pure  (ref04_Lex s) ?_ | refine dapp_pure  (ref05_New _) ?_ | refine dapp_pure  (ref08_At (rest (newK (lexV s).1) + 2) _ g (by omega)) ?_ | refine dapp_pure  (ref07_Whole _ _) ?_); simp only [go_sem, ↓reduceIte, Nat.reduceEqDiff, Nat.reduceAdd, Nat.reduceSub, Nat.reduceMul, Nat.reduceLT, Nat.reduceLeDiff, reduceCtorEq, Int.reduceToNat]))
  all_goals (try rw [enc_z])
  all_goals unfold patV
  all_goals simp_all [go_sem]
theorem cdone (c : K) (h : c.ok) : VMeth Try.prog 21 (curE c) (curE c) [.ptr 0 0] (.tup [.int .i64 (doneK c).1, .int .i64 (doneK c).2]) := cur_Done c h
theorem ppats_Pat (s : List UInt8) (hs : s.length ≤ 900000) : VPure Try.prog 10 [.str s] (resV (patV s)) := by
  have g := newK_good (lexV_len s).1
  have g2 : (patAt (rest (newK (lexV s).1) + 2) (newK (lexV s).1)).1.good := (mono_patAt _ _).1 g
  have hem := em_le (newK (lexV s).1)
  have hsz : sz ((patAt (rest (newK (lexV s).1) + 2) (newK (lexV s).1)).2.getD N0) ≤ 1000000 := by
    cases ho : (patAt (rest (newK (lexV s).1) + 2) (newK (lexV s).1)).2 with
    | none => rw [Option.getD_none, sz_eq]; simp [N0, N.kids, szs]
    | some n =>
      have h1 := sz_At _ _ _ ho
      have h2 := aheadT_len (lexV s).1
      have h3 := (lexV_len s).2
      have h4 : rest (newK (lexV s).1) = (aheadT (lexV s).1).length := rfl
      simp only [Option.getD_some]
      omega
  have hdp := depth_law' hsz
  refine vpure_of c_ppats_Pat (by simp) (by simp only [go_sem]) (by simp only [go_sem]) fun hw => ?_
  repeat' (first | refine vi_seq ?_ | refine vi_block ?_ | refine vi_scope ?_ | ((first | refine vi_reg ?_ | refine vi_regE (by rfl) ?_ | refine vi_regD ?_ | refine vi_label ?_ | refine vi_goto ?_ | refine vi_ret ?_ | refine vi_exit ?_ | refine vi_skip ?_); simp only [go_sem, ↓reduceIte, Nat.reduceEqDiff, Nat.reduceAdd, Nat.reduceSub, Nat.reduceMul, Nat.reduceLT, Nat.reduceLeDiff, reduceCtorEq, Int.reduceToNat]) | ((first | refine gd_caseb ?_ ?_ | refine cnd_caseb ?_ ?_) <;> intro hc <;> simp only [hc, go_sem, ↓reduceIte, Nat.reduceEqDiff, Nat.reduceAdd, Nat.reduceSub, Nat.reduceMul, Nat.reduceLT, Nat.reduceLeDiff, reduceCtorEq, Int.reduceToNat] <;> (try simp only [bool_not_true, bool_not_false, decide_eq_true_eq, decide_eq_false_iff_not, Bool.and_eq_true] at hc)) | (refine vi_cond ?_; simp only [go_sem, ↓reduceIte, Nat.reduceEqDiff, Nat.reduceAdd, Nat.reduceSub, Nat.reduceMul, Nat.reduceLT, Nat.reduceLeDiff, reduceCtorEq, Int.reduceToNat]) | refine And.intro (by first | assumption | omega | (have := len_pos (by assumption); omega) | (unfold capOK; omega)) ?_ | (simp (disch := omega) only [encs_getN]; (try simp only [go_sem, ↓reduceIte, Nat.reduceEqDiff, Nat.reduceAdd, Nat.reduceSub, Nat.reduceMul, Nat.reduceLT, Nat.reduceLeDiff, reduceCtorEq, Int.reduceToNat])) | (simp (disch := omega) only [wrapS]; (try simp only [go_sem, ↓reduceIte, Nat.reduceEqDiff, Nat.reduceAdd, Nat.reduceSub, Nat.reduceMul, Nat.reduceLT, Nat.reduceLeDiff, reduceCtorEq, Int.reduceToNat])) | ((first | refine vapp_pure0 (lexer_Lex s) fun _ => ?_ | refine vnew_app (newK_cur _ (lexV_len s).1) (curE_bd _ _) (by simp only [go_sem]) ?_ | refine vmeth_at 1 (pats_At (rest (newK (lexV s).1) + 2) _ g (by omega)) (by rfl) (curE_bd _ _) (curE_bd _ _) (by rfl) (resP_bd _ _) (by rfl) fun _ => ?_ | refine vmeth_at 1 (cdone _ g2.ok) (by rfl) (curE_bd _ _) (curE_bd _ _) (by rfl) (by rfl) (by rfl) fun _ => ?_ | refine vapp_pure0 (vp_eq (depth11 _) (by rw [hdp])) fun _ => ?_ | refine dapp_pure  (lexer_Lex s) ?_ | refine dapp_pure  (vp_eq (depth11 _) (by rw [hdp])) ?_); simp only [go_sem, ↓reduceIte, Nat.reduceEqDiff, Nat.reduceAdd, Nat.reduceSub, Nat.reduceMul, Nat.reduceLT, Nat.reduceLeDiff, reduceCtorEq, Int.reduceToNat]))
  all_goals (try rw [enc_z])
  all_goals unfold patV wholeV
  all_goals (repeat' split)
  all_goals first | omega | rfl | (exfalso; omega) | simp_all [go_sem]
end Go.Proofs.Ytaoiamkloigfhaa
