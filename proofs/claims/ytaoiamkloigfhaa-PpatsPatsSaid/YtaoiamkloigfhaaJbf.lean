/- A text of this proof. -/
import Derived.Test.YtaoiamkloigfhaaJbc
import Derived.Test.YtaoiamkloigfhaaJbe

/- patterns: what is read is a pattern; the statement -/
set_option maxRecDepth 4000
namespace Go.Proofs.Ytaoiamkloigfhaa
open Go Go.RowKit Go.V
set_option linter.unusedVariables false
set_option linter.unusedSimpArgs false

def okK (c : K) : Prop := ∀ t ∈ c.l, okTok t
theorem okK_next {c : K} (h : okK c) : okK (nextK c) := by
  unfold nextK
  split
  · split
    · exact h
    · exact h
  · exact h
theorem okK_fail {c : K} {e : Int} (h : okK c) : okK (failK c e) := by unfold failK; split <;> exact h
theorem okK_enter {c : K} (h : okK c) : okK (enterK c).1 := by
  unfold enterK
  split
  · split
    · exact h
    · exact okK_fail h
  · exact h
theorem okK_leave {c : K} (h : okK c) : okK (leaveK c) := by
  unfold leaveK
  split
  · split <;> exact h
  · exact h
theorem okK_want {c : K} {x : List UInt8} (h : okK c) : okK (wantK c x).1 := by
  unfold wantK
  split
  · exact okK_next h
  · exact okK_fail h
theorem okK_peek {c : K} (h : okK c) : okTok (peekK c) := by
  unfold peekK
  split
  · split
    · exact h _ (getT_mem (by assumption))
    · exact ⟨fun h => by simp at h, fun h => by simp at h, fun h => by simp at h⟩
  · exact ⟨fun h => by simp [T0] at h, fun h => by simp [T0] at h, fun h => by simp [T0] at h⟩
theorem pa_leaf {c : K} (hc : okK c) {n : N} (h : leafP c = some n) : paW n = true := by
  obtain ⟨h1, h2, h3⟩ := okK_peek hc
  unfold leafP at h
  split at h
  · rename_i hk; cases h; rw [paW, if_pos rfl, h1 hk]; rfl
  · split at h
    · rename_i hk; cases h; rw [paW, if_neg (by decide), if_neg (by decide), if_neg (by decide), if_pos rfl, h2 hk, pasW]; rfl
    · split at h
      · rename_i hk; cases h; rw [paW, if_neg (by decide), if_neg (by decide), if_pos rfl, decide_eq_true (h3 hk)]; rfl
      · split at h
        · cases h; rw [paW, if_neg (by decide), if_pos rfl]; rfl
        · cases h
section
variable {rec : K → K × Option N} (ih : ∀ c, okK c → okK (rec c).1 ∧ ∀ n, (rec c).2 = some n → paW n = true)
include ih
theorem pa_atom {c : K} (hc : okK c) : okK (patAtom rec c).1 ∧ ∀ n, (patAtom rec c).2 = some n → paW n = true := by
  unfold patAtom
  split
  · exact ⟨okK_next hc, fun n h => pa_leaf hc h⟩
  · split
    · split
      · have h1 := ih _ (okK_next (okK_enter hc))
        split
        · split
          · exact ⟨okK_leave (okK_want h1.1), h1.2⟩
          · exact ⟨okK_want h1.1, fun n h => by cases h⟩
        · exact ⟨h1.1, fun n h => by cases h⟩
      · exact ⟨okK_enter hc, fun n h => by cases h⟩
    · exact ⟨okK_fail hc, fun n h => by cases h⟩
theorem pa_kids : ∀ (f : Nat) (c : K) (acc : List N), okK c → acc.all paW = true → okK (kidsP rec f c acc).1 ∧ ∀ l, (kidsP rec f c acc).2 = some l → l.all paW = true
  | 0, c, acc, hc, _ => ⟨hc, fun n h => by cases h⟩
  | f + 1, c, acc, hc, ha => by
    have h1 := pa_atom ih hc
    rw [kidsP]
    split
    · split
      · rename_i hs
        obtain ⟨n, hn⟩ := Option.isSome_iff_exists.1 hs
        refine pa_kids f _ _ h1.1 ?_
        rw [List.all_append, ha, hn]
        simp [h1.2 n hn]
      · exact ⟨h1.1, fun n h => by cases h⟩
    · exact ⟨hc, fun l h => by cases h; exact ha⟩
end
theorem pa_At : ∀ (f : Nat) (c : K), okK c → okK (patAt f c).1 ∧ ∀ n, (patAt f c).2 = some n → paW n = true
  | 0, c, hc => ⟨hc, fun n h => by cases h⟩
  | f + 1, c, hc => by
    rw [patAt]
    split
    · split
      · rename_i hk
        have h1 := pa_kids (pa_At f) (rest (enterK c).1 + 1) (nextK (enterK c).1) [] (okK_next (okK_enter hc)) rfl
        refine ⟨okK_leave h1.1, fun n h => ?_⟩
        obtain ⟨l, hl, rfl⟩ := Option.map_eq_some_iff.1 h
        rw [paW, if_neg (by decide), if_neg (by decide), if_neg (by decide), if_pos rfl, (okK_peek (okK_enter hc)).2.1 hk, pasW_all, h1.2 l hl]; rfl
      · have h1 := pa_atom (pa_At f) (okK_enter hc)
        exact ⟨okK_leave h1.1, h1.2⟩
    · exact ⟨okK_enter hc, fun n h => by cases h⟩
theorem ahead_mem : ∀ {l : List T} {t : T}, t ∈ aheadT l → t ∈ l
  | [], t, h => h
  | u :: r, t, h => by
    rw [aheadT] at h
    split at h
    · simp at h
    · rcases List.mem_cons.1 h with rfl | h
      · simp
      · exact List.mem_cons_of_mem _ (ahead_mem h)
theorem okK_new (s : List UInt8) : okK (newK (lexV s).1) := fun t ht => lexV_okTok t (ahead_mem ht)
theorem ahead_snoc : ∀ (l : List T) (t : T), t.kind = 0 → (aheadT (l ++ [t])).length ≤ l.length
  | [], t, h => by rw [List.nil_append, aheadT, if_pos h]; exact Nat.le_refl _
  | u :: r, t, h => by
    rw [List.cons_append, aheadT]
    split
    · exact Nat.zero_le _
    · have := ahead_snoc r t h; simp only [List.length_cons]; omega
theorem ahead_len (s : List UInt8) : (aheadT (lexV s).1).length ≤ s.length := by
  by_cases h : 1048576 < (s.length : Int)
  · rw [lexV_big h]; simp [aheadT]
  · have hll : (lexG s (skipW s)).1.length ≤ s.length := by have := lexF_len (s := s) (s.length - skipW s) (skipW s); unfold lexG; omega
    by_cases he : (lexG s (skipW s)).2.2 = 0
    · rw [lexV_ok h he]; exact Nat.le_trans (ahead_snoc _ _ rfl) hll
    · rw [lexV_bad h he]; exact Nat.zero_le _
/-- What is read is a pattern. -/
theorem patV_pa {s : List UInt8} (hs : s.length ≤ 3000) (h : (patV s).2.2 = 0) : (lowW (patV s).1 && paW (patV s).1) = true := by
  unfold patV at h ⊢
  split at h
  · rename_i he
    rw [if_pos he]
    unfold wholeV at h ⊢
    split at h
    · rename_i hd
      rw [if_pos hd]
      split at h
      · exact absurd h (by simp)
      · rename_i hdp
        rw [if_neg hdp]
        have hem := em_le (newK (lexV s).1)
        have hal := alike_At (rest (newK (lexV s).1) + 2) (newK (lexV s).1) (by omega)
        cases ho : (patAt (rest (newK (lexV s).1) + 2) (newK (lexV s).1)).2 with
        | none => exact absurd (done_ok hd) (hal.2.2 ho)
        | some n =>
          rw [ho] at hdp
          simp only [Option.getD_some] at hdp ⊢
          have h1 := (pa_At _ _ (okK_new s)).2 n ho
          have h2 := sz_At _ _ _ ho
          have h3 := ahead_len s
          have h4 : rest (newK (lexV s).1) = (aheadT (lexV s).1).length := rfl
          rw [h1, low_law (by omega), Bool.and_true, decide_eq_true_eq]
          omega
    · rename_i hd; exact absurd h hd
  · rename_i he; exact absurd h he
theorem just_self : ∀ n, justW n n = true := N.ind fun n ih => by
  rw [justW_eq]
  have key : ∀ l : List N, (∀ x ∈ l, justW x x = true) → justsW l l = true := by
    intro l
    induction l with
    | nil => intro _; rw [justsW]
    | cons x r ihr => intro h; rw [justsW, h x (by simp), ihr fun y hy => h y (by simp [hy])]; rfl
  simp [key n.kids ih]
theorem law08_PpatsPats (s : List UInt8) : VPure Try.prog 4 [.str s] (.bool true) := by
  refine vpure_of c_envoylaw08_PpatsPats (by simp) (by simp only [go_sem]) rfl fun hw => ?_
  by_cases hs : s.length ≤ 3000
  · have hJ : VPure Try.prog 12 [enc (patV s).1, enc (patV s).1] (.bool true) := vp_eq (ref06_Just _ _) (by rw [just_self])
    have hP : (patV s).2.2 = 0 → VPure Try.prog 13 [enc (patV s).1] (.bool true) := fun h => vp_eq (nodes_Pat _) (by rw [patV_pa hs h])
    have hsi : ¬ (3000 : Int) < s.length := by omega
    by_cases he : (patV s).2.2 = 0
    · have hP := hP he
      repeat' (first | refine vi_seq ?_ | refine vi_block ?_ | refine vi_scope ?_ | ((first | refine vi_reg ?_ | refine vi_regE (by rfl) ?_ | refine vi_regD ?_ | refine vi_label ?_ | refine vi_goto ?_ | refine vi_ret ?_ | refine vi_exit ?_ | refine vi_skip ?_); simp (disch := first | omega | (simp only [List.length_set, List.length_append, List.length_cons, List.length_nil]; done) | (simp only [List.length_set, List.length_append, List.length_cons, List.length_nil]; omega)) only [hsi, he, Int.reduceEq, decide_true, ne_eq, not_true_eq_false, go_sem, ↓reduceIte, Nat.reduceEqDiff, Nat.reduceAdd, Nat.reduceSub, Nat.reduceMul, Nat.reduceLT, Nat.reduceLeDiff, reduceCtorEq, Int.reduceToNat]) | ((first | refine gd_caseb ?_ ?_ | refine cnd_caseb ?_ ?_) <;> intro hc <;> simp only [hc, go_sem, ↓reduceIte, Nat.reduceEqDiff, Nat.reduceAdd, Nat.reduceSub, Nat.reduceMul, Nat.reduceLT, Nat.reduceLeDiff, reduceCtorEq, Int.reduceToNat] <;> (try simp only [bool_not_true, bool_not_false, decide_eq_true_eq, decide_eq_false_iff_not, Bool.and_eq_true] at hc)) | (refine vi_cond ?_; simp (disch := first | omega | (simp only [List.length_set, List.length_append, List.length_cons, List.length_nil]; done) | (simp only [List.length_set, List.length_append, List.length_cons, List.length_nil]; omega)) only [hsi, he, Int.reduceEq, decide_true, ne_eq, not_true_eq_false, go_sem, ↓reduceIte, Nat.reduceEqDiff, Nat.reduceAdd, Nat.reduceSub, Nat.reduceMul, Nat.reduceLT, Nat.reduceLeDiff, reduceCtorEq, Int.reduceToNat]) | refine And.intro (by first | assumption | omega | (have := len_pos (by assumption); omega) | (unfold capOK; omega)) ?_ | (simp (disch := omega) only [encs_getN]; (try simp only [go_sem, ↓reduceIte, Nat.reduceEqDiff, Nat.reduceAdd, Nat.reduceSub, Nat.reduceMul, Nat.reduceLT, Nat.reduceLeDiff, reduceCtorEq, Int.reduceToNat])) | (simp (disch := omega) only [wrapS]; (try simp only [go_sem, ↓reduceIte, Nat.reduceEqDiff, Nat.reduceAdd, Nat.reduceSub, Nat.reduceMul, Nat.reduceLT, Nat.reduceLeDiff, reduceCtorEq, Int.reduceToNat])) | ((first | refine vapp_pure0 law08_awake fun _ => ?_ | refine vapp_pure0 (ppats_Pat s (by omega)) fun _ => ?_ | refine vapp_pure0 (ref08_Pat s) fun _ => ?_ | refine vapp_pure0 hJ fun _ => ?_ | refine vapp_pure0 hP fun _ => ?_ | refine dapp_pure  law08_awake ?_ | refine dapp_pure  (ppats_Pat s (by omega)) ?_ | refine dapp_pure  (ref08_Pat s) ?_ | refine dapp_pure  hJ ?_ | refine dapp_pure  hP ?_); simp only [go_sem, ↓reduceIte, Nat.reduceEqDiff, Nat.reduceAdd, Nat.reduceSub, Nat.reduceMul, Nat.reduceLT, Nat.reduceLeDiff, reduceCtorEq, Int.reduceToNat]))
    · repeat' (first | refine vi_seq ?_ | refine vi_block ?_ | refine vi_scope ?_ | ((first | refine vi_reg ?_ | refine vi_regE (by rfl) ?_ | refine vi_regD ?_ | refine vi_label ?_ | refine vi_goto ?_ | refine vi_ret ?_ | refine vi_exit ?_ | refine vi_skip ?_); simp (disch := first | omega | (simp only [List.length_set, List.length_append, List.length_cons, List.length_nil]; done) | (simp only [List.length_set, List.length_append, List.length_cons, List.length_nil]; omega)) only [hsi, he, Int.reduceEq, decide_true, ne_eq, not_true_eq_false, go_sem, ↓reduceIte, Nat.reduceEqDiff, Nat.reduceAdd, Nat.reduceSub, Nat.reduceMul, Nat.reduceLT, Nat.reduceLeDiff, reduceCtorEq, Int.reduceToNat]) | ((first | refine gd_caseb ?_ ?_ | refine cnd_caseb ?_ ?_) <;> intro hc <;> simp only [hc, go_sem, ↓reduceIte, Nat.reduceEqDiff, Nat.reduceAdd, Nat.reduceSub, Nat.reduceMul, Nat.reduceLT, Nat.reduceLeDiff, reduceCtorEq, Int.reduceToNat] <;> (try simp only [bool_not_true, bool_not_false, decide_eq_true_eq, decide_eq_false_iff_not, Bool.and_eq_true] at hc)) | (refine vi_cond ?_; simp (disch := first | omega | (simp only [List.length_set, List.length_append, List.length_cons, List.length_nil]; done) | (simp only [List.length_set, List.length_append, List.length_cons, List.length_nil]; omega)) only [hsi, he, Int.reduceEq, decide_true, ne_eq, not_true_eq_false, go_sem, ↓reduceIte, Nat.reduceEqDiff, Nat.reduceAdd, Nat.reduceSub, Nat.reduceMul, Nat.reduceLT, Nat.reduceLeDiff, reduceCtorEq, Int.reduceToNat]) | refine And.intro (by first | assumption | omega | (have := len_pos (by assumption); omega) | (unfold capOK; omega)) ?_ | (simp (disch := omega) only [encs_getN]; (try simp only [go_sem, ↓reduceIte, Nat.reduceEqDiff, Nat.reduceAdd, Nat.reduceSub, Nat.reduceMul, Nat.reduceLT, Nat.reduceLeDiff, reduceCtorEq, Int.reduceToNat])) | (simp (disch := omega) only [wrapS]; (try simp only [go_sem, ↓reduceIte, Nat.reduceEqDiff, Nat.reduceAdd, Nat.reduceSub, Nat.reduceMul, Nat.reduceLT, Nat.reduceLeDiff, reduceCtorEq, Int.reduceToNat])) | ((first | refine vapp_pure0 law08_awake fun _ => ?_ | refine vapp_pure0 (ppats_Pat s (by omega)) fun _ => ?_ | refine vapp_pure0 (ref08_Pat s) fun _ => ?_ | refine vapp_pure0 hJ fun _ => ?_ | refine dapp_pure  law08_awake ?_ | refine dapp_pure  (ppats_Pat s (by omega)) ?_ | refine dapp_pure  (ref08_Pat s) ?_ | refine dapp_pure  hJ ?_); simp only [go_sem, ↓reduceIte, Nat.reduceEqDiff, Nat.reduceAdd, Nat.reduceSub, Nat.reduceMul, Nat.reduceLT, Nat.reduceLeDiff, reduceCtorEq, Int.reduceToNat]))
      all_goals exact absurd (by assumption) he
  · have hsi : (3000 : Int) < s.length := by omega
    repeat' (first | refine vi_seq ?_ | refine vi_block ?_ | refine vi_scope ?_ | ((first | refine vi_reg ?_ | refine vi_regE (by rfl) ?_ | refine vi_regD ?_ | refine vi_label ?_ | refine vi_goto ?_ | refine vi_ret ?_ | refine vi_exit ?_ | refine vi_skip ?_); simp (disch := first | omega | (simp only [List.length_set, List.length_append, List.length_cons, List.length_nil]; done) | (simp only [List.length_set, List.length_append, List.length_cons, List.length_nil]; omega)) only [hsi, go_sem, ↓reduceIte, Nat.reduceEqDiff, Nat.reduceAdd, Nat.reduceSub, Nat.reduceMul, Nat.reduceLT, Nat.reduceLeDiff, reduceCtorEq, Int.reduceToNat]) | ((first | refine gd_caseb ?_ ?_ | refine cnd_caseb ?_ ?_) <;> intro hc <;> simp only [hc, go_sem, ↓reduceIte, Nat.reduceEqDiff, Nat.reduceAdd, Nat.reduceSub, Nat.reduceMul, Nat.reduceLT, Nat.reduceLeDiff, reduceCtorEq, Int.reduceToNat] <;> (try simp only [bool_not_true, bool_not_false, decide_eq_true_eq, decide_eq_false_iff_not, Bool.and_eq_true] at hc)) | (refine vi_cond ?_; simp (disch := first | omega | (simp only [List.length_set, List.length_append, List.length_cons, List.length_nil]; done) | (simp only [List.length_set, List.length_append, List.length_cons, List.length_nil]; omega)) only [hsi, go_sem, ↓reduceIte, Nat.reduceEqDiff, Nat.reduceAdd, Nat.reduceSub, Nat.reduceMul, Nat.reduceLT, Nat.reduceLeDiff, reduceCtorEq, Int.reduceToNat]) | refine And.intro (by first | assumption | omega | (have := len_pos (by assumption); omega) | (unfold capOK; omega)) ?_ | (simp (disch := omega) only [encs_getN]; (try simp only [go_sem, ↓reduceIte, Nat.reduceEqDiff, Nat.reduceAdd, Nat.reduceSub, Nat.reduceMul, Nat.reduceLT, Nat.reduceLeDiff, reduceCtorEq, Int.reduceToNat])) | (simp (disch := omega) only [wrapS]; (try simp only [go_sem, ↓reduceIte, Nat.reduceEqDiff, Nat.reduceAdd, Nat.reduceSub, Nat.reduceMul, Nat.reduceLT, Nat.reduceLeDiff, reduceCtorEq, Int.reduceToNat])) | ((first | refine vapp_pure0 law08_awake fun _ => ?_ | refine dapp_pure  law08_awake ?_); simp only [go_sem, ↓reduceIte, Nat.reduceEqDiff, Nat.reduceAdd, Nat.reduceSub, Nat.reduceMul, Nat.reduceLT, Nat.reduceLeDiff, reduceCtorEq, Int.reduceToNat]))
end Go.Proofs.Ytaoiamkloigfhaa
