/- Texts of this proof, joined. -/
import Derived.Test.YtjigahnncojikaaPbb
import Derived.Test.YtjigahnncojikaaPbc

/- types: of a text: the reference; the statements' functions -/
set_option maxRecDepth 4000
namespace Go.Proofs.Ytjigahnncojikaa
open Go Go.RowKit Go.V
set_option linter.unusedVariables false
set_option linter.unusedSimpArgs false

theorem ref07_Whole (c : K) (n : N) : VPure Try.prog 36 [refC c, enc n] (resV (wholeV c n)) := by
  refine vpure_of c0b (by simp) (by simp only [go_sem]) (by simp only [go_sem]) fun hw => ?_
  repeat' (first | refine vi_seq ?_ | refine vi_block ?_ | refine vi_scope ?_ | ((first | refine vi_reg ?_ | refine vi_regE (by rfl) ?_ | refine vi_regD ?_ | refine vi_label ?_ | refine vi_goto ?_ | refine vi_ret ?_ | refine vi_exit ?_ | refine vi_skip ?_ | refine vi_cond ?_ | refine vapp_pure0 (ref05_Done c) fun _ => ?_ | refine vapp_pure0 (depth12 n) fun _ => ?_ | refine dapp_pure  (ref05_Done c) ?_ | refine dapp_pure  (depth12 n) ?_); simp only [go_sem, ↓reduceIte, Nat.reduceEqDiff, Nat.reduceAdd, Nat.reduceSub, Nat.reduceMul, Nat.reduceLT, Nat.reduceLeDiff, reduceCtorEq, Int.reduceToNat]) | ((first | refine gd_caseb ?_ ?_ | refine cnd_caseb ?_ ?_) <;> intro hc <;> simp only [hc, go_sem, ↓reduceIte, Nat.reduceEqDiff, Nat.reduceAdd, Nat.reduceSub, Nat.reduceMul, Nat.reduceLT, Nat.reduceLeDiff, reduceCtorEq, Int.reduceToNat] <;> (try simp only [bool_not_true, bool_not_false, decide_eq_true_eq, decide_eq_false_iff_not, Bool.and_eq_true] at hc)) | refine And.intro (by first | assumption | omega | (have := len_pos (by assumption); omega) | (unfold capOK; omega)) ?_ | ((first | simp (disch := omega) only [encs_getN] | simp (disch := omega) only [wrapS]); (try simp only [go_sem, ↓reduceIte, Nat.reduceEqDiff, Nat.reduceAdd, Nat.reduceSub, Nat.reduceMul, Nat.reduceLT, Nat.reduceLeDiff, reduceCtorEq, Int.reduceToNat])))
  all_goals (try rw [enc_z])
  all_goals unfold wholeV
  all_goals (repeat' split)
  all_goals first | omega | rfl | simp_all [go_sem]
theorem just_self : ∀ n, justW n n = true := N.ind fun n ih => by
  rw [justW_eq]
  have key : ∀ l : List N, (∀ x ∈ l, justW x x = true) → justsW l l = true := by
    intro l
    induction l with
    | nil => intro _; rw [justsW]
    | cons x r ihr => intro h; rw [justsW, h x (by simp), ihr fun y hy => h y (by simp [hy])]; rfl
  simp [key n.kids ih]
def tn1 : N := .mk 2 0 0 [45, 62] [.mk 1 0 0 [97] [], .mk 2 5 0 [84] [.mk 1 7 0 [98] []]]
def tn2 : N := .mk 4 0 0 [] [.mk 3 1 0 [67] [.mk 1 3 0 [97] []], .mk 3 6 0 [68] [.mk 1 8 0 [98] []], .mk 1 14 0 [97] []]
theorem awT1 : VPure Try.prog 9 [.str [97, 32, 45, 62, 32, 84, 32, 98]] (.tup [enc tn1, .int .i64 0, .int .i64 0]) := vp_eq (ptypes_Type _ (by decide)) (by rw [show textV (typRd false) [97, 32, 45, 62, 32, 84, 32, 98] = (tn1, 0, 0) by kernel_rfl]; rfl)
theorem awT2 : VPure Try.prog 12 [.str [40, 67, 32, 97, 44, 32, 68, 32, 98, 41, 32, 61, 62, 32, 97]] (.tup [enc tn2, .int .i64 0, .int .i64 0]) := vp_eq (ptypes_Qual _ (by decide)) (by rw [show textV (typRd true) [40, 67, 32, 97, 44, 32, 68, 32, 98, 41, 32, 61, 62, 32, 97] = (tn2, 0, 0) by kernel_rfl]; rfl)
theorem awT3 : VPure Try.prog 9 [.str [97, 32, 45, 62]] (.tup [enc N0, .int .i64 4, .int .i64 5]) := vp_eq (ptypes_Type _ (by decide)) (by rw [show textV (typRd false) [97, 32, 45, 62] = (N0, 4, 5) by kernel_rfl]; rfl)
theorem awT4 : VPure Try.prog 9 [.str [97, 32, 41]] (.tup [enc N0, .int .i64 2, .int .i64 5]) := vp_eq (ptypes_Type _ (by decide)) (by rw [show textV (typRd false) [97, 32, 41] = (N0, 2, 5) by kernel_rfl]; rfl)
theorem tn1_text : tn1.text = [45, 62] := rfl
theorem tn1_pos : tn1.pos = 0 := rfl
theorem tn1_len : tn1.kids.length = 2 := rfl
theorem tn1_get : (encs tn1.kids).getD 1 .junk = .agg [.int .i64 2, .int .i64 5, .int .i64 0, .str [84], .sl 5 [.agg [.int .i64 1, .int .i64 7, .int .i64 0, .str [98], .sl 5 []]]] := rfl
theorem tn2_len : tn2.kids.length = 3 := rfl
theorem tn2_get : (encs tn2.kids).getD 1 .junk = .agg [.int .i64 3, .int .i64 6, .int .i64 0, .str [68], .sl 5 [.agg [.int .i64 1, .int .i64 8, .int .i64 0, .str [98], .sl 5 []]]] := rfl
attribute [go_sem] tn1_text tn1_pos tn1_len tn1_get tn2_len tn2_get
theorem law07_awake : VPure Try.prog 8 [] (.bool true) := by
  refine vpure_of c0c (by simp) (by simp only [go_sem]) rfl fun hw => ?_
  repeat' (first | refine vi_seq ?_ | refine vi_block ?_ | refine vi_scope ?_ | ((first | refine vi_reg ?_ | refine vi_regE (by rfl) ?_ | refine vi_regD ?_ | refine vi_label ?_ | refine vi_goto ?_ | refine vi_ret ?_ | refine vi_exit ?_ | refine vi_skip ?_ | refine vi_cond ?_); simp (disch := first | omega | (simp only [List.length_set, List.length_append, List.length_cons, List.length_nil]; done) | (simp only [List.length_set, List.length_append, List.length_cons, List.length_nil]; omega)) only [Int.reduceLT, Int.reduceLE, Int.reduceEq, decide_true, ne_eq, not_true_eq_false, go_sem, ↓reduceIte, Nat.reduceEqDiff, Nat.reduceAdd, Nat.reduceSub, Nat.reduceMul, Nat.reduceLT, Nat.reduceLeDiff, reduceCtorEq, Int.reduceToNat]) | ((first | refine gd_caseb ?_ ?_ | refine cnd_caseb ?_ ?_) <;> intro hc <;> simp only [hc, go_sem, ↓reduceIte, Nat.reduceEqDiff, Nat.reduceAdd, Nat.reduceSub, Nat.reduceMul, Nat.reduceLT, Nat.reduceLeDiff, reduceCtorEq, Int.reduceToNat] <;> (try simp only [bool_not_true, bool_not_false, decide_eq_true_eq, decide_eq_false_iff_not, Bool.and_eq_true] at hc)) | refine And.intro (by first | assumption | omega | (have := len_pos (by assumption); omega) | (unfold capOK; omega)) ?_ | ((first | simp (disch := omega) only [encs_getN] | simp (disch := omega) only [wrapS]); (try simp only [go_sem, ↓reduceIte, Nat.reduceEqDiff, Nat.reduceAdd, Nat.reduceSub, Nat.reduceMul, Nat.reduceLT, Nat.reduceLeDiff, reduceCtorEq, Int.reduceToNat])) | ((first | refine vapp_pure0 awT1 fun _ => ?_ | refine vapp_pure0 awT2 fun _ => ?_ | refine vapp_pure0 awT3 fun _ => ?_ | refine vapp_pure0 awT4 fun _ => ?_ | refine dapp_pure  awT1 ?_ | refine dapp_pure  awT2 ?_ | refine dapp_pure  awT3 ?_ | refine dapp_pure  awT4 ?_); simp only [go_sem, ↓reduceIte, Nat.reduceEqDiff, Nat.reduceAdd, Nat.reduceSub, Nat.reduceMul, Nat.reduceLT, Nat.reduceLeDiff, reduceCtorEq, Int.reduceToNat]))
  all_goals first | exact absurd rfl (by assumption)
end Go.Proofs.Ytjigahnncojikaa

/- types: of any words: what is read tells that nothing failed -/
namespace Go.Proofs.Ytjigahnncojikaa
open Go Go.RowKit Go.V
set_option linter.unusedVariables false
set_option linter.unusedSimpArgs false

theorem next_good {c : K} (h : c.err = 0) : (nextK c).err = 0 := by
  unfold nextK
  repeat' split
  all_goals exact h
theorem leave_good {c : K} (h : c.err = 0) : (leaveK c).err = 0 := by
  unfold leaveK
  repeat' split
  all_goals exact h
theorem want_good {c : K} {x : List UInt8} (h : (wantK c x).2 = true) : (wantK c x).1.err = 0 := by
  unfold wantK at h ⊢
  split at h
  · rename_i h1
    rw [if_pos h1]
    exact next_good (isK_err h1)
  · cases h
/-- What is read: nothing failed. -/
def Fine {α : Type} (p : K × Option α) : Prop := p.2.isSome = true → p.1.err = 0
section
variable {rec : K → K × Option N} (ih : ∀ c, Fine (rec c))
include ih
omit ih in
theorem fine_tAtom (c : K) : Fine (typAtom rec c) := by
  intro h
  unfold typAtom at h ⊢
  split at h
  · rename_i h1
    rw [if_pos h1]
    exact next_good (peek_there (by omega)).1
  · rename_i h1
    rw [if_neg h1]
    split at h
    · rename_i h2
      rw [if_pos h2]
      exact next_good (peek_there (by omega)).1
    · rename_i h2
      rw [if_neg h2]
      split at h
      · rename_i h3
        rw [if_pos h3]
        split at h
        · rename_i h4
          rw [if_pos h4]
          split at h
          · rename_i h5
            rw [if_pos h5]
            simp only at h ⊢
            split at h
            · rename_i h6; exact leave_good (want_good h6)
            · cases h
          · cases h
        · cases h
      · cases h
omit ih in
theorem fine_tKids : ∀ (f : Nat) (c : K) (acc : List N), c.err = 0 → Fine (typKids rec f c acc)
  | 0, c, acc => fun _ h => by cases h
  | f + 1, c, acc => fun h0 h => by
    rw [typKids] at h ⊢
    split at h
    · rename_i h1
      rw [if_pos h1]
      split at h
      · rename_i h2
        rw [if_pos h2]
        exact fine_tKids f _ _ (fine_tAtom c h2) h
      · cases h
    · rename_i h1
      rw [if_neg h1]
      exact h0
omit ih in
theorem fine_tRow (c : K) : Fine (typRow rec c) := by
  intro h
  unfold typRow at h ⊢
  split at h
  · rename_i h1
    rw [if_pos h1]
    exact fine_tKids _ _ _ (next_good (peek_there (by omega)).1) (by simpa using h)
  · rename_i h1
    rw [if_neg h1]
    exact fine_tAtom c h
omit ih in
theorem fine_predsE {many : Bool} {r : K × Option (List N)} : Fine (predsE many r) := by
  intro h
  unfold predsE at h ⊢
  split at h
  · rename_i h1
    rw [if_pos h1]
    split at h
    · rename_i h2
      rw [if_pos h2]
      split at h
      · rename_i h3
        rw [if_pos h3]
        simp only at h ⊢
        split at h
        · rename_i h4; exact want_good h4
        · cases h
      · cases h
    · rename_i h2
      rw [if_neg h2]
      simp only at h ⊢
      split at h
      · rename_i h4; exact want_good h4
      · cases h
  · cases h
omit ih in
theorem fine_tPreds (c : K) : Fine (typPreds rec c) := by
  intro h
  unfold typPreds at h ⊢
  split at h
  · rename_i h1
    rw [if_pos h1]
    exact fine_predsE h
  · rename_i h1
    rw [if_neg h1]
    simp only at h ⊢
    split at h
    · cases h
    · rename_i h2
      by_cases he : c.err = 0
      · exact he
      · refine absurd ?_ h2
        unfold failT
        rw [doneK_err he, peekK_err he]
        simp [he, T0]
end
theorem fine_tAt : ∀ (f : Nat) (c : K), Fine (typAt f c)
  | 0, c => fun h => by cases h
  | f + 1, c => fun h => by
    have ih := fine_tAt f
    rw [typAt] at h ⊢
    split at h
    · rename_i h1
      rw [if_pos h1]
      split at h
      · rename_i h2
        rw [if_pos h2]
        split at h
        · rename_i h3
          rw [if_pos h3]
          exact leave_good (ih _ (by simpa using h))
        · rename_i h3
          rw [if_neg h3]
          exact leave_good (fine_tRow _ h2)
      · cases h
    · cases h
theorem fine_tQual (f : Nat) (c : K) : Fine (typQual f c) := by
  intro h
  unfold typQual at h ⊢
  split at h
  · rename_i h1
    rw [if_pos h1]
    exact fine_tAt f _ (by simpa using h)
  · cases h
end Go.Proofs.Ytjigahnncojikaa

/- types: of any words: the statement's function -/
set_option maxRecDepth 4000
namespace Go.Proofs.Ytjigahnncojikaa
open Go Go.RowKit Go.V
set_option linter.unusedVariables false
set_option linter.unusedSimpArgs false

theorem d_Peek {c : K} {L : List Ent} {Kk : Bool → AV → Prop} (h : Kk true (encT (peekK c))) : DApp Try.prog (curE c :: L) (.fn 26 [] []) [.ptr 0 0] Kk :=
  .inl ⟨_, vmeth_app (cur_Peek c) (curE_bd _ _) (curE_bd _ _) rfl rfl fun _ => ⟨rfl, rfl⟩, h⟩
theorem u64_mod (w : Int) : (IntKind.u64.wrap w).tmod 4 = 0 ∨ (IntKind.u64.wrap w).tmod 4 = 1 ∨ (IntKind.u64.wrap w).tmod 4 = 2 ∨ (IntKind.u64.wrap w).tmod 4 = 3 := by
  have h : 0 ≤ IntKind.u64.wrap w := by
    simp [IntKind.wrap, IntKind.signed, IntKind.bits]
    omega
  rw [Int.tmod_eq_emod_of_nonneg h]
  omega
theorem law07_parts0 (l : List T) (w : Int) (hs : l.length ≤ 500) (hU : (IntKind.u64.wrap w).tmod 4 = 0) : VPure Try.prog 5 [.sl 4 (encTs l), .int .i64 w] (.bool true) := by
  refine vpure_of c0a (by simp) (by simp only [go_sem]) rfl fun hw => ?_
  have hsi : ¬ (500 : Int) < l.length := by omega
  have g : (newK l).good := newK_good (by omega)
  have hem := em_le (newK l)
  obtain ⟨f, hfd⟩ : ∃ f, f = rest (newK l) + 2 := ⟨_, rfl⟩
  have hx : ∀ c : K, c.err ≠ 0 → (refTAt f c).1 = c := fun c h => by rw [refTAt_err f h]
  have hJ0 : VPure Try.prog 11 [enc N0, enc N0] (.bool true) := vp_eq (ref06_Just _ _) (by rw [just_self])
  have hnw := newK_cur l (by omega)
  have hnr := ref05_New l
  have hks : ∀ t ∈ (newK l).l, t.kind ≠ 0 := fun t ht => ahead_kinds ht
  have hj : ∀ n : N, VPure Try.prog 11 [enc n, enc n] (.bool true) := fun n => vp_eq (ref06_Just _ _) (by rw [just_self])
  have hjr : ∀ n : List N, VPure Try.prog 11 [.agg [.int .i64 0, .int .i64 0, .int .i64 0, .str [], .sl 5 (encs n)], .agg [.int .i64 0, .int .i64 0, .int .i64 0, .str [], .sl 5 (encs n)]] (.bool true) := fun n => by
    have h := hj (.mk 0 0 0 [] n)
    simpa only [enc] using h
  generalize newK l = c at *
  have hP := typ_AtomAt (mon_typAt f) (typ_At f) c g (by omega)
  have hR := ref07_Atom (mon_refTAt f) (ref07_At f) c g (by omega)
  have hal := alike_tAtom hx (alike_tAt f) (c := c) (by omega)
  have hfi := fine_tAtom (rec := typAt f) c
  have hgd := (mon_typAtom (mon_typAt f) c).1 g
  generalize typAtom (typAt f) c = p at *
  generalize refTAtom (refTAt f) c = r at *
  obtain ⟨d, o⟩ := p
  obtain ⟨d', m⟩ := r
  obtain ⟨a1, a2, a3⟩ := hal
  simp only at a1 a2 a3
  subst a1
  cases o with
  | none =>
    have h3 : ¬ d.err = 0 := a3 rfl
    repeat' (first | refine vi_seq ?_ | refine vi_block ?_ | refine vi_scope ?_ | ((first | refine vi_reg ?_ | refine vi_regE (by rfl) ?_ | refine vi_regD ?_ | refine vi_label ?_ | refine vi_goto ?_ | refine vi_ret ?_ | refine vi_exit ?_ | refine vi_skip ?_ | refine vi_cond ?_); simp (disch := first | omega | (simp only [List.length_set, List.length_append, List.length_cons, List.length_nil]; done) | (simp only [List.length_set, List.length_append, List.length_cons, List.length_nil]; omega)) only [hsi, hU, h3, Option.isSome_none, Option.isSome_some, beq_self_eq_true, Bool.false_beq, Bool.true_beq, Option.getD_none, Option.getD_some, Bool.not_false, Bool.not_true, Int.reduceEq, decide_true, decide_false, ne_eq, not_true_eq_false, not_false_eq_true, Bool.false_eq_true, go_sem, ↓reduceIte, Nat.reduceEqDiff, Nat.reduceAdd, Nat.reduceSub, Nat.reduceMul, Nat.reduceLT, Nat.reduceLeDiff, reduceCtorEq, Int.reduceToNat]) | ((first | refine gd_caseb ?_ ?_ | refine cnd_caseb ?_ ?_) <;> intro hc <;> simp only [hc, go_sem, ↓reduceIte, Nat.reduceEqDiff, Nat.reduceAdd, Nat.reduceSub, Nat.reduceMul, Nat.reduceLT, Nat.reduceLeDiff, reduceCtorEq, Int.reduceToNat] <;> (try simp only [bool_not_true, bool_not_false, decide_eq_true_eq, decide_eq_false_iff_not, Bool.and_eq_true] at hc)) | refine And.intro (by first | assumption | omega | (have := len_pos (by assumption); omega) | (unfold capOK; omega)) ?_ | ((first | simp (disch := omega) only [encs_getN] | simp (disch := omega) only [wrapS]); (try simp only [go_sem, ↓reduceIte, Nat.reduceEqDiff, Nat.reduceAdd, Nat.reduceSub, Nat.reduceMul, Nat.reduceLT, Nat.reduceLeDiff, reduceCtorEq, Int.reduceToNat])) | ((first | refine vapp_pure0 law07_awake fun _ => ?_ | refine vnew_app hnw (curE_bd _ _) (by simp only [go_sem]) ?_ | refine vapp_pure0 hnr fun _ => ?_ | refine m_app hP rfl ?_ | refine vapp_pure0 hR fun _ => ?_ | refine a_Done hgd.ok ?_ | refine vapp_pure0 (ref05_Done d) fun _ => ?_ | refine d_Peek ?_ | refine vapp_pure0 (ref05_Peek d) fun _ => ?_ | refine dapp_pure  law07_awake ?_ | refine dapp_pure  hnr ?_ | refine dapp_pure  hR ?_ | refine dapp_pure  (ref05_Done d) ?_ | refine dapp_pure  (ref05_Peek d) ?_); simp only [go_sem, ↓reduceIte, Nat.reduceEqDiff, Nat.reduceAdd, Nat.reduceSub, Nat.reduceMul, Nat.reduceLT, Nat.reduceLeDiff, reduceCtorEq, Int.reduceToNat]))
    simp only [encT]
    (simp (disch := first | omega | (simp only [List.length_set, List.length_append, List.length_cons, List.length_nil]; done) | (simp only [List.length_set, List.length_append, List.length_cons, List.length_nil]; omega)) only [hsi, hU, h3, Option.isSome_none, Option.isSome_some, beq_self_eq_true, Bool.false_beq, Bool.true_beq, Option.getD_none, Option.getD_some, Bool.not_false, Bool.not_true, Int.reduceEq, decide_true, decide_false, ne_eq, not_true_eq_false, not_false_eq_true, Bool.false_eq_true, go_sem, ↓reduceIte, Nat.reduceEqDiff, Nat.reduceAdd, Nat.reduceSub, Nat.reduceMul, Nat.reduceLT, Nat.reduceLeDiff, reduceCtorEq, Int.reduceToNat])
    repeat' (first | refine vi_seq ?_ | refine vi_block ?_ | refine vi_scope ?_ | ((first | refine vi_reg ?_ | refine vi_regE (by rfl) ?_ | refine vi_regD ?_ | refine vi_label ?_ | refine vi_goto ?_ | refine vi_ret ?_ | refine vi_exit ?_ | refine vi_skip ?_ | refine vi_cond ?_); simp (disch := first | omega | (simp only [List.length_set, List.length_append, List.length_cons, List.length_nil]; done) | (simp only [List.length_set, List.length_append, List.length_cons, List.length_nil]; omega)) only [hsi, hU, h3, Option.isSome_none, Option.isSome_some, beq_self_eq_true, Bool.false_beq, Bool.true_beq, Option.getD_none, Option.getD_some, Bool.not_false, Bool.not_true, Int.reduceEq, decide_true, decide_false, ne_eq, not_true_eq_false, not_false_eq_true, Bool.false_eq_true, go_sem, ↓reduceIte, Nat.reduceEqDiff, Nat.reduceAdd, Nat.reduceSub, Nat.reduceMul, Nat.reduceLT, Nat.reduceLeDiff, reduceCtorEq, Int.reduceToNat]) | ((first | refine gd_caseb ?_ ?_ | refine cnd_caseb ?_ ?_) <;> intro hc <;> simp only [hc, go_sem, ↓reduceIte, Nat.reduceEqDiff, Nat.reduceAdd, Nat.reduceSub, Nat.reduceMul, Nat.reduceLT, Nat.reduceLeDiff, reduceCtorEq, Int.reduceToNat] <;> (try simp only [bool_not_true, bool_not_false, decide_eq_true_eq, decide_eq_false_iff_not, Bool.and_eq_true] at hc)) | refine And.intro (by first | assumption | omega | (have := len_pos (by assumption); omega) | (unfold capOK; omega)) ?_ | ((first | simp (disch := omega) only [encs_getN] | simp (disch := omega) only [wrapS]); (try simp only [go_sem, ↓reduceIte, Nat.reduceEqDiff, Nat.reduceAdd, Nat.reduceSub, Nat.reduceMul, Nat.reduceLT, Nat.reduceLeDiff, reduceCtorEq, Int.reduceToNat])) | ((first | refine vapp_pure0 law07_awake fun _ => ?_ | refine vapp_pure0 hJ0 fun _ => ?_ | refine dapp_pure  law07_awake ?_ | refine dapp_pure  hJ0 ?_); simp only [go_sem, ↓reduceIte, Nat.reduceEqDiff, Nat.reduceAdd, Nat.reduceSub, Nat.reduceMul, Nat.reduceLT, Nat.reduceLeDiff, reduceCtorEq, Int.reduceToNat]))
  | some n =>
    obtain rfl : n = m := a2 n rfl
    have h3 : (d.err = 0) = True := eq_true (hfi rfl)
    repeat' (first | refine vi_seq ?_ | refine vi_block ?_ | refine vi_scope ?_ | ((first | refine vi_reg ?_ | refine vi_regE (by rfl) ?_ | refine vi_regD ?_ | refine vi_label ?_ | refine vi_goto ?_ | refine vi_ret ?_ | refine vi_exit ?_ | refine vi_skip ?_ | refine vi_cond ?_); simp (disch := first | omega | (simp only [List.length_set, List.length_append, List.length_cons, List.length_nil]; done) | (simp only [List.length_set, List.length_append, List.length_cons, List.length_nil]; omega)) only [hsi, hU, h3, Option.isSome_none, Option.isSome_some, beq_self_eq_true, Bool.false_beq, Bool.true_beq, Option.getD_none, Option.getD_some, Bool.not_false, Bool.not_true, Int.reduceEq, decide_true, decide_false, ne_eq, not_true_eq_false, not_false_eq_true, Bool.false_eq_true, go_sem, ↓reduceIte, Nat.reduceEqDiff, Nat.reduceAdd, Nat.reduceSub, Nat.reduceMul, Nat.reduceLT, Nat.reduceLeDiff, reduceCtorEq, Int.reduceToNat]) | ((first | refine gd_caseb ?_ ?_ | refine cnd_caseb ?_ ?_) <;> intro hc <;> simp only [hc, go_sem, ↓reduceIte, Nat.reduceEqDiff, Nat.reduceAdd, Nat.reduceSub, Nat.reduceMul, Nat.reduceLT, Nat.reduceLeDiff, reduceCtorEq, Int.reduceToNat] <;> (try simp only [bool_not_true, bool_not_false, decide_eq_true_eq, decide_eq_false_iff_not, Bool.and_eq_true] at hc)) | refine And.intro (by first | assumption | omega | (have := len_pos (by assumption); omega) | (unfold capOK; omega)) ?_ | ((first | simp (disch := omega) only [encs_getN] | simp (disch := omega) only [wrapS]); (try simp only [go_sem, ↓reduceIte, Nat.reduceEqDiff, Nat.reduceAdd, Nat.reduceSub, Nat.reduceMul, Nat.reduceLT, Nat.reduceLeDiff, reduceCtorEq, Int.reduceToNat])) | ((first | refine vapp_pure0 law07_awake fun _ => ?_ | refine vnew_app hnw (curE_bd _ _) (by simp only [go_sem]) ?_ | refine vapp_pure0 hnr fun _ => ?_ | refine m_app hP rfl ?_ | refine vapp_pure0 hR fun _ => ?_ | refine a_Done hgd.ok ?_ | refine vapp_pure0 (ref05_Done d) fun _ => ?_ | refine d_Peek ?_ | refine vapp_pure0 (ref05_Peek d) fun _ => ?_ | refine dapp_pure  law07_awake ?_ | refine dapp_pure  hnr ?_ | refine dapp_pure  hR ?_ | refine dapp_pure  (ref05_Done d) ?_ | refine dapp_pure  (ref05_Peek d) ?_); simp only [go_sem, ↓reduceIte, Nat.reduceEqDiff, Nat.reduceAdd, Nat.reduceSub, Nat.reduceMul, Nat.reduceLT, Nat.reduceLeDiff, reduceCtorEq, Int.reduceToNat]))
    simp only [encT]
    (simp (disch := first | omega | (simp only [List.length_set, List.length_append, List.length_cons, List.length_nil]; done) | (simp only [List.length_set, List.length_append, List.length_cons, List.length_nil]; omega)) only [hsi, hU, h3, Option.isSome_none, Option.isSome_some, beq_self_eq_true, Bool.false_beq, Bool.true_beq, Option.getD_none, Option.getD_some, Bool.not_false, Bool.not_true, Int.reduceEq, decide_true, decide_false, ne_eq, not_true_eq_false, not_false_eq_true, Bool.false_eq_true, go_sem, ↓reduceIte, Nat.reduceEqDiff, Nat.reduceAdd, Nat.reduceSub, Nat.reduceMul, Nat.reduceLT, Nat.reduceLeDiff, reduceCtorEq, Int.reduceToNat])
    repeat' (first | refine vi_seq ?_ | refine vi_block ?_ | refine vi_scope ?_ | ((first | refine vi_reg ?_ | refine vi_regE (by rfl) ?_ | refine vi_regD ?_ | refine vi_label ?_ | refine vi_goto ?_ | refine vi_ret ?_ | refine vi_exit ?_ | refine vi_skip ?_ | refine vi_cond ?_); simp (disch := first | omega | (simp only [List.length_set, List.length_append, List.length_cons, List.length_nil]; done) | (simp only [List.length_set, List.length_append, List.length_cons, List.length_nil]; omega)) only [hsi, hU, h3, Option.isSome_none, Option.isSome_some, beq_self_eq_true, Bool.false_beq, Bool.true_beq, Option.getD_none, Option.getD_some, Bool.not_false, Bool.not_true, Int.reduceEq, decide_true, decide_false, ne_eq, not_true_eq_false, not_false_eq_true, Bool.false_eq_true, go_sem, ↓reduceIte, Nat.reduceEqDiff, Nat.reduceAdd, Nat.reduceSub, Nat.reduceMul, Nat.reduceLT, Nat.reduceLeDiff, reduceCtorEq, Int.reduceToNat]) | ((first | refine gd_caseb ?_ ?_ | refine cnd_caseb ?_ ?_) <;> intro hc <;> simp only [hc, go_sem, ↓reduceIte, Nat.reduceEqDiff, Nat.reduceAdd, Nat.reduceSub, Nat.reduceMul, Nat.reduceLT, Nat.reduceLeDiff, reduceCtorEq, Int.reduceToNat] <;> (try simp only [bool_not_true, bool_not_false, decide_eq_true_eq, decide_eq_false_iff_not, Bool.and_eq_true] at hc)) | refine And.intro (by first | assumption | omega | (have := len_pos (by assumption); omega) | (unfold capOK; omega)) ?_ | ((first | simp (disch := omega) only [encs_getN] | simp (disch := omega) only [wrapS]); (try simp only [go_sem, ↓reduceIte, Nat.reduceEqDiff, Nat.reduceAdd, Nat.reduceSub, Nat.reduceMul, Nat.reduceLT, Nat.reduceLeDiff, reduceCtorEq, Int.reduceToNat])) | ((first | refine vapp_pure0 law07_awake fun _ => ?_ | refine vapp_pure0 hJ0 fun _ => ?_ | refine vapp_pure0 (hj n) fun _ => ?_ | refine dapp_pure  law07_awake ?_ | refine dapp_pure  hJ0 ?_ | refine dapp_pure  (hj n) ?_); simp only [go_sem, ↓reduceIte, Nat.reduceEqDiff, Nat.reduceAdd, Nat.reduceSub, Nat.reduceMul, Nat.reduceLT, Nat.reduceLeDiff, reduceCtorEq, Int.reduceToNat]))
theorem law07_parts1 (l : List T) (w : Int) (hs : l.length ≤ 500) (hU : (IntKind.u64.wrap w).tmod 4 = 1) : VPure Try.prog 5 [.sl 4 (encTs l), .int .i64 w] (.bool true) := by
  refine vpure_of c0a (by simp) (by simp only [go_sem]) rfl fun hw => ?_
  have hsi : ¬ (500 : Int) < l.length := by omega
  have g : (newK l).good := newK_good (by omega)
  have hem := em_le (newK l)
  obtain ⟨f, hfd⟩ : ∃ f, f = rest (newK l) + 2 := ⟨_, rfl⟩
  have hx : ∀ c : K, c.err ≠ 0 → (refTAt f c).1 = c := fun c h => by rw [refTAt_err f h]
  have hJ0 : VPure Try.prog 11 [enc N0, enc N0] (.bool true) := vp_eq (ref06_Just _ _) (by rw [just_self])
  have hnw := newK_cur l (by omega)
  have hnr := ref05_New l
  have hks : ∀ t ∈ (newK l).l, t.kind ≠ 0 := fun t ht => ahead_kinds ht
  have hj : ∀ n : N, VPure Try.prog 11 [enc n, enc n] (.bool true) := fun n => vp_eq (ref06_Just _ _) (by rw [just_self])
  have hjr : ∀ n : List N, VPure Try.prog 11 [.agg [.int .i64 0, .int .i64 0, .int .i64 0, .str [], .sl 5 (encs n)], .agg [.int .i64 0, .int .i64 0, .int .i64 0, .str [], .sl 5 (encs n)]] (.bool true) := fun n => by
    have h := hj (.mk 0 0 0 [] n)
    simpa only [enc] using h
  generalize newK l = c at *
  have hP := typ_PredsAt (mon_typAt f) (typ_At f) c g (by omega)
  have hR := ref07_Preds (mon_refTAt f) (ref07_At f) c g (by omega)
  have hal := alike_preds hx (alike_tAt f) (mon_typAt f) (mon_refTAt f) (c := c) hks (by omega)
  have hfi := fine_tPreds (rec := typAt f) c
  have hgd := (mon_typPreds (mon_typAt f) c).1 g
  have hp0 := @preds_app0 (typAt f) c hP
  have hp1 := @preds_app1 (typAt f) c hP
  clear hP
  generalize typPreds (typAt f) c = p at *
  generalize refPreds (refTAt f) c = r at *
  obtain ⟨d, o⟩ := p
  obtain ⟨d', m⟩ := r
  obtain ⟨a1, a2, a3⟩ := hal
  simp only at a1 a2 a3 hp0 hp1 hgd hR
  subst a1
  cases o with
  | none =>
    have h3 : ¬ d.err = 0 := a3 rfl
    repeat' (first | refine vi_seq ?_ | refine vi_block ?_ | refine vi_scope ?_ | ((first | refine vi_reg ?_ | refine vi_regE (by rfl) ?_ | refine vi_regD ?_ | refine vi_label ?_ | refine vi_goto ?_ | refine vi_ret ?_ | refine vi_exit ?_ | refine vi_skip ?_ | refine vi_cond ?_); simp (disch := first | omega | (simp only [List.length_set, List.length_append, List.length_cons, List.length_nil]; done) | (simp only [List.length_set, List.length_append, List.length_cons, List.length_nil]; omega)) only [hsi, hU, h3, Option.isSome_none, Option.isSome_some, beq_self_eq_true, Bool.false_beq, Bool.true_beq, Option.getD_none, Option.getD_some, Bool.not_false, Bool.not_true, Int.reduceEq, decide_true, decide_false, ne_eq, not_true_eq_false, not_false_eq_true, Bool.false_eq_true, go_sem, ↓reduceIte, Nat.reduceEqDiff, Nat.reduceAdd, Nat.reduceSub, Nat.reduceMul, Nat.reduceLT, Nat.reduceLeDiff, reduceCtorEq, Int.reduceToNat]) | ((first | refine gd_caseb ?_ ?_ | refine cnd_caseb ?_ ?_) <;> intro hc <;> simp only [hc, go_sem, ↓reduceIte, Nat.reduceEqDiff, Nat.reduceAdd, Nat.reduceSub, Nat.reduceMul, Nat.reduceLT, Nat.reduceLeDiff, reduceCtorEq, Int.reduceToNat] <;> (try simp only [bool_not_true, bool_not_false, decide_eq_true_eq, decide_eq_false_iff_not, Bool.and_eq_true] at hc)) | refine And.intro (by first | assumption | omega | (have := len_pos (by assumption); omega) | (unfold capOK; omega)) ?_ | ((first | simp (disch := omega) only [encs_getN] | simp (disch := omega) only [wrapS]); (try simp only [go_sem, ↓reduceIte, Nat.reduceEqDiff, Nat.reduceAdd, Nat.reduceSub, Nat.reduceMul, Nat.reduceLT, Nat.reduceLeDiff, reduceCtorEq, Int.reduceToNat])) | ((first | refine vapp_pure0 law07_awake fun _ => ?_ | refine vnew_app hnw (curE_bd _ _) (by simp only [go_sem]) ?_ | refine vapp_pure0 hnr fun _ => ?_ | refine hp0 rfl ?_ | refine vapp_pure0 hR fun _ => ?_ | refine a_Done hgd.ok ?_ | refine vapp_pure0 (ref05_Done d) fun _ => ?_ | refine d_Peek ?_ | refine vapp_pure0 (ref05_Peek d) fun _ => ?_ | refine dapp_pure  law07_awake ?_ | refine dapp_pure  hnr ?_ | refine dapp_pure  hR ?_ | refine dapp_pure  (ref05_Done d) ?_ | refine dapp_pure  (ref05_Peek d) ?_); simp only [go_sem, ↓reduceIte, Nat.reduceEqDiff, Nat.reduceAdd, Nat.reduceSub, Nat.reduceMul, Nat.reduceLT, Nat.reduceLeDiff, reduceCtorEq, Int.reduceToNat]))
    simp only [encT]
    (simp (disch := first | omega | (simp only [List.length_set, List.length_append, List.length_cons, List.length_nil]; done) | (simp only [List.length_set, List.length_append, List.length_cons, List.length_nil]; omega)) only [hsi, hU, h3, Option.isSome_none, Option.isSome_some, beq_self_eq_true, Bool.false_beq, Bool.true_beq, Option.getD_none, Option.getD_some, Bool.not_false, Bool.not_true, Int.reduceEq, decide_true, decide_false, ne_eq, not_true_eq_false, not_false_eq_true, Bool.false_eq_true, go_sem, ↓reduceIte, Nat.reduceEqDiff, Nat.reduceAdd, Nat.reduceSub, Nat.reduceMul, Nat.reduceLT, Nat.reduceLeDiff, reduceCtorEq, Int.reduceToNat])
    repeat' (first | refine vi_seq ?_ | refine vi_block ?_ | refine vi_scope ?_ | ((first | refine vi_reg ?_ | refine vi_regE (by rfl) ?_ | refine vi_regD ?_ | refine vi_label ?_ | refine vi_goto ?_ | refine vi_ret ?_ | refine vi_exit ?_ | refine vi_skip ?_ | refine vi_cond ?_); simp (disch := first | omega | (simp only [List.length_set, List.length_append, List.length_cons, List.length_nil]; done) | (simp only [List.length_set, List.length_append, List.length_cons, List.length_nil]; omega)) only [hsi, hU, h3, Option.isSome_none, Option.isSome_some, beq_self_eq_true, Bool.false_beq, Bool.true_beq, Option.getD_none, Option.getD_some, Bool.not_false, Bool.not_true, Int.reduceEq, decide_true, decide_false, ne_eq, not_true_eq_false, not_false_eq_true, Bool.false_eq_true, go_sem, ↓reduceIte, Nat.reduceEqDiff, Nat.reduceAdd, Nat.reduceSub, Nat.reduceMul, Nat.reduceLT, Nat.reduceLeDiff, reduceCtorEq, Int.reduceToNat]) | ((first | refine gd_caseb ?_ ?_ | refine cnd_caseb ?_ ?_) <;> intro hc <;> simp only [hc, go_sem, ↓reduceIte, Nat.reduceEqDiff, Nat.reduceAdd, Nat.reduceSub, Nat.reduceMul, Nat.reduceLT, Nat.reduceLeDiff, reduceCtorEq, Int.reduceToNat] <;> (try simp only [bool_not_true, bool_not_false, decide_eq_true_eq, decide_eq_false_iff_not, Bool.and_eq_true] at hc)) | refine And.intro (by first | assumption | omega | (have := len_pos (by assumption); omega) | (unfold capOK; omega)) ?_ | ((first | simp (disch := omega) only [encs_getN] | simp (disch := omega) only [wrapS]); (try simp only [go_sem, ↓reduceIte, Nat.reduceEqDiff, Nat.reduceAdd, Nat.reduceSub, Nat.reduceMul, Nat.reduceLT, Nat.reduceLeDiff, reduceCtorEq, Int.reduceToNat])) | ((first | refine vapp_pure0 law07_awake fun _ => ?_ | refine vapp_pure0 hJ0 fun _ => ?_ | refine dapp_pure  law07_awake ?_ | refine dapp_pure  hJ0 ?_); simp only [go_sem, ↓reduceIte, Nat.reduceEqDiff, Nat.reduceAdd, Nat.reduceSub, Nat.reduceMul, Nat.reduceLT, Nat.reduceLeDiff, reduceCtorEq, Int.reduceToNat]))
  | some n =>
    obtain rfl : n = m := a2 n rfl
    have h3 : (d.err = 0) = True := eq_true (hfi rfl)
    by_cases h0 : n = []
    · subst h0
      repeat' (first | refine vi_seq ?_ | refine vi_block ?_ | refine vi_scope ?_ | ((first | refine vi_reg ?_ | refine vi_regE (by rfl) ?_ | refine vi_regD ?_ | refine vi_label ?_ | refine vi_goto ?_ | refine vi_ret ?_ | refine vi_exit ?_ | refine vi_skip ?_ | refine vi_cond ?_); simp (disch := first | omega | (simp only [List.length_set, List.length_append, List.length_cons, List.length_nil]; done) | (simp only [List.length_set, List.length_append, List.length_cons, List.length_nil]; omega)) only [hsi, hU, h3, Option.isSome_none, Option.isSome_some, beq_self_eq_true, Bool.false_beq, Bool.true_beq, Option.getD_none, Option.getD_some, Bool.not_false, Bool.not_true, Int.reduceEq, decide_true, decide_false, ne_eq, not_true_eq_false, not_false_eq_true, Bool.false_eq_true, go_sem, ↓reduceIte, Nat.reduceEqDiff, Nat.reduceAdd, Nat.reduceSub, Nat.reduceMul, Nat.reduceLT, Nat.reduceLeDiff, reduceCtorEq, Int.reduceToNat]) | ((first | refine gd_caseb ?_ ?_ | refine cnd_caseb ?_ ?_) <;> intro hc <;> simp only [hc, go_sem, ↓reduceIte, Nat.reduceEqDiff, Nat.reduceAdd, Nat.reduceSub, Nat.reduceMul, Nat.reduceLT, Nat.reduceLeDiff, reduceCtorEq, Int.reduceToNat] <;> (try simp only [bool_not_true, bool_not_false, decide_eq_true_eq, decide_eq_false_iff_not, Bool.and_eq_true] at hc)) | refine And.intro (by first | assumption | omega | (have := len_pos (by assumption); omega) | (unfold capOK; omega)) ?_ | ((first | simp (disch := omega) only [encs_getN] | simp (disch := omega) only [wrapS]); (try simp only [go_sem, ↓reduceIte, Nat.reduceEqDiff, Nat.reduceAdd, Nat.reduceSub, Nat.reduceMul, Nat.reduceLT, Nat.reduceLeDiff, reduceCtorEq, Int.reduceToNat])) | ((first | refine vapp_pure0 law07_awake fun _ => ?_ | refine vnew_app hnw (curE_bd _ _) (by simp only [go_sem]) ?_ | refine vapp_pure0 hnr fun _ => ?_ | refine hp0 rfl ?_ | refine vapp_pure0 hR fun _ => ?_ | refine a_Done hgd.ok ?_ | refine vapp_pure0 (ref05_Done d) fun _ => ?_ | refine d_Peek ?_ | refine vapp_pure0 (ref05_Peek d) fun _ => ?_ | refine dapp_pure  law07_awake ?_ | refine dapp_pure  hnr ?_ | refine dapp_pure  hR ?_ | refine dapp_pure  (ref05_Done d) ?_ | refine dapp_pure  (ref05_Peek d) ?_); simp only [go_sem, ↓reduceIte, Nat.reduceEqDiff, Nat.reduceAdd, Nat.reduceSub, Nat.reduceMul, Nat.reduceLT, Nat.reduceLeDiff, reduceCtorEq, Int.reduceToNat]))
      simp only [encT]
      (simp (disch := first | omega | (simp only [List.length_set, List.length_append, List.length_cons, List.length_nil]; done) | (simp only [List.length_set, List.length_append, List.length_cons, List.length_nil]; omega)) only [hsi, hU, h3, Option.isSome_none, Option.isSome_some, beq_self_eq_true, Bool.false_beq, Bool.true_beq, Option.getD_none, Option.getD_some, Bool.not_false, Bool.not_true, Int.reduceEq, decide_true, decide_false, ne_eq, not_true_eq_false, not_false_eq_true, Bool.false_eq_true, go_sem, ↓reduceIte, Nat.reduceEqDiff, Nat.reduceAdd, Nat.reduceSub, Nat.reduceMul, Nat.reduceLT, Nat.reduceLeDiff, reduceCtorEq, Int.reduceToNat])
      repeat' (first | refine vi_seq ?_ | refine vi_block ?_ | refine vi_scope ?_ | ((first | refine vi_reg ?_ | refine vi_regE (by rfl) ?_ | refine vi_regD ?_ | refine vi_label ?_ | refine vi_goto ?_ | refine vi_ret ?_ | refine vi_exit ?_ | refine vi_skip ?_ | refine vi_cond ?_); simp (disch := first | omega | (simp only [List.length_set, List.length_append, List.length_cons, List.length_nil]; done) | (simp only [List.length_set, List.length_append, List.length_cons, List.length_nil]; omega)) only [hsi, hU, h3, Option.isSome_none, Option.isSome_some, beq_self_eq_true, Bool.false_beq, Bool.true_beq, Option.getD_none, Option.getD_some, Bool.not_false, Bool.not_true, Int.reduceEq, decide_true, decide_false, ne_eq, not_true_eq_false, not_false_eq_true, Bool.false_eq_true, go_sem, ↓reduceIte, Nat.reduceEqDiff, Nat.reduceAdd, Nat.reduceSub, Nat.reduceMul, Nat.reduceLT, Nat.reduceLeDiff, reduceCtorEq, Int.reduceToNat]) | ((first | refine gd_caseb ?_ ?_ | refine cnd_caseb ?_ ?_) <;> intro hc <;> simp only [hc, go_sem, ↓reduceIte, Nat.reduceEqDiff, Nat.reduceAdd, Nat.reduceSub, Nat.reduceMul, Nat.reduceLT, Nat.reduceLeDiff, reduceCtorEq, Int.reduceToNat] <;> (try simp only [bool_not_true, bool_not_false, decide_eq_true_eq, decide_eq_false_iff_not, Bool.and_eq_true] at hc)) | refine And.intro (by first | assumption | omega | (have := len_pos (by assumption); omega) | (unfold capOK; omega)) ?_ | ((first | simp (disch := omega) only [encs_getN] | simp (disch := omega) only [wrapS]); (try simp only [go_sem, ↓reduceIte, Nat.reduceEqDiff, Nat.reduceAdd, Nat.reduceSub, Nat.reduceMul, Nat.reduceLT, Nat.reduceLeDiff, reduceCtorEq, Int.reduceToNat])) | ((first | refine vapp_pure0 law07_awake fun _ => ?_ | refine vapp_pure0 hJ0 fun _ => ?_ | refine dapp_pure  law07_awake ?_ | refine dapp_pure  hJ0 ?_); simp only [go_sem, ↓reduceIte, Nat.reduceEqDiff, Nat.reduceAdd, Nat.reduceSub, Nat.reduceMul, Nat.reduceLT, Nat.reduceLeDiff, reduceCtorEq, Int.reduceToNat]))
    · repeat' (first | refine vi_seq ?_ | refine vi_block ?_ | refine vi_scope ?_ | ((first | refine vi_reg ?_ | refine vi_regE (by rfl) ?_ | refine vi_regD ?_ | refine vi_label ?_ | refine vi_goto ?_ | refine vi_ret ?_ | refine vi_exit ?_ | refine vi_skip ?_ | refine vi_cond ?_); simp (disch := first | omega | (simp only [List.length_set, List.length_append, List.length_cons, List.length_nil]; done) | (simp only [List.length_set, List.length_append, List.length_cons, List.length_nil]; omega)) only [hsi, hU, h3, Option.isSome_none, Option.isSome_some, beq_self_eq_true, Bool.false_beq, Bool.true_beq, Option.getD_none, Option.getD_some, Bool.not_false, Bool.not_true, Int.reduceEq, decide_true, decide_false, ne_eq, not_true_eq_false, not_false_eq_true, Bool.false_eq_true, go_sem, ↓reduceIte, Nat.reduceEqDiff, Nat.reduceAdd, Nat.reduceSub, Nat.reduceMul, Nat.reduceLT, Nat.reduceLeDiff, reduceCtorEq, Int.reduceToNat]) | ((first | refine gd_caseb ?_ ?_ | refine cnd_caseb ?_ ?_) <;> intro hc <;> simp only [hc, go_sem, ↓reduceIte, Nat.reduceEqDiff, Nat.reduceAdd, Nat.reduceSub, Nat.reduceMul, Nat.reduceLT, Nat.reduceLeDiff, reduceCtorEq, Int.reduceToNat] <;> (try simp only [bool_not_true, bool_not_false, decide_eq_true_eq, decide_eq_false_iff_not, Bool.and_eq_true] at hc)) | refine And.intro (by first | assumption | omega | (have := len_pos (by assumption); omega) | (unfold capOK; omega)) ?_ | ((first | simp (disch := omega) only [encs_getN] | simp (disch := omega) only [wrapS]); (try simp only [go_sem, ↓reduceIte, Nat.reduceEqDiff, Nat.reduceAdd, Nat.reduceSub, Nat.reduceMul, Nat.reduceLT, Nat.reduceLeDiff, reduceCtorEq, Int.reduceToNat])) | ((first | refine vapp_pure0 law07_awake fun _ => ?_ | refine vnew_app hnw (curE_bd _ _) (by simp only [go_sem]) ?_ | refine vapp_pure0 hnr fun _ => ?_ | refine hp1 rfl h0 ?_ | refine vapp_pure0 hR fun _ => ?_ | refine a_Done hgd.ok ?_ | refine vapp_pure0 (ref05_Done d) fun _ => ?_ | refine d_Peek ?_ | refine vapp_pure0 (ref05_Peek d) fun _ => ?_ | refine dapp_pure  law07_awake ?_ | refine dapp_pure  hnr ?_ | refine dapp_pure  hR ?_ | refine dapp_pure  (ref05_Done d) ?_ | refine dapp_pure  (ref05_Peek d) ?_); simp only [go_sem, ↓reduceIte, Nat.reduceEqDiff, Nat.reduceAdd, Nat.reduceSub, Nat.reduceMul, Nat.reduceLT, Nat.reduceLeDiff, reduceCtorEq, Int.reduceToNat]))
      simp only [encT]
      (simp (disch := first | omega | (simp only [List.length_set, List.length_append, List.length_cons, List.length_nil]; done) | (simp only [List.length_set, List.length_append, List.length_cons, List.length_nil]; omega)) only [hsi, hU, h3, Option.isSome_none, Option.isSome_some, beq_self_eq_true, Bool.false_beq, Bool.true_beq, Option.getD_none, Option.getD_some, Bool.not_false, Bool.not_true, Int.reduceEq, decide_true, decide_false, ne_eq, not_true_eq_false, not_false_eq_true, Bool.false_eq_true, go_sem, ↓reduceIte, Nat.reduceEqDiff, Nat.reduceAdd, Nat.reduceSub, Nat.reduceMul, Nat.reduceLT, Nat.reduceLeDiff, reduceCtorEq, Int.reduceToNat])
      repeat' (first | refine vi_seq ?_ | refine vi_block ?_ | refine vi_scope ?_ | ((first | refine vi_reg ?_ | refine vi_regE (by rfl) ?_ | refine vi_regD ?_ | refine vi_label ?_ | refine vi_goto ?_ | refine vi_ret ?_ | refine vi_exit ?_ | refine vi_skip ?_ | refine vi_cond ?_); simp (disch := first | omega | (simp only [List.length_set, List.length_append, List.length_cons, List.length_nil]; done) | (simp only [List.length_set, List.length_append, List.length_cons, List.length_nil]; omega)) only [hsi, hU, h3, Option.isSome_none, Option.isSome_some, beq_self_eq_true, Bool.false_beq, Bool.true_beq, Option.getD_none, Option.getD_some, Bool.not_false, Bool.not_true, Int.reduceEq, decide_true, decide_false, ne_eq, not_true_eq_false, not_false_eq_true, Bool.false_eq_true, go_sem, ↓reduceIte, Nat.reduceEqDiff, Nat.reduceAdd, Nat.reduceSub, Nat.reduceMul, Nat.reduceLT, Nat.reduceLeDiff, reduceCtorEq, Int.reduceToNat]) | ((first | refine gd_caseb ?_ ?_ | refine cnd_caseb ?_ ?_) <;> intro hc <;> simp only [hc, go_sem, ↓reduceIte, Nat.reduceEqDiff, Nat.reduceAdd, Nat.reduceSub, Nat.reduceMul, Nat.reduceLT, Nat.reduceLeDiff, reduceCtorEq, Int.reduceToNat] <;> (try simp only [bool_not_true, bool_not_false, decide_eq_true_eq, decide_eq_false_iff_not, Bool.and_eq_true] at hc)) | refine And.intro (by first | assumption | omega | (have := len_pos (by assumption); omega) | (unfold capOK; omega)) ?_ | ((first | simp (disch := omega) only [encs_getN] | simp (disch := omega) only [wrapS]); (try simp only [go_sem, ↓reduceIte, Nat.reduceEqDiff, Nat.reduceAdd, Nat.reduceSub, Nat.reduceMul, Nat.reduceLT, Nat.reduceLeDiff, reduceCtorEq, Int.reduceToNat])) | ((first | refine vapp_pure0 law07_awake fun _ => ?_ | refine vapp_pure0 hJ0 fun _ => ?_ | refine vapp_pure0 (hjr n) fun _ => ?_ | refine dapp_pure  law07_awake ?_ | refine dapp_pure  hJ0 ?_ | refine dapp_pure  (hjr n) ?_); simp only [go_sem, ↓reduceIte, Nat.reduceEqDiff, Nat.reduceAdd, Nat.reduceSub, Nat.reduceMul, Nat.reduceLT, Nat.reduceLeDiff, reduceCtorEq, Int.reduceToNat]))
theorem law07_parts2 (l : List T) (w : Int) (hs : l.length ≤ 500) (hU : (IntKind.u64.wrap w).tmod 4 = 2) : VPure Try.prog 5 [.sl 4 (encTs l), .int .i64 w] (.bool true) := by
  refine vpure_of c0a (by simp) (by simp only [go_sem]) rfl fun hw => ?_
  have hsi : ¬ (500 : Int) < l.length := by omega
  have g : (newK l).good := newK_good (by omega)
  have hem := em_le (newK l)
  obtain ⟨f, hfd⟩ : ∃ f, f = rest (newK l) + 2 := ⟨_, rfl⟩
  have hx : ∀ c : K, c.err ≠ 0 → (refTAt f c).1 = c := fun c h => by rw [refTAt_err f h]
  have hJ0 : VPure Try.prog 11 [enc N0, enc N0] (.bool true) := vp_eq (ref06_Just _ _) (by rw [just_self])
  have hnw := newK_cur l (by omega)
  have hnr := ref05_New l
  have hks : ∀ t ∈ (newK l).l, t.kind ≠ 0 := fun t ht => ahead_kinds ht
  have hj : ∀ n : N, VPure Try.prog 11 [enc n, enc n] (.bool true) := fun n => vp_eq (ref06_Just _ _) (by rw [just_self])
  have hjr : ∀ n : List N, VPure Try.prog 11 [.agg [.int .i64 0, .int .i64 0, .int .i64 0, .str [], .sl 5 (encs n)], .agg [.int .i64 0, .int .i64 0, .int .i64 0, .str [], .sl 5 (encs n)]] (.bool true) := fun n => by
    have h := hj (.mk 0 0 0 [] n)
    simpa only [enc] using h
  generalize newK l = c at *
  have hP := typ_At f c g (by omega)
  have hR := ref07_At f c g (by omega)
  have hal := alike_tAt f c (by omega)
  have hfi := fine_tAt f c
  have hgd := (mon_typAt f c).1 g
  generalize typAt f c = p at *
  generalize refTAt f c = r at *
  obtain ⟨d, o⟩ := p
  obtain ⟨d', m⟩ := r
  obtain ⟨a1, a2, a3⟩ := hal
  simp only at a1 a2 a3
  subst a1
  cases o with
  | none =>
    have h3 : ¬ d.err = 0 := a3 rfl
    repeat' (first | refine vi_seq ?_ | refine vi_block ?_ | refine vi_scope ?_ | ((first | refine vi_reg ?_ | refine vi_regE (by rfl) ?_ | refine vi_regD ?_ | refine vi_label ?_ | refine vi_goto ?_ | refine vi_ret ?_ | refine vi_exit ?_ | refine vi_skip ?_ | refine vi_cond ?_); simp (disch := first | omega | (simp only [List.length_set, List.length_append, List.length_cons, List.length_nil]; done) | (simp only [List.length_set, List.length_append, List.length_cons, List.length_nil]; omega)) only [hsi, hU, h3, Option.isSome_none, Option.isSome_some, beq_self_eq_true, Bool.false_beq, Bool.true_beq, Option.getD_none, Option.getD_some, Bool.not_false, Bool.not_true, Int.reduceEq, decide_true, decide_false, ne_eq, not_true_eq_false, not_false_eq_true, Bool.false_eq_true, go_sem, ↓reduceIte, Nat.reduceEqDiff, Nat.reduceAdd, Nat.reduceSub, Nat.reduceMul, Nat.reduceLT, Nat.reduceLeDiff, reduceCtorEq, Int.reduceToNat]) | ((first | refine gd_caseb ?_ ?_ | refine cnd_caseb ?_ ?_) <;> intro hc <;> simp only [hc, go_sem, ↓reduceIte, Nat.reduceEqDiff, Nat.reduceAdd, Nat.reduceSub, Nat.reduceMul, Nat.reduceLT, Nat.reduceLeDiff, reduceCtorEq, Int.reduceToNat] <;> (try simp only [bool_not_true, bool_not_false, decide_eq_true_eq, decide_eq_false_iff_not, Bool.and_eq_true] at hc)) | refine And.intro (by first | assumption | omega | (have := len_pos (by assumption); omega) | (unfold capOK; omega)) ?_ | ((first | simp (disch := omega) only [encs_getN] | simp (disch := omega) only [wrapS]); (try simp only [go_sem, ↓reduceIte, Nat.reduceEqDiff, Nat.reduceAdd, Nat.reduceSub, Nat.reduceMul, Nat.reduceLT, Nat.reduceLeDiff, reduceCtorEq, Int.reduceToNat])) | ((first | refine vapp_pure0 law07_awake fun _ => ?_ | refine vnew_app hnw (curE_bd _ _) (by simp only [go_sem]) ?_ | refine vapp_pure0 hnr fun _ => ?_ | refine m_app hP rfl ?_ | refine vapp_pure0 hR fun _ => ?_ | refine a_Done hgd.ok ?_ | refine vapp_pure0 (ref05_Done d) fun _ => ?_ | refine d_Peek ?_ | refine vapp_pure0 (ref05_Peek d) fun _ => ?_ | refine dapp_pure  law07_awake ?_ | refine dapp_pure  hnr ?_ | refine dapp_pure  hR ?_ | refine dapp_pure  (ref05_Done d) ?_ | refine dapp_pure  (ref05_Peek d) ?_); simp only [go_sem, ↓reduceIte, Nat.reduceEqDiff, Nat.reduceAdd, Nat.reduceSub, Nat.reduceMul, Nat.reduceLT, Nat.reduceLeDiff, reduceCtorEq, Int.reduceToNat]))
    simp only [encT]
    (simp (disch := first | omega | (simp only [List.length_set, List.length_append, List.length_cons, List.length_nil]; done) | (simp only [List.length_set, List.length_append, List.length_cons, List.length_nil]; omega)) only [hsi, hU, h3, Option.isSome_none, Option.isSome_some, beq_self_eq_true, Bool.false_beq, Bool.true_beq, Option.getD_none, Option.getD_some, Bool.not_false, Bool.not_true, Int.reduceEq, decide_true, decide_false, ne_eq, not_true_eq_false, not_false_eq_true, Bool.false_eq_true, go_sem, ↓reduceIte, Nat.reduceEqDiff, Nat.reduceAdd, Nat.reduceSub, Nat.reduceMul, Nat.reduceLT, Nat.reduceLeDiff, reduceCtorEq, Int.reduceToNat])
    repeat' (first | refine vi_seq ?_ | refine vi_block ?_ | refine vi_scope ?_ | ((first | refine vi_reg ?_ | refine vi_regE (by rfl) ?_ | refine vi_regD ?_ | refine vi_label ?_ | refine vi_goto ?_ | refine vi_ret ?_ | refine vi_exit ?_ | refine vi_skip ?_ | refine vi_cond ?_); simp (disch := first | omega | (simp only [List.length_set, List.length_append, List.length_cons, List.length_nil]; done) | (simp only [List.length_set, List.length_append, List.length_cons, List.length_nil]; omega)) only [hsi, hU, h3, Option.isSome_none, Option.isSome_some, beq_self_eq_true, Bool.false_beq, Bool.true_beq, Option.getD_none, Option.getD_some, Bool.not_false, Bool.not_true, Int.reduceEq, decide_true, decide_false, ne_eq, not_true_eq_false, not_false_eq_true, Bool.false_eq_true, go_sem, ↓reduceIte, Nat.reduceEqDiff, Nat.reduceAdd, Nat.reduceSub, Nat.reduceMul, Nat.reduceLT, Nat.reduceLeDiff, reduceCtorEq, Int.reduceToNat]) | ((first | refine gd_caseb ?_ ?_ | refine cnd_caseb ?_ ?_) <;> intro hc <;> simp only [hc, go_sem, ↓reduceIte, Nat.reduceEqDiff, Nat.reduceAdd, Nat.reduceSub, Nat.reduceMul, Nat.reduceLT, Nat.reduceLeDiff, reduceCtorEq, Int.reduceToNat] <;> (try simp only [bool_not_true, bool_not_false, decide_eq_true_eq, decide_eq_false_iff_not, Bool.and_eq_true] at hc)) | refine And.intro (by first | assumption | omega | (have := len_pos (by assumption); omega) | (unfold capOK; omega)) ?_ | ((first | simp (disch := omega) only [encs_getN] | simp (disch := omega) only [wrapS]); (try simp only [go_sem, ↓reduceIte, Nat.reduceEqDiff, Nat.reduceAdd, Nat.reduceSub, Nat.reduceMul, Nat.reduceLT, Nat.reduceLeDiff, reduceCtorEq, Int.reduceToNat])) | ((first | refine vapp_pure0 law07_awake fun _ => ?_ | refine vapp_pure0 hJ0 fun _ => ?_ | refine dapp_pure  law07_awake ?_ | refine dapp_pure  hJ0 ?_); simp only [go_sem, ↓reduceIte, Nat.reduceEqDiff, Nat.reduceAdd, Nat.reduceSub, Nat.reduceMul, Nat.reduceLT, Nat.reduceLeDiff, reduceCtorEq, Int.reduceToNat]))
  | some n =>
    obtain rfl : n = m := a2 n rfl
    have h3 : (d.err = 0) = True := eq_true (hfi rfl)
    repeat' (first | refine vi_seq ?_ | refine vi_block ?_ | refine vi_scope ?_ | ((first | refine vi_reg ?_ | refine vi_regE (by rfl) ?_ | refine vi_regD ?_ | refine vi_label ?_ | refine vi_goto ?_ | refine vi_ret ?_ | refine vi_exit ?_ | refine vi_skip ?_ | refine vi_cond ?_); simp (disch := first | omega | (simp only [List.length_set, List.length_append, List.length_cons, List.length_nil]; done) | (simp only [List.length_set, List.length_append, List.length_cons, List.length_nil]; omega)) only [hsi, hU, h3, Option.isSome_none, Option.isSome_some, beq_self_eq_true, Bool.false_beq, Bool.true_beq, Option.getD_none, Option.getD_some, Bool.not_false, Bool.not_true, Int.reduceEq, decide_true, decide_false, ne_eq, not_true_eq_false, not_false_eq_true, Bool.false_eq_true, go_sem, ↓reduceIte, Nat.reduceEqDiff, Nat.reduceAdd, Nat.reduceSub, Nat.reduceMul, Nat.reduceLT, Nat.reduceLeDiff, reduceCtorEq, Int.reduceToNat]) | ((first | refine gd_caseb ?_ ?_ | refine cnd_caseb ?_ ?_) <;> intro hc <;> simp only [hc, go_sem, ↓reduceIte, Nat.reduceEqDiff, Nat.reduceAdd, Nat.reduceSub, Nat.reduceMul, Nat.reduceLT, Nat.reduceLeDiff, reduceCtorEq, Int.reduceToNat] <;> (try simp only [bool_not_true, bool_not_false, decide_eq_true_eq, decide_eq_false_iff_not, Bool.and_eq_true] at hc)) | refine And.intro (by first | assumption | omega | (have := len_pos (by assumption); omega) | (unfold capOK; omega)) ?_ | ((first | simp (disch := omega) only [encs_getN] | simp (disch := omega) only [wrapS]); (try simp only [go_sem, ↓reduceIte, Nat.reduceEqDiff, Nat.reduceAdd, Nat.reduceSub, Nat.reduceMul, Nat.reduceLT, Nat.reduceLeDiff, reduceCtorEq, Int.reduceToNat])) | ((first | refine vapp_pure0 law07_awake fun _ => ?_ | refine vnew_app hnw (curE_bd _ _) (by simp only [go_sem]) ?_ | refine vapp_pure0 hnr fun _ => ?_ | refine m_app hP rfl ?_ | refine vapp_pure0 hR fun _ => ?_ | refine a_Done hgd.ok ?_ | refine vapp_pure0 (ref05_Done d) fun _ => ?_ | refine d_Peek ?_ | refine vapp_pure0 (ref05_Peek d) fun _ => ?_ | refine dapp_pure  law07_awake ?_ | refine dapp_pure  hnr ?_ | refine dapp_pure  hR ?_ | refine dapp_pure  (ref05_Done d) ?_ | refine dapp_pure  (ref05_Peek d) ?_); simp only [go_sem, ↓reduceIte, Nat.reduceEqDiff, Nat.reduceAdd, Nat.reduceSub, Nat.reduceMul, Nat.reduceLT, Nat.reduceLeDiff, reduceCtorEq, Int.reduceToNat]))
    simp only [encT]
    (simp (disch := first | omega | (simp only [List.length_set, List.length_append, List.length_cons, List.length_nil]; done) | (simp only [List.length_set, List.length_append, List.length_cons, List.length_nil]; omega)) only [hsi, hU, h3, Option.isSome_none, Option.isSome_some, beq_self_eq_true, Bool.false_beq, Bool.true_beq, Option.getD_none, Option.getD_some, Bool.not_false, Bool.not_true, Int.reduceEq, decide_true, decide_false, ne_eq, not_true_eq_false, not_false_eq_true, Bool.false_eq_true, go_sem, ↓reduceIte, Nat.reduceEqDiff, Nat.reduceAdd, Nat.reduceSub, Nat.reduceMul, Nat.reduceLT, Nat.reduceLeDiff, reduceCtorEq, Int.reduceToNat])
    repeat' (first | refine vi_seq ?_ | refine vi_block ?_ | refine vi_scope ?_ | ((first | refine vi_reg ?_ | refine vi_regE (by rfl) ?_ | refine vi_regD ?_ | refine vi_label ?_ | refine vi_goto ?_ | refine vi_ret ?_ | refine vi_exit ?_ | refine vi_skip ?_ | refine vi_cond ?_); simp (disch := first | omega | (simp only [List.length_set, List.length_append, List.length_cons, List.length_nil]; done) | (simp only [List.length_set, List.length_append, List.length_cons, List.length_nil]; omega)) only [hsi, hU, h3, Option.isSome_none, Option.isSome_some, beq_self_eq_true, Bool.false_beq, Bool.true_beq, Option.getD_none, Option.getD_some, Bool.not_false, Bool.not_true, Int.reduceEq, decide_true, decide_false, ne_eq, not_true_eq_false, not_false_eq_true, Bool.false_eq_true, go_sem, ↓reduceIte, Nat.reduceEqDiff, Nat.reduceAdd, Nat.reduceSub, Nat.reduceMul, Nat.reduceLT, Nat.reduceLeDiff, reduceCtorEq, Int.reduceToNat]) | ((first | refine gd_caseb ?_ ?_ | refine cnd_caseb ?_ ?_) <;> intro hc <;> simp only [hc, go_sem, ↓reduceIte, Nat.reduceEqDiff, Nat.reduceAdd, Nat.reduceSub, Nat.reduceMul, Nat.reduceLT, Nat.reduceLeDiff, reduceCtorEq, Int.reduceToNat] <;> (try simp only [bool_not_true, bool_not_false, decide_eq_true_eq, decide_eq_false_iff_not, Bool.and_eq_true] at hc)) | refine And.intro (by first | assumption | omega | (have := len_pos (by assumption); omega) | (unfold capOK; omega)) ?_ | ((first | simp (disch := omega) only [encs_getN] | simp (disch := omega) only [wrapS]); (try simp only [go_sem, ↓reduceIte, Nat.reduceEqDiff, Nat.reduceAdd, Nat.reduceSub, Nat.reduceMul, Nat.reduceLT, Nat.reduceLeDiff, reduceCtorEq, Int.reduceToNat])) | ((first | refine vapp_pure0 law07_awake fun _ => ?_ | refine vapp_pure0 hJ0 fun _ => ?_ | refine vapp_pure0 (hj n) fun _ => ?_ | refine dapp_pure  law07_awake ?_ | refine dapp_pure  hJ0 ?_ | refine dapp_pure  (hj n) ?_); simp only [go_sem, ↓reduceIte, Nat.reduceEqDiff, Nat.reduceAdd, Nat.reduceSub, Nat.reduceMul, Nat.reduceLT, Nat.reduceLeDiff, reduceCtorEq, Int.reduceToNat]))
theorem law07_parts3 (l : List T) (w : Int) (hs : l.length ≤ 500) (hU : (IntKind.u64.wrap w).tmod 4 = 3) : VPure Try.prog 5 [.sl 4 (encTs l), .int .i64 w] (.bool true) := by
  refine vpure_of c0a (by simp) (by simp only [go_sem]) rfl fun hw => ?_
  have hsi : ¬ (500 : Int) < l.length := by omega
  have g : (newK l).good := newK_good (by omega)
  have hem := em_le (newK l)
  obtain ⟨f, hfd⟩ : ∃ f, f = rest (newK l) + 2 := ⟨_, rfl⟩
  have hx : ∀ c : K, c.err ≠ 0 → (refTAt f c).1 = c := fun c h => by rw [refTAt_err f h]
  have hJ0 : VPure Try.prog 11 [enc N0, enc N0] (.bool true) := vp_eq (ref06_Just _ _) (by rw [just_self])
  have hnw := newK_cur l (by omega)
  have hnr := ref05_New l
  have hks : ∀ t ∈ (newK l).l, t.kind ≠ 0 := fun t ht => ahead_kinds ht
  have hj : ∀ n : N, VPure Try.prog 11 [enc n, enc n] (.bool true) := fun n => vp_eq (ref06_Just _ _) (by rw [just_self])
  have hjr : ∀ n : List N, VPure Try.prog 11 [.agg [.int .i64 0, .int .i64 0, .int .i64 0, .str [], .sl 5 (encs n)], .agg [.int .i64 0, .int .i64 0, .int .i64 0, .str [], .sl 5 (encs n)]] (.bool true) := fun n => by
    have h := hj (.mk 0 0 0 [] n)
    simpa only [enc] using h
  generalize newK l = c at *
  have hP := typ_QualAt f c g (by omega)
  have hR := ref07_Qual f c g (by omega)
  have hal := alike_Qual f c hks (by omega)
  have hfi := fine_tQual f c
  have hgd := (mon_typQual f c).1 g
  generalize typQual f c = p at *
  generalize refQual f c = r at *
  obtain ⟨d, o⟩ := p
  obtain ⟨d', m⟩ := r
  obtain ⟨a1, a2, a3⟩ := hal
  simp only at a1 a2 a3
  subst a1
  cases o with
  | none =>
    have h3 : ¬ d.err = 0 := a3 rfl
    repeat' (first | refine vi_seq ?_ | refine vi_block ?_ | refine vi_scope ?_ | ((first | refine vi_reg ?_ | refine vi_regE (by rfl) ?_ | refine vi_regD ?_ | refine vi_label ?_ | refine vi_goto ?_ | refine vi_ret ?_ | refine vi_exit ?_ | refine vi_skip ?_ | refine vi_cond ?_); simp (disch := first | omega | (simp only [List.length_set, List.length_append, List.length_cons, List.length_nil]; done) | (simp only [List.length_set, List.length_append, List.length_cons, List.length_nil]; omega)) only [hsi, hU, h3, Option.isSome_none, Option.isSome_some, beq_self_eq_true, Bool.false_beq, Bool.true_beq, Option.getD_none, Option.getD_some, Bool.not_false, Bool.not_true, Int.reduceEq, decide_true, decide_false, ne_eq, not_true_eq_false, not_false_eq_true, Bool.false_eq_true, go_sem, ↓reduceIte, Nat.reduceEqDiff, Nat.reduceAdd, Nat.reduceSub, Nat.reduceMul, Nat.reduceLT, Nat.reduceLeDiff, reduceCtorEq, Int.reduceToNat]) | ((first | refine gd_caseb ?_ ?_ | refine cnd_caseb ?_ ?_) <;> intro hc <;> simp only [hc, go_sem, ↓reduceIte, Nat.reduceEqDiff, Nat.reduceAdd, Nat.reduceSub, Nat.reduceMul, Nat.reduceLT, Nat.reduceLeDiff, reduceCtorEq, Int.reduceToNat] <;> (try simp only [bool_not_true, bool_not_false, decide_eq_true_eq, decide_eq_false_iff_not, Bool.and_eq_true] at hc)) | refine And.intro (by first | assumption | omega | (have := len_pos (by assumption); omega) | (unfold capOK; omega)) ?_ | ((first | simp (disch := omega) only [encs_getN] | simp (disch := omega) only [wrapS]); (try simp only [go_sem, ↓reduceIte, Nat.reduceEqDiff, Nat.reduceAdd, Nat.reduceSub, Nat.reduceMul, Nat.reduceLT, Nat.reduceLeDiff, reduceCtorEq, Int.reduceToNat])) | ((first | refine vapp_pure0 law07_awake fun _ => ?_ | refine vnew_app hnw (curE_bd _ _) (by simp only [go_sem]) ?_ | refine vapp_pure0 hnr fun _ => ?_ | refine m_app hP rfl ?_ | refine vapp_pure0 hR fun _ => ?_ | refine a_Done hgd.ok ?_ | refine vapp_pure0 (ref05_Done d) fun _ => ?_ | refine d_Peek ?_ | refine vapp_pure0 (ref05_Peek d) fun _ => ?_ | refine dapp_pure  law07_awake ?_ | refine dapp_pure  hnr ?_ | refine dapp_pure  hR ?_ | refine dapp_pure  (ref05_Done d) ?_ | refine dapp_pure  (ref05_Peek d) ?_); simp only [go_sem, ↓reduceIte, Nat.reduceEqDiff, Nat.reduceAdd, Nat.reduceSub, Nat.reduceMul, Nat.reduceLT, Nat.reduceLeDiff, reduceCtorEq, Int.reduceToNat]))
    simp only [encT]
    (simp (disch := first | omega | (simp only [List.length_set, List.length_append, List.length_cons, List.length_nil]; done) | (simp only [List.length_set, List.length_append, List.length_cons, List.length_nil]; omega)) only [hsi, hU, h3, Option.isSome_none, Option.isSome_some, beq_self_eq_true, Bool.false_beq, Bool.true_beq, Option.getD_none, Option.getD_some, Bool.not_false, Bool.not_true, Int.reduceEq, decide_true, decide_false, ne_eq, not_true_eq_false, not_false_eq_true, Bool.false_eq_true, go_sem, ↓reduceIte, Nat.reduceEqDiff, Nat.reduceAdd, Nat.reduceSub, Nat.reduceMul, Nat.reduceLT, Nat.reduceLeDiff, reduceCtorEq, Int.reduceToNat])
    repeat' (first | refine vi_seq ?_ | refine vi_block ?_ | refine vi_scope ?_ | ((first | refine vi_reg ?_ | refine vi_regE (by rfl) ?_ | refine vi_regD ?_ | refine vi_label ?_ | refine vi_goto ?_ | refine vi_ret ?_ | refine vi_exit ?_ | refine vi_skip ?_ | refine vi_cond ?_); simp (disch := first | omega | (simp only [List.length_set, List.length_append, List.length_cons, List.length_nil]; done) | (simp only [List.length_set, List.length_append, List.length_cons, List.length_nil]; omega)) only [hsi, hU, h3, Option.isSome_none, Option.isSome_some, beq_self_eq_true, Bool.false_beq, Bool.true_beq, Option.getD_none, Option.getD_some, Bool.not_false, Bool.not_true, Int.reduceEq, decide_true, decide_false, ne_eq, not_true_eq_false, not_false_eq_true, Bool.false_eq_true, go_sem, ↓reduceIte, Nat.reduceEqDiff, Nat.reduceAdd, Nat.reduceSub, Nat.reduceMul, Nat.reduceLT, Nat.reduceLeDiff, reduceCtorEq, Int.reduceToNat]) | ((first | refine gd_caseb ?_ ?_ | refine cnd_caseb ?_ ?_) <;> intro hc <;> simp only [hc, go_sem, ↓reduceIte, Nat.reduceEqDiff, Nat.reduceAdd, Nat.reduceSub, Nat.reduceMul, Nat.reduceLT, Nat.reduceLeDiff, reduceCtorEq, Int.reduceToNat] <;> (try simp only [bool_not_true, bool_not_false, decide_eq_true_eq, decide_eq_false_iff_not, Bool.and_eq_true] at hc)) | refine And.intro (by first | assumption | omega | (have := len_pos (by assumption); omega) | (unfold capOK; omega)) ?_ | ((first | simp (disch := omega) only [encs_getN] | simp (disch := omega) only [wrapS]); (try simp only [go_sem, ↓reduceIte, Nat.reduceEqDiff, Nat.reduceAdd, Nat.reduceSub, Nat.reduceMul, Nat.reduceLT, Nat.reduceLeDiff, reduceCtorEq, Int.reduceToNat])) | ((first | refine vapp_pure0 law07_awake fun _ => ?_ | refine vapp_pure0 hJ0 fun _ => ?_ | refine dapp_pure  law07_awake ?_ | refine dapp_pure  hJ0 ?_); simp only [go_sem, ↓reduceIte, Nat.reduceEqDiff, Nat.reduceAdd, Nat.reduceSub, Nat.reduceMul, Nat.reduceLT, Nat.reduceLeDiff, reduceCtorEq, Int.reduceToNat]))
  | some n =>
    obtain rfl : n = m := a2 n rfl
    have h3 : (d.err = 0) = True := eq_true (hfi rfl)
    repeat' (first | refine vi_seq ?_ | refine vi_block ?_ | refine vi_scope ?_ | ((first | refine vi_reg ?_ | refine vi_regE (by rfl) ?_ | refine vi_regD ?_ | refine vi_label ?_ | refine vi_goto ?_ | refine vi_ret ?_ | refine vi_exit ?_ | refine vi_skip ?_ | refine vi_cond ?_); simp (disch := first | omega | (simp only [List.length_set, List.length_append, List.length_cons, List.length_nil]; done) | (simp only [List.length_set, List.length_append, List.length_cons, List.length_nil]; omega)) only [hsi, hU, h3, Option.isSome_none, Option.isSome_some, beq_self_eq_true, Bool.false_beq, Bool.true_beq, Option.getD_none, Option.getD_some, Bool.not_false, Bool.not_true, Int.reduceEq, decide_true, decide_false, ne_eq, not_true_eq_false, not_false_eq_true, Bool.false_eq_true, go_sem, ↓reduceIte, Nat.reduceEqDiff, Nat.reduceAdd, Nat.reduceSub, Nat.reduceMul, Nat.reduceLT, Nat.reduceLeDiff, reduceCtorEq, Int.reduceToNat]) | ((first | refine gd_caseb ?_ ?_ | refine cnd_caseb ?_ ?_) <;> intro hc <;> simp only [hc, go_sem, ↓reduceIte, Nat.reduceEqDiff, Nat.reduceAdd, Nat.reduceSub, Nat.reduceMul, Nat.reduceLT, Nat.reduceLeDiff, reduceCtorEq, Int.reduceToNat] <;> (try simp only [bool_not_true, bool_not_false, decide_eq_true_eq, decide_eq_false_iff_not, Bool.and_eq_true] at hc)) | refine And.intro (by first | assumption | omega | (have := len_pos (by assumption); omega) | (unfold capOK; omega)) ?_ | ((first | simp (disch := omega) only [encs_getN] | simp (disch := omega) only [wrapS]); (try simp only [go_sem, ↓reduceIte, Nat.reduceEqDiff, Nat.reduceAdd, Nat.reduceSub, Nat.reduceMul, Nat.reduceLT, Nat.reduceLeDiff, reduceCtorEq, Int.reduceToNat])) | ((first | refine vapp_pure0 law07_awake fun _ => ?_ | refine vnew_app hnw (curE_bd _ _) (by simp only [go_sem]) ?_ | refine vapp_pure0 hnr fun _ => ?_ | refine m_app hP rfl ?_ | refine vapp_pure0 hR fun _ => ?_ | refine a_Done hgd.ok ?_ | refine vapp_pure0 (ref05_Done d) fun _ => ?_ | refine d_Peek ?_ | refine vapp_pure0 (ref05_Peek d) fun _ => ?_ | refine dapp_pure  law07_awake ?_ | refine dapp_pure  hnr ?_ | refine dapp_pure  hR ?_ | refine dapp_pure  (ref05_Done d) ?_ | refine dapp_pure  (ref05_Peek d) ?_); simp only [go_sem, ↓reduceIte, Nat.reduceEqDiff, Nat.reduceAdd, Nat.reduceSub, Nat.reduceMul, Nat.reduceLT, Nat.reduceLeDiff, reduceCtorEq, Int.reduceToNat]))
    simp only [encT]
    (simp (disch := first | omega | (simp only [List.length_set, List.length_append, List.length_cons, List.length_nil]; done) | (simp only [List.length_set, List.length_append, List.length_cons, List.length_nil]; omega)) only [hsi, hU, h3, Option.isSome_none, Option.isSome_some, beq_self_eq_true, Bool.false_beq, Bool.true_beq, Option.getD_none, Option.getD_some, Bool.not_false, Bool.not_true, Int.reduceEq, decide_true, decide_false, ne_eq, not_true_eq_false, not_false_eq_true, Bool.false_eq_true, go_sem, ↓reduceIte, Nat.reduceEqDiff, Nat.reduceAdd, Nat.reduceSub, Nat.reduceMul, Nat.reduceLT, Nat.reduceLeDiff, reduceCtorEq, Int.reduceToNat])
    repeat' (first | refine vi_seq ?_ | refine vi_block ?_ | refine vi_scope ?_ | ((first | refine vi_reg ?_ | refine vi_regE (by rfl) ?_ | refine vi_regD ?_ | refine vi_label ?_ | refine vi_goto ?_ | refine vi_ret ?_ | refine vi_exit ?_ | refine vi_skip ?_ | refine vi_cond ?_); simp (disch := first | omega | (simp only [List.length_set, List.length_append, List.length_cons, List.length_nil]; done) | (simp only [List.length_set, List.length_append, List.length_cons, List.length_nil]; omega)) only [hsi, hU, h3, Option.isSome_none, Option.isSome_some, beq_self_eq_true, Bool.false_beq, Bool.true_beq, Option.getD_none, Option.getD_some, Bool.not_false, Bool.not_true, Int.reduceEq, decide_true, decide_false, ne_eq, not_true_eq_false, not_false_eq_true, Bool.false_eq_true, go_sem, ↓reduceIte, Nat.reduceEqDiff, Nat.reduceAdd, Nat.reduceSub, Nat.reduceMul, Nat.reduceLT, Nat.reduceLeDiff, reduceCtorEq, Int.reduceToNat]) | ((first | refine gd_caseb ?_ ?_ | refine cnd_caseb ?_ ?_) <;> intro hc <;> simp only [hc, go_sem, ↓reduceIte, Nat.reduceEqDiff, Nat.reduceAdd, Nat.reduceSub, Nat.reduceMul, Nat.reduceLT, Nat.reduceLeDiff, reduceCtorEq, Int.reduceToNat] <;> (try simp only [bool_not_true, bool_not_false, decide_eq_true_eq, decide_eq_false_iff_not, Bool.and_eq_true] at hc)) | refine And.intro (by first | assumption | omega | (have := len_pos (by assumption); omega) | (unfold capOK; omega)) ?_ | ((first | simp (disch := omega) only [encs_getN] | simp (disch := omega) only [wrapS]); (try simp only [go_sem, ↓reduceIte, Nat.reduceEqDiff, Nat.reduceAdd, Nat.reduceSub, Nat.reduceMul, Nat.reduceLT, Nat.reduceLeDiff, reduceCtorEq, Int.reduceToNat])) | ((first | refine vapp_pure0 law07_awake fun _ => ?_ | refine vapp_pure0 hJ0 fun _ => ?_ | refine vapp_pure0 (hj n) fun _ => ?_ | refine dapp_pure  law07_awake ?_ | refine dapp_pure  hJ0 ?_ | refine dapp_pure  (hj n) ?_); simp only [go_sem, ↓reduceIte, Nat.reduceEqDiff, Nat.reduceAdd, Nat.reduceSub, Nat.reduceMul, Nat.reduceLT, Nat.reduceLeDiff, reduceCtorEq, Int.reduceToNat]))
theorem law07_PtypesParts (l : List T) (w : Int) : VPure Try.prog 5 [.sl 4 (encTs l), .int .i64 w] (.bool true) := by
  by_cases hs : l.length ≤ 500
  · rcases u64_mod w with h | h | h | h
    · exact law07_parts0 l w hs h
    · exact law07_parts1 l w hs h
    · exact law07_parts2 l w hs h
    · exact law07_parts3 l w hs h
  · refine vpure_of c0a (by simp) (by simp only [go_sem]) rfl fun hw => ?_
    have hsi : (500 : Int) < l.length := by omega
    repeat' (first | refine vi_seq ?_ | refine vi_block ?_ | refine vi_scope ?_ | ((first | refine vi_reg ?_ | refine vi_regE (by rfl) ?_ | refine vi_regD ?_ | refine vi_label ?_ | refine vi_goto ?_ | refine vi_ret ?_ | refine vi_exit ?_ | refine vi_skip ?_ | refine vi_cond ?_); simp (disch := first | omega | (simp only [List.length_set, List.length_append, List.length_cons, List.length_nil]; done) | (simp only [List.length_set, List.length_append, List.length_cons, List.length_nil]; omega)) only [hsi, go_sem, ↓reduceIte, Nat.reduceEqDiff, Nat.reduceAdd, Nat.reduceSub, Nat.reduceMul, Nat.reduceLT, Nat.reduceLeDiff, reduceCtorEq, Int.reduceToNat]) | ((first | refine gd_caseb ?_ ?_ | refine cnd_caseb ?_ ?_) <;> intro hc <;> simp only [hc, go_sem, ↓reduceIte, Nat.reduceEqDiff, Nat.reduceAdd, Nat.reduceSub, Nat.reduceMul, Nat.reduceLT, Nat.reduceLeDiff, reduceCtorEq, Int.reduceToNat] <;> (try simp only [bool_not_true, bool_not_false, decide_eq_true_eq, decide_eq_false_iff_not, Bool.and_eq_true] at hc)) | refine And.intro (by first | assumption | omega | (have := len_pos (by assumption); omega) | (unfold capOK; omega)) ?_ | ((first | simp (disch := omega) only [encs_getN] | simp (disch := omega) only [wrapS]); (try simp only [go_sem, ↓reduceIte, Nat.reduceEqDiff, Nat.reduceAdd, Nat.reduceSub, Nat.reduceMul, Nat.reduceLT, Nat.reduceLeDiff, reduceCtorEq, Int.reduceToNat])) | ((first | refine vapp_pure0 law07_awake fun _ => ?_ | refine dapp_pure  law07_awake ?_); simp only [go_sem, ↓reduceIte, Nat.reduceEqDiff, Nat.reduceAdd, Nat.reduceSub, Nat.reduceMul, Nat.reduceLT, Nat.reduceLeDiff, reduceCtorEq, Int.reduceToNat]))
end Go.Proofs.Ytjigahnncojikaa
