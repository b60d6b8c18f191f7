/- Texts of this proof, joined. -/
import Derived.Test.YtjigahnncojikaaJbc
import Derived.Test.YtjigahnncojikaaJbd

/- types: what is read is a type -/
namespace Go.Proofs.Ytjigahnncojikaa
open Go Go.RowKit Go.V
set_option linter.unusedVariables false
set_option linter.unusedSimpArgs false

/-- Steps of a cursor. -/
inductive Stp : K → K → Prop
  | refl (c : K) : Stp c c
  | next (c : K) : Stp c (nextK c)
  | fail (c : K) (e : Int) : Stp c (failK c e)
  | nest (c : K) (n : Nat) : Stp c { c with nest := n }
  | trans {a b c : K} : Stp a b → Stp b c → Stp a c
theorem stp_enter (c : K) : Stp c (enterK c).1 := by
  unfold enterK
  split
  · split
    · exact .nest c _
    · exact .fail c 2
  · exact .refl c
theorem stp_leave (c : K) : Stp c (leaveK c) := by
  unfold leaveK
  split
  · split
    · exact .nest c _
    · exact .refl c
  · exact .refl c
theorem stp_take (c : K) (x : List UInt8) : Stp c (takeK c x).1 := by
  unfold takeK
  split
  · exact .next c
  · exact .refl c
theorem stp_want (c : K) (x : List UInt8) : Stp c (wantK c x).1 := by
  unfold wantK
  split
  · exact .next c
  · exact .fail c 5
theorem stp_kind (c : K) (k : Int) : Stp c (kindK c k).1 := by
  unfold kindK
  split
  · exact .next c
  · exact .fail c 5
section
variable {rec : K → K × Option N} (hm : ∀ c, Stp c (rec c).1)
include hm
theorem stp_typAtom (c : K) : Stp c (typAtom rec c).1 := by
  unfold typAtom
  split
  · exact .next c
  · split
    · exact .next c
    · split
      · split
        · have h1 := ((stp_enter c).trans (.next _)).trans (hm _)
          split
          · exact (h1.trans (stp_want _ _)).trans (stp_leave _)
          · exact h1.trans (stp_leave _)
        · exact stp_enter c
      · exact .fail c 5
theorem stp_typKids : ∀ (f : Nat) (c : K) (acc : List N), Stp c (typKids rec f c acc).1
  | 0, c, acc => .refl c
  | f + 1, c, acc => by
    rw [typKids]
    split
    · split
      · exact (stp_typAtom hm c).trans (stp_typKids f _ _)
      · exact stp_typAtom hm c
    · exact .refl c
theorem stp_typRow (c : K) : Stp c (typRow rec c).1 := by
  unfold typRow
  split
  · exact (Stp.next c).trans (stp_typKids hm _ _ _)
  · exact stp_typAtom hm c
theorem stp_typPred (c : K) : Stp c (typPred rec c).1 := by
  unfold typPred
  split
  · exact (stp_kind c 2).trans (stp_typAtom hm _)
  · exact stp_kind c 2
theorem stp_predsL (many : Bool) : ∀ (f : Nat) (c : K) (acc : List N), Stp c (predsL rec many f c acc).1
  | 0, c, acc => .refl c
  | f + 1, c, acc => by
    rw [predsL]
    split
    · split
      · exact ((stp_typPred hm c).trans (stp_take _ _)).trans (stp_predsL many f _ _)
      · exact stp_typPred hm c
    · exact stp_typPred hm c
theorem stp_predsB (c : K) : Stp c (predsB rec c).1 := by
  unfold predsB
  split
  · exact stp_take c _
  · exact (stp_take c _).trans (stp_predsL hm _ _ _ _)
theorem stp_typPreds (c : K) : Stp c (typPreds rec c).1 := by
  unfold typPreds predsE
  have h := stp_predsB hm c
  split
  · split
    · split
      · split
        · exact (h.trans (stp_want _ _)).trans (stp_want _ _)
        · exact h.trans (stp_want _ _)
      · exact h.trans (stp_want _ _)
    · exact h
  · exact .refl c
end
theorem stp_typAt : ∀ (f : Nat) (c : K), Stp c (typAt f c).1
  | 0, c => .refl c
  | f + 1, c => by
    have hr := (stp_enter c).trans (stp_typRow (stp_typAt f) (enterK c).1)
    rw [typAt]
    split
    · split
      · split
        · exact ((hr.trans (stp_take _ _)).trans (stp_typAt f _)).trans (stp_leave _)
        · exact hr.trans (stp_leave _)
      · exact hr.trans (stp_leave _)
    · exact stp_enter c
theorem Stp.words {c c' : K} (h : Stp c c') : c'.l = c.l ∧ c'.ep = c.ep := by
  induction h with
  | refl c => exact ⟨rfl, rfl⟩
  | next c =>
    unfold nextK
    split
    · split <;> exact ⟨rfl, rfl⟩
    · exact ⟨rfl, rfl⟩
  | fail c e => unfold failK; split <;> exact ⟨rfl, rfl⟩
  | nest c n => exact ⟨rfl, rfl⟩
  | trans _ _ h1 h2 => exact ⟨h2.1.trans h1.1, h2.2.trans h1.2⟩
/-- Words that are as the lexer makes them. -/
def okK (c : K) : Prop := ∀ t ∈ c.l, okTok t
theorem Stp.okK {c c' : K} (h : Stp c c') (hc : okK c) : okK c' := by
  unfold Go.Proofs.Ytjigahnncojikaa.okK at *
  rw [h.words.1]; exact hc
theorem okK_peek {c : K} (h : okK c) : okTok (peekK c) := by
  unfold peekK
  split
  · split
    · exact h _ (getT_mem (by assumption))
    · exact ⟨fun h => by simp at h, fun h => by simp at h, fun h => by simp at h⟩
  · exact ⟨fun h => by simp [T0] at h, fun h => by simp [T0] at h, fun h => by simp [T0] at h⟩
theorem ty_con {t : List UInt8} {p : Int} {ks : List N} (h : conW t = true) (hk : ks.all tyW = true) : tyW (.mk 2 p 0 t ks) = true := by
  rw [tyW, if_neg (by decide), if_pos ⟨rfl, rfl⟩, if_neg (con_ne h), h, tysW_all, hk]; rfl
section
variable {rec : K → K × Option N} (hm : ∀ c, Stp c (rec c).1) (ih : ∀ c, okK c → ∀ n, (rec c).2 = some n → tyW n = true)
include hm ih
omit hm in
theorem ty_atom {c : K} (hc : okK c) : ∀ n, (typAtom rec c).2 = some n → tyW n = true := by
  intro n h
  obtain ⟨h1, h2, h3⟩ := okK_peek hc
  unfold typAtom at h
  split at h
  · rename_i hk; cases h; rw [nameN, tyW, if_pos rfl, h1 hk]; rfl
  · split at h
    · rename_i hk; cases h; exact ty_con (h2 hk) rfl
    · split at h
      · split at h
        · split at h
          · simp only at h
            split at h
            · exact ih _ (((stp_enter c).trans (.next _)).okK hc) n h
            · cases h
          · cases h
        · cases h
      · cases h
theorem ty_kids : ∀ (f : Nat) (c : K) (acc : List N), okK c → acc.all tyW = true → ∀ l, (typKids rec f c acc).2 = some l → l.all tyW = true
  | 0, c, acc, hc, _ => fun n h => by cases h
  | f + 1, c, acc, hc, ha => fun l h => by
    rw [typKids] at h
    split at h
    · split at h
      · rename_i hs
        obtain ⟨n, hn⟩ := Option.isSome_iff_exists.1 hs
        refine ty_kids f _ _ ((stp_typAtom hm c).okK hc) ?_ l h
        rw [List.all_append, ha, hn]
        simp [ty_atom ih hc n hn]
      · cases h
    · cases h; exact ha
theorem ty_row {c : K} (hc : okK c) : ∀ n, (typRow rec c).2 = some n → tyW n = true := by
  intro n h
  unfold typRow at h
  split at h
  · rename_i hk
    obtain ⟨l, hl, rfl⟩ := Option.map_eq_some_iff.1 h
    exact ty_con ((okK_peek hc).2.1 hk) (ty_kids hm ih _ _ _ ((Stp.next c).okK hc) rfl l hl)
  · exact ty_atom ih hc n h
omit hm in
theorem pr_pred {c : K} (hc : okK c) : ∀ n, (typPred rec c).2 = some n → prW n = true := by
  intro n h
  unfold typPred at h
  split at h
  · rename_i hk
    obtain ⟨m, hmm, rfl⟩ := Option.map_eq_some_iff.1 h
    obtain ⟨e1, e2⟩ := kind_err hk
    have h2 := ty_atom ih ((stp_kind c 2).okK hc) m hmm
    rw [(kind_is hk).2]
    simp [prW, predN, N.kind, N.num, N.text, N.kids, (okK_peek hc).2.1 e2, h2]
  · cases h
theorem pr_predsL (many : Bool) : ∀ (f : Nat) (c : K) (acc : List N), okK c → acc.all prW = true → ∀ l, (predsL rec many f c acc).2 = some l → l.all prW = true
  | 0, c, acc, hc, _ => fun n h => by cases h
  | f + 1, c, acc, hc, ha => fun l h => by
    rw [predsL] at h
    split at h
    · rename_i hs
      obtain ⟨n, hn⟩ := Option.isSome_iff_exists.1 hs
      have hall : (acc ++ [(typPred rec c).2.getD N0]).all prW = true := by
        rw [List.all_append, ha, hn]
        simp [pr_pred ih hc n hn]
      split at h
      · exact pr_predsL many f _ _ (((stp_typPred hm c).trans (stp_take _ _)).okK hc) hall l h
      · cases h; exact hall
    · cases h
theorem pr_preds {c : K} (hc : okK c) : ∀ l, (typPreds rec c).2 = some l → l.all prW = true := by
  intro l h
  unfold typPreds at h
  split at h
  · have h := predsE_some h
    unfold predsB at h
    split at h
    · cases h; rfl
    · exact pr_predsL hm ih _ _ _ _ ((stp_take c _).okK hc) rfl l h
  · simp only at h
    split at h
    · cases h
    · cases h; rfl
end
theorem ty_At : ∀ (f : Nat) (c : K), okK c → ∀ n, (typAt f c).2 = some n → tyW n = true
  | 0, c, hc => fun n h => by cases h
  | f + 1, c, hc => fun n h => by
    have ih := ty_At f
    have hr := (stp_enter c).trans (stp_typRow (stp_typAt f) (enterK c).1)
    rw [typAt] at h
    split at h
    · split at h
      · rename_i hs
        obtain ⟨m, hm⟩ := Option.isSome_iff_exists.1 hs
        have h1 := ty_row (stp_typAt f) ih ((stp_enter c).okK hc) m hm
        split at h
        · obtain ⟨q, hq, rfl⟩ := Option.map_eq_some_iff.1 h
          have h2 := ih _ ((hr.trans (stp_take _ _)).okK hc) q hq
          rw [hm]
          rw [arrowN, tyW, if_neg (by decide), if_pos ⟨rfl, rfl⟩, if_pos rfl, tysW, tysW, tysW]
          simp [h1, h2]
        · rw [hm] at h; cases h; exact h1
      · cases h
    · cases h
theorem qu_Qual {f : Nat} {c : K} (hc : okK c) : ∀ n, (typQual f c).2 = some n → quW n = true := by
  intro n h
  unfold typQual at h
  split at h
  · rename_i hs
    obtain ⟨l, hl⟩ := Option.isSome_iff_exists.1 hs
    obtain ⟨q, hq, rfl⟩ := Option.map_eq_some_iff.1 h
    have h1 := pr_preds (stp_typAt f) (ty_At f) hc l hl
    have h2 := ty_At f _ ((stp_typPreds (stp_typAt f) c).okK hc) q hq
    rw [hl]
    have hlen : (((l ++ [q]).length : Int) - 1).toNat = l.length := by simp
    simp only [quW, qualN, bareW, N.kind, N.num, N.text, N.kids, Option.getD_some, hlen]
    simp [h1, h2]
  · cases h
end Go.Proofs.Ytjigahnncojikaa

/- types: what is read is legal -/
set_option maxRecDepth 4000
namespace Go.Proofs.Ytjigahnncojikaa
open Go Go.RowKit Go.V
set_option linter.unusedVariables false
set_option linter.unusedSimpArgs false

theorem low_law' {n : N} (h : sz n ≤ 1000000) : lowW n = decide (depR n ≤ 100) := by
  rw [lowW, walk_low n 1 false (by omega) (by omega), depR_dp n (by omega)]
  congr 1; simp only [eq_iff_iff]; omega
theorem ahead_mem : ∀ {l : List T} {t : T}, t ∈ aheadT l → t ∈ l
  | [], t, h => h
  | u :: r, t, h => by
    rw [aheadT] at h
    split at h
    · simp at h
    · rcases List.mem_cons.1 h with rfl | h
      · simp
      · exact List.mem_cons_of_mem _ (ahead_mem h)
theorem okK_new (s : List UInt8) : okK (newK (lexV s).1) := fun t ht => lexV_okTok t (ahead_mem ht)
/-- What is read of a text, if all is right. -/
theorem textV_ok {q : Bool} {s : List UInt8} (hs : s.length ≤ 900000) (h : (textV (typRd q) s).2.2 = 0) :
    (typRd q (newK (lexV s).1)).2 = some (textV (typRd q) s).1 ∧ depR (textV (typRd q) s).1 ≤ 100 ∧ sz (textV (typRd q) s).1 ≤ 900003 ∧ (textV (typRd q) s).2.1 = 0 := by
  have hem := em_le (newK (lexV s).1)
  have hal : (typRd q (newK (lexV s).1)).2 = none → (typRd q (newK (lexV s).1)).1.err ≠ 0 := by
    unfold typRd
    split
    · exact (alike_Qual (rest (newK (lexV s).1) + 2) (newK (lexV s).1) (fun t ht => ahead_kinds ht) (by omega)).2.2
    · exact (alike_tAt (rest (newK (lexV s).1) + 2) (newK (lexV s).1) (by omega)).2.2
  have hr : rest (newK (lexV s).1) ≤ 900001 := by
    have h2 := aheadT_len (lexV s).1
    have h3 := (lexV_len s).2
    have h4 : rest (newK (lexV s).1) = (aheadT (lexV s).1).length := rfl
    omega
  unfold textV at h ⊢
  split at h
  · rename_i he
    rw [if_pos he]
    unfold wholeV at h ⊢
    split at h
    · rename_i hd
      rw [if_pos hd]
      split at h
      · exact absurd h (by simp)
      · rename_i hdp
        rw [if_neg hdp]
        cases ho : (typRd q (newK (lexV s).1)).2 with
        | none => exact absurd (done_ok hd) (hal ho)
        | some n =>
          rw [ho] at hdp
          simp only [Option.getD_some] at hdp ⊢
          have h2 := sz_typRd ho
          exact ⟨trivial, by omega, by omega, trivial⟩
    · rename_i hd; exact absurd h hd
  · rename_i he; exact absurd h he
theorem legal_type {s : List UInt8} (hs : s.length ≤ 900000) (h : (textV (typRd false) s).2.2 = 0) : (lowW (textV (typRd false) s).1 && tyW (textV (typRd false) s).1) = true := by
  obtain ⟨h1, h2, h3, _⟩ := textV_ok hs h
  have h4 := ty_At _ _ (okK_new s) _ (show (typAt (rest (newK (lexV s).1) + 2) (newK (lexV s).1)).2 = some _ from h1)
  rw [h4, low_law' (by omega), Bool.and_true, decide_eq_true_eq]
  exact h2
theorem legal_qual {s : List UInt8} (hs : s.length ≤ 900000) (h : (textV (typRd true) s).2.2 = 0) (hd : depR (textV (typRd true) s).1 < 100) : declW (.mk 32 0 0 [120] [(textV (typRd true) s).1]) = true := by
  obtain ⟨h1, h2, h3, _⟩ := textV_ok hs h
  have h4 := qu_Qual (okK_new s) _ (show (typQual (rest (newK (lexV s).1) + 2) (newK (lexV s).1)).2 = some _ from h1)
  generalize (textV (typRd true) s).1 = n at *
  have hsz : sz (.mk 32 0 0 [120] [n]) = sz n + 1 := by rw [sz_eq]; simp [N.kids, szs]
  have hdp : depR (.mk 32 0 0 [120] [n]) = depR n + 1 := by
    rw [depR_dp _ (by omega), depR_dp n (by omega), dp_eq]
    simp [N.kids, dps]
  have hsg : sgW (.mk 32 0 0 [120] [n]) = true := by
    have hv : varW [120] = true := by decide
    simp [sgW, N.kind, N.num, N.text, N.kids, hv, h4]
  rw [declW, if_neg (by simp [N.kind]), low_law' (by omega), hdp, deW, if_neg (by simp [N.kind]), if_pos (by simp [N.kind]), hsg, Bool.and_true, decide_eq_true_eq]
  omega
theorem law07_PtypesLegal (s : List UInt8) : VPure Try.prog 7 [.str s] (.bool true) := by
  refine vpure_of c_envoylaw07_PtypesLegal (by simp) (by simp only [go_sem]) rfl fun hw => ?_
  by_cases hs : s.length ≤ 3000
  · have hsi : ¬ (3000 : Int) < s.length := by omega
    have hT : (textV (typRd false) s).2.2 = 0 → VPure Try.prog 33 [enc (textV (typRd false) s).1] (.bool true) := fun h => vp_eq (nodes_Type _) (by rw [legal_type (by omega) h])
    have hQ : (textV (typRd true) s).2.2 = 0 → depR (textV (typRd true) s).1 < 100 → VPure Try.prog 32 [.agg [.int .i64 32, .int .i64 0, .int .i64 0, .str [120], .sl 5 [enc (textV (typRd true) s).1]]] (.bool true) := fun h hd => by
      have h1 := vp_eq (nodes_Decl (.mk 32 0 0 [120] [(textV (typRd true) s).1])) (by rw [legal_qual (by omega) h hd])
      simpa only [enc, encs] using h1
    repeat' (first | refine vi_seq ?_ | refine vi_block ?_ | refine vi_scope ?_ | ((first | refine vi_reg ?_ | refine vi_regE (by rfl) ?_ | refine vi_regD ?_ | refine vi_label ?_ | refine vi_goto ?_ | refine vi_ret ?_ | refine vi_exit ?_ | refine vi_skip ?_ | refine vi_cond ?_); simp (disch := first | omega | (simp only [List.length_set, List.length_append, List.length_cons, List.length_nil]; done) | (simp only [List.length_set, List.length_append, List.length_cons, List.length_nil]; omega)) only [hsi, Int.reduceEq, decide_true, ne_eq, not_true_eq_false, go_sem, ↓reduceIte, Nat.reduceEqDiff, Nat.reduceAdd, Nat.reduceSub, Nat.reduceMul, Nat.reduceLT, Nat.reduceLeDiff, reduceCtorEq, Int.reduceToNat]) | ((first | refine gd_caseb ?_ ?_ | refine cnd_caseb ?_ ?_) <;> intro hc <;> simp only [hc, go_sem, ↓reduceIte, Nat.reduceEqDiff, Nat.reduceAdd, Nat.reduceSub, Nat.reduceMul, Nat.reduceLT, Nat.reduceLeDiff, reduceCtorEq, Int.reduceToNat] <;> (try simp only [bool_not_true, bool_not_false, decide_eq_true_eq, decide_eq_false_iff_not, Bool.and_eq_true] at hc)) | refine And.intro (by first | assumption | omega | (have := len_pos (by assumption); omega) | (unfold capOK; omega)) ?_ | ((first | simp (disch := omega) only [encs_getN] | simp (disch := omega) only [wrapS]); (try simp only [go_sem, ↓reduceIte, Nat.reduceEqDiff, Nat.reduceAdd, Nat.reduceSub, Nat.reduceMul, Nat.reduceLT, Nat.reduceLeDiff, reduceCtorEq, Int.reduceToNat])) | ((first | refine vapp_pure0 law07_awake fun _ => ?_ | refine vapp_pure0 (ptypes_Type s (by omega)) fun _ => ?_ | refine vapp_pure0 (ptypes_Qual s (by omega)) fun _ => ?_ | refine vapp_pure0 (depth12 _) fun _ => ?_ | refine vapp_pure0 (hT (by assumption)) fun _ => ?_ | refine vapp_pure0 (hQ (by assumption) (by assumption)) fun _ => ?_ | refine dapp_pure  law07_awake ?_ | refine dapp_pure  (ptypes_Type s (by omega)) ?_ | refine dapp_pure  (ptypes_Qual s (by omega)) ?_ | refine dapp_pure  (depth12 _) ?_ | refine dapp_pure  (hT (by assumption)) ?_ | refine dapp_pure  (hQ (by assumption) (by assumption)) ?_); simp only [go_sem, ↓reduceIte, Nat.reduceEqDiff, Nat.reduceAdd, Nat.reduceSub, Nat.reduceMul, Nat.reduceLT, Nat.reduceLeDiff, reduceCtorEq, Int.reduceToNat]))
  · have hsi : (3000 : Int) < s.length := by omega
    repeat' (first | refine vi_seq ?_ | refine vi_block ?_ | refine vi_scope ?_ | ((first | refine vi_reg ?_ | refine vi_regE (by rfl) ?_ | refine vi_regD ?_ | refine vi_label ?_ | refine vi_goto ?_ | refine vi_ret ?_ | refine vi_exit ?_ | refine vi_skip ?_ | refine vi_cond ?_); simp (disch := first | omega | (simp only [List.length_set, List.length_append, List.length_cons, List.length_nil]; done) | (simp only [List.length_set, List.length_append, List.length_cons, List.length_nil]; omega)) only [hsi, go_sem, ↓reduceIte, Nat.reduceEqDiff, Nat.reduceAdd, Nat.reduceSub, Nat.reduceMul, Nat.reduceLT, Nat.reduceLeDiff, reduceCtorEq, Int.reduceToNat]) | ((first | refine gd_caseb ?_ ?_ | refine cnd_caseb ?_ ?_) <;> intro hc <;> simp only [hc, go_sem, ↓reduceIte, Nat.reduceEqDiff, Nat.reduceAdd, Nat.reduceSub, Nat.reduceMul, Nat.reduceLT, Nat.reduceLeDiff, reduceCtorEq, Int.reduceToNat] <;> (try simp only [bool_not_true, bool_not_false, decide_eq_true_eq, decide_eq_false_iff_not, Bool.and_eq_true] at hc)) | refine And.intro (by first | assumption | omega | (have := len_pos (by assumption); omega) | (unfold capOK; omega)) ?_ | ((first | simp (disch := omega) only [encs_getN] | simp (disch := omega) only [wrapS]); (try simp only [go_sem, ↓reduceIte, Nat.reduceEqDiff, Nat.reduceAdd, Nat.reduceSub, Nat.reduceMul, Nat.reduceLT, Nat.reduceLeDiff, reduceCtorEq, Int.reduceToNat])) | ((first | refine vapp_pure0 law07_awake fun _ => ?_ | refine dapp_pure  law07_awake ?_); simp only [go_sem, ↓reduceIte, Nat.reduceEqDiff, Nat.reduceAdd, Nat.reduceSub, Nat.reduceMul, Nat.reduceLT, Nat.reduceLeDiff, reduceCtorEq, Int.reduceToNat]))
end Go.Proofs.Ytjigahnncojikaa
