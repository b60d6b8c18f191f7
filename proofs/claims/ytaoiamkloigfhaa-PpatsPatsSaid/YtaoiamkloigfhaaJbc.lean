/- Texts of this proof, joined. -/
import Derived.Test.YtaoiamkloigfhaaJaz
import Derived.Test.YtaoiamkloigfhaaJbb

/- patterns: variables -/
set_option maxRecDepth 4000
namespace Go.Proofs.Ytaoiamkloigfhaa
open Go Go.RowKit Go.V
set_option linter.unusedVariables false
set_option linter.unusedSimpArgs false

mutual
/-- All variables' nodes. -/
def vsW : N → List N
  | .mk k p m t ks => if k = 11 then [.mk k p m t ks] else vsL ks
def vsL : List N → List N
  | [] => []
  | x :: r => vsW x ++ vsL r
end
theorem vsW_eq (n : N) : vsW n = if n.kind = 11 then [n] else vsL n.kids := by cases n; rw [vsW]; rfl
theorem vsL_app : ∀ (a b : List N), vsL (a ++ b) = vsL a ++ vsL b
  | [], b => rfl
  | x :: a, b => by rw [List.cons_append, vsL, vsL, vsL_app a b, List.append_assoc]
theorem vsL_take {l : List N} {i : Nat} (h : i < l.length) : vsL (l.take (i + 1)) = vsL (l.take i) ++ vsW (l.getD i N0) := by rw [takeN h, vsL_app, vsL, vsL, List.append_nil]
theorem vsL_len : ∀ {l : List N}, (∀ x ∈ l, (vsW x).length ≤ sz x) → (vsL l).length ≤ szs l
  | [], _ => Nat.le_refl _
  | x :: r, h => by
    have h1 := h x (by simp)
    have h2 := vsL_len (l := r) fun y hy => h y (by simp [hy])
    simp only [vsL, szs, List.length_append]; omega
theorem vsW_len : ∀ n, (vsW n).length ≤ sz n := N.ind fun n ih => by
  rw [vsW_eq, sz_eq]
  split
  · simp
  · have := vsL_len ih; omega
theorem szs_take : ∀ (l : List N) (i : Nat), szs (l.take i) ≤ szs l
  | [], i => by simp
  | x :: r, 0 => Nat.zero_le _
  | x :: r, i + 1 => by have := szs_take r i; simp only [List.take_succ_cons, szs]; omega
/-- From nothing. -/
def VarsA (n : N) : Prop := VCalls Try.prog 16 [] [.nils, enc n] fun H' o =>
  (vsW n = [] ∧ H' = [.blk (enc n).cells] ∧ o = .val .nils) ∨ (vsW n ≠ [] ∧ H' = [.blk (enc n).cells, .app 5 (encs (vsW n))] ∧ o = .val (.row 1 (vsW n).length))
/-- Behind others. -/
def VarsB (es : List N) (n : N) : Prop := VCalls Try.prog 16 [.app 5 (encs es)] [.row 0 es.length, enc n] fun H' o =>
  (vsW n = [] ∧ H' = [.app 5 (encs es), .blk (enc n).cells] ∧ o = .val (.row 0 es.length)) ∨ (vsW n ≠ [] ∧ H' = [.dead, .blk (enc n).cells, .app 5 (encs (es ++ vsW n))] ∧ o = .val (.row 2 (es.length + (vsW n).length)))
theorem nblk_bd (k : Nat) (n : N) : (Ent.blk (enc n).cells).bd k = true := by cases n; simp [enc, AV.cells, Ent.bd, AV.bds, AV.bd, encs_bd]
theorem nblk_ren (σ : Nat → Nat) (n : N) : (Ent.blk (enc n).cells).ren σ = .blk (enc n).cells := Ent.ren_same (m := 0) (fun i hi => by omega) _ (nblk_bd 0 n)
theorem napp_bd (k : Nat) (l : List N) : (Ent.app 5 (encs l)).bd k = true := by simp [Ent.bd, encs_bd]
theorem napp_ren (σ : Nat → Nat) (l : List N) : (Ent.app 5 (encs l)).ren σ = .app 5 (encs l) := Ent.ren_same (m := 0) (fun i hi => by omega) _ (napp_bd 0 l)
theorem varsA_app {n : N} (h : VarsA n) {L : List Ent} {Q : List Ent → VO → Prop} (h0 : vsW n = [] → Q (L ++ [.blk (enc n).cells]) (.val .nils)) (h1 : vsW n ≠ [] → Q (L ++ [.blk (enc n).cells, .app 5 (encs (vsW n))]) (.val (.row (L.length + 1) (vsW n).length))) :
    VApp Try.prog L (.fn 16 [] []) [.nils, enc n] Q :=
  vapp_fn (first := []) (caps := []) (by
    simp only [List.nil_append, List.append_nil]
    have ha : AV.bds 0 [.nils, enc n] = true := by simp [AV.bds, AV.bd, enc_bd]
    have hs : AV.rens (sg []) [.nils, enc n] = [.nils, enc n] := rens_same (m := 0) (fun i hi => by omega) _ ha
    rw [← hs]
    refine vcalls_sel (H0 := []) [] h (by simp) (by simp) rfl (fun j e2 hj => by simp at hj) ha ?_
    rintro H1 o (⟨hv, rfl, rfl⟩ | ⟨hv, rfl, rfl⟩)
    · simp only [List.length_nil, List.take_zero, List.map_nil, setAll, List.drop_zero, List.map_cons, nblk_ren, VO.ren, AV.ren]
      exact h0 hv
    · simp only [List.length_nil, List.take_zero, List.map_nil, setAll, List.drop_zero, List.map_cons, nblk_ren, napp_ren, VO.ren, AV.ren, sg', Nat.not_lt_zero, if_false, Nat.sub_zero]
      exact h1 hv)
theorem varsB_app (p : Nat) {es : List N} {n : N} (h : VarsB es n) {L : List Ent} (hp : L[p]? = some (.app 5 (encs es))) {Q : List Ent → VO → Prop} (h0 : vsW n = [] → Q (L ++ [.blk (enc n).cells]) (.val (.row p es.length)))
    (h1 : vsW n ≠ [] → Q (L.set p .dead ++ [.blk (enc n).cells, .app 5 (encs (es ++ vsW n))]) (.val (.row (L.length + 1) (es.length + (vsW n).length)))) :
    VApp Try.prog L (.fn 16 [] []) [.row p es.length, enc n] Q :=
  vapp_fn (first := []) (caps := []) (by
    simp only [List.nil_append, List.append_nil]
    have hlt : p < L.length := (List.getElem?_eq_some_iff.1 hp).1
    have ha : AV.bds 1 [.row 0 es.length, enc n] = true := by simp [AV.bds, AV.bd, enc_bd]
    have hs : AV.rens (sg [p]) [.row 0 es.length, enc n] = [.row p es.length, enc n] := by simp [AV.rens, AV.ren, enc_ren, sg]
    rw [← hs]
    have hset : L.set p (.app 5 (encs es)) = L := by
      apply List.ext_getElem?
      intro i
      by_cases hi : i = p
      · subst hi; rw [List.getElem?_set_self hlt, hp]
      · rw [List.getElem?_set_ne (Ne.symm hi)]
    refine vcalls_sel (H0 := [.app 5 (encs es)]) [p] h (by simp) (by simpa using hlt) rfl ?_ ha ?_
    · intro j e2 hj
      obtain rfl : j = 0 := by have := (List.getElem?_eq_some_iff.1 hj).1; simp at this; omega
      simp only [List.getElem?_cons_zero, Option.some.injEq] at hj
      subst hj
      exact .inr ⟨napp_bd _ _, by rw [napp_ren]; exact hp⟩
    have hd : Ent.dead.ren (sg' [p] L.length) = .dead := rfl
    rintro H1 o (⟨hv, rfl, rfl⟩ | ⟨hv, rfl, rfl⟩)
    · simp only [List.length_cons, List.length_nil, List.take_succ_cons, List.take_zero, List.map_nil, setAll, List.drop_zero, List.drop_succ_cons, List.map_cons, nblk_ren, napp_ren, VO.ren, AV.ren, sg']
      rw [hset]
      exact h0 hv
    · simp only [List.length_cons, List.length_nil, List.take_succ_cons, List.take_zero, List.map_nil, setAll, List.drop_zero, List.drop_succ_cons, List.map_cons, nblk_ren, napp_ren, hd, VO.ren, AV.ren, sg']
      exact h1 hv)
theorem encs_nil' {l : List N} (h : l = []) : encs l = [] := by rw [h]; rfl
def vaSt (n : N) (i : Nat) : AF × List Ent :=
  (⟨[(0, accV 1 (encs (vsL (n.kids.take i)))), (3, .ptr 0 0), (15, .sl 5 (encs n.kids)), (16, .int .i64 n.kids.length), (17, .int .i64 i)], []⟩,
    .blk (enc n).cells :: accE 5 (encs (vsL (n.kids.take i))))
theorem ppats_varsA {n : N} (ih : ∀ x ∈ n.kids, sz x ≤ 100000 → VarsA x ∧ ∀ es : List N, es ≠ [] → es.length + sz x ≤ 300000 → VarsB es x) (hsz : sz n ≤ 100000) : VarsA n := by
  obtain ⟨kk, hk1, hk2⟩ : ∃ k : Nat, (vsW n = [] → k = 1) ∧ (vsW n ≠ [] → k = 2) := by
    by_cases h : vsW n = []
    · exact ⟨1, fun _ => rfl, fun g => absurd h g⟩
    · exact ⟨2, fun g => absurd g h, fun _ => rfl⟩
  refine vcalls_raw c_ppats_vars kk (by simp) (by simp) ?_
  have hq := vsW_eq n
  have hsk : szs n.kids + 1 ≤ 100000 := by rw [sz_eq] at hsz; exact hsz
  have hkl : n.kids.length ≤ maxLen := by have := len_szs n.kids; unfold maxLen; omega
  by_cases h11 : n.kind = 11
  · rw [if_pos h11] at hq
    obtain rfl := hk2 (by rw [hq]; simp)
    rw [hq]
    repeat' (first | refine vi_seq ?_ | refine vi_block ?_ | refine vi_scope ?_ | ((first | refine vi_reg ?_ | refine vi_regE (by rfl) ?_ | refine vi_regD ?_ | refine vi_label ?_ | refine vi_goto ?_ | refine vi_ret ?_ | refine vi_exit ?_ | refine vi_skip ?_); simp (disch := first | omega | (simp only [List.length_set, List.length_append, List.length_cons, List.length_nil]; done) | (simp only [List.length_set, List.length_append, List.length_cons, List.length_nil]; omega)) only [h11, Int.reduceEq, go_sem, ↓reduceIte, Nat.reduceEqDiff, Nat.reduceAdd, Nat.reduceSub, Nat.reduceMul, Nat.reduceLT, Nat.reduceLeDiff, reduceCtorEq, Int.reduceToNat]) | ((first | refine gd_caseb ?_ ?_ | refine cnd_caseb ?_ ?_) <;> intro hc <;> simp only [hc, go_sem, ↓reduceIte, Nat.reduceEqDiff, Nat.reduceAdd, Nat.reduceSub, Nat.reduceMul, Nat.reduceLT, Nat.reduceLeDiff, reduceCtorEq, Int.reduceToNat] <;> (try simp only [bool_not_true, bool_not_false, decide_eq_true_eq, decide_eq_false_iff_not, Bool.and_eq_true] at hc)) | (refine vi_cond ?_; simp (disch := first | omega | (simp only [List.length_set, List.length_append, List.length_cons, List.length_nil]; done) | (simp only [List.length_set, List.length_append, List.length_cons, List.length_nil]; omega)) only [h11, Int.reduceEq, go_sem, ↓reduceIte, Nat.reduceEqDiff, Nat.reduceAdd, Nat.reduceSub, Nat.reduceMul, Nat.reduceLT, Nat.reduceLeDiff, reduceCtorEq, Int.reduceToNat]) | refine And.intro (by first | assumption | omega | (have := len_pos (by assumption); omega) | (unfold capOK; omega)) ?_ | (simp (disch := omega) only [encs_getN]; (try simp only [go_sem, ↓reduceIte, Nat.reduceEqDiff, Nat.reduceAdd, Nat.reduceSub, Nat.reduceMul, Nat.reduceLT, Nat.reduceLeDiff, reduceCtorEq, Int.reduceToNat])) | (simp (disch := omega) only [wrapS]; (try simp only [go_sem, ↓reduceIte, Nat.reduceEqDiff, Nat.reduceAdd, Nat.reduceSub, Nat.reduceMul, Nat.reduceLT, Nat.reduceLeDiff, reduceCtorEq, Int.reduceToNat])))
    refine ⟨by simp, ?_⟩
    simp only [encs]; rw [← enc_fold n, h11]
  · rw [if_neg h11] at hq
    rw [hq]
    repeat' (first | refine vi_seq ?_ | refine vi_block ?_ | refine vi_scope ?_ | ((first | refine vi_reg ?_ | refine vi_regE (by rfl) ?_ | refine vi_regD ?_ | refine vi_label ?_ | refine vi_goto ?_ | refine vi_ret ?_ | refine vi_exit ?_ | refine vi_skip ?_); simp (disch := first | omega | (simp only [List.length_set, List.length_append, List.length_cons, List.length_nil]; done) | (simp only [List.length_set, List.length_append, List.length_cons, List.length_nil]; omega)) only [h11, go_sem, ↓reduceIte, Nat.reduceEqDiff, Nat.reduceAdd, Nat.reduceSub, Nat.reduceMul, Nat.reduceLT, Nat.reduceLeDiff, reduceCtorEq, Int.reduceToNat]) | ((first | refine gd_caseb ?_ ?_ | refine cnd_caseb ?_ ?_) <;> intro hc <;> simp only [hc, go_sem, ↓reduceIte, Nat.reduceEqDiff, Nat.reduceAdd, Nat.reduceSub, Nat.reduceMul, Nat.reduceLT, Nat.reduceLeDiff, reduceCtorEq, Int.reduceToNat] <;> (try simp only [bool_not_true, bool_not_false, decide_eq_true_eq, decide_eq_false_iff_not, Bool.and_eq_true] at hc)) | (refine vi_cond ?_; simp (disch := first | omega | (simp only [List.length_set, List.length_append, List.length_cons, List.length_nil]; done) | (simp only [List.length_set, List.length_append, List.length_cons, List.length_nil]; omega)) only [h11, go_sem, ↓reduceIte, Nat.reduceEqDiff, Nat.reduceAdd, Nat.reduceSub, Nat.reduceMul, Nat.reduceLT, Nat.reduceLeDiff, reduceCtorEq, Int.reduceToNat]) | refine And.intro (by first | assumption | omega | (have := len_pos (by assumption); omega) | (unfold capOK; omega)) ?_ | (simp (disch := omega) only [encs_getN]; (try simp only [go_sem, ↓reduceIte, Nat.reduceEqDiff, Nat.reduceAdd, Nat.reduceSub, Nat.reduceMul, Nat.reduceLT, Nat.reduceLeDiff, reduceCtorEq, Int.reduceToNat])) | (simp (disch := omega) only [wrapS]; (try simp only [go_sem, ↓reduceIte, Nat.reduceEqDiff, Nat.reduceAdd, Nat.reduceSub, Nat.reduceMul, Nat.reduceLT, Nat.reduceLeDiff, reduceCtorEq, Int.reduceToNat])))
    refine vi_loop (S := Nat) (fun i => i ≤ n.kids.length) (vaSt n) (fun i => n.kids.length - i) ?_ fun i hi => ?_
    · refine at_of 0 [0] (Nat.zero_le _) rfl (by simp) ?_ ?_ ?_ <;> simp only [vaSt, List.take_zero, vsL, encs, accV_nil, accE_nil] <;> (try simp only [go_sem, ↓reduceIte, Nat.reduceEqDiff, Nat.reduceAdd, Nat.reduceSub, Nat.reduceMul, Nat.reduceLT, Nat.reduceLeDiff, reduceCtorEq, Int.reduceToNat]) <;> (try simp (disch := omega) only [wrapS])
    · unfold vaSt
      by_cases hlt : i < n.kids.length
      · have hmem : n.kids.getD i N0 ∈ n.kids := getN_mem hlt
        have hsm := mem_szs hmem
        obtain ⟨iA, iB⟩ := ih _ hmem (by omega)
        have hst := szs_take n.kids i
        have hln : (vsL (n.kids.take i)).length ≤ szs (n.kids.take i) := vsL_len fun x _ => vsW_len x
        have hil : (i : Int) < n.kids.length := by omega
        have htk := vsL_take hlt
        by_cases h0 : vsL (n.kids.take i) = []
        · simp only [h0, encs, accV_nil, accE_nil]
          rw [h0, List.nil_append] at htk
          repeat' (first | refine vi_seq ?_ | refine vi_block ?_ | refine vi_scope ?_ | ((first | refine vi_regr ?_ | refine vi_regD ?_ | refine vi_label ?_ | refine vi_goto ?_ | refine vi_ret ?_ | refine vi_exit ?_ | refine vi_skip ?_); simp (disch := first | omega | (simp only [List.length_set, List.length_append, List.length_cons, List.length_nil]; done) | (simp only [List.length_set, List.length_append, List.length_cons, List.length_nil]; omega)) only [hil, go_sem, ↓reduceIte, Nat.reduceEqDiff, Nat.reduceAdd, Nat.reduceSub, Nat.reduceMul, Nat.reduceLT, Nat.reduceLeDiff, reduceCtorEq, Int.reduceToNat]) | (simp (disch := omega) only [encs_getN]; (try simp only [go_sem, ↓reduceIte, Nat.reduceEqDiff, Nat.reduceAdd, Nat.reduceSub, Nat.reduceMul, Nat.reduceLT, Nat.reduceLeDiff, reduceCtorEq, Int.reduceToNat])) | ((first | refine gd_caseb ?_ ?_ | refine cnd_caseb ?_ ?_) <;> intro hc <;> simp only [hc, go_sem, ↓reduceIte, Nat.reduceEqDiff, Nat.reduceAdd, Nat.reduceSub, Nat.reduceMul, Nat.reduceLT, Nat.reduceLeDiff, reduceCtorEq, Int.reduceToNat] <;> (try simp only [bool_not_true, bool_not_false, decide_eq_true_eq, decide_eq_false_iff_not, Bool.and_eq_true] at hc)) | (refine vi_cond ?_; simp (disch := first | omega | (simp only [List.length_set, List.length_append, List.length_cons, List.length_nil]; done) | (simp only [List.length_set, List.length_append, List.length_cons, List.length_nil]; omega)) only [hil, go_sem, ↓reduceIte, Nat.reduceEqDiff, Nat.reduceAdd, Nat.reduceSub, Nat.reduceMul, Nat.reduceLT, Nat.reduceLeDiff, reduceCtorEq, Int.reduceToNat]) | refine And.intro (by first | assumption | omega | (have := len_pos (by assumption); omega) | (unfold capOK; omega)) ?_ | (simp (disch := omega) only [encs_getN]; (try simp only [go_sem, ↓reduceIte, Nat.reduceEqDiff, Nat.reduceAdd, Nat.reduceSub, Nat.reduceMul, Nat.reduceLT, Nat.reduceLeDiff, reduceCtorEq, Int.reduceToNat])) | (simp (disch := omega) only [wrapS]; (try simp only [go_sem, ↓reduceIte, Nat.reduceEqDiff, Nat.reduceAdd, Nat.reduceSub, Nat.reduceMul, Nat.reduceLT, Nat.reduceLeDiff, reduceCtorEq, Int.reduceToNat])) | ((first | refine varsA_app iA (fun hv => ?_) (fun hv => ?_)); simp only [go_sem, ↓reduceIte, Nat.reduceEqDiff, Nat.reduceAdd, Nat.reduceSub, Nat.reduceMul, Nat.reduceLT, Nat.reduceLeDiff, reduceCtorEq, Int.reduceToNat]))
          · refine at_of (i + 1) [0] ⟨by omega, by omega⟩ rfl (by simp) ?_ ?_ ?_
            all_goals rw [hv] at htk
            all_goals simp only [htk, encs, accV_nil, accE_nil]
            all_goals simp only [go_sem, ↓reduceIte, Nat.reduceEqDiff, Nat.reduceAdd, Nat.reduceSub, Nat.reduceMul, Nat.reduceLT, Nat.reduceLeDiff, reduceCtorEq, Int.reduceToNat]
          · have hne := encs_ne hv
            refine at_of (i + 1) [0, 3] ⟨by omega, by omega⟩ rfl (by simp) ?_ ?_ ?_
            all_goals simp only [htk, accV_ne hne, accE_ne hne, encs_len]
            all_goals simp only [go_sem, ↓reduceIte, Nat.reduceEqDiff, Nat.reduceAdd, Nat.reduceSub, Nat.reduceMul, Nat.reduceLT, Nat.reduceLeDiff, reduceCtorEq, Int.reduceToNat]
        · have hne := encs_ne h0
          simp only [accV_ne hne, accE_ne hne, encs_len]
          repeat' (first | refine vi_seq ?_ | refine vi_block ?_ | refine vi_scope ?_ | ((first | refine vi_regr ?_ | refine vi_regD ?_ | refine vi_label ?_ | refine vi_goto ?_ | refine vi_ret ?_ | refine vi_exit ?_ | refine vi_skip ?_); simp (disch := first | omega | (simp only [List.length_set, List.length_append, List.length_cons, List.length_nil]; done) | (simp only [List.length_set, List.length_append, List.length_cons, List.length_nil]; omega)) only [hil, go_sem, ↓reduceIte, Nat.reduceEqDiff, Nat.reduceAdd, Nat.reduceSub, Nat.reduceMul, Nat.reduceLT, Nat.reduceLeDiff, reduceCtorEq, Int.reduceToNat]) | (simp (disch := omega) only [encs_getN]; (try simp only [go_sem, ↓reduceIte, Nat.reduceEqDiff, Nat.reduceAdd, Nat.reduceSub, Nat.reduceMul, Nat.reduceLT, Nat.reduceLeDiff, reduceCtorEq, Int.reduceToNat])) | ((first | refine gd_caseb ?_ ?_ | refine cnd_caseb ?_ ?_) <;> intro hc <;> simp only [hc, go_sem, ↓reduceIte, Nat.reduceEqDiff, Nat.reduceAdd, Nat.reduceSub, Nat.reduceMul, Nat.reduceLT, Nat.reduceLeDiff, reduceCtorEq, Int.reduceToNat] <;> (try simp only [bool_not_true, bool_not_false, decide_eq_true_eq, decide_eq_false_iff_not, Bool.and_eq_true] at hc)) | (refine vi_cond ?_; simp (disch := first | omega | (simp only [List.length_set, List.length_append, List.length_cons, List.length_nil]; done) | (simp only [List.length_set, List.length_append, List.length_cons, List.length_nil]; omega)) only [hil, go_sem, ↓reduceIte, Nat.reduceEqDiff, Nat.reduceAdd, Nat.reduceSub, Nat.reduceMul, Nat.reduceLT, Nat.reduceLeDiff, reduceCtorEq, Int.reduceToNat]) | refine And.intro (by first | assumption | omega | (have := len_pos (by assumption); omega) | (unfold capOK; omega)) ?_ | (simp (disch := omega) only [encs_getN]; (try simp only [go_sem, ↓reduceIte, Nat.reduceEqDiff, Nat.reduceAdd, Nat.reduceSub, Nat.reduceMul, Nat.reduceLT, Nat.reduceLeDiff, reduceCtorEq, Int.reduceToNat])) | (simp (disch := omega) only [wrapS]; (try simp only [go_sem, ↓reduceIte, Nat.reduceEqDiff, Nat.reduceAdd, Nat.reduceSub, Nat.reduceMul, Nat.reduceLT, Nat.reduceLeDiff, reduceCtorEq, Int.reduceToNat])) | ((first | refine varsB_app 1 (iB _ h0 (by omega)) (by rfl) (fun hv => ?_) (fun hv => ?_)); simp only [go_sem, ↓reduceIte, Nat.reduceEqDiff, Nat.reduceAdd, Nat.reduceSub, Nat.reduceMul, Nat.reduceLT, Nat.reduceLeDiff, reduceCtorEq, Int.reduceToNat]))
          · refine at_of (i + 1) [0, 1] ⟨by omega, by omega⟩ rfl (by simp) ?_ ?_ ?_
            all_goals rw [hv, List.append_nil] at htk
            all_goals simp only [htk, accV_ne hne, accE_ne hne, encs_len]
            all_goals simp only [go_sem, ↓reduceIte, Nat.reduceEqDiff, Nat.reduceAdd, Nat.reduceSub, Nat.reduceMul, Nat.reduceLT, Nat.reduceLeDiff, reduceCtorEq, Int.reduceToNat]
          · have hne2 : encs (vsL (n.kids.take i) ++ vsW (n.kids.getD i N0)) ≠ [] := encs_ne (fun h => hv (List.append_eq_nil_iff.1 h).2)
            refine at_of (i + 1) [0, 4] ⟨by omega, by omega⟩ rfl (by simp) ?_ ?_ ?_
            all_goals simp only [htk, accV_ne hne2, accE_ne hne2, encs_len, List.length_append]
            all_goals simp only [go_sem, ↓reduceIte, Nat.reduceEqDiff, Nat.reduceAdd, Nat.reduceSub, Nat.reduceMul, Nat.reduceLT, Nat.reduceLeDiff, reduceCtorEq, Int.reduceToNat]
      · have hil : ¬ (i : Int) < n.kids.length := by omega
        have htk : n.kids.take i = n.kids := List.take_of_length_le (by omega)
        rw [htk]
        by_cases h0 : vsL n.kids = []
        · obtain rfl := hk1 (by rw [hq]; exact h0)
          simp only [h0, encs, accV_nil, accE_nil]
          repeat' (first | refine vi_seq ?_ | refine vi_block ?_ | refine vi_scope ?_ | ((first | refine vi_reg ?_ | refine vi_regE (by rfl) ?_ | refine vi_regD ?_ | refine vi_label ?_ | refine vi_goto ?_ | refine vi_ret ?_ | refine vi_exit ?_ | refine vi_skip ?_); simp (disch := first | omega | (simp only [List.length_set, List.length_append, List.length_cons, List.length_nil]; done) | (simp only [List.length_set, List.length_append, List.length_cons, List.length_nil]; omega)) only [hil, go_sem, ↓reduceIte, Nat.reduceEqDiff, Nat.reduceAdd, Nat.reduceSub, Nat.reduceMul, Nat.reduceLT, Nat.reduceLeDiff, reduceCtorEq, Int.reduceToNat]) | ((first | refine gd_caseb ?_ ?_ | refine cnd_caseb ?_ ?_) <;> intro hc <;> simp only [hc, go_sem, ↓reduceIte, Nat.reduceEqDiff, Nat.reduceAdd, Nat.reduceSub, Nat.reduceMul, Nat.reduceLT, Nat.reduceLeDiff, reduceCtorEq, Int.reduceToNat] <;> (try simp only [bool_not_true, bool_not_false, decide_eq_true_eq, decide_eq_false_iff_not, Bool.and_eq_true] at hc)) | (refine vi_cond ?_; simp (disch := first | omega | (simp only [List.length_set, List.length_append, List.length_cons, List.length_nil]; done) | (simp only [List.length_set, List.length_append, List.length_cons, List.length_nil]; omega)) only [hil, go_sem, ↓reduceIte, Nat.reduceEqDiff, Nat.reduceAdd, Nat.reduceSub, Nat.reduceMul, Nat.reduceLT, Nat.reduceLeDiff, reduceCtorEq, Int.reduceToNat]) | refine And.intro (by first | assumption | omega | (have := len_pos (by assumption); omega) | (unfold capOK; omega)) ?_ | (simp (disch := omega) only [encs_getN]; (try simp only [go_sem, ↓reduceIte, Nat.reduceEqDiff, Nat.reduceAdd, Nat.reduceSub, Nat.reduceMul, Nat.reduceLT, Nat.reduceLeDiff, reduceCtorEq, Int.reduceToNat])) | (simp (disch := omega) only [wrapS]; (try simp only [go_sem, ↓reduceIte, Nat.reduceEqDiff, Nat.reduceAdd, Nat.reduceSub, Nat.reduceMul, Nat.reduceLT, Nat.reduceLeDiff, reduceCtorEq, Int.reduceToNat])))
        · have hne := encs_ne h0
          simp only [accV_ne hne, accE_ne hne, encs_len]
          obtain rfl := hk2 (by rw [hq]; exact h0)
          repeat' (first | refine vi_seq ?_ | refine vi_block ?_ | refine vi_scope ?_ | ((first | refine vi_reg ?_ | refine vi_regE (by rfl) ?_ | refine vi_regD ?_ | refine vi_label ?_ | refine vi_goto ?_ | refine vi_ret ?_ | refine vi_exit ?_ | refine vi_skip ?_); simp (disch := first | omega | (simp only [List.length_set, List.length_append, List.length_cons, List.length_nil]; done) | (simp only [List.length_set, List.length_append, List.length_cons, List.length_nil]; omega)) only [hil, go_sem, ↓reduceIte, Nat.reduceEqDiff, Nat.reduceAdd, Nat.reduceSub, Nat.reduceMul, Nat.reduceLT, Nat.reduceLeDiff, reduceCtorEq, Int.reduceToNat]) | ((first | refine gd_caseb ?_ ?_ | refine cnd_caseb ?_ ?_) <;> intro hc <;> simp only [hc, go_sem, ↓reduceIte, Nat.reduceEqDiff, Nat.reduceAdd, Nat.reduceSub, Nat.reduceMul, Nat.reduceLT, Nat.reduceLeDiff, reduceCtorEq, Int.reduceToNat] <;> (try simp only [bool_not_true, bool_not_false, decide_eq_true_eq, decide_eq_false_iff_not, Bool.and_eq_true] at hc)) | (refine vi_cond ?_; simp (disch := first | omega | (simp only [List.length_set, List.length_append, List.length_cons, List.length_nil]; done) | (simp only [List.length_set, List.length_append, List.length_cons, List.length_nil]; omega)) only [hil, go_sem, ↓reduceIte, Nat.reduceEqDiff, Nat.reduceAdd, Nat.reduceSub, Nat.reduceMul, Nat.reduceLT, Nat.reduceLeDiff, reduceCtorEq, Int.reduceToNat]) | refine And.intro (by first | assumption | omega | (have := len_pos (by assumption); omega) | (unfold capOK; omega)) ?_ | (simp (disch := omega) only [encs_getN]; (try simp only [go_sem, ↓reduceIte, Nat.reduceEqDiff, Nat.reduceAdd, Nat.reduceSub, Nat.reduceMul, Nat.reduceLT, Nat.reduceLeDiff, reduceCtorEq, Int.reduceToNat])) | (simp (disch := omega) only [wrapS]; (try simp only [go_sem, ↓reduceIte, Nat.reduceEqDiff, Nat.reduceAdd, Nat.reduceSub, Nat.reduceMul, Nat.reduceLT, Nat.reduceLeDiff, reduceCtorEq, Int.reduceToNat])))
          exact .inr h0
def vbSt (es : List N) (n : N) (i : Nat) : AF × List Ent :=
  if vsL (n.kids.take i) = [] then
    (⟨[(0, .row 0 es.length), (3, .ptr 1 0), (15, .sl 5 (encs n.kids)), (16, .int .i64 n.kids.length), (17, .int .i64 i)], []⟩,
      [.app 5 (encs es), .blk (enc n).cells])
  else
    (⟨[(0, .row 2 (es ++ vsL (n.kids.take i)).length), (3, .ptr 1 0), (15, .sl 5 (encs n.kids)), (16, .int .i64 n.kids.length), (17, .int .i64 i)], []⟩,
      [.dead, .blk (enc n).cells, .app 5 (encs (es ++ vsL (n.kids.take i)))])
theorem ppats_varsB {n : N} (ih : ∀ x ∈ n.kids, sz x ≤ 100000 → ∀ es : List N, es ≠ [] → es.length + sz x ≤ 300000 → VarsB es x) (hsz : sz n ≤ 100000) (es : List N) (he0 : es ≠ []) (hes : es.length + sz n ≤ 300000) : VarsB es n := by
  obtain ⟨kk, hk1, hk2, hk0⟩ : ∃ k : Nat, (vsW n = [] → k = 2) ∧ (vsW n ≠ [] → k = 3) ∧ 1 ≤ k := by
    by_cases h : vsW n = []
    · exact ⟨2, fun _ => rfl, fun g => absurd h g, by omega⟩
    · exact ⟨3, fun g => absurd g h, fun _ => rfl, by omega⟩
  refine vcalls_raw c_ppats_vars kk (by simpa using hk0) (by simp) ?_
  have hq := vsW_eq n
  have hsk : szs n.kids + 1 ≤ 100000 := by rw [sz_eq] at hsz; exact hsz
  have hsn := sz_eq n
  have hkl : n.kids.length ≤ maxLen := by have := len_szs n.kids; unfold maxLen; omega
  have hcap : capOK (es.length + 1) 64 := capN (by omega)
  by_cases h11 : n.kind = 11
  · rw [if_pos h11] at hq
    obtain rfl := hk2 (by rw [hq]; simp)
    rw [hq]
    repeat' (first | refine vi_seq ?_ | refine vi_block ?_ | refine vi_scope ?_ | ((first | refine vi_reg ?_ | refine vi_regE (by rfl) ?_ | refine vi_regD ?_ | refine vi_label ?_ | refine vi_goto ?_ | refine vi_ret ?_ | refine vi_exit ?_ | refine vi_skip ?_); simp (disch := first | omega | (simp only [List.length_set, List.length_append, List.length_cons, List.length_nil]; done) | (simp only [List.length_set, List.length_append, List.length_cons, List.length_nil]; omega)) only [h11, Int.reduceEq, go_sem, ↓reduceIte, Nat.reduceEqDiff, Nat.reduceAdd, Nat.reduceSub, Nat.reduceMul, Nat.reduceLT, Nat.reduceLeDiff, reduceCtorEq, Int.reduceToNat]) | ((first | refine gd_caseb ?_ ?_ | refine cnd_caseb ?_ ?_) <;> intro hc <;> simp only [hc, go_sem, ↓reduceIte, Nat.reduceEqDiff, Nat.reduceAdd, Nat.reduceSub, Nat.reduceMul, Nat.reduceLT, Nat.reduceLeDiff, reduceCtorEq, Int.reduceToNat] <;> (try simp only [bool_not_true, bool_not_false, decide_eq_true_eq, decide_eq_false_iff_not, Bool.and_eq_true] at hc)) | (refine vi_cond ?_; simp (disch := first | omega | (simp only [List.length_set, List.length_append, List.length_cons, List.length_nil]; done) | (simp only [List.length_set, List.length_append, List.length_cons, List.length_nil]; omega)) only [h11, Int.reduceEq, go_sem, ↓reduceIte, Nat.reduceEqDiff, Nat.reduceAdd, Nat.reduceSub, Nat.reduceMul, Nat.reduceLT, Nat.reduceLeDiff, reduceCtorEq, Int.reduceToNat]) | refine And.intro (by first | assumption | omega | (have := len_pos (by assumption); omega) | (unfold capOK; omega)) ?_ | (simp (disch := omega) only [encs_getN]; (try simp only [go_sem, ↓reduceIte, Nat.reduceEqDiff, Nat.reduceAdd, Nat.reduceSub, Nat.reduceMul, Nat.reduceLT, Nat.reduceLeDiff, reduceCtorEq, Int.reduceToNat])) | (simp (disch := omega) only [wrapS]; (try simp only [go_sem, ↓reduceIte, Nat.reduceEqDiff, Nat.reduceAdd, Nat.reduceSub, Nat.reduceMul, Nat.reduceLT, Nat.reduceLeDiff, reduceCtorEq, Int.reduceToNat])))
    have hn : enc n = AV.agg [.int .i64 11, .int .i64 n.pos, .int .i64 n.num, .str n.text, .sl 5 (encs n.kids)] := by rw [← enc_fold n, h11]
    rw [← hn, encs_snoc]
    exact ⟨encs_bd _ _, by simp, rfl⟩
  · rw [if_neg h11] at hq
    rw [hq]
    repeat' (first | refine vi_seq ?_ | refine vi_block ?_ | refine vi_scope ?_ | ((first | refine vi_reg ?_ | refine vi_regE (by rfl) ?_ | refine vi_regD ?_ | refine vi_label ?_ | refine vi_goto ?_ | refine vi_ret ?_ | refine vi_exit ?_ | refine vi_skip ?_); simp (disch := first | omega | (simp only [List.length_set, List.length_append, List.length_cons, List.length_nil]; done) | (simp only [List.length_set, List.length_append, List.length_cons, List.length_nil]; omega)) only [h11, go_sem, ↓reduceIte, Nat.reduceEqDiff, Nat.reduceAdd, Nat.reduceSub, Nat.reduceMul, Nat.reduceLT, Nat.reduceLeDiff, reduceCtorEq, Int.reduceToNat]) | ((first | refine gd_caseb ?_ ?_ | refine cnd_caseb ?_ ?_) <;> intro hc <;> simp only [hc, go_sem, ↓reduceIte, Nat.reduceEqDiff, Nat.reduceAdd, Nat.reduceSub, Nat.reduceMul, Nat.reduceLT, Nat.reduceLeDiff, reduceCtorEq, Int.reduceToNat] <;> (try simp only [bool_not_true, bool_not_false, decide_eq_true_eq, decide_eq_false_iff_not, Bool.and_eq_true] at hc)) | (refine vi_cond ?_; simp (disch := first | omega | (simp only [List.length_set, List.length_append, List.length_cons, List.length_nil]; done) | (simp only [List.length_set, List.length_append, List.length_cons, List.length_nil]; omega)) only [h11, go_sem, ↓reduceIte, Nat.reduceEqDiff, Nat.reduceAdd, Nat.reduceSub, Nat.reduceMul, Nat.reduceLT, Nat.reduceLeDiff, reduceCtorEq, Int.reduceToNat]) | refine And.intro (by first | assumption | omega | (have := len_pos (by assumption); omega) | (unfold capOK; omega)) ?_ | (simp (disch := omega) only [encs_getN]; (try simp only [go_sem, ↓reduceIte, Nat.reduceEqDiff, Nat.reduceAdd, Nat.reduceSub, Nat.reduceMul, Nat.reduceLT, Nat.reduceLeDiff, reduceCtorEq, Int.reduceToNat])) | (simp (disch := omega) only [wrapS]; (try simp only [go_sem, ↓reduceIte, Nat.reduceEqDiff, Nat.reduceAdd, Nat.reduceSub, Nat.reduceMul, Nat.reduceLT, Nat.reduceLeDiff, reduceCtorEq, Int.reduceToNat])))
    refine vi_loop (S := Nat) (fun i => i ≤ n.kids.length) (vbSt es n) (fun i => n.kids.length - i) ?_ fun i hi => ?_
    · refine at_of 0 [0, 1] (Nat.zero_le _) rfl (by simp) ?_ ?_ ?_ <;> simp only [vbSt, List.take_zero, vsL, if_true] <;> (try simp only [go_sem, ↓reduceIte, Nat.reduceEqDiff, Nat.reduceAdd, Nat.reduceSub, Nat.reduceMul, Nat.reduceLT, Nat.reduceLeDiff, reduceCtorEq, Int.reduceToNat]) <;> (try simp (disch := omega) only [wrapS])
    · unfold vbSt
      by_cases hlt : i < n.kids.length
      · have hmem : n.kids.getD i N0 ∈ n.kids := getN_mem hlt
        have hsm := mem_szs hmem
        have iB := ih _ hmem (by omega)
        have hst := szs_take n.kids i
        have hln : (vsL (n.kids.take i)).length ≤ szs (n.kids.take i) := vsL_len fun x _ => vsW_len x
        have hil : (i : Int) < n.kids.length := by omega
        have hs1 : szs (n.kids.take (i + 1)) = szs (n.kids.take i) + sz (n.kids.getD i N0) := by rw [takeN hlt, szs_app, szs, szs, Nat.add_zero]
        have hs2 := szs_take n.kids (i + 1)
        have htk := vsL_take hlt
        by_cases h0 : vsL (n.kids.take i) = []
        · rw [if_pos h0]
          rw [h0, List.nil_append] at htk
          repeat' (first | refine vi_seq ?_ | refine vi_block ?_ | refine vi_scope ?_ | ((first | refine vi_regr ?_ | refine vi_regD ?_ | refine vi_label ?_ | refine vi_goto ?_ | refine vi_ret ?_ | refine vi_exit ?_ | refine vi_skip ?_); simp (disch := first | omega | (simp only [List.length_set, List.length_append, List.length_cons, List.length_nil]; done) | (simp only [List.length_set, List.length_append, List.length_cons, List.length_nil]; omega)) only [hil, go_sem, ↓reduceIte, Nat.reduceEqDiff, Nat.reduceAdd, Nat.reduceSub, Nat.reduceMul, Nat.reduceLT, Nat.reduceLeDiff, reduceCtorEq, Int.reduceToNat]) | (simp (disch := omega) only [encs_getN]; (try simp only [go_sem, ↓reduceIte, Nat.reduceEqDiff, Nat.reduceAdd, Nat.reduceSub, Nat.reduceMul, Nat.reduceLT, Nat.reduceLeDiff, reduceCtorEq, Int.reduceToNat])) | ((first | refine gd_caseb ?_ ?_ | refine cnd_caseb ?_ ?_) <;> intro hc <;> simp only [hc, go_sem, ↓reduceIte, Nat.reduceEqDiff, Nat.reduceAdd, Nat.reduceSub, Nat.reduceMul, Nat.reduceLT, Nat.reduceLeDiff, reduceCtorEq, Int.reduceToNat] <;> (try simp only [bool_not_true, bool_not_false, decide_eq_true_eq, decide_eq_false_iff_not, Bool.and_eq_true] at hc)) | (refine vi_cond ?_; simp (disch := first | omega | (simp only [List.length_set, List.length_append, List.length_cons, List.length_nil]; done) | (simp only [List.length_set, List.length_append, List.length_cons, List.length_nil]; omega)) only [hil, go_sem, ↓reduceIte, Nat.reduceEqDiff, Nat.reduceAdd, Nat.reduceSub, Nat.reduceMul, Nat.reduceLT, Nat.reduceLeDiff, reduceCtorEq, Int.reduceToNat]) | refine And.intro (by first | assumption | omega | (have := len_pos (by assumption); omega) | (unfold capOK; omega)) ?_ | (simp (disch := omega) only [encs_getN]; (try simp only [go_sem, ↓reduceIte, Nat.reduceEqDiff, Nat.reduceAdd, Nat.reduceSub, Nat.reduceMul, Nat.reduceLT, Nat.reduceLeDiff, reduceCtorEq, Int.reduceToNat])) | (simp (disch := omega) only [wrapS]; (try simp only [go_sem, ↓reduceIte, Nat.reduceEqDiff, Nat.reduceAdd, Nat.reduceSub, Nat.reduceMul, Nat.reduceLT, Nat.reduceLeDiff, reduceCtorEq, Int.reduceToNat])) | ((first | refine varsB_app 0 (iB es he0 (by omega)) (by rfl) (fun hv => ?_) (fun hv => ?_)); simp only [go_sem, ↓reduceIte, Nat.reduceEqDiff, Nat.reduceAdd, Nat.reduceSub, Nat.reduceMul, Nat.reduceLT, Nat.reduceLeDiff, reduceCtorEq, Int.reduceToNat]))
          · refine at_of (i + 1) [0, 1] ⟨by omega, by omega⟩ rfl (by simp) ?_ ?_ ?_
            all_goals rw [hv] at htk
            all_goals simp only [htk, if_true]
            all_goals simp only [go_sem, ↓reduceIte, Nat.reduceEqDiff, Nat.reduceAdd, Nat.reduceSub, Nat.reduceMul, Nat.reduceLT, Nat.reduceLeDiff, reduceCtorEq, Int.reduceToNat]
          · refine at_of (i + 1) [0, 1, 4] ⟨by omega, by omega⟩ rfl (by simp) ?_ ?_ ?_
            all_goals simp only [htk, if_neg hv, List.length_append]
            all_goals simp only [go_sem, ↓reduceIte, Nat.reduceEqDiff, Nat.reduceAdd, Nat.reduceSub, Nat.reduceMul, Nat.reduceLT, Nat.reduceLeDiff, reduceCtorEq, Int.reduceToNat]
        · rw [if_neg h0]
          have hap : es ++ vsL (n.kids.take i) ≠ [] := by simp [he0]
          have hal : (es ++ vsL (n.kids.take i)).length + sz (n.kids.getD i N0) ≤ 300000 := by rw [List.length_append]; omega
          obtain ⟨E, hE⟩ : ∃ E, E = es ++ vsL (n.kids.take i) := ⟨_, rfl⟩
          rw [← hE] at hap hal ⊢
          have e1 : es ++ vsL (n.kids.take (i + 1)) = E ++ vsW (n.kids.getD i N0) := by rw [htk, hE, List.append_assoc]
          have e2 : es.length + (vsL (n.kids.take (i + 1))).length = E.length + (vsW (n.kids.getD i N0)).length := by rw [← List.length_append, e1, List.length_append]
          have hn2 : ¬ vsL (n.kids.take (i + 1)) = [] := by
            rw [htk]
            intro h
            exact h0 (List.append_eq_nil_iff.1 h).1
          repeat' (first | refine vi_seq ?_ | refine vi_block ?_ | refine vi_scope ?_ | ((first | refine vi_regr ?_ | refine vi_regD ?_ | refine vi_label ?_ | refine vi_goto ?_ | refine vi_ret ?_ | refine vi_exit ?_ | refine vi_skip ?_); simp (disch := first | omega | (simp only [List.length_set, List.length_append, List.length_cons, List.length_nil]; done) | (simp only [List.length_set, List.length_append, List.length_cons, List.length_nil]; omega)) only [hil, go_sem, ↓reduceIte, Nat.reduceEqDiff, Nat.reduceAdd, Nat.reduceSub, Nat.reduceMul, Nat.reduceLT, Nat.reduceLeDiff, reduceCtorEq, Int.reduceToNat]) | (simp (disch := omega) only [encs_getN]; (try simp only [go_sem, ↓reduceIte, Nat.reduceEqDiff, Nat.reduceAdd, Nat.reduceSub, Nat.reduceMul, Nat.reduceLT, Nat.reduceLeDiff, reduceCtorEq, Int.reduceToNat])) | ((first | refine gd_caseb ?_ ?_ | refine cnd_caseb ?_ ?_) <;> intro hc <;> simp only [hc, go_sem, ↓reduceIte, Nat.reduceEqDiff, Nat.reduceAdd, Nat.reduceSub, Nat.reduceMul, Nat.reduceLT, Nat.reduceLeDiff, reduceCtorEq, Int.reduceToNat] <;> (try simp only [bool_not_true, bool_not_false, decide_eq_true_eq, decide_eq_false_iff_not, Bool.and_eq_true] at hc)) | (refine vi_cond ?_; simp (disch := first | omega | (simp only [List.length_set, List.length_append, List.length_cons, List.length_nil]; done) | (simp only [List.length_set, List.length_append, List.length_cons, List.length_nil]; omega)) only [hil, go_sem, ↓reduceIte, Nat.reduceEqDiff, Nat.reduceAdd, Nat.reduceSub, Nat.reduceMul, Nat.reduceLT, Nat.reduceLeDiff, reduceCtorEq, Int.reduceToNat]) | refine And.intro (by first | assumption | omega | (have := len_pos (by assumption); omega) | (unfold capOK; omega)) ?_ | (simp (disch := omega) only [encs_getN]; (try simp only [go_sem, ↓reduceIte, Nat.reduceEqDiff, Nat.reduceAdd, Nat.reduceSub, Nat.reduceMul, Nat.reduceLT, Nat.reduceLeDiff, reduceCtorEq, Int.reduceToNat])) | (simp (disch := omega) only [wrapS]; (try simp only [go_sem, ↓reduceIte, Nat.reduceEqDiff, Nat.reduceAdd, Nat.reduceSub, Nat.reduceMul, Nat.reduceLT, Nat.reduceLeDiff, reduceCtorEq, Int.reduceToNat])) | ((first | refine varsB_app 2 (iB _ hap hal) (by rfl) (fun hv => ?_) (fun hv => ?_)); simp only [go_sem, ↓reduceIte, Nat.reduceEqDiff, Nat.reduceAdd, Nat.reduceSub, Nat.reduceMul, Nat.reduceLT, Nat.reduceLeDiff, reduceCtorEq, Int.reduceToNat]))
          · refine at_of (i + 1) [0, 1, 2] ⟨by omega, by omega⟩ rfl (by simp) ?_ ?_ ?_
            all_goals rw [hv] at e1 e2
            all_goals simp only [if_neg hn2, e1, e2, List.append_nil, List.length_nil, Nat.add_zero]
            all_goals simp only [go_sem, ↓reduceIte, Nat.reduceEqDiff, Nat.reduceAdd, Nat.reduceSub, Nat.reduceMul, Nat.reduceLT, Nat.reduceLeDiff, reduceCtorEq, Int.reduceToNat]
          · refine at_of (i + 1) [0, 1, 5] ⟨by omega, by omega⟩ rfl (by simp) ?_ ?_ ?_
            all_goals simp only [if_neg hn2, e1, e2]
            all_goals simp only [go_sem, ↓reduceIte, Nat.reduceEqDiff, Nat.reduceAdd, Nat.reduceSub, Nat.reduceMul, Nat.reduceLT, Nat.reduceLeDiff, reduceCtorEq, Int.reduceToNat]
      · have hil : ¬ (i : Int) < n.kids.length := by omega
        have htk : n.kids.take i = n.kids := List.take_of_length_le (by omega)
        rw [htk]
        by_cases h0 : vsL n.kids = []
        · rw [if_pos h0]
          obtain rfl := hk1 (by rw [hq]; exact h0)
          repeat' (first | refine vi_seq ?_ | refine vi_block ?_ | refine vi_scope ?_ | ((first | refine vi_reg ?_ | refine vi_regE (by rfl) ?_ | refine vi_regD ?_ | refine vi_label ?_ | refine vi_goto ?_ | refine vi_ret ?_ | refine vi_exit ?_ | refine vi_skip ?_); simp (disch := first | omega | (simp only [List.length_set, List.length_append, List.length_cons, List.length_nil]; done) | (simp only [List.length_set, List.length_append, List.length_cons, List.length_nil]; omega)) only [hil, go_sem, ↓reduceIte, Nat.reduceEqDiff, Nat.reduceAdd, Nat.reduceSub, Nat.reduceMul, Nat.reduceLT, Nat.reduceLeDiff, reduceCtorEq, Int.reduceToNat]) | ((first | refine gd_caseb ?_ ?_ | refine cnd_caseb ?_ ?_) <;> intro hc <;> simp only [hc, go_sem, ↓reduceIte, Nat.reduceEqDiff, Nat.reduceAdd, Nat.reduceSub, Nat.reduceMul, Nat.reduceLT, Nat.reduceLeDiff, reduceCtorEq, Int.reduceToNat] <;> (try simp only [bool_not_true, bool_not_false, decide_eq_true_eq, decide_eq_false_iff_not, Bool.and_eq_true] at hc)) | (refine vi_cond ?_; simp (disch := first | omega | (simp only [List.length_set, List.length_append, List.length_cons, List.length_nil]; done) | (simp only [List.length_set, List.length_append, List.length_cons, List.length_nil]; omega)) only [hil, go_sem, ↓reduceIte, Nat.reduceEqDiff, Nat.reduceAdd, Nat.reduceSub, Nat.reduceMul, Nat.reduceLT, Nat.reduceLeDiff, reduceCtorEq, Int.reduceToNat]) | refine And.intro (by first | assumption | omega | (have := len_pos (by assumption); omega) | (unfold capOK; omega)) ?_ | (simp (disch := omega) only [encs_getN]; (try simp only [go_sem, ↓reduceIte, Nat.reduceEqDiff, Nat.reduceAdd, Nat.reduceSub, Nat.reduceMul, Nat.reduceLT, Nat.reduceLeDiff, reduceCtorEq, Int.reduceToNat])) | (simp (disch := omega) only [wrapS]; (try simp only [go_sem, ↓reduceIte, Nat.reduceEqDiff, Nat.reduceAdd, Nat.reduceSub, Nat.reduceMul, Nat.reduceLT, Nat.reduceLeDiff, reduceCtorEq, Int.reduceToNat])))
          exact .inl h0
        · rw [if_neg h0]
          obtain rfl := hk2 (by rw [hq]; exact h0)
          repeat' (first | refine vi_seq ?_ | refine vi_block ?_ | refine vi_scope ?_ | ((first | refine vi_reg ?_ | refine vi_regE (by rfl) ?_ | refine vi_regD ?_ | refine vi_label ?_ | refine vi_goto ?_ | refine vi_ret ?_ | refine vi_exit ?_ | refine vi_skip ?_); simp (disch := first | omega | (simp only [List.length_set, List.length_append, List.length_cons, List.length_nil]; done) | (simp only [List.length_set, List.length_append, List.length_cons, List.length_nil]; omega)) only [hil, go_sem, ↓reduceIte, Nat.reduceEqDiff, Nat.reduceAdd, Nat.reduceSub, Nat.reduceMul, Nat.reduceLT, Nat.reduceLeDiff, reduceCtorEq, Int.reduceToNat]) | ((first | refine gd_caseb ?_ ?_ | refine cnd_caseb ?_ ?_) <;> intro hc <;> simp only [hc, go_sem, ↓reduceIte, Nat.reduceEqDiff, Nat.reduceAdd, Nat.reduceSub, Nat.reduceMul, Nat.reduceLT, Nat.reduceLeDiff, reduceCtorEq, Int.reduceToNat] <;> (try simp only [bool_not_true, bool_not_false, decide_eq_true_eq, decide_eq_false_iff_not, Bool.and_eq_true] at hc)) | (refine vi_cond ?_; simp (disch := first | omega | (simp only [List.length_set, List.length_append, List.length_cons, List.length_nil]; done) | (simp only [List.length_set, List.length_append, List.length_cons, List.length_nil]; omega)) only [hil, go_sem, ↓reduceIte, Nat.reduceEqDiff, Nat.reduceAdd, Nat.reduceSub, Nat.reduceMul, Nat.reduceLT, Nat.reduceLeDiff, reduceCtorEq, Int.reduceToNat]) | refine And.intro (by first | assumption | omega | (have := len_pos (by assumption); omega) | (unfold capOK; omega)) ?_ | (simp (disch := omega) only [encs_getN]; (try simp only [go_sem, ↓reduceIte, Nat.reduceEqDiff, Nat.reduceAdd, Nat.reduceSub, Nat.reduceMul, Nat.reduceLT, Nat.reduceLeDiff, reduceCtorEq, Int.reduceToNat])) | (simp (disch := omega) only [wrapS]; (try simp only [go_sem, ↓reduceIte, Nat.reduceEqDiff, Nat.reduceAdd, Nat.reduceSub, Nat.reduceMul, Nat.reduceLT, Nat.reduceLeDiff, reduceCtorEq, Int.reduceToNat])))
          exact .inr h0
theorem ppats_vars : ∀ n, sz n ≤ 100000 → VarsA n ∧ ∀ es : List N, es ≠ [] → es.length + sz n ≤ 300000 → VarsB es n := N.ind fun n ih hsz =>
  ⟨ppats_varsA (fun x hx h => ⟨(ih x hx h).1, (ih x hx h).2⟩) hsz, fun es h1 h2 => ppats_varsB (fun x hx h => (ih x hx h).2) hsz es h1 h2⟩
end Go.Proofs.Ytaoiamkloigfhaa

/- patterns: variables' names; linear or not -/
set_option maxRecDepth 4000
namespace Go.Proofs.Ytaoiamkloigfhaa
open Go Go.RowKit Go.V
set_option linter.unusedVariables false
set_option linter.unusedSimpArgs false

def txs (l : List N) : List (List UInt8) := l.map N.text
theorem txs_take {l : List N} {i : Nat} (h : i < l.length) : txs (l.take (i + 1)) = txs (l.take i) ++ [(l.getD i N0).text] := by rw [takeN h]; simp [txs]
theorem strs_snoc (a : List (List UInt8)) (x : List UInt8) : (a ++ [x]).map AV.str = a.map AV.str ++ [.str x] := by simp
theorem txs_len (l : List N) : (txs l).length = l.length := by simp [txs]
def naSt (n : N) (vs : List N) (i : Nat) : AF × List Ent :=
  (⟨[(3, accV 2 ((txs (vs.take i)).map AV.str)), (7, .row 1 vs.length), (8, .int .i64 vs.length), (9, .int .i64 i)], []⟩,
    .blk (enc n).cells :: .app 5 (encs vs) :: accE 1 ((txs (vs.take i)).map AV.str))
theorem wrap01 : IntKind.i64.wrap (0 + 1) = 1 := by decide
theorem capS {n : Nat} (h : n ≤ 1048580) : capOK n 16 := by unfold capOK; omega
theorem ppats_Vars (n : N) (hsz : sz n ≤ 100000) : VPure Try.prog 7 [enc n] (.sl 1 ((txs (vsW n)).map AV.str)) := by
  refine vpure_of c_ppats_Vars (by simp) (by simp only [go_sem]) (by simp only [go_sem]) fun hw => ?_
  have hA := (ppats_vars n hsz).1
  have hl := vsW_len n
  have hmx : (1048577 : Nat) ≤ maxLen := by unfold maxLen; omega
  repeat' (first | refine vi_seq ?_ | refine vi_block ?_ | refine vi_scope ?_ | ((first | refine vi_regr ?_ | refine vi_regD ?_ | refine vi_label ?_ | refine vi_goto ?_ | refine vi_ret ?_ | refine vi_exit ?_ | refine vi_skip ?_); simp only [go_sem, ↓reduceIte, Nat.reduceEqDiff, Nat.reduceAdd, Nat.reduceSub, Nat.reduceMul, Nat.reduceLT, Nat.reduceLeDiff, reduceCtorEq, Int.reduceToNat]) | ((first | refine gd_caseb ?_ ?_ | refine cnd_caseb ?_ ?_) <;> intro hc <;> simp only [hc, go_sem, ↓reduceIte, Nat.reduceEqDiff, Nat.reduceAdd, Nat.reduceSub, Nat.reduceMul, Nat.reduceLT, Nat.reduceLeDiff, reduceCtorEq, Int.reduceToNat] <;> (try simp only [bool_not_true, bool_not_false, decide_eq_true_eq, decide_eq_false_iff_not, Bool.and_eq_true] at hc)) | (refine vi_cond ?_; simp only [go_sem, ↓reduceIte, Nat.reduceEqDiff, Nat.reduceAdd, Nat.reduceSub, Nat.reduceMul, Nat.reduceLT, Nat.reduceLeDiff, reduceCtorEq, Int.reduceToNat]) | refine And.intro (by first | assumption | omega | (have := len_pos (by assumption); omega) | (unfold capOK; omega)) ?_ | (simp (disch := omega) only [encs_getN]; (try simp only [go_sem, ↓reduceIte, Nat.reduceEqDiff, Nat.reduceAdd, Nat.reduceSub, Nat.reduceMul, Nat.reduceLT, Nat.reduceLeDiff, reduceCtorEq, Int.reduceToNat])) | (simp (disch := omega) only [wrapS]; (try simp only [go_sem, ↓reduceIte, Nat.reduceEqDiff, Nat.reduceAdd, Nat.reduceSub, Nat.reduceMul, Nat.reduceLT, Nat.reduceLeDiff, reduceCtorEq, Int.reduceToNat])) | ((first | refine varsA_app hA (fun hv => ?_) (fun hv => ?_)); simp only [go_sem, ↓reduceIte, Nat.reduceEqDiff, Nat.reduceAdd, Nat.reduceSub, Nat.reduceMul, Nat.reduceLT, Nat.reduceLeDiff, reduceCtorEq, Int.reduceToNat]))
  · refine vi_loop (S := Unit) (fun _ => True) (fun _ => (⟨[(3, .nils), (7, .nils), (8, .int .i64 0), (9, .int .i64 0)], []⟩, [])) (fun _ => 0) ?_ ?_
    · refine at_of () [] trivial rfl (by simp) ?_ ?_ ?_ <;> (try simp only [go_sem, ↓reduceIte, Nat.reduceEqDiff, Nat.reduceAdd, Nat.reduceSub, Nat.reduceMul, Nat.reduceLT, Nat.reduceLeDiff, reduceCtorEq, Int.reduceToNat]) <;> (try simp (disch := omega) only [wrapS])
    · intro _ _
      repeat' (first | refine vi_seq ?_ | refine vi_block ?_ | refine vi_scope ?_ | ((first | refine vi_reg ?_ | refine vi_regE (by rfl) ?_ | refine vi_regD ?_ | refine vi_label ?_ | refine vi_goto ?_ | refine vi_ret ?_ | refine vi_exit ?_ | refine vi_skip ?_); simp only [go_sem, ↓reduceIte, Nat.reduceEqDiff, Nat.reduceAdd, Nat.reduceSub, Nat.reduceMul, Nat.reduceLT, Nat.reduceLeDiff, reduceCtorEq, Int.reduceToNat]) | ((first | refine gd_caseb ?_ ?_ | refine cnd_caseb ?_ ?_) <;> intro hc <;> simp only [hc, go_sem, ↓reduceIte, Nat.reduceEqDiff, Nat.reduceAdd, Nat.reduceSub, Nat.reduceMul, Nat.reduceLT, Nat.reduceLeDiff, reduceCtorEq, Int.reduceToNat] <;> (try simp only [bool_not_true, bool_not_false, decide_eq_true_eq, decide_eq_false_iff_not, Bool.and_eq_true] at hc)) | (refine vi_cond ?_; simp only [go_sem, ↓reduceIte, Nat.reduceEqDiff, Nat.reduceAdd, Nat.reduceSub, Nat.reduceMul, Nat.reduceLT, Nat.reduceLeDiff, reduceCtorEq, Int.reduceToNat]) | refine And.intro (by first | assumption | omega | (have := len_pos (by assumption); omega) | (unfold capOK; omega)) ?_ | (simp (disch := omega) only [encs_getN]; (try simp only [go_sem, ↓reduceIte, Nat.reduceEqDiff, Nat.reduceAdd, Nat.reduceSub, Nat.reduceMul, Nat.reduceLT, Nat.reduceLeDiff, reduceCtorEq, Int.reduceToNat])) | (simp (disch := omega) only [wrapS]; (try simp only [go_sem, ↓reduceIte, Nat.reduceEqDiff, Nat.reduceAdd, Nat.reduceSub, Nat.reduceMul, Nat.reduceLT, Nat.reduceLeDiff, reduceCtorEq, Int.reduceToNat])))
      · exact absurd hc (by decide)
      · rw [hv]; rfl
  · generalize hvs : vsW n = vs at *
    refine vi_loop (S := Nat) (fun i => i ≤ vs.length) (naSt n vs) (fun i => vs.length - i) ?_ fun i hi => ?_
    · refine at_of 0 [0, 2] (Nat.zero_le _) rfl (by simp) ?_ ?_ ?_ <;> simp only [naSt, List.take_zero, txs, List.map_nil, accV_nil, accE_nil] <;> (try simp only [go_sem, ↓reduceIte, Nat.reduceEqDiff, Nat.reduceAdd, Nat.reduceSub, Nat.reduceMul, Nat.reduceLT, Nat.reduceLeDiff, reduceCtorEq, Int.reduceToNat]) <;> (try simp (disch := omega) only [wrapS])
    · unfold naSt
      by_cases hlt : i < vs.length
      · have htk := txs_take hlt
        have hil : (i : Int) < vs.length := by omega
        by_cases h0 : i = 0
        · subst h0
          have hil : (0 : Int) < vs.length := by omega
          have hcap : capOK 1 16 := capS (by omega)
          simp only [List.take_zero, txs, List.map_nil, accV_nil, accE_nil]
          simp only [List.take_zero, txs, List.map_nil, List.nil_append, Nat.zero_add] at htk
          repeat' (first | refine vi_seq ?_ | refine vi_block ?_ | refine vi_scope ?_ | ((first | refine vi_reg ?_ | refine vi_regE (by rfl) ?_ | refine vi_regD ?_ | refine vi_label ?_ | refine vi_goto ?_ | refine vi_ret ?_ | refine vi_exit ?_ | refine vi_skip ?_); simp (disch := first | omega | (simp only [List.length_set, List.length_append, List.length_cons, List.length_nil]; done) | (simp only [List.length_set, List.length_append, List.length_cons, List.length_nil]; omega)) only [hil, wrap01, go_sem, ↓reduceIte, Nat.reduceEqDiff, Nat.reduceAdd, Nat.reduceSub, Nat.reduceMul, Nat.reduceLT, Nat.reduceLeDiff, reduceCtorEq, Int.reduceToNat]) | (simp (disch := omega) only [encs_getN]; (try simp only [go_sem, ↓reduceIte, Nat.reduceEqDiff, Nat.reduceAdd, Nat.reduceSub, Nat.reduceMul, Nat.reduceLT, Nat.reduceLeDiff, reduceCtorEq, Int.reduceToNat])) | ((first | refine gd_caseb ?_ ?_ | refine cnd_caseb ?_ ?_) <;> intro hc <;> simp only [hc, go_sem, ↓reduceIte, Nat.reduceEqDiff, Nat.reduceAdd, Nat.reduceSub, Nat.reduceMul, Nat.reduceLT, Nat.reduceLeDiff, reduceCtorEq, Int.reduceToNat] <;> (try simp only [bool_not_true, bool_not_false, decide_eq_true_eq, decide_eq_false_iff_not, Bool.and_eq_true] at hc)) | (refine vi_cond ?_; simp (disch := first | omega | (simp only [List.length_set, List.length_append, List.length_cons, List.length_nil]; done) | (simp only [List.length_set, List.length_append, List.length_cons, List.length_nil]; omega)) only [hil, wrap01, go_sem, ↓reduceIte, Nat.reduceEqDiff, Nat.reduceAdd, Nat.reduceSub, Nat.reduceMul, Nat.reduceLT, Nat.reduceLeDiff, reduceCtorEq, Int.reduceToNat]) | refine And.intro (by first | assumption | omega | (have := len_pos (by assumption); omega) | (unfold capOK; omega)) ?_ | (simp (disch := omega) only [encs_getN]; (try simp only [go_sem, ↓reduceIte, Nat.reduceEqDiff, Nat.reduceAdd, Nat.reduceSub, Nat.reduceMul, Nat.reduceLT, Nat.reduceLeDiff, reduceCtorEq, Int.reduceToNat])) | (simp (disch := omega) only [wrapS]; (try simp only [go_sem, ↓reduceIte, Nat.reduceEqDiff, Nat.reduceAdd, Nat.reduceSub, Nat.reduceMul, Nat.reduceLT, Nat.reduceLeDiff, reduceCtorEq, Int.reduceToNat])))
          · refine at_of 1 [0, 1, 3] ⟨by omega, by omega⟩ rfl (by simp) ?_ ?_ ?_
            all_goals simp only [htk, List.map_cons, List.map_nil, accV_one, accE_one]
            all_goals simp only [go_sem, ↓reduceIte, Nat.reduceEqDiff, Nat.reduceAdd, Nat.reduceSub, Nat.reduceMul, Nat.reduceLT, Nat.reduceLeDiff, reduceCtorEq, Int.reduceToNat]
        · have hne : (txs (vs.take i)).map AV.str ≠ [] := fun h => h0 (by have := congrArg List.length h; simp only [List.length_map, txs_len, List.length_take, List.length_nil] at this; omega)
          have hln : ((txs (vs.take i)).map AV.str).length = i := by rw [strs_len, txs_len, List.length_take]; omega
          have hcap : capOK (i + 1) 16 := capS (by omega)
          simp only [accV_ne hne, accE_ne hne, hln]
          repeat' (first | refine vi_seq ?_ | refine vi_block ?_ | refine vi_scope ?_ | ((first | refine vi_reg ?_ | refine vi_regE (by rfl) ?_ | refine vi_regD ?_ | refine vi_label ?_ | refine vi_goto ?_ | refine vi_ret ?_ | refine vi_exit ?_ | refine vi_skip ?_); simp (disch := first | omega | (simp only [List.length_set, List.length_append, List.length_cons, List.length_nil]; done) | (simp only [List.length_set, List.length_append, List.length_cons, List.length_nil]; omega)) only [hil, hln, go_sem, ↓reduceIte, Nat.reduceEqDiff, Nat.reduceAdd, Nat.reduceSub, Nat.reduceMul, Nat.reduceLT, Nat.reduceLeDiff, reduceCtorEq, Int.reduceToNat]) | (simp (disch := omega) only [encs_getN]; (try simp only [go_sem, ↓reduceIte, Nat.reduceEqDiff, Nat.reduceAdd, Nat.reduceSub, Nat.reduceMul, Nat.reduceLT, Nat.reduceLeDiff, reduceCtorEq, Int.reduceToNat])) | ((first | refine gd_caseb ?_ ?_ | refine cnd_caseb ?_ ?_) <;> intro hc <;> simp only [hc, go_sem, ↓reduceIte, Nat.reduceEqDiff, Nat.reduceAdd, Nat.reduceSub, Nat.reduceMul, Nat.reduceLT, Nat.reduceLeDiff, reduceCtorEq, Int.reduceToNat] <;> (try simp only [bool_not_true, bool_not_false, decide_eq_true_eq, decide_eq_false_iff_not, Bool.and_eq_true] at hc)) | (refine vi_cond ?_; simp (disch := first | omega | (simp only [List.length_set, List.length_append, List.length_cons, List.length_nil]; done) | (simp only [List.length_set, List.length_append, List.length_cons, List.length_nil]; omega)) only [hil, hln, go_sem, ↓reduceIte, Nat.reduceEqDiff, Nat.reduceAdd, Nat.reduceSub, Nat.reduceMul, Nat.reduceLT, Nat.reduceLeDiff, reduceCtorEq, Int.reduceToNat]) | refine And.intro (by first | assumption | omega | (have := len_pos (by assumption); omega) | (unfold capOK; omega)) ?_ | (simp (disch := omega) only [encs_getN]; (try simp only [go_sem, ↓reduceIte, Nat.reduceEqDiff, Nat.reduceAdd, Nat.reduceSub, Nat.reduceMul, Nat.reduceLT, Nat.reduceLeDiff, reduceCtorEq, Int.reduceToNat])) | (simp (disch := omega) only [wrapS]; (try simp only [go_sem, ↓reduceIte, Nat.reduceEqDiff, Nat.reduceAdd, Nat.reduceSub, Nat.reduceMul, Nat.reduceLT, Nat.reduceLeDiff, reduceCtorEq, Int.reduceToNat])))
          · refine at_of (i + 1) [0, 1, 4] ⟨by omega, by omega⟩ rfl (by simp) ?_ ?_ ?_
            all_goals simp only [htk, strs_snoc, accV_snoc, accE_snoc, hln]
            all_goals simp only [go_sem, ↓reduceIte, Nat.reduceEqDiff, Nat.reduceAdd, Nat.reduceSub, Nat.reduceMul, Nat.reduceLT, Nat.reduceLeDiff, reduceCtorEq, Int.reduceToNat]
            rw [← strs_snoc, strs_bd, strs_ren]; exact ⟨rfl, rfl⟩
      · have htk : vs.take i = vs := List.take_of_length_le (by omega)
        have hil : ¬ (i : Int) < vs.length := by omega
        have hne : (txs vs).map AV.str ≠ [] := fun h => hv (by have := congrArg List.length h; simp only [List.length_map, txs_len, List.length_nil] at this; exact List.length_eq_zero_iff.1 this)
        rw [htk]
        simp only [accV_ne hne, accE_ne hne]
        repeat' (first | refine vi_seq ?_ | refine vi_block ?_ | refine vi_scope ?_ | ((first | refine vi_reg ?_ | refine vi_regE (by rfl) ?_ | refine vi_regD ?_ | refine vi_label ?_ | refine vi_goto ?_ | refine vi_ret ?_ | refine vi_exit ?_ | refine vi_skip ?_); simp (disch := first | omega | (simp only [List.length_set, List.length_append, List.length_cons, List.length_nil]; done) | (simp only [List.length_set, List.length_append, List.length_cons, List.length_nil]; omega)) only [hil, go_sem, ↓reduceIte, Nat.reduceEqDiff, Nat.reduceAdd, Nat.reduceSub, Nat.reduceMul, Nat.reduceLT, Nat.reduceLeDiff, reduceCtorEq, Int.reduceToNat]) | ((first | refine gd_caseb ?_ ?_ | refine cnd_caseb ?_ ?_) <;> intro hc <;> simp only [hc, go_sem, ↓reduceIte, Nat.reduceEqDiff, Nat.reduceAdd, Nat.reduceSub, Nat.reduceMul, Nat.reduceLT, Nat.reduceLeDiff, reduceCtorEq, Int.reduceToNat] <;> (try simp only [bool_not_true, bool_not_false, decide_eq_true_eq, decide_eq_false_iff_not, Bool.and_eq_true] at hc)) | (refine vi_cond ?_; simp (disch := first | omega | (simp only [List.length_set, List.length_append, List.length_cons, List.length_nil]; done) | (simp only [List.length_set, List.length_append, List.length_cons, List.length_nil]; omega)) only [hil, go_sem, ↓reduceIte, Nat.reduceEqDiff, Nat.reduceAdd, Nat.reduceSub, Nat.reduceMul, Nat.reduceLT, Nat.reduceLeDiff, reduceCtorEq, Int.reduceToNat]) | refine And.intro (by first | assumption | omega | (have := len_pos (by assumption); omega) | (unfold capOK; omega)) ?_ | (simp (disch := omega) only [encs_getN]; (try simp only [go_sem, ↓reduceIte, Nat.reduceEqDiff, Nat.reduceAdd, Nat.reduceSub, Nat.reduceMul, Nat.reduceLT, Nat.reduceLeDiff, reduceCtorEq, Int.reduceToNat])) | (simp (disch := omega) only [wrapS]; (try simp only [go_sem, ↓reduceIte, Nat.reduceEqDiff, Nat.reduceAdd, Nat.reduceSub, Nat.reduceMul, Nat.reduceLT, Nat.reduceLeDiff, reduceCtorEq, Int.reduceToNat])))
def linW : List N → List (List UInt8) → Int × Bool
  | [], _ => (0, true)
  | v :: r, seen => if seen.contains v.text = true then (v.pos, false) else linW r (seen ++ [v.text])
theorem dropN {l : List N} {i : Nat} (h : i < l.length) : l.drop i = l.getD i N0 :: l.drop (i + 1) := by
  rw [List.drop_eq_getElem_cons h, List.getD_eq_getElem?_getD, List.getElem?_eq_getElem h]; rfl
def liSt (n : N) (vs : List N) (i : Nat) : AF × List Ent :=
  (⟨[(4, accV 2 ((txs (vs.take i)).map AV.str)), (5, .int .i64 0), (6, .bool true), (10, .row 1 vs.length), (11, .int .i64 vs.length), (12, .int .i64 i)], []⟩,
    .blk (enc n).cells :: .app 5 (encs vs) :: accE 1 ((txs (vs.take i)).map AV.str))
theorem has0 (x : List UInt8) : VPure Try.prog 17 [.sl 1 [], .str x] (.bool false) := slices_Contains [] x
theorem ppats_Linear (n : N) (hsz : sz n ≤ 100000) : VPure Try.prog 9 [enc n] (.tup [.int .i64 (linW (vsW n) []).1, .bool (linW (vsW n) []).2]) := by
  refine vpure_of c_ppats_Linear (by simp) (by simp only [go_sem]) (by simp only [go_sem]) fun hw => ?_
  have hA := (ppats_vars n hsz).1
  have hl := vsW_len n
  have hmx : (1048577 : Nat) ≤ maxLen := by unfold maxLen; omega
  repeat' (first | refine vi_seq ?_ | refine vi_block ?_ | refine vi_scope ?_ | ((first | refine vi_regr ?_ | refine vi_regD ?_ | refine vi_label ?_ | refine vi_goto ?_ | refine vi_ret ?_ | refine vi_exit ?_ | refine vi_skip ?_); simp only [go_sem, ↓reduceIte, Nat.reduceEqDiff, Nat.reduceAdd, Nat.reduceSub, Nat.reduceMul, Nat.reduceLT, Nat.reduceLeDiff, reduceCtorEq, Int.reduceToNat]) | ((first | refine gd_caseb ?_ ?_ | refine cnd_caseb ?_ ?_) <;> intro hc <;> simp only [hc, go_sem, ↓reduceIte, Nat.reduceEqDiff, Nat.reduceAdd, Nat.reduceSub, Nat.reduceMul, Nat.reduceLT, Nat.reduceLeDiff, reduceCtorEq, Int.reduceToNat] <;> (try simp only [bool_not_true, bool_not_false, decide_eq_true_eq, decide_eq_false_iff_not, Bool.and_eq_true] at hc)) | (refine vi_cond ?_; simp only [go_sem, ↓reduceIte, Nat.reduceEqDiff, Nat.reduceAdd, Nat.reduceSub, Nat.reduceMul, Nat.reduceLT, Nat.reduceLeDiff, reduceCtorEq, Int.reduceToNat]) | refine And.intro (by first | assumption | omega | (have := len_pos (by assumption); omega) | (unfold capOK; omega)) ?_ | (simp (disch := omega) only [encs_getN]; (try simp only [go_sem, ↓reduceIte, Nat.reduceEqDiff, Nat.reduceAdd, Nat.reduceSub, Nat.reduceMul, Nat.reduceLT, Nat.reduceLeDiff, reduceCtorEq, Int.reduceToNat])) | (simp (disch := omega) only [wrapS]; (try simp only [go_sem, ↓reduceIte, Nat.reduceEqDiff, Nat.reduceAdd, Nat.reduceSub, Nat.reduceMul, Nat.reduceLT, Nat.reduceLeDiff, reduceCtorEq, Int.reduceToNat])) | ((first | refine varsA_app hA (fun hv => ?_) (fun hv => ?_)); simp only [go_sem, ↓reduceIte, Nat.reduceEqDiff, Nat.reduceAdd, Nat.reduceSub, Nat.reduceMul, Nat.reduceLT, Nat.reduceLeDiff, reduceCtorEq, Int.reduceToNat]))
  · refine vi_loop (S := Unit) (fun _ => True) (fun _ => (⟨[(5, .int .i64 0), (6, .bool true), (10, .nils), (11, .int .i64 0), (12, .int .i64 0)], []⟩, [])) (fun _ => 0) ?_ ?_
    · refine at_of () [] trivial rfl (by simp) ?_ ?_ ?_ <;> (try simp only [go_sem, ↓reduceIte, Nat.reduceEqDiff, Nat.reduceAdd, Nat.reduceSub, Nat.reduceMul, Nat.reduceLT, Nat.reduceLeDiff, reduceCtorEq, Int.reduceToNat]) <;> (try simp (disch := omega) only [wrapS])
    · intro _ _
      repeat' (first | refine vi_seq ?_ | refine vi_block ?_ | refine vi_scope ?_ | ((first | refine vi_reg ?_ | refine vi_regE (by rfl) ?_ | refine vi_regD ?_ | refine vi_label ?_ | refine vi_goto ?_ | refine vi_ret ?_ | refine vi_exit ?_ | refine vi_skip ?_); simp only [go_sem, ↓reduceIte, Nat.reduceEqDiff, Nat.reduceAdd, Nat.reduceSub, Nat.reduceMul, Nat.reduceLT, Nat.reduceLeDiff, reduceCtorEq, Int.reduceToNat]) | ((first | refine gd_caseb ?_ ?_ | refine cnd_caseb ?_ ?_) <;> intro hc <;> simp only [hc, go_sem, ↓reduceIte, Nat.reduceEqDiff, Nat.reduceAdd, Nat.reduceSub, Nat.reduceMul, Nat.reduceLT, Nat.reduceLeDiff, reduceCtorEq, Int.reduceToNat] <;> (try simp only [bool_not_true, bool_not_false, decide_eq_true_eq, decide_eq_false_iff_not, Bool.and_eq_true] at hc)) | (refine vi_cond ?_; simp only [go_sem, ↓reduceIte, Nat.reduceEqDiff, Nat.reduceAdd, Nat.reduceSub, Nat.reduceMul, Nat.reduceLT, Nat.reduceLeDiff, reduceCtorEq, Int.reduceToNat]) | refine And.intro (by first | assumption | omega | (have := len_pos (by assumption); omega) | (unfold capOK; omega)) ?_ | (simp (disch := omega) only [encs_getN]; (try simp only [go_sem, ↓reduceIte, Nat.reduceEqDiff, Nat.reduceAdd, Nat.reduceSub, Nat.reduceMul, Nat.reduceLT, Nat.reduceLeDiff, reduceCtorEq, Int.reduceToNat])) | (simp (disch := omega) only [wrapS]; (try simp only [go_sem, ↓reduceIte, Nat.reduceEqDiff, Nat.reduceAdd, Nat.reduceSub, Nat.reduceMul, Nat.reduceLT, Nat.reduceLeDiff, reduceCtorEq, Int.reduceToNat])))
      · exact absurd hc (by decide)
      · rw [hv]; rfl
  · generalize hvs : vsW n = vs at *
    refine vi_loop (S := Nat) (fun i => i ≤ vs.length ∧ linW vs [] = linW (vs.drop i) (txs (vs.take i))) (liSt n vs) (fun i => vs.length - i) ?_ fun i hi => ?_
    · refine at_of 0 [0, 2] ⟨Nat.zero_le _, rfl⟩ rfl (by simp) ?_ ?_ ?_ <;> simp only [liSt, List.take_zero, txs, List.map_nil, accV_nil, accE_nil] <;> (try simp only [go_sem, ↓reduceIte, Nat.reduceEqDiff, Nat.reduceAdd, Nat.reduceSub, Nat.reduceMul, Nat.reduceLT, Nat.reduceLeDiff, reduceCtorEq, Int.reduceToNat]) <;> (try simp (disch := omega) only [wrapS])
    · unfold liSt
      obtain ⟨hi, hin⟩ := hi
      by_cases hlt : i < vs.length
      · have htk := txs_take hlt
        have hil : (i : Int) < vs.length := by omega
        rw [dropN hlt, linW] at hin
        by_cases h0 : i = 0
        · subst h0
          have hil : (0 : Int) < vs.length := by omega
          have hcap : capOK 1 16 := capS (by omega)
          simp only [List.take_zero, txs, List.map_nil, List.contains_nil, Bool.false_eq_true, if_false, List.nil_append] at hin
          simp only [List.take_zero, txs, List.map_nil, accV_nil, accE_nil]
          simp only [List.take_zero, txs, List.map_nil, List.nil_append, Nat.zero_add] at htk
          repeat' (first | refine vi_seq ?_ | refine vi_block ?_ | refine vi_scope ?_ | ((first | refine vi_reg ?_ | refine vi_regE (by rfl) ?_ | refine vi_regD ?_ | refine vi_label ?_ | refine vi_goto ?_ | refine vi_ret ?_ | refine vi_exit ?_ | refine vi_skip ?_); simp (disch := first | omega | (simp only [List.length_set, List.length_append, List.length_cons, List.length_nil]; done) | (simp only [List.length_set, List.length_append, List.length_cons, List.length_nil]; omega)) only [hil, wrap01, go_sem, ↓reduceIte, Nat.reduceEqDiff, Nat.reduceAdd, Nat.reduceSub, Nat.reduceMul, Nat.reduceLT, Nat.reduceLeDiff, reduceCtorEq, Int.reduceToNat]) | (simp (disch := omega) only [encs_getN]; (try simp only [go_sem, ↓reduceIte, Nat.reduceEqDiff, Nat.reduceAdd, Nat.reduceSub, Nat.reduceMul, Nat.reduceLT, Nat.reduceLeDiff, reduceCtorEq, Int.reduceToNat])) | ((first | refine gd_caseb ?_ ?_ | refine cnd_caseb ?_ ?_) <;> intro hc <;> simp only [hc, go_sem, ↓reduceIte, Nat.reduceEqDiff, Nat.reduceAdd, Nat.reduceSub, Nat.reduceMul, Nat.reduceLT, Nat.reduceLeDiff, reduceCtorEq, Int.reduceToNat] <;> (try simp only [bool_not_true, bool_not_false, decide_eq_true_eq, decide_eq_false_iff_not, Bool.and_eq_true] at hc)) | (refine vi_cond ?_; simp (disch := first | omega | (simp only [List.length_set, List.length_append, List.length_cons, List.length_nil]; done) | (simp only [List.length_set, List.length_append, List.length_cons, List.length_nil]; omega)) only [hil, wrap01, go_sem, ↓reduceIte, Nat.reduceEqDiff, Nat.reduceAdd, Nat.reduceSub, Nat.reduceMul, Nat.reduceLT, Nat.reduceLeDiff, reduceCtorEq, Int.reduceToNat]) | refine And.intro (by first | assumption | omega | (have := len_pos (by assumption); omega) | (unfold capOK; omega)) ?_ | (simp (disch := omega) only [encs_getN]; (try simp only [go_sem, ↓reduceIte, Nat.reduceEqDiff, Nat.reduceAdd, Nat.reduceSub, Nat.reduceMul, Nat.reduceLT, Nat.reduceLeDiff, reduceCtorEq, Int.reduceToNat])) | (simp (disch := omega) only [wrapS]; (try simp only [go_sem, ↓reduceIte, Nat.reduceEqDiff, Nat.reduceAdd, Nat.reduceSub, Nat.reduceMul, Nat.reduceLT, Nat.reduceLeDiff, reduceCtorEq, Int.reduceToNat])) | ((first | refine vapp_pure0 (has0 _) fun _ => ?_ | refine dapp_pure  (has0 _) ?_); simp only [go_sem, ↓reduceIte, Nat.reduceEqDiff, Nat.reduceAdd, Nat.reduceSub, Nat.reduceMul, Nat.reduceLT, Nat.reduceLeDiff, reduceCtorEq, Int.reduceToNat]))
          · refine at_of 1 [0, 1, 3] ⟨⟨by omega, ?_⟩, by omega⟩ rfl (by simp) ?_ ?_ ?_
            · rw [hin]; simp only [txs, htk, Nat.zero_add]
            all_goals simp only [htk, List.map_cons, List.map_nil, accV_one, accE_one]
            all_goals simp only [go_sem, ↓reduceIte, Nat.reduceEqDiff, Nat.reduceAdd, Nat.reduceSub, Nat.reduceMul, Nat.reduceLT, Nat.reduceLeDiff, reduceCtorEq, Int.reduceToNat]
        · have hne : (txs (vs.take i)).map AV.str ≠ [] := fun h => h0 (by have := congrArg List.length h; simp only [List.length_map, txs_len, List.length_take, List.length_nil] at this; omega)
          have hln : ((txs (vs.take i)).map AV.str).length = i := by rw [strs_len, txs_len, List.length_take]; omega
          have hcap : capOK (i + 1) 16 := capS (by omega)
          simp only [accV_ne hne, accE_ne hne, hln]
          repeat' (first | refine vi_seq ?_ | refine vi_block ?_ | refine vi_scope ?_ | ((first | refine vi_reg ?_ | refine vi_regE (by rfl) ?_ | refine vi_regD ?_ | refine vi_label ?_ | refine vi_goto ?_ | refine vi_ret ?_ | refine vi_exit ?_ | refine vi_skip ?_); simp (disch := first | omega | (simp only [List.length_set, List.length_append, List.length_cons, List.length_nil]; done) | (simp only [List.length_set, List.length_append, List.length_cons, List.length_nil]; omega)) only [hil, hln, go_sem, ↓reduceIte, Nat.reduceEqDiff, Nat.reduceAdd, Nat.reduceSub, Nat.reduceMul, Nat.reduceLT, Nat.reduceLeDiff, reduceCtorEq, Int.reduceToNat]) | (simp (disch := omega) only [encs_getN]; (try simp only [go_sem, ↓reduceIte, Nat.reduceEqDiff, Nat.reduceAdd, Nat.reduceSub, Nat.reduceMul, Nat.reduceLT, Nat.reduceLeDiff, reduceCtorEq, Int.reduceToNat])) | ((first | refine gd_caseb ?_ ?_ | refine cnd_caseb ?_ ?_) <;> intro hc <;> simp only [hc, go_sem, ↓reduceIte, Nat.reduceEqDiff, Nat.reduceAdd, Nat.reduceSub, Nat.reduceMul, Nat.reduceLT, Nat.reduceLeDiff, reduceCtorEq, Int.reduceToNat] <;> (try simp only [bool_not_true, bool_not_false, decide_eq_true_eq, decide_eq_false_iff_not, Bool.and_eq_true] at hc)) | (refine vi_cond ?_; simp (disch := first | omega | (simp only [List.length_set, List.length_append, List.length_cons, List.length_nil]; done) | (simp only [List.length_set, List.length_append, List.length_cons, List.length_nil]; omega)) only [hil, hln, go_sem, ↓reduceIte, Nat.reduceEqDiff, Nat.reduceAdd, Nat.reduceSub, Nat.reduceMul, Nat.reduceLT, Nat.reduceLeDiff, reduceCtorEq, Int.reduceToNat]) | refine And.intro (by first | assumption | omega | (have := len_pos (by assumption); omega) | (unfold capOK; omega)) ?_ | (simp (disch := omega) only [encs_getN]; (try simp only [go_sem, ↓reduceIte, Nat.reduceEqDiff, Nat.reduceAdd, Nat.reduceSub, Nat.reduceMul, Nat.reduceLT, Nat.reduceLeDiff, reduceCtorEq, Int.reduceToNat])) | (simp (disch := omega) only [wrapS]; (try simp only [go_sem, ↓reduceIte, Nat.reduceEqDiff, Nat.reduceAdd, Nat.reduceSub, Nat.reduceMul, Nat.reduceLT, Nat.reduceLeDiff, reduceCtorEq, Int.reduceToNat])) | ((first | refine vapp_pure0 (slices_Contains (txs (vs.take i)) _) fun _ => ?_ | refine dapp_pure  (slices_Contains (txs (vs.take i)) _) ?_); simp only [go_sem, ↓reduceIte, Nat.reduceEqDiff, Nat.reduceAdd, Nat.reduceSub, Nat.reduceMul, Nat.reduceLT, Nat.reduceLeDiff, reduceCtorEq, Int.reduceToNat]))
          · have hcn : (txs (vs.take i)).contains (vs.getD i N0).text = true := by assumption
            rw [hin, if_pos hcn]
          · have hcn : (txs (vs.take i)).contains (vs.getD i N0).text = false := by assumption
            rw [hcn, if_neg (by simp)] at hin
            refine at_of (i + 1) [0, 1, 4] ⟨⟨by omega, ?_⟩, by omega⟩ rfl (by simp) ?_ ?_ ?_
            · rw [hin, htk]
            all_goals simp only [htk, strs_snoc, accV_snoc, accE_snoc, hln]
            all_goals simp only [go_sem, ↓reduceIte, Nat.reduceEqDiff, Nat.reduceAdd, Nat.reduceSub, Nat.reduceMul, Nat.reduceLT, Nat.reduceLeDiff, reduceCtorEq, Int.reduceToNat]
            rw [← strs_snoc, strs_bd, strs_ren]; exact ⟨rfl, rfl⟩
      · have htk : vs.take i = vs := List.take_of_length_le (by omega)
        have hil : ¬ (i : Int) < vs.length := by omega
        have hne : (txs vs).map AV.str ≠ [] := fun h => hv (by have := congrArg List.length h; simp only [List.length_map, txs_len, List.length_nil] at this; exact List.length_eq_zero_iff.1 this)
        rw [htk]
        simp only [accV_ne hne, accE_ne hne]
        rw [List.drop_of_length_le (by omega), linW] at hin
        repeat' (first | refine vi_seq ?_ | refine vi_block ?_ | refine vi_scope ?_ | ((first | refine vi_reg ?_ | refine vi_regE (by rfl) ?_ | refine vi_regD ?_ | refine vi_label ?_ | refine vi_goto ?_ | refine vi_ret ?_ | refine vi_exit ?_ | refine vi_skip ?_); simp (disch := first | omega | (simp only [List.length_set, List.length_append, List.length_cons, List.length_nil]; done) | (simp only [List.length_set, List.length_append, List.length_cons, List.length_nil]; omega)) only [hil, go_sem, ↓reduceIte, Nat.reduceEqDiff, Nat.reduceAdd, Nat.reduceSub, Nat.reduceMul, Nat.reduceLT, Nat.reduceLeDiff, reduceCtorEq, Int.reduceToNat]) | ((first | refine gd_caseb ?_ ?_ | refine cnd_caseb ?_ ?_) <;> intro hc <;> simp only [hc, go_sem, ↓reduceIte, Nat.reduceEqDiff, Nat.reduceAdd, Nat.reduceSub, Nat.reduceMul, Nat.reduceLT, Nat.reduceLeDiff, reduceCtorEq, Int.reduceToNat] <;> (try simp only [bool_not_true, bool_not_false, decide_eq_true_eq, decide_eq_false_iff_not, Bool.and_eq_true] at hc)) | (refine vi_cond ?_; simp (disch := first | omega | (simp only [List.length_set, List.length_append, List.length_cons, List.length_nil]; done) | (simp only [List.length_set, List.length_append, List.length_cons, List.length_nil]; omega)) only [hil, go_sem, ↓reduceIte, Nat.reduceEqDiff, Nat.reduceAdd, Nat.reduceSub, Nat.reduceMul, Nat.reduceLT, Nat.reduceLeDiff, reduceCtorEq, Int.reduceToNat]) | refine And.intro (by first | assumption | omega | (have := len_pos (by assumption); omega) | (unfold capOK; omega)) ?_ | (simp (disch := omega) only [encs_getN]; (try simp only [go_sem, ↓reduceIte, Nat.reduceEqDiff, Nat.reduceAdd, Nat.reduceSub, Nat.reduceMul, Nat.reduceLT, Nat.reduceLeDiff, reduceCtorEq, Int.reduceToNat])) | (simp (disch := omega) only [wrapS]; (try simp only [go_sem, ↓reduceIte, Nat.reduceEqDiff, Nat.reduceAdd, Nat.reduceSub, Nat.reduceMul, Nat.reduceLT, Nat.reduceLeDiff, reduceCtorEq, Int.reduceToNat])))
        rw [hin]
end Go.Proofs.Ytaoiamkloigfhaa

/- patterns: the head of each statement; linear patterns -/
set_option maxRecDepth 4000
namespace Go.Proofs.Ytaoiamkloigfhaa
open Go Go.RowKit Go.V
set_option linter.unusedVariables false
set_option linter.unusedSimpArgs false

def pn1 : N := .mk 14 0 0 [75] [.mk 11 2 0 [120] [], .mk 14 5 0 [76] [.mk 12 7 0 [] []]]
def pn2 : N := .mk 14 0 0 [75] [.mk 11 2 0 [120] [], .mk 11 4 0 [120] []]
theorem awP1 : VPure Try.prog 10 [.str [75, 32, 120, 32, 40, 76, 32, 95, 41]] (.tup [enc pn1, .int .i64 0, .int .i64 0]) := vp_eq (ppats_Pat _ (by decide)) (by rw [show patV [75, 32, 120, 32, 40, 76, 32, 95, 41] = (pn1, 0, 0) by kernel_rfl]; rfl)
theorem awP2 : VPure Try.prog 10 [.str [75, 32, 120, 32, 120]] (.tup [enc pn2, .int .i64 0, .int .i64 0]) := vp_eq (ppats_Pat _ (by decide)) (by rw [show patV [75, 32, 120, 32, 120] = (pn2, 0, 0) by kernel_rfl]; rfl)
theorem awP3 : VPure Try.prog 10 [.str [120, 32, 121]] (.tup [enc N0, .int .i64 2, .int .i64 5]) := vp_eq (ppats_Pat _ (by decide)) (by rw [show patV [120, 32, 121] = (N0, 2, 5) by kernel_rfl]; rfl)
theorem sz_pn2 : sz pn2 ≤ 100000 := by simp [pn2, sz, szs]
theorem awP4 : VPure Try.prog 9 [enc pn2] (.tup [.int .i64 4, .bool false]) := vp_eq (ppats_Linear pn2 sz_pn2) (by rw [show linW (vsW pn2) [] = (4, false) by kernel_rfl])
theorem awP5 : VPure Try.prog 7 [enc pn2] (.sl 1 ([[120], [120]].map AV.str)) := vp_eq (ppats_Vars pn2 sz_pn2) (by rw [show txs (vsW pn2) = [[120], [120]] by kernel_rfl])
theorem awP6 : VPure Try.prog 15 [.sl 1 ([[120], [120]].map AV.str), .sl 1 [.str [120], .str [120]]] (.bool true) := ref01_Texts [[120], [120]] [[120], [120]]
theorem pn1_kind : pn1.kind = 14 := rfl
theorem pn1_len : pn1.kids.length = 2 := rfl
theorem pn1_get : (encs pn1.kids).getD 1 .junk = .agg [.int .i64 14, .int .i64 5, .int .i64 0, .str [76], .sl 5 [.agg [.int .i64 12, .int .i64 7, .int .i64 0, .str [], .sl 5 []]]] := rfl
attribute [go_sem] pn1_kind pn1_len pn1_get
theorem law08_awake : VPure Try.prog 6 [] (.bool true) := by
  refine vpure_of c_envoylaw08_awake (by simp) (by simp only [go_sem]) rfl fun hw => ?_
  repeat' (first | refine vi_seq ?_ | refine vi_block ?_ | refine vi_scope ?_ | ((first | refine vi_reg ?_ | refine vi_regE (by rfl) ?_ | refine vi_regD ?_ | refine vi_label ?_ | refine vi_goto ?_ | refine vi_ret ?_ | refine vi_exit ?_ | refine vi_skip ?_); simp (disch := first | omega | (simp only [List.length_set, List.length_append, List.length_cons, List.length_nil]; done) | (simp only [List.length_set, List.length_append, List.length_cons, List.length_nil]; omega)) only [Int.reduceLT, Int.reduceLE, Int.reduceEq, decide_true, ne_eq, not_true_eq_false, go_sem, ↓reduceIte, Nat.reduceEqDiff, Nat.reduceAdd, Nat.reduceSub, Nat.reduceMul, Nat.reduceLT, Nat.reduceLeDiff, reduceCtorEq, Int.reduceToNat]) | ((first | refine gd_caseb ?_ ?_ | refine cnd_caseb ?_ ?_) <;> intro hc <;> simp only [hc, go_sem, ↓reduceIte, Nat.reduceEqDiff, Nat.reduceAdd, Nat.reduceSub, Nat.reduceMul, Nat.reduceLT, Nat.reduceLeDiff, reduceCtorEq, Int.reduceToNat] <;> (try simp only [bool_not_true, bool_not_false, decide_eq_true_eq, decide_eq_false_iff_not, Bool.and_eq_true] at hc)) | (refine vi_cond ?_; simp (disch := first | omega | (simp only [List.length_set, List.length_append, List.length_cons, List.length_nil]; done) | (simp only [List.length_set, List.length_append, List.length_cons, List.length_nil]; omega)) only [Int.reduceLT, Int.reduceLE, Int.reduceEq, decide_true, ne_eq, not_true_eq_false, go_sem, ↓reduceIte, Nat.reduceEqDiff, Nat.reduceAdd, Nat.reduceSub, Nat.reduceMul, Nat.reduceLT, Nat.reduceLeDiff, reduceCtorEq, Int.reduceToNat]) | refine And.intro (by first | assumption | omega | (have := len_pos (by assumption); omega) | (unfold capOK; omega)) ?_ | (simp (disch := omega) only [encs_getN]; (try simp only [go_sem, ↓reduceIte, Nat.reduceEqDiff, Nat.reduceAdd, Nat.reduceSub, Nat.reduceMul, Nat.reduceLT, Nat.reduceLeDiff, reduceCtorEq, Int.reduceToNat])) | (simp (disch := omega) only [wrapS]; (try simp only [go_sem, ↓reduceIte, Nat.reduceEqDiff, Nat.reduceAdd, Nat.reduceSub, Nat.reduceMul, Nat.reduceLT, Nat.reduceLeDiff, reduceCtorEq, Int.reduceToNat])) | ((first | refine vapp_pure0 awP1 fun _ => ?_ | refine vapp_pure0 awP2 fun _ => ?_ | refine vapp_pure0 awP3 fun _ => ?_ | refine vapp_pure0 awP4 fun _ => ?_ | refine vapp_pure0 awP5 fun _ => ?_ | refine vapp_pure0 awP6 fun _ => ?_ | refine dapp_pure  awP1 ?_ | refine dapp_pure  awP2 ?_ | refine dapp_pure  awP3 ?_ | refine dapp_pure  awP4 ?_ | refine dapp_pure  awP5 ?_ | refine dapp_pure  awP6 ?_); simp only [go_sem, ↓reduceIte, Nat.reduceEqDiff, Nat.reduceAdd, Nat.reduceSub, Nat.reduceMul, Nat.reduceLT, Nat.reduceLeDiff, reduceCtorEq, Int.reduceToNat]))
  all_goals exact absurd rfl (by assumption)
/-- Whether one comes again. -/
def dupW : List (List UInt8) → List (List UInt8) → Bool
  | [], _ => false
  | x :: r, seen => seen.contains x || dupW r (seen ++ [x])
theorem lin_dup : ∀ (vs : List N) (seen : List (List UInt8)), (linW vs seen).2 = !dupW (txs vs) seen
  | [], _ => rfl
  | v :: r, seen => by
    rw [linW, show txs (v :: r) = v.text :: txs r from rfl, dupW]
    split
    · rename_i h; rw [h]; rfl
    · rename_i h
      rw [lin_dup r, Bool.eq_false_iff.2 h, Bool.false_or]
theorem dup_drop {l : List (List UInt8)} {i : Nat} (h : i < l.length) : dupW (l.drop i) (l.take i) = ((l.take i).contains (l.getD i []) || dupW (l.drop (i + 1)) (l.take (i + 1))) := by
  have h1 : l.take (i + 1) = l.take i ++ [l.getD i []] := by
    rw [List.take_add_one, List.getElem?_eq_getElem h, List.getD_eq_getElem?_getD, List.getElem?_eq_getElem h]; rfl
  rw [strs_drop h, dupW, h1]
theorem strs_take (l : List (List UInt8)) (i : Nat) : (l.map AV.str).take i = (l.take i).map AV.str := by rw [List.map_take]
theorem has_take (l : List (List UInt8)) (i : Nat) (x : List UInt8) : VPure Try.prog 8 [.sl 1 ((l.map AV.str).take i), .str x] (.bool ((l.take i).contains x)) := by rw [strs_take]; exact ref03_Has _ _
theorem law08_PpatsLinear (n : N) : VPure Try.prog 3 [enc n] (.bool true) := by
  refine vpure_of c_envoylaw08_PpatsLinear (by simp) (by simp only [go_sem]) rfl fun hw => ?_
  cases hf : fewW n
  · have h0 : VPure Try.prog 5 [enc n] (.int .i64 0) := by have := few7 n; rw [hf] at this; exact this
    repeat' (first | refine vi_seq ?_ | refine vi_block ?_ | refine vi_scope ?_ | ((first | refine vi_reg ?_ | refine vi_regE (by rfl) ?_ | refine vi_regD ?_ | refine vi_label ?_ | refine vi_goto ?_ | refine vi_ret ?_ | refine vi_exit ?_ | refine vi_skip ?_); simp (disch := first | omega | (simp only [List.length_set, List.length_append, List.length_cons, List.length_nil]; done) | (simp only [List.length_set, List.length_append, List.length_cons, List.length_nil]; omega)) only [Int.reduceEq, go_sem, ↓reduceIte, Nat.reduceEqDiff, Nat.reduceAdd, Nat.reduceSub, Nat.reduceMul, Nat.reduceLT, Nat.reduceLeDiff, reduceCtorEq, Int.reduceToNat]) | ((first | refine gd_caseb ?_ ?_ | refine cnd_caseb ?_ ?_) <;> intro hc <;> simp only [hc, go_sem, ↓reduceIte, Nat.reduceEqDiff, Nat.reduceAdd, Nat.reduceSub, Nat.reduceMul, Nat.reduceLT, Nat.reduceLeDiff, reduceCtorEq, Int.reduceToNat] <;> (try simp only [bool_not_true, bool_not_false, decide_eq_true_eq, decide_eq_false_iff_not, Bool.and_eq_true] at hc)) | (refine vi_cond ?_; simp (disch := first | omega | (simp only [List.length_set, List.length_append, List.length_cons, List.length_nil]; done) | (simp only [List.length_set, List.length_append, List.length_cons, List.length_nil]; omega)) only [Int.reduceEq, go_sem, ↓reduceIte, Nat.reduceEqDiff, Nat.reduceAdd, Nat.reduceSub, Nat.reduceMul, Nat.reduceLT, Nat.reduceLeDiff, reduceCtorEq, Int.reduceToNat]) | refine And.intro (by first | assumption | omega | (have := len_pos (by assumption); omega) | (unfold capOK; omega)) ?_ | (simp (disch := omega) only [encs_getN]; (try simp only [go_sem, ↓reduceIte, Nat.reduceEqDiff, Nat.reduceAdd, Nat.reduceSub, Nat.reduceMul, Nat.reduceLT, Nat.reduceLeDiff, reduceCtorEq, Int.reduceToNat])) | (simp (disch := omega) only [wrapS]; (try simp only [go_sem, ↓reduceIte, Nat.reduceEqDiff, Nat.reduceAdd, Nat.reduceSub, Nat.reduceMul, Nat.reduceLT, Nat.reduceLeDiff, reduceCtorEq, Int.reduceToNat])) | ((first | refine vapp_pure0 h0 fun _ => ?_ | refine vapp_pure0 law08_awake fun _ => ?_ | refine dapp_pure  h0 ?_ | refine dapp_pure  law08_awake ?_); simp only [go_sem, ↓reduceIte, Nat.reduceEqDiff, Nat.reduceAdd, Nat.reduceSub, Nat.reduceMul, Nat.reduceLT, Nat.reduceLeDiff, reduceCtorEq, Int.reduceToNat]))
  · have h0 : VPure Try.prog 5 [enc n] (.int .i64 1) := by have := few7 n; rw [hf] at this; exact this
    have hsz := few_sz hf
    have hV := ppats_Vars n (by omega)
    have hL := ppats_Linear n (by omega)
    have hdl := lin_dup (vsW n) []
    have hlen : (txs (vsW n)).length ≤ 3000 := by rw [txs_len]; have := vsW_len n; omega
    generalize txs (vsW n) = l at *
    repeat' (first | refine vi_seq ?_ | refine vi_block ?_ | refine vi_scope ?_ | ((first | refine vi_reg ?_ | refine vi_regE (by rfl) ?_ | refine vi_regD ?_ | refine vi_label ?_ | refine vi_goto ?_ | refine vi_ret ?_ | refine vi_exit ?_ | refine vi_skip ?_); simp (disch := first | omega | (simp only [List.length_set, List.length_append, List.length_cons, List.length_nil]; done) | (simp only [List.length_set, List.length_append, List.length_cons, List.length_nil]; omega)) only [Int.reduceEq, go_sem, ↓reduceIte, Nat.reduceEqDiff, Nat.reduceAdd, Nat.reduceSub, Nat.reduceMul, Nat.reduceLT, Nat.reduceLeDiff, reduceCtorEq, Int.reduceToNat]) | ((first | refine gd_caseb ?_ ?_ | refine cnd_caseb ?_ ?_) <;> intro hc <;> simp only [hc, go_sem, ↓reduceIte, Nat.reduceEqDiff, Nat.reduceAdd, Nat.reduceSub, Nat.reduceMul, Nat.reduceLT, Nat.reduceLeDiff, reduceCtorEq, Int.reduceToNat] <;> (try simp only [bool_not_true, bool_not_false, decide_eq_true_eq, decide_eq_false_iff_not, Bool.and_eq_true] at hc)) | (refine vi_cond ?_; simp (disch := first | omega | (simp only [List.length_set, List.length_append, List.length_cons, List.length_nil]; done) | (simp only [List.length_set, List.length_append, List.length_cons, List.length_nil]; omega)) only [Int.reduceEq, go_sem, ↓reduceIte, Nat.reduceEqDiff, Nat.reduceAdd, Nat.reduceSub, Nat.reduceMul, Nat.reduceLT, Nat.reduceLeDiff, reduceCtorEq, Int.reduceToNat]) | refine And.intro (by first | assumption | omega | (have := len_pos (by assumption); omega) | (unfold capOK; omega)) ?_ | (simp (disch := omega) only [encs_getN]; (try simp only [go_sem, ↓reduceIte, Nat.reduceEqDiff, Nat.reduceAdd, Nat.reduceSub, Nat.reduceMul, Nat.reduceLT, Nat.reduceLeDiff, reduceCtorEq, Int.reduceToNat])) | (simp (disch := omega) only [wrapS]; (try simp only [go_sem, ↓reduceIte, Nat.reduceEqDiff, Nat.reduceAdd, Nat.reduceSub, Nat.reduceMul, Nat.reduceLT, Nat.reduceLeDiff, reduceCtorEq, Int.reduceToNat])) | ((first | refine vapp_pure0 h0 fun _ => ?_ | refine vapp_pure0 law08_awake fun _ => ?_ | refine vapp_pure0 hV fun _ => ?_ | refine dapp_pure  h0 ?_ | refine dapp_pure  law08_awake ?_ | refine dapp_pure  hV ?_); simp only [go_sem, ↓reduceIte, Nat.reduceEqDiff, Nat.reduceAdd, Nat.reduceSub, Nat.reduceMul, Nat.reduceLT, Nat.reduceLeDiff, reduceCtorEq, Int.reduceToNat]))
    refine vi_loop (S := Nat × Bool) (fun x => x.1 ≤ l.length ∧ (x.2 || dupW (l.drop x.1) (l.take x.1)) = dupW l []) (fun x => (⟨[(1, .ptr 0 0), (3, .sl 1 (l.map AV.str)), (4, .bool x.2), (5, .int .i64 x.1)], []⟩, [.blk (enc n).cells])) (fun x => l.length - x.1) ?_ ?_
    · refine at_of (0, false) [0] ⟨Nat.zero_le _, rfl⟩ rfl (by simp) ?_ ?_ ?_ <;> (try simp only [go_sem, ↓reduceIte, Nat.reduceEqDiff, Nat.reduceAdd, Nat.reduceSub, Nat.reduceMul, Nat.reduceLT, Nat.reduceLeDiff, reduceCtorEq, Int.reduceToNat]) <;> (try simp (disch := omega) only [wrapS])
    · rintro ⟨i, b⟩ ⟨hi, ha⟩
      simp only at hi ha
      have hmx : (1048577 : Nat) ≤ maxLen := by unfold maxLen; omega
      repeat' (first | refine vi_seq ?_ | refine vi_block ?_ | refine vi_scope ?_ | ((first | refine vi_reg ?_ | refine vi_regE (by rfl) ?_ | refine vi_regD ?_ | refine vi_label ?_ | refine vi_goto ?_ | refine vi_ret ?_ | refine vi_exit ?_ | refine vi_skip ?_); simp only [go_sem, ↓reduceIte, Nat.reduceEqDiff, Nat.reduceAdd, Nat.reduceSub, Nat.reduceMul, Nat.reduceLT, Nat.reduceLeDiff, reduceCtorEq, Int.reduceToNat]) | (simp (disch := omega) only [strs_getD]; (try simp only [go_sem, ↓reduceIte, Nat.reduceEqDiff, Nat.reduceAdd, Nat.reduceSub, Nat.reduceMul, Nat.reduceLT, Nat.reduceLeDiff, reduceCtorEq, Int.reduceToNat])) | ((first | refine gd_caseb ?_ ?_ | refine cnd_caseb ?_ ?_) <;> intro hc <;> simp only [hc, go_sem, ↓reduceIte, Nat.reduceEqDiff, Nat.reduceAdd, Nat.reduceSub, Nat.reduceMul, Nat.reduceLT, Nat.reduceLeDiff, reduceCtorEq, Int.reduceToNat] <;> (try simp only [bool_not_true, bool_not_false, decide_eq_true_eq, decide_eq_false_iff_not, Bool.and_eq_true] at hc)) | (refine vi_cond ?_; simp only [go_sem, ↓reduceIte, Nat.reduceEqDiff, Nat.reduceAdd, Nat.reduceSub, Nat.reduceMul, Nat.reduceLT, Nat.reduceLeDiff, reduceCtorEq, Int.reduceToNat]) | refine And.intro (by first | assumption | omega | (have := len_pos (by assumption); omega) | (unfold capOK; omega)) ?_ | (simp (disch := omega) only [encs_getN]; (try simp only [go_sem, ↓reduceIte, Nat.reduceEqDiff, Nat.reduceAdd, Nat.reduceSub, Nat.reduceMul, Nat.reduceLT, Nat.reduceLeDiff, reduceCtorEq, Int.reduceToNat])) | (simp (disch := omega) only [wrapS]; (try simp only [go_sem, ↓reduceIte, Nat.reduceEqDiff, Nat.reduceAdd, Nat.reduceSub, Nat.reduceMul, Nat.reduceLT, Nat.reduceLeDiff, reduceCtorEq, Int.reduceToNat])) | ((first | refine vapp_pure0 (has_take l i _) fun _ => ?_ | refine vapp_pure0 law08_awake fun _ => ?_ | refine vapp_pure0 hL fun _ => ?_ | refine dapp_pure  (has_take l i _) ?_ | refine dapp_pure  law08_awake ?_ | refine dapp_pure  hL ?_); simp only [go_sem, ↓reduceIte, Nat.reduceEqDiff, Nat.reduceAdd, Nat.reduceSub, Nat.reduceMul, Nat.reduceLT, Nat.reduceLeDiff, reduceCtorEq, Int.reduceToNat]))
      · have hb : b = true := by assumption
        subst hb
        refine at_of (i + 1, true) [0] ⟨⟨by omega, ?_⟩, by simp only; omega⟩ rfl (by simp) ?_ ?_ ?_ <;> (try simp only [go_sem, ↓reduceIte, Nat.reduceEqDiff, Nat.reduceAdd, Nat.reduceSub, Nat.reduceMul, Nat.reduceLT, Nat.reduceLeDiff, reduceCtorEq, Int.reduceToNat]) <;> (try simp (disch := omega) only [wrapS])
        simpa using ha
      · have hb : b = false := by assumption
        subst hb
        refine at_of (i + 1, (l.take i).contains (l.getD i [])) [0] ⟨⟨by omega, ?_⟩, by simp only; omega⟩ rfl (by simp) ?_ ?_ ?_ <;> (try simp only [go_sem, ↓reduceIte, Nat.reduceEqDiff, Nat.reduceAdd, Nat.reduceSub, Nat.reduceMul, Nat.reduceLT, Nat.reduceLeDiff, reduceCtorEq, Int.reduceToNat]) <;> (try simp (disch := omega) only [wrapS])
        rw [dup_drop (i := i) (by omega), Bool.false_or] at ha; exact ha
      · exfalso
        have h9 : ((linW (vsW n) []).2 == !b) = false := by assumption
        rw [List.drop_of_length_le (by omega), List.take_of_length_le (by omega), dupW, Bool.or_false] at ha
        rw [hdl, ← ha] at h9
        simp at h9
end Go.Proofs.Ytaoiamkloigfhaa
