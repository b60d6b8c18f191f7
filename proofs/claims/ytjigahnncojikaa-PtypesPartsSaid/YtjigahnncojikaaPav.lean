/- Texts of this proof, joined. -/
import Derived.Test.YtjigahnncojikaaPat
import Derived.Test.YtjigahnncojikaaPau

/- the cursor: what it is, what its methods do -/
set_option maxRecDepth 4000
namespace Go.Proofs.Ytjigahnncojikaa
open Go Go.RowKit Go.V
set_option linter.unusedVariables false
set_option linter.unusedSimpArgs false

attribute [go_sem] cond_true cond_false
/-- A cursor. -/
structure K where
  l : List T
  ep : Int
  at' : Nat
  nest : Nat
  err : Int
  pos : Int
def K.ok (c : K) : Prop := c.at' ≤ c.l.length ∧ c.l.length ≤ maxLen
def curE (c : K) : Ent := .blk [.sl 4 (encTs c.l), .int .i64 0, .int .i64 c.ep, .int .i64 0, .str [], .int .i64 c.at', .int .i64 c.nest, .int .i64 c.err, .int .i64 c.pos]
def K.bad (c : K) : Bool := !decide (c.err = 0)
theorem bad_no {c : K} (h : c.bad = false) : c.err = 0 := by simpa [K.bad] using h
theorem bad_yes {c : K} (h : c.bad = true) : ¬ c.err = 0 := by simpa [K.bad] using h
def peekK (c : K) : T := if c.err = 0 then if c.at' < c.l.length then c.l.getD c.at' T0 else ⟨0, c.ep, 0, []⟩ else T0
def nextK (c : K) : K := if c.err = 0 then if c.at' < c.l.length then { c with at' := c.at' + 1 } else c else c
def wordW (t : T) (s : List UInt8) : Bool := (decide (t.kind = 4) || decide (t.kind = 5)) && decide (t.text = s)
def isK (c : K) (s : List UInt8) : Bool := decide (c.err = 0) && wordW (peekK c) s
def failK (c : K) (e : Int) : K := if c.err = 0 then { c with err := if e = 0 then 1 else e, pos := (peekK c).pos } else c
def takeK (c : K) (s : List UInt8) : K × Bool := if isK c s = true then (nextK c, true) else (c, false)
def wantK (c : K) (s : List UInt8) : K × Bool := if isK c s = true then (nextK c, true) else (failK c 5, false)
def enterK (c : K) : K × Bool := if c.err = 0 then if c.nest < 200 then ({ c with nest := c.nest + 1 }, true) else (failK c 2, false) else (c, false)
def leaveK (c : K) : K := if c.err = 0 then if 0 < c.nest then { c with nest := c.nest - 1 } else c else c
def doneK (c : K) : Int × Int := if c.err = 0 then if c.at' < c.l.length then ((c.l.getD c.at' T0).pos, 5) else (c.ep, 0) else (c.pos, c.err)

theorem curE_bd (k : Nat) (c : K) : (curE c).bd k = true := by
  simp only [curE, Ent.bd, AV.bds, AV.bd, encTs_bd, Bool.and_true]
theorem curE_ren (σ : Nat → Nat) (c : K) : (curE c).ren σ = curE c := Ent.ren_same (m := 0) (fun i hi => by omega) _ (curE_bd 0 c)
attribute [go_sem] curE
/-- A call that leaves the first entry so. -/
def VMeth (P : Program) (f : FuncId) (e e' : Ent) (args : List AV) (r : AV) : Prop := VCalls P f [e] args fun H' o => H' = [e'] ∧ o = .val r
section
variable {P : Program} {f : FuncId} {e e' : Ent} {L : List Ent} {args : List AV} {r : AV} {Q : List Ent → VO → Prop}
theorem vmeth_app (h : VMeth P f e e' args r) (hb : e.bd 1 = true) (hb' : e'.bd 1 = true) (ha : AV.bds 1 args = true) (hr : r.bd 1 = true) (hq : r.wf → Q (e' :: L) (.val r)) : VApp P (e :: L) (.fn f [] []) args Q :=
  vapp_fn (first := []) (caps := []) (by
    simp only [List.nil_append, List.append_nil]
    refine vcalls_pre (H0 := [e]) (L := L) (h.mono' (Q' := fun H' o => (H' = [e'] ∧ o = .val r) ∧ r.wf) fun H' o hw ho => ⟨ho, by have := ho.2; subst this; exact hw⟩) (by simp [hb]) ha ?_
    rintro H1 o ⟨⟨rfl, rfl⟩, hw⟩
    exact ⟨rfl, by simp [hb'], hr, hq hw⟩)
theorem dmeth_app (h : VMeth P f e e args r) (hb : e.bd 1 = true) (ha : AV.bds 1 args = true) (hr : r.bd 1 = true) {Kk : Bool → AV → Prop} (hq : r.wf → Kk true r) (hw : r.wf) : DApp P (e :: L) (.fn f [] []) args Kk :=
  .inl ⟨r, vmeth_app h hb hb ha hr fun _ => ⟨rfl, rfl⟩, hq hw⟩
end

theorem cur_failed (c : K) : VMeth Try.prog 59 (curE c) (curE c) [.ptr 0 0] (.bool c.bad) := by
  refine vcalls_of c0bj 1 (by simp) (by simp) ?_
  unfold K.bad
  repeat' (first | refine vi_seq ?_ | refine vi_block ?_ | refine vi_scope ?_ | ((first | refine vi_reg ?_ | refine vi_regE (by rfl) ?_ | refine vi_regD ?_ | refine vi_label ?_ | refine vi_goto ?_ | refine vi_ret ?_ | refine vi_exit ?_ | refine vi_skip ?_ | refine vi_cond ?_); simp only [go_sem, ↓reduceIte, Nat.reduceEqDiff, Nat.reduceAdd, Nat.reduceSub, Nat.reduceMul, Nat.reduceLT, Nat.reduceLeDiff, reduceCtorEq, Int.reduceToNat]) | ((first | refine gd_caseb ?_ ?_ | refine cnd_caseb ?_ ?_) <;> intro hc <;> simp only [hc, go_sem, ↓reduceIte, Nat.reduceEqDiff, Nat.reduceAdd, Nat.reduceSub, Nat.reduceMul, Nat.reduceLT, Nat.reduceLeDiff, reduceCtorEq, Int.reduceToNat] <;> (try simp only [bool_not_true, bool_not_false, decide_eq_true_eq, decide_eq_false_iff_not, Bool.and_eq_true] at hc)) | refine And.intro (by first | assumption | omega | (have := len_pos (by assumption); omega) | (unfold capOK; omega)) ?_ | ((first | simp (disch := omega) only [encs_getN] | simp (disch := omega) only [wrapS]); (try simp only [go_sem, ↓reduceIte, Nat.reduceEqDiff, Nat.reduceAdd, Nat.reduceSub, Nat.reduceMul, Nat.reduceLT, Nat.reduceLeDiff, reduceCtorEq, Int.reduceToNat])))
section
variable {c : K} {L : List Ent} {Q : List Ent → VO → Prop} {Kk : Bool → AV → Prop}
theorem a_failed (h : Q (curE c :: L) (.val (.bool c.bad))) : VApp Try.prog (curE c :: L) (.fn 59 [] []) [.ptr 0 0] Q := vmeth_app (cur_failed c) (curE_bd _ _) (curE_bd _ _) rfl rfl fun _ => h
theorem d_failed (h : Kk true (.bool c.bad)) : DApp Try.prog (curE c :: L) (.fn 59 [] []) [.ptr 0 0] Kk := dmeth_app (cur_failed c) (curE_bd _ _) rfl rfl (fun _ => h) trivial
end
section
variable {c : K}
theorem peekK_err (h : ¬ c.err = 0) : peekK c = T0 := if_neg h
theorem peekK_in (h : c.err = 0) (h2 : (c.at' : Int) < c.l.length) : peekK c = c.l.getD c.at' T0 := by rw [peekK, if_pos h, if_pos (by omega)]
theorem peekK_end (h : c.err = 0) (h2 : ¬ (c.at' : Int) < c.l.length) : peekK c = ⟨0, c.ep, 0, []⟩ := by rw [peekK, if_pos h, if_neg (by omega)]
theorem nextK_err (h : ¬ c.err = 0) : nextK c = c := if_neg h
theorem nextK_in (h : c.err = 0) (h2 : (c.at' : Int) < c.l.length) : nextK c = { c with at' := c.at' + 1 } := by rw [nextK, if_pos h, if_pos (by omega)]
theorem nextK_end (h : c.err = 0) (h2 : ¬ (c.at' : Int) < c.l.length) : nextK c = c := by rw [nextK, if_pos h, if_neg (by omega)]
theorem failK_err {e : Int} (h : ¬ c.err = 0) : failK c e = c := if_neg h
theorem failK_0 (h : c.err = 0) : failK c 0 = { c with err := 1, pos := (peekK c).pos } := by rw [failK, if_pos h, if_pos rfl]
theorem failK_n {e : Int} (h : c.err = 0) (he : ¬ e = 0) : failK c e = { c with err := e, pos := (peekK c).pos } := by rw [failK, if_pos h, if_neg he]
end
section
variable {c : K} {x : List UInt8}
theorem takeK_t (h : isK c x = true) : takeK c x = (nextK c, true) := if_pos h
theorem takeK_f (h : isK c x = false) : takeK c x = (c, false) := by rw [takeK, h]; rfl
theorem wantK_t (h : (takeK c x).2 = true) : wantK c x = ((takeK c x).1, true) := by
  unfold takeK wantK at *
  split at h
  · rename_i h1; rw [if_pos h1, if_pos h1]
  · cases h
theorem wantK_f (h : (takeK c x).2 = false) : wantK c x = (failK (takeK c x).1 5, false) := by
  unfold takeK wantK at *
  split at h
  · cases h
  · rename_i h1; rw [if_neg h1, if_neg h1]
theorem enterK_err (h : ¬ c.err = 0) : enterK c = (c, false) := if_neg h
theorem enterK_in (h : c.err = 0) (h2 : ¬ (200 : Int) ≤ c.nest) : enterK c = ({ c with nest := c.nest + 1 }, true) := by rw [enterK, if_pos h, if_pos (by omega)]
theorem enterK_full (h : c.err = 0) (h2 : (200 : Int) ≤ c.nest) : enterK c = (failK c 2, false) := by rw [enterK, if_pos h, if_neg (by omega)]
theorem leaveK_err (h : ¬ c.err = 0) : leaveK c = c := if_neg h
theorem leaveK_in (h : c.err = 0) (h2 : (0 : Int) < c.nest) : leaveK c = { c with nest := c.nest - 1 } := by rw [leaveK, if_pos h, if_pos (by omega)]
theorem leaveK_0 (h : c.err = 0) (h2 : ¬ (0 : Int) < c.nest) : leaveK c = c := by rw [leaveK, if_pos h, if_neg (by omega)]
theorem doneK_err (h : ¬ c.err = 0) : doneK c = (c.pos, c.err) := if_neg h
theorem doneK_in (h : c.err = 0) (h2 : (c.at' : Int) < c.l.length) : doneK c = ((c.l.getD c.at' T0).pos, 5) := by rw [doneK, if_pos h, if_pos (by omega)]
theorem doneK_end (h : c.err = 0) (h2 : ¬ (c.at' : Int) < c.l.length) : doneK c = (c.ep, 0) := by rw [doneK, if_pos h, if_neg (by omega)]
end
theorem cur_Peek (c : K) : VMeth Try.prog 26 (curE c) (curE c) [.ptr 0 0] (encT (peekK c)) := by
  refine vcalls_of c0bk 1 (by simp) (by simp) ?_
  repeat' (first | refine vi_seq ?_ | refine vi_block ?_ | refine vi_scope ?_ | ((first | refine vi_reg ?_ | refine vi_regE (by rfl) ?_ | refine vi_regD ?_ | refine vi_label ?_ | refine vi_goto ?_ | refine vi_ret ?_ | refine vi_exit ?_ | refine vi_skip ?_ | refine vi_cond ?_ | refine a_failed ?_); simp only [go_sem, ↓reduceIte, Nat.reduceEqDiff, Nat.reduceAdd, Nat.reduceSub, Nat.reduceMul, Nat.reduceLT, Nat.reduceLeDiff, reduceCtorEq, Int.reduceToNat]) | ((first | simp (disch := omega) only [encTs_getT]); (try simp only [go_sem, ↓reduceIte, Nat.reduceEqDiff, Nat.reduceAdd, Nat.reduceSub, Nat.reduceMul, Nat.reduceLT, Nat.reduceLeDiff, reduceCtorEq, Int.reduceToNat])) | ((first | refine gd_caseb ?_ ?_ | refine cnd_caseb ?_ ?_) <;> intro hc <;> simp only [hc, go_sem, ↓reduceIte, Nat.reduceEqDiff, Nat.reduceAdd, Nat.reduceSub, Nat.reduceMul, Nat.reduceLT, Nat.reduceLeDiff, reduceCtorEq, Int.reduceToNat] <;> (try simp only [bool_not_true, bool_not_false, decide_eq_true_eq, decide_eq_false_iff_not, Bool.and_eq_true] at hc)) | refine And.intro (by first | assumption | omega | (have := len_pos (by assumption); omega) | (unfold capOK; omega)) ?_ | ((first | simp (disch := omega) only [encs_getN] | simp (disch := omega) only [wrapS]); (try simp only [go_sem, ↓reduceIte, Nat.reduceEqDiff, Nat.reduceAdd, Nat.reduceSub, Nat.reduceMul, Nat.reduceLT, Nat.reduceLeDiff, reduceCtorEq, Int.reduceToNat])))
  · rw [peekK_err (bad_yes (by assumption))]; rfl
  · rw [peekK_in (bad_no (by assumption)) (by assumption)]
  · rw [peekK_end (bad_no (by assumption)) (by assumption)]; rfl
section
variable {c : K} {L : List Ent} {Q : List Ent → VO → Prop} {Kk : Bool → AV → Prop}
theorem a_Peek (h : Q (curE c :: L) (.val (encT (peekK c)))) : VApp Try.prog (curE c :: L) (.fn 26 [] []) [.ptr 0 0] Q := vmeth_app (cur_Peek c) (curE_bd _ _) (curE_bd _ _) rfl rfl fun _ => h
end
def wordsK (t : T) (ls : List (List UInt8)) : Bool := (decide (t.kind = 4) || decide (t.kind = 5)) && ls.contains t.text
theorem among_n (t : T) (ls : List (List UInt8)) : VPure Try.prog 73 [encT t, .sl 1 (ls.map AV.str)] (.bool (wordsK t ls)) := by
  refine vpure_of c0bl (by simp) (by simp only [go_sem]) rfl fun hw => ?_
  have h1 : ls.length ≤ maxLen := by have := hw.2.1.1; rwa [strs_len] at this
  have loop : ∀ (Q : VE → AF → List Ent → Prop) (tm : List (Nat × AV)) (H : List Ent), wordsK t ls = ls.contains t.text → H = [.blk [.int .i64 t.kind, .int .i64 t.pos, .int .i64 t.num, .str t.text]] →
      (get tm 2 = .ptr 0 0 ∧ get tm 15 = .sl 1 (ls.map AV.str) ∧ get tm 16 = .int .i64 ls.length ∧ get tm 17 = .int .i64 0) →
      Q = blq 0 (sq Try.prog none 26 0 (k0bl_r11.seq IC.ret) (retq 0 [(RV.t 4, Co.id)] fun H' o => o = VO.val (AV.bool (wordsK t ls)))) →
      VI Try.prog none 26 0 k0bl_l4.loop Q ⟨tm, []⟩ H := by
    rintro Q tm H hwd rfl ⟨h2, h15, h16, h17⟩ rfl
    rw [hwd]
    refine vi_loop (S := Nat) (fun i => i ≤ ls.length ∧ ls.contains t.text = (ls.drop i).contains t.text) (fun i => (⟨[(2, .ptr 0 0), (15, .sl 1 (ls.map AV.str)), (16, .int .i64 ls.length), (17, .int .i64 i)], []⟩, [.blk [.int .i64 t.kind, .int .i64 t.pos, .int .i64 t.num, .str t.text]])) (fun i => ls.length - i) ?_ fun i hi => ?_
    · refine at_of 0 [0] ⟨Nat.zero_le _, rfl⟩ rfl (by simp) ?_ ?_ ?_ <;> (try simp only [go_sem, ↓reduceIte, Nat.reduceEqDiff, Nat.reduceAdd, Nat.reduceSub, Nat.reduceMul, Nat.reduceLT, Nat.reduceLeDiff, reduceCtorEq, Int.reduceToNat]) <;> (try simp (disch := omega) only [wrapS])
      exact ⟨h2, h15, h16, h17⟩
    · obtain ⟨hi, ha⟩ := hi
      repeat' (first | refine vi_seq ?_ | refine vi_block ?_ | refine vi_scope ?_ | ((first | refine vi_reg ?_ | refine vi_regE (by rfl) ?_ | refine vi_regD ?_ | refine vi_label ?_ | refine vi_goto ?_ | refine vi_ret ?_ | refine vi_exit ?_ | refine vi_skip ?_ | refine vi_cond ?_); simp only [go_sem, ↓reduceIte, Nat.reduceEqDiff, Nat.reduceAdd, Nat.reduceSub, Nat.reduceMul, Nat.reduceLT, Nat.reduceLeDiff, reduceCtorEq, Int.reduceToNat]) | ((first | simp (disch := omega) only [strs_getD]); (try simp only [go_sem, ↓reduceIte, Nat.reduceEqDiff, Nat.reduceAdd, Nat.reduceSub, Nat.reduceMul, Nat.reduceLT, Nat.reduceLeDiff, reduceCtorEq, Int.reduceToNat])) | ((first | refine gd_caseb ?_ ?_ | refine cnd_caseb ?_ ?_) <;> intro hc <;> simp only [hc, go_sem, ↓reduceIte, Nat.reduceEqDiff, Nat.reduceAdd, Nat.reduceSub, Nat.reduceMul, Nat.reduceLT, Nat.reduceLeDiff, reduceCtorEq, Int.reduceToNat] <;> (try simp only [bool_not_true, bool_not_false, decide_eq_true_eq, decide_eq_false_iff_not, Bool.and_eq_true] at hc)) | refine And.intro (by first | assumption | omega | (have := len_pos (by assumption); omega) | (unfold capOK; omega)) ?_ | ((first | simp (disch := omega) only [encs_getN] | simp (disch := omega) only [wrapS]); (try simp only [go_sem, ↓reduceIte, Nat.reduceEqDiff, Nat.reduceAdd, Nat.reduceSub, Nat.reduceMul, Nat.reduceLT, Nat.reduceLeDiff, reduceCtorEq, Int.reduceToNat])))
      · rw [ha, strs_drop (i := i) (by omega), List.contains_cons, hc]; simp
      · refine at_of (i + 1) [0] ⟨⟨by omega, ?_⟩, by omega⟩ rfl (by simp) ?_ ?_ ?_ <;> (try simp only [go_sem, ↓reduceIte, Nat.reduceEqDiff, Nat.reduceAdd, Nat.reduceSub, Nat.reduceMul, Nat.reduceLT, Nat.reduceLeDiff, reduceCtorEq, Int.reduceToNat]) <;> (try simp (disch := omega) only [wrapS])
        rw [ha, strs_drop (i := i) (by omega), List.contains_cons, beq_eq_false_iff_ne.2 hc, Bool.false_or]
      · rw [ha, List.drop_of_length_le (by omega)]; rfl
  repeat' (first | refine vi_seq ?_ | refine vi_block ?_ | refine vi_scope ?_ | ((first | refine vi_reg ?_ | refine vi_regE (by rfl) ?_ | refine vi_regD ?_ | refine vi_label ?_ | refine vi_goto ?_ | refine vi_ret ?_ | refine vi_exit ?_ | refine vi_skip ?_ | refine vi_cond ?_); simp only [go_sem, ↓reduceIte, Nat.reduceEqDiff, Nat.reduceAdd, Nat.reduceSub, Nat.reduceMul, Nat.reduceLT, Nat.reduceLeDiff, reduceCtorEq, Int.reduceToNat]) | ((first | refine gd_caseb ?_ ?_ | refine cnd_caseb ?_ ?_) <;> intro hc <;> simp only [hc, go_sem, ↓reduceIte, Nat.reduceEqDiff, Nat.reduceAdd, Nat.reduceSub, Nat.reduceMul, Nat.reduceLT, Nat.reduceLeDiff, reduceCtorEq, Int.reduceToNat] <;> (try simp only [bool_not_true, bool_not_false, decide_eq_true_eq, decide_eq_false_iff_not, Bool.and_eq_true] at hc)) | refine And.intro (by first | assumption | omega | (have := len_pos (by assumption); omega) | (unfold capOK; omega)) ?_ | ((first | simp (disch := omega) only [encs_getN] | simp (disch := omega) only [wrapS]); (try simp only [go_sem, ↓reduceIte, Nat.reduceEqDiff, Nat.reduceAdd, Nat.reduceSub, Nat.reduceMul, Nat.reduceLT, Nat.reduceLeDiff, reduceCtorEq, Int.reduceToNat])))
  · rw [show wordsK t ls = false by simp [wordsK, *]]
  · exact loop _ _ _ (by simp [wordsK, *]) rfl ⟨rfl, rfl, rfl, rfl⟩ rfl
  · exact loop _ _ _ (by simp [wordsK, *]) rfl ⟨rfl, rfl, rfl, rfl⟩ rfl
theorem wordsK_1 (t : T) (x : List UInt8) : wordsK t [x] = wordW t x := by
  unfold wordsK wordW
  congr 1
  by_cases h : t.text = x
  · simp [h]
  · simp [h]
theorem among_1 (t : T) (x : List UInt8) : VPure Try.prog 73 [encT t, .sl 1 [.str x]] (.bool (wordW t x)) := by
  rw [← wordsK_1]; exact among_n t [x]
theorem cur_Next (c : K) (hk : c.ok) : VMeth Try.prog 37 (curE c) (curE (nextK c)) [.ptr 0 0] (encT (peekK c)) := by
  refine vcalls_of c0bm 1 (by simp) (by simp) ?_
  have h1 := hk.1
  have h2 := hk.2
  repeat' (first | refine vi_seq ?_ | refine vi_block ?_ | refine vi_scope ?_ | ((first | refine vi_reg ?_ | refine vi_regE (by rfl) ?_ | refine vi_regD ?_ | refine vi_label ?_ | refine vi_goto ?_ | refine vi_ret ?_ | refine vi_exit ?_ | refine vi_skip ?_ | refine vi_cond ?_ | refine a_failed ?_ | refine d_failed ?_ | refine a_Peek ?_); simp only [go_sem, ↓reduceIte, Nat.reduceEqDiff, Nat.reduceAdd, Nat.reduceSub, Nat.reduceMul, Nat.reduceLT, Nat.reduceLeDiff, reduceCtorEq, Int.reduceToNat]) | ((first | simp (disch := omega) only [wrapS]); (try simp only [go_sem, ↓reduceIte, Nat.reduceEqDiff, Nat.reduceAdd, Nat.reduceSub, Nat.reduceMul, Nat.reduceLT, Nat.reduceLeDiff, reduceCtorEq, Int.reduceToNat])) | ((first | refine gd_caseb ?_ ?_ | refine cnd_caseb ?_ ?_) <;> intro hc <;> simp only [hc, go_sem, ↓reduceIte, Nat.reduceEqDiff, Nat.reduceAdd, Nat.reduceSub, Nat.reduceMul, Nat.reduceLT, Nat.reduceLeDiff, reduceCtorEq, Int.reduceToNat] <;> (try simp only [bool_not_true, bool_not_false, decide_eq_true_eq, decide_eq_false_iff_not, Bool.and_eq_true] at hc)) | refine And.intro (by first | assumption | omega | (have := len_pos (by assumption); omega) | (unfold capOK; omega)) ?_ | ((first | simp (disch := omega) only [encs_getN] | simp (disch := omega) only [wrapS]); (try simp only [go_sem, ↓reduceIte, Nat.reduceEqDiff, Nat.reduceAdd, Nat.reduceSub, Nat.reduceMul, Nat.reduceLT, Nat.reduceLeDiff, reduceCtorEq, Int.reduceToNat])))
  · rw [nextK_in (bad_no (by assumption)) (by assumption)]
  · rw [nextK_end (bad_no (by assumption)) (by assumption)]
  · rw [nextK_err (bad_yes (by assumption))]
section
variable {c : K} {L : List Ent} {Q : List Ent → VO → Prop} {Kk : Bool → AV → Prop} {x : List UInt8} {e : Int}
theorem a_Next (hk : c.ok) (h : Q (curE (nextK c) :: L) (.val (encT (peekK c)))) : VApp Try.prog (curE c :: L) (.fn 37 [] []) [.ptr 0 0] Q := vmeth_app (cur_Next c hk) (curE_bd _ _) (curE_bd _ _) rfl rfl fun _ => h
theorem cur_Is (c : K) (x : List UInt8) : VMeth Try.prog 38 (curE c) (curE c) [.ptr 0 0, .str x] (.bool (isK c x)) := by
  refine vcalls_of c0bn 1 (by simp) (by simp) ?_
  repeat' (first | refine vi_seq ?_ | refine vi_block ?_ | refine vi_scope ?_ | ((first | refine vi_reg ?_ | refine vi_regE (by rfl) ?_ | refine vi_regD ?_ | refine vi_label ?_ | refine vi_goto ?_ | refine vi_ret ?_ | refine vi_exit ?_ | refine vi_skip ?_ | refine vi_cond ?_ | refine a_failed ?_ | refine a_Peek ?_ | refine vapp_pure0 (among_1 _ _) fun _ => ?_ | refine dapp_pure  (among_1 _ _) ?_); simp only [go_sem, ↓reduceIte, Nat.reduceEqDiff, Nat.reduceAdd, Nat.reduceSub, Nat.reduceMul, Nat.reduceLT, Nat.reduceLeDiff, reduceCtorEq, Int.reduceToNat]) | ((first | refine gd_caseb ?_ ?_ | refine cnd_caseb ?_ ?_) <;> intro hc <;> simp only [hc, go_sem, ↓reduceIte, Nat.reduceEqDiff, Nat.reduceAdd, Nat.reduceSub, Nat.reduceMul, Nat.reduceLT, Nat.reduceLeDiff, reduceCtorEq, Int.reduceToNat] <;> (try simp only [bool_not_true, bool_not_false, decide_eq_true_eq, decide_eq_false_iff_not, Bool.and_eq_true] at hc)) | refine And.intro (by first | assumption | omega | (have := len_pos (by assumption); omega) | (unfold capOK; omega)) ?_ | ((first | simp (disch := omega) only [encs_getN] | simp (disch := omega) only [wrapS]); (try simp only [go_sem, ↓reduceIte, Nat.reduceEqDiff, Nat.reduceAdd, Nat.reduceSub, Nat.reduceMul, Nat.reduceLT, Nat.reduceLeDiff, reduceCtorEq, Int.reduceToNat])))
  · rw [isK, decide_eq_true (bad_no (by assumption))]; rfl
  · rw [isK, decide_eq_false (bad_yes (by assumption))]; rfl
theorem a_Is (h : Q (curE c :: L) (.val (.bool (isK c x)))) : VApp Try.prog (curE c :: L) (.fn 38 [] []) [.ptr 0 0, .str x] Q := vmeth_app (cur_Is c x) (curE_bd _ _) (curE_bd _ _) rfl rfl fun _ => h
theorem cur_Fail (c : K) (e : Int) : VMeth Try.prog 39 (curE c) (curE (failK c e)) [.ptr 0 0, .int .i64 e] (.bool false) := by
  refine vcalls_of c0bo 1 (by simp) (by simp) ?_
  repeat' (first | refine vi_seq ?_ | refine vi_block ?_ | refine vi_scope ?_ | ((first | refine vi_reg ?_ | refine vi_regE (by rfl) ?_ | refine vi_regD ?_ | refine vi_label ?_ | refine vi_goto ?_ | refine vi_ret ?_ | refine vi_exit ?_ | refine vi_skip ?_ | refine vi_cond ?_ | refine a_failed ?_ | refine a_Peek ?_); simp only [go_sem, ↓reduceIte, Nat.reduceEqDiff, Nat.reduceAdd, Nat.reduceSub, Nat.reduceMul, Nat.reduceLT, Nat.reduceLeDiff, reduceCtorEq, Int.reduceToNat]) | ((first | refine gd_caseb ?_ ?_ | refine cnd_caseb ?_ ?_) <;> intro hc <;> simp only [hc, go_sem, ↓reduceIte, Nat.reduceEqDiff, Nat.reduceAdd, Nat.reduceSub, Nat.reduceMul, Nat.reduceLT, Nat.reduceLeDiff, reduceCtorEq, Int.reduceToNat] <;> (try simp only [bool_not_true, bool_not_false, decide_eq_true_eq, decide_eq_false_iff_not, Bool.and_eq_true] at hc)) | refine And.intro (by first | assumption | omega | (have := len_pos (by assumption); omega) | (unfold capOK; omega)) ?_ | ((first | simp (disch := omega) only [encs_getN] | simp (disch := omega) only [wrapS]); (try simp only [go_sem, ↓reduceIte, Nat.reduceEqDiff, Nat.reduceAdd, Nat.reduceSub, Nat.reduceMul, Nat.reduceLT, Nat.reduceLeDiff, reduceCtorEq, Int.reduceToNat])))
  · subst hc; rw [failK_0 (bad_no (by assumption))]
  · rw [failK_n (bad_no (by assumption)) (by assumption)]
  · rw [failK_err (bad_yes (by assumption))]
theorem a_Fail (h : Q (curE (failK c e) :: L) (.val (.bool false))) : VApp Try.prog (curE c :: L) (.fn 39 [] []) [.ptr 0 0, .int .i64 e] Q := vmeth_app (cur_Fail c e) (curE_bd _ _) (curE_bd _ _) rfl rfl fun _ => h
theorem cur_Take (c : K) (hk : c.ok) (x : List UInt8) : VMeth Try.prog 52 (curE c) (curE (takeK c x).1) [.ptr 0 0, .str x] (.bool (takeK c x).2) := by
  refine vcalls_of c0bp 1 (by simp) (by simp) ?_
  repeat' (first | refine vi_seq ?_ | refine vi_block ?_ | refine vi_scope ?_ | ((first | refine vi_reg ?_ | refine vi_regE (by rfl) ?_ | refine vi_regD ?_ | refine vi_label ?_ | refine vi_goto ?_ | refine vi_ret ?_ | refine vi_exit ?_ | refine vi_skip ?_ | refine vi_cond ?_ | refine a_Is ?_ | refine a_Next hk ?_); simp only [go_sem, ↓reduceIte, Nat.reduceEqDiff, Nat.reduceAdd, Nat.reduceSub, Nat.reduceMul, Nat.reduceLT, Nat.reduceLeDiff, reduceCtorEq, Int.reduceToNat]) | ((first | refine gd_caseb ?_ ?_ | refine cnd_caseb ?_ ?_) <;> intro hc <;> simp only [hc, go_sem, ↓reduceIte, Nat.reduceEqDiff, Nat.reduceAdd, Nat.reduceSub, Nat.reduceMul, Nat.reduceLT, Nat.reduceLeDiff, reduceCtorEq, Int.reduceToNat] <;> (try simp only [bool_not_true, bool_not_false, decide_eq_true_eq, decide_eq_false_iff_not, Bool.and_eq_true] at hc)) | refine And.intro (by first | assumption | omega | (have := len_pos (by assumption); omega) | (unfold capOK; omega)) ?_ | ((first | simp (disch := omega) only [encs_getN] | simp (disch := omega) only [wrapS]); (try simp only [go_sem, ↓reduceIte, Nat.reduceEqDiff, Nat.reduceAdd, Nat.reduceSub, Nat.reduceMul, Nat.reduceLT, Nat.reduceLeDiff, reduceCtorEq, Int.reduceToNat])))
  · rw [takeK_f (by assumption)]; exact ⟨rfl, rfl⟩
  · rw [takeK_t (by assumption)]; exact ⟨rfl, rfl⟩
theorem a_Take (hk : c.ok) (h : Q (curE (takeK c x).1 :: L) (.val (.bool (takeK c x).2))) : VApp Try.prog (curE c :: L) (.fn 52 [] []) [.ptr 0 0, .str x] Q := vmeth_app (cur_Take c hk x) (curE_bd _ _) (curE_bd _ _) rfl rfl fun _ => h
theorem cur_Want (c : K) (hk : c.ok) (x : List UInt8) : VMeth Try.prog 41 (curE c) (curE (wantK c x).1) [.ptr 0 0, .str x] (.bool (wantK c x).2) := by
  refine vcalls_of c0bq 1 (by simp) (by simp) ?_
  repeat' (first | refine vi_seq ?_ | refine vi_block ?_ | refine vi_scope ?_ | ((first | refine vi_reg ?_ | refine vi_regE (by rfl) ?_ | refine vi_regD ?_ | refine vi_label ?_ | refine vi_goto ?_ | refine vi_ret ?_ | refine vi_exit ?_ | refine vi_skip ?_ | refine vi_cond ?_ | refine a_Take hk ?_ | refine a_Fail ?_); simp only [go_sem, ↓reduceIte, Nat.reduceEqDiff, Nat.reduceAdd, Nat.reduceSub, Nat.reduceMul, Nat.reduceLT, Nat.reduceLeDiff, reduceCtorEq, Int.reduceToNat]) | ((first | refine gd_caseb ?_ ?_ | refine cnd_caseb ?_ ?_) <;> intro hc <;> simp only [hc, go_sem, ↓reduceIte, Nat.reduceEqDiff, Nat.reduceAdd, Nat.reduceSub, Nat.reduceMul, Nat.reduceLT, Nat.reduceLeDiff, reduceCtorEq, Int.reduceToNat] <;> (try simp only [bool_not_true, bool_not_false, decide_eq_true_eq, decide_eq_false_iff_not, Bool.and_eq_true] at hc)) | refine And.intro (by first | assumption | omega | (have := len_pos (by assumption); omega) | (unfold capOK; omega)) ?_ | ((first | simp (disch := omega) only [encs_getN] | simp (disch := omega) only [wrapS]); (try simp only [go_sem, ↓reduceIte, Nat.reduceEqDiff, Nat.reduceAdd, Nat.reduceSub, Nat.reduceMul, Nat.reduceLT, Nat.reduceLeDiff, reduceCtorEq, Int.reduceToNat])))
  · rw [wantK_t (by assumption)]; exact ⟨rfl, rfl⟩
  · rw [wantK_f (by assumption)]; exact ⟨rfl, rfl⟩
theorem a_Want (hk : c.ok) (h : Q (curE (wantK c x).1 :: L) (.val (.bool (wantK c x).2))) : VApp Try.prog (curE c :: L) (.fn 41 [] []) [.ptr 0 0, .str x] Q := vmeth_app (cur_Want c hk x) (curE_bd _ _) (curE_bd _ _) rfl rfl fun _ => h
theorem cur_Enter (c : K) : VMeth Try.prog 40 (curE c) (curE (enterK c).1) [.ptr 0 0] (.bool (enterK c).2) := by
  refine vcalls_of c0br 1 (by simp) (by simp) ?_
  repeat' (first | refine vi_seq ?_ | refine vi_block ?_ | refine vi_scope ?_ | ((first | refine vi_reg ?_ | refine vi_regE (by rfl) ?_ | refine vi_regD ?_ | refine vi_label ?_ | refine vi_goto ?_ | refine vi_ret ?_ | refine vi_exit ?_ | refine vi_skip ?_ | refine vi_cond ?_ | refine a_failed ?_ | refine a_Fail ?_); simp only [go_sem, ↓reduceIte, Nat.reduceEqDiff, Nat.reduceAdd, Nat.reduceSub, Nat.reduceMul, Nat.reduceLT, Nat.reduceLeDiff, reduceCtorEq, Int.reduceToNat]) | ((first | refine gd_caseb ?_ ?_ | refine cnd_caseb ?_ ?_) <;> intro hc <;> simp only [hc, go_sem, ↓reduceIte, Nat.reduceEqDiff, Nat.reduceAdd, Nat.reduceSub, Nat.reduceMul, Nat.reduceLT, Nat.reduceLeDiff, reduceCtorEq, Int.reduceToNat] <;> (try simp only [bool_not_true, bool_not_false, decide_eq_true_eq, decide_eq_false_iff_not, Bool.and_eq_true] at hc)) | refine And.intro (by first | assumption | omega | (have := len_pos (by assumption); omega) | (unfold capOK; omega)) ?_ | ((first | simp (disch := omega) only [encs_getN] | simp (disch := omega) only [wrapS]); (try simp only [go_sem, ↓reduceIte, Nat.reduceEqDiff, Nat.reduceAdd, Nat.reduceSub, Nat.reduceMul, Nat.reduceLT, Nat.reduceLeDiff, reduceCtorEq, Int.reduceToNat])))
  · rw [enterK_err (bad_yes (by assumption)), failK_err (bad_yes (by assumption))]; exact ⟨rfl, rfl⟩
  · rw [enterK_full (bad_no (by assumption)) (by assumption)]; exact ⟨rfl, rfl⟩
  · rw [enterK_in (bad_no (by assumption)) (by assumption), wrap_id (by omega) (by unfold maxLen; omega)]; exact ⟨rfl, rfl⟩
theorem a_Enter (h : Q (curE (enterK c).1 :: L) (.val (.bool (enterK c).2))) : VApp Try.prog (curE c :: L) (.fn 40 [] []) [.ptr 0 0] Q := vmeth_app (cur_Enter c) (curE_bd _ _) (curE_bd _ _) rfl rfl fun _ => h
theorem cur_Leave (c : K) (hn : c.nest ≤ 200) : VMeth Try.prog 42 (curE c) (curE (leaveK c)) [.ptr 0 0] (.tup []) := by
  refine vcalls_of c0bs 1 (by simp) (by simp) ?_
  repeat' (first | refine vi_seq ?_ | refine vi_block ?_ | refine vi_scope ?_ | ((first | refine vi_reg ?_ | refine vi_regE (by rfl) ?_ | refine vi_regD ?_ | refine vi_label ?_ | refine vi_goto ?_ | refine vi_ret ?_ | refine vi_exit ?_ | refine vi_skip ?_ | refine vi_cond ?_ | refine a_failed ?_); simp only [go_sem, ↓reduceIte, Nat.reduceEqDiff, Nat.reduceAdd, Nat.reduceSub, Nat.reduceMul, Nat.reduceLT, Nat.reduceLeDiff, reduceCtorEq, Int.reduceToNat]) | ((first | refine gd_caseb ?_ ?_ | refine cnd_caseb ?_ ?_) <;> intro hc <;> simp only [hc, go_sem, ↓reduceIte, Nat.reduceEqDiff, Nat.reduceAdd, Nat.reduceSub, Nat.reduceMul, Nat.reduceLT, Nat.reduceLeDiff, reduceCtorEq, Int.reduceToNat] <;> (try simp only [bool_not_true, bool_not_false, decide_eq_true_eq, decide_eq_false_iff_not, Bool.and_eq_true] at hc)) | refine And.intro (by first | assumption | omega | (have := len_pos (by assumption); omega) | (unfold capOK; omega)) ?_ | ((first | simp (disch := omega) only [encs_getN] | simp (disch := omega) only [wrapS]); (try simp only [go_sem, ↓reduceIte, Nat.reduceEqDiff, Nat.reduceAdd, Nat.reduceSub, Nat.reduceMul, Nat.reduceLT, Nat.reduceLeDiff, reduceCtorEq, Int.reduceToNat])))
  · rw [leaveK_in (bad_no (by assumption)) (by assumption), wrap_id (by omega) (by unfold maxLen; omega)]
    simp only [List.cons.injEq, Ent.blk.injEq, AV.int.injEq, true_and, and_true]; omega
  · rw [leaveK_0 (bad_no (by assumption)) (by assumption)]
  · rw [leaveK_err (bad_yes (by assumption))]
theorem a_Leave (hn : c.nest ≤ 200) (h : Q (curE (leaveK c) :: L) (.val (.tup []))) : VApp Try.prog (curE c :: L) (.fn 42 [] []) [.ptr 0 0] Q := vmeth_app (cur_Leave c hn) (curE_bd _ _) (curE_bd _ _) rfl rfl fun _ => h
theorem cur_Done (c : K) (hk : c.ok) : VMeth Try.prog 24 (curE c) (curE c) [.ptr 0 0] (.tup [.int .i64 (doneK c).1, .int .i64 (doneK c).2]) := by
  refine vcalls_of c0bt 1 (by simp) (by simp) ?_
  repeat' (first | refine vi_seq ?_ | refine vi_block ?_ | refine vi_scope ?_ | ((first | refine vi_reg ?_ | refine vi_regE (by rfl) ?_ | refine vi_regD ?_ | refine vi_label ?_ | refine vi_goto ?_ | refine vi_ret ?_ | refine vi_exit ?_ | refine vi_skip ?_ | refine vi_cond ?_); simp only [go_sem, ↓reduceIte, Nat.reduceEqDiff, Nat.reduceAdd, Nat.reduceSub, Nat.reduceMul, Nat.reduceLT, Nat.reduceLeDiff, reduceCtorEq, Int.reduceToNat]) | ((first | simp (disch := omega) only [encTs_getT]); (try simp only [go_sem, ↓reduceIte, Nat.reduceEqDiff, Nat.reduceAdd, Nat.reduceSub, Nat.reduceMul, Nat.reduceLT, Nat.reduceLeDiff, reduceCtorEq, Int.reduceToNat])) | ((first | refine gd_caseb ?_ ?_ | refine cnd_caseb ?_ ?_) <;> intro hc <;> simp only [hc, go_sem, ↓reduceIte, Nat.reduceEqDiff, Nat.reduceAdd, Nat.reduceSub, Nat.reduceMul, Nat.reduceLT, Nat.reduceLeDiff, reduceCtorEq, Int.reduceToNat] <;> (try simp only [bool_not_true, bool_not_false, decide_eq_true_eq, decide_eq_false_iff_not, Bool.and_eq_true] at hc)) | refine And.intro (by first | assumption | omega | (have := len_pos (by assumption); omega) | (unfold capOK; omega)) ?_ | ((first | simp (disch := omega) only [encs_getN] | simp (disch := omega) only [wrapS]); (try simp only [go_sem, ↓reduceIte, Nat.reduceEqDiff, Nat.reduceAdd, Nat.reduceSub, Nat.reduceMul, Nat.reduceLT, Nat.reduceLeDiff, reduceCtorEq, Int.reduceToNat])))
  · rw [doneK_err (by assumption)]
  · rw [doneK_in (by assumption) (by assumption)]
  · rw [doneK_end (by assumption) (by assumption)]
theorem a_Done (hk : c.ok) (h : Q (curE c :: L) (.val (.tup [.int .i64 (doneK c).1, .int .i64 (doneK c).2]))) : VApp Try.prog (curE c :: L) (.fn 24 [] []) [.ptr 0 0] Q := vmeth_app (cur_Done c hk) (curE_bd _ _) (curE_bd _ _) rfl rfl fun _ => h
end
end Go.Proofs.Ytjigahnncojikaa

/- the cursor: the reference -/
set_option maxRecDepth 4000
namespace Go.Proofs.Ytjigahnncojikaa
open Go Go.RowKit Go.V
set_option linter.unusedVariables false
set_option linter.unusedSimpArgs false

theorem encTs_lenK {a : List T} {r : List AV} (h : AV.wfs (.sl 4 (encTs a) :: r)) : a.length ≤ maxLen := by
  have := h.1.1; rwa [encTs_len] at this
def refC (c : K) : AV := .agg [.sl 4 (encTs (c.l.drop c.at')), .int .i64 0, .int .i64 c.ep, .int .i64 0, .str [], .int .i64 c.nest, .int .i64 c.err, .int .i64 c.pos]
attribute [go_sem] refC
theorem dropL {l : List T} {i : Nat} : (l.drop i).length = l.length - i := List.length_drop
theorem dropL0 {l : List T} {i : Nat} (h : i < l.length) : (l.drop i).getD 0 T0 = l.getD i T0 := by rw [dropT h]; rfl
section
variable {c : K}
theorem at_in (h : ¬ ((c.l.drop c.at').length : Int) = 0) : (c.at' : Int) < c.l.length := by rw [dropL] at h; omega
theorem at_end (h : ((c.l.drop c.at').length : Int) = 0) : ¬ (c.at' : Int) < c.l.length := by rw [dropL] at h; omega
theorem at_in' (h : (0 : Int) < (c.l.drop c.at').length) : (c.at' : Int) < c.l.length := by rw [dropL] at h; omega
theorem at_end' (h : ¬ (0 : Int) < (c.l.drop c.at').length) : ¬ (c.at' : Int) < c.l.length := by rw [dropL] at h; omega
end
theorem takeK_same {c : K} {x : List UInt8} (h : (takeK c x).2 = false) : (takeK c x).1 = c := by
  unfold takeK at *
  split at h
  · cases h
  · rename_i h1; rw [if_neg h1]
theorem ref05_Peek (c : K) : VPure Try.prog 27 [refC c] (encT (peekK c)) := by
  refine vpure_of c0x (by simp) (by simp only [go_sem]) rfl fun hw => ?_
  repeat' (first | refine vi_seq ?_ | refine vi_block ?_ | refine vi_scope ?_ | ((first | refine vi_reg ?_ | refine vi_regE (by rfl) ?_ | refine vi_regD ?_ | refine vi_label ?_ | refine vi_goto ?_ | refine vi_ret ?_ | refine vi_exit ?_ | refine vi_skip ?_ | refine vi_cond ?_); simp only [go_sem, ↓reduceIte, Nat.reduceEqDiff, Nat.reduceAdd, Nat.reduceSub, Nat.reduceMul, Nat.reduceLT, Nat.reduceLeDiff, reduceCtorEq, Int.reduceToNat]) | ((first | simp (disch := omega) only [encTs_getT]); (try simp only [go_sem, ↓reduceIte, Nat.reduceEqDiff, Nat.reduceAdd, Nat.reduceSub, Nat.reduceMul, Nat.reduceLT, Nat.reduceLeDiff, reduceCtorEq, Int.reduceToNat])) | ((first | refine gd_caseb ?_ ?_ | refine cnd_caseb ?_ ?_) <;> intro hc <;> simp only [hc, go_sem, ↓reduceIte, Nat.reduceEqDiff, Nat.reduceAdd, Nat.reduceSub, Nat.reduceMul, Nat.reduceLT, Nat.reduceLeDiff, reduceCtorEq, Int.reduceToNat] <;> (try simp only [bool_not_true, bool_not_false, decide_eq_true_eq, decide_eq_false_iff_not, Bool.and_eq_true] at hc)) | refine And.intro (by first | assumption | omega | (have := len_pos (by assumption); omega) | (unfold capOK; omega)) ?_ | ((first | simp (disch := omega) only [encs_getN] | simp (disch := omega) only [wrapS]); (try simp only [go_sem, ↓reduceIte, Nat.reduceEqDiff, Nat.reduceAdd, Nat.reduceSub, Nat.reduceMul, Nat.reduceLT, Nat.reduceLeDiff, reduceCtorEq, Int.reduceToNat])))
  · rw [peekK_err (by assumption)]; rfl
  · rw [peekK_end (by assumption) (at_end (by assumption))]; rfl
  · rw [peekK_in (by assumption) (at_in (by assumption)), dropL0 (by have := at_in (c := c) (by assumption); omega)]
theorem ref05_Next (c : K) : VPure Try.prog 44 [refC c] (.tup [refC (nextK c), encT (peekK c)]) := by
  refine vpure_of c0y (by simp) (by simp only [go_sem]) (by simp only [go_sem]) fun hw => ?_
  repeat' (first | refine vi_seq ?_ | refine vi_block ?_ | refine vi_scope ?_ | ((first | refine vi_reg ?_ | refine vi_regE (by rfl) ?_ | refine vi_regD ?_ | refine vi_label ?_ | refine vi_goto ?_ | refine vi_ret ?_ | refine vi_exit ?_ | refine vi_skip ?_ | refine vi_cond ?_ | refine vapp_pure0 (ref05_Peek _) fun _ => ?_ | refine dapp_pure  (ref05_Peek _) ?_); simp only [go_sem, ↓reduceIte, Nat.reduceEqDiff, Nat.reduceAdd, Nat.reduceSub, Nat.reduceMul, Nat.reduceLT, Nat.reduceLeDiff, reduceCtorEq, Int.reduceToNat]) | ((first | refine gd_caseb ?_ ?_ | refine cnd_caseb ?_ ?_) <;> intro hc <;> simp only [hc, go_sem, ↓reduceIte, Nat.reduceEqDiff, Nat.reduceAdd, Nat.reduceSub, Nat.reduceMul, Nat.reduceLT, Nat.reduceLeDiff, reduceCtorEq, Int.reduceToNat] <;> (try simp only [bool_not_true, bool_not_false, decide_eq_true_eq, decide_eq_false_iff_not, Bool.and_eq_true] at hc)) | refine And.intro (by first | assumption | omega | (have := len_pos (by assumption); omega) | (unfold capOK; omega)) ?_ | ((first | simp (disch := omega) only [encs_getN] | simp (disch := omega) only [wrapS]); (try simp only [go_sem, ↓reduceIte, Nat.reduceEqDiff, Nat.reduceAdd, Nat.reduceSub, Nat.reduceMul, Nat.reduceLT, Nat.reduceLeDiff, reduceCtorEq, Int.reduceToNat])))
  · rw [nextK_in (by assumption) (at_in' (by assumption)), List.drop_drop]
  · rw [nextK_end (by assumption) (at_end' (by assumption))]
  · rw [nextK_err (by assumption)]
theorem ref05_word (t : T) (x : List UInt8) : VPure Try.prog 74 [encT t, .str x] (.bool (wordW t x)) := by
  refine vpure_of c0z (by simp) (by simp only [go_sem]) rfl fun hw => ?_
  repeat' (first | refine vi_seq ?_ | refine vi_block ?_ | refine vi_scope ?_ | ((first | refine vi_reg ?_ | refine vi_regE (by rfl) ?_ | refine vi_regD ?_ | refine vi_label ?_ | refine vi_goto ?_ | refine vi_ret ?_ | refine vi_exit ?_ | refine vi_skip ?_ | refine vi_cond ?_); simp only [go_sem, ↓reduceIte, Nat.reduceEqDiff, Nat.reduceAdd, Nat.reduceSub, Nat.reduceMul, Nat.reduceLT, Nat.reduceLeDiff, reduceCtorEq, Int.reduceToNat]) | ((first | refine gd_caseb ?_ ?_ | refine cnd_caseb ?_ ?_) <;> intro hc <;> simp only [hc, go_sem, ↓reduceIte, Nat.reduceEqDiff, Nat.reduceAdd, Nat.reduceSub, Nat.reduceMul, Nat.reduceLT, Nat.reduceLeDiff, reduceCtorEq, Int.reduceToNat] <;> (try simp only [bool_not_true, bool_not_false, decide_eq_true_eq, decide_eq_false_iff_not, Bool.and_eq_true] at hc)) | refine And.intro (by first | assumption | omega | (have := len_pos (by assumption); omega) | (unfold capOK; omega)) ?_ | ((first | simp (disch := omega) only [encs_getN] | simp (disch := omega) only [wrapS]); (try simp only [go_sem, ↓reduceIte, Nat.reduceEqDiff, Nat.reduceAdd, Nat.reduceSub, Nat.reduceMul, Nat.reduceLT, Nat.reduceLeDiff, reduceCtorEq, Int.reduceToNat])))
  all_goals simp_all [wordW]
theorem ref05_Is (c : K) (x : List UInt8) : VPure Try.prog 45 [refC c, .str x] (.bool (isK c x)) := by
  refine vpure_of c0ba (by simp) (by simp only [go_sem]) rfl fun hw => ?_
  repeat' (first | refine vi_seq ?_ | refine vi_block ?_ | refine vi_scope ?_ | ((first | refine vi_reg ?_ | refine vi_regE (by rfl) ?_ | refine vi_regD ?_ | refine vi_label ?_ | refine vi_goto ?_ | refine vi_ret ?_ | refine vi_exit ?_ | refine vi_skip ?_ | refine vi_cond ?_ | refine vapp_pure0 (ref05_Peek c) fun _ => ?_ | refine vapp_pure0 (ref05_word _ _) fun _ => ?_ | refine dapp_pure  (ref05_Peek c) ?_ | refine dapp_pure  (ref05_word _ _) ?_); simp only [go_sem, ↓reduceIte, Nat.reduceEqDiff, Nat.reduceAdd, Nat.reduceSub, Nat.reduceMul, Nat.reduceLT, Nat.reduceLeDiff, reduceCtorEq, Int.reduceToNat]) | ((first | refine gd_caseb ?_ ?_ | refine cnd_caseb ?_ ?_) <;> intro hc <;> simp only [hc, go_sem, ↓reduceIte, Nat.reduceEqDiff, Nat.reduceAdd, Nat.reduceSub, Nat.reduceMul, Nat.reduceLT, Nat.reduceLeDiff, reduceCtorEq, Int.reduceToNat] <;> (try simp only [bool_not_true, bool_not_false, decide_eq_true_eq, decide_eq_false_iff_not, Bool.and_eq_true] at hc)) | refine And.intro (by first | assumption | omega | (have := len_pos (by assumption); omega) | (unfold capOK; omega)) ?_ | ((first | simp (disch := omega) only [encs_getN] | simp (disch := omega) only [wrapS]); (try simp only [go_sem, ↓reduceIte, Nat.reduceEqDiff, Nat.reduceAdd, Nat.reduceSub, Nat.reduceMul, Nat.reduceLT, Nat.reduceLeDiff, reduceCtorEq, Int.reduceToNat])))
  all_goals simp_all [isK]
theorem ref05_Take (c : K) (x : List UInt8) : VPure Try.prog 55 [refC c, .str x] (.tup [refC (takeK c x).1, .bool (takeK c x).2]) := by
  refine vpure_of c0bb (by simp) (by simp only [go_sem]) (by simp only [go_sem]) fun hw => ?_
  repeat' (first | refine vi_seq ?_ | refine vi_block ?_ | refine vi_scope ?_ | ((first | refine vi_reg ?_ | refine vi_regE (by rfl) ?_ | refine vi_regD ?_ | refine vi_label ?_ | refine vi_goto ?_ | refine vi_ret ?_ | refine vi_exit ?_ | refine vi_skip ?_ | refine vi_cond ?_ | refine vapp_pure0 (ref05_Is _ _) fun _ => ?_ | refine vapp_pure0 (ref05_Next _) fun _ => ?_ | refine dapp_pure  (ref05_Is _ _) ?_ | refine dapp_pure  (ref05_Next _) ?_); simp only [go_sem, ↓reduceIte, Nat.reduceEqDiff, Nat.reduceAdd, Nat.reduceSub, Nat.reduceMul, Nat.reduceLT, Nat.reduceLeDiff, reduceCtorEq, Int.reduceToNat]) | ((first | refine gd_caseb ?_ ?_ | refine cnd_caseb ?_ ?_) <;> intro hc <;> simp only [hc, go_sem, ↓reduceIte, Nat.reduceEqDiff, Nat.reduceAdd, Nat.reduceSub, Nat.reduceMul, Nat.reduceLT, Nat.reduceLeDiff, reduceCtorEq, Int.reduceToNat] <;> (try simp only [bool_not_true, bool_not_false, decide_eq_true_eq, decide_eq_false_iff_not, Bool.and_eq_true] at hc)) | refine And.intro (by first | assumption | omega | (have := len_pos (by assumption); omega) | (unfold capOK; omega)) ?_ | ((first | simp (disch := omega) only [encs_getN] | simp (disch := omega) only [wrapS]); (try simp only [go_sem, ↓reduceIte, Nat.reduceEqDiff, Nat.reduceAdd, Nat.reduceSub, Nat.reduceMul, Nat.reduceLT, Nat.reduceLeDiff, reduceCtorEq, Int.reduceToNat])))
  · rw [takeK_f (by assumption)]
  · rw [takeK_t (by assumption)]
theorem ref05_Fail (c : K) (e : Int) : VPure Try.prog 46 [refC c, .int .i64 e] (refC (failK c e)) := by
  refine vpure_of c0bc (by simp) (by simp only [go_sem]) (by simp only [go_sem]) fun hw => ?_
  repeat' (first | refine vi_seq ?_ | refine vi_block ?_ | refine vi_scope ?_ | ((first | refine vi_reg ?_ | refine vi_regE (by rfl) ?_ | refine vi_regD ?_ | refine vi_label ?_ | refine vi_goto ?_ | refine vi_ret ?_ | refine vi_exit ?_ | refine vi_skip ?_ | refine vi_cond ?_ | refine vapp_pure0 (ref05_Peek c) fun _ => ?_ | refine dapp_pure  (ref05_Peek c) ?_); simp only [go_sem, ↓reduceIte, Nat.reduceEqDiff, Nat.reduceAdd, Nat.reduceSub, Nat.reduceMul, Nat.reduceLT, Nat.reduceLeDiff, reduceCtorEq, Int.reduceToNat]) | ((first | refine gd_caseb ?_ ?_ | refine cnd_caseb ?_ ?_) <;> intro hc <;> simp only [hc, go_sem, ↓reduceIte, Nat.reduceEqDiff, Nat.reduceAdd, Nat.reduceSub, Nat.reduceMul, Nat.reduceLT, Nat.reduceLeDiff, reduceCtorEq, Int.reduceToNat] <;> (try simp only [bool_not_true, bool_not_false, decide_eq_true_eq, decide_eq_false_iff_not, Bool.and_eq_true] at hc)) | refine And.intro (by first | assumption | omega | (have := len_pos (by assumption); omega) | (unfold capOK; omega)) ?_ | ((first | simp (disch := omega) only [encs_getN] | simp (disch := omega) only [wrapS]); (try simp only [go_sem, ↓reduceIte, Nat.reduceEqDiff, Nat.reduceAdd, Nat.reduceSub, Nat.reduceMul, Nat.reduceLT, Nat.reduceLeDiff, reduceCtorEq, Int.reduceToNat])))
  · rw [failK_err (by assumption)]
  · subst hc; rw [failK_0 (by assumption)]
  · rw [failK_n (by assumption) (by assumption)]
theorem ref05_Want (c : K) (x : List UInt8) : VPure Try.prog 48 [refC c, .str x] (.tup [refC (wantK c x).1, .bool (wantK c x).2]) := by
  refine vpure_of c0bd (by simp) (by simp only [go_sem]) (by simp only [go_sem]) fun hw => ?_
  repeat' (first | refine vi_seq ?_ | refine vi_block ?_ | refine vi_scope ?_ | ((first | refine vi_reg ?_ | refine vi_regE (by rfl) ?_ | refine vi_regD ?_ | refine vi_label ?_ | refine vi_goto ?_ | refine vi_ret ?_ | refine vi_exit ?_ | refine vi_skip ?_ | refine vi_cond ?_ | refine vapp_pure0 (ref05_Take _ _) fun _ => ?_ | refine vapp_pure0 (ref05_Fail _ _) fun _ => ?_ | refine dapp_pure  (ref05_Take _ _) ?_ | refine dapp_pure  (ref05_Fail _ _) ?_); simp only [go_sem, ↓reduceIte, Nat.reduceEqDiff, Nat.reduceAdd, Nat.reduceSub, Nat.reduceMul, Nat.reduceLT, Nat.reduceLeDiff, reduceCtorEq, Int.reduceToNat]) | ((first | refine gd_caseb ?_ ?_ | refine cnd_caseb ?_ ?_) <;> intro hc <;> simp only [hc, go_sem, ↓reduceIte, Nat.reduceEqDiff, Nat.reduceAdd, Nat.reduceSub, Nat.reduceMul, Nat.reduceLT, Nat.reduceLeDiff, reduceCtorEq, Int.reduceToNat] <;> (try simp only [bool_not_true, bool_not_false, decide_eq_true_eq, decide_eq_false_iff_not, Bool.and_eq_true] at hc)) | refine And.intro (by first | assumption | omega | (have := len_pos (by assumption); omega) | (unfold capOK; omega)) ?_ | ((first | simp (disch := omega) only [encs_getN] | simp (disch := omega) only [wrapS]); (try simp only [go_sem, ↓reduceIte, Nat.reduceEqDiff, Nat.reduceAdd, Nat.reduceSub, Nat.reduceMul, Nat.reduceLT, Nat.reduceLeDiff, reduceCtorEq, Int.reduceToNat])))
  · rw [wantK_f (by assumption), takeK_same (by assumption)]
  · rw [wantK_t (by assumption)]
theorem ref05_Enter (c : K) : VPure Try.prog 47 [refC c] (.tup [refC (enterK c).1, .bool (enterK c).2]) := by
  refine vpure_of c0be (by simp) (by simp only [go_sem]) (by simp only [go_sem]) fun hw => ?_
  repeat' (first | refine vi_seq ?_ | refine vi_block ?_ | refine vi_scope ?_ | ((first | refine vi_reg ?_ | refine vi_regE (by rfl) ?_ | refine vi_regD ?_ | refine vi_label ?_ | refine vi_goto ?_ | refine vi_ret ?_ | refine vi_exit ?_ | refine vi_skip ?_ | refine vi_cond ?_ | refine vapp_pure0 (ref05_Fail c _) fun _ => ?_ | refine dapp_pure  (ref05_Fail c _) ?_); simp only [go_sem, ↓reduceIte, Nat.reduceEqDiff, Nat.reduceAdd, Nat.reduceSub, Nat.reduceMul, Nat.reduceLT, Nat.reduceLeDiff, reduceCtorEq, Int.reduceToNat]) | ((first | refine gd_caseb ?_ ?_ | refine cnd_caseb ?_ ?_) <;> intro hc <;> simp only [hc, go_sem, ↓reduceIte, Nat.reduceEqDiff, Nat.reduceAdd, Nat.reduceSub, Nat.reduceMul, Nat.reduceLT, Nat.reduceLeDiff, reduceCtorEq, Int.reduceToNat] <;> (try simp only [bool_not_true, bool_not_false, decide_eq_true_eq, decide_eq_false_iff_not, Bool.and_eq_true] at hc)) | refine And.intro (by first | assumption | omega | (have := len_pos (by assumption); omega) | (unfold capOK; omega)) ?_ | ((first | simp (disch := omega) only [encs_getN] | simp (disch := omega) only [wrapS]); (try simp only [go_sem, ↓reduceIte, Nat.reduceEqDiff, Nat.reduceAdd, Nat.reduceSub, Nat.reduceMul, Nat.reduceLT, Nat.reduceLeDiff, reduceCtorEq, Int.reduceToNat])))
  · rw [enterK_err (by assumption)]
  · rw [enterK_full (by assumption) (by assumption)]
  · rw [enterK_in (by assumption) (by assumption), wrap_id (by omega) (by unfold maxLen; omega)]; rfl
theorem ref05_Leave (c : K) (hn : c.nest ≤ 200) : VPure Try.prog 49 [refC c] (refC (leaveK c)) := by
  refine vpure_of c0bf (by simp) (by simp only [go_sem]) (by simp only [go_sem]) fun hw => ?_
  repeat' (first | refine vi_seq ?_ | refine vi_block ?_ | refine vi_scope ?_ | ((first | refine vi_reg ?_ | refine vi_regE (by rfl) ?_ | refine vi_regD ?_ | refine vi_label ?_ | refine vi_goto ?_ | refine vi_ret ?_ | refine vi_exit ?_ | refine vi_skip ?_ | refine vi_cond ?_); simp only [go_sem, ↓reduceIte, Nat.reduceEqDiff, Nat.reduceAdd, Nat.reduceSub, Nat.reduceMul, Nat.reduceLT, Nat.reduceLeDiff, reduceCtorEq, Int.reduceToNat]) | ((first | refine gd_caseb ?_ ?_ | refine cnd_caseb ?_ ?_) <;> intro hc <;> simp only [hc, go_sem, ↓reduceIte, Nat.reduceEqDiff, Nat.reduceAdd, Nat.reduceSub, Nat.reduceMul, Nat.reduceLT, Nat.reduceLeDiff, reduceCtorEq, Int.reduceToNat] <;> (try simp only [bool_not_true, bool_not_false, decide_eq_true_eq, decide_eq_false_iff_not, Bool.and_eq_true] at hc)) | refine And.intro (by first | assumption | omega | (have := len_pos (by assumption); omega) | (unfold capOK; omega)) ?_ | ((first | simp (disch := omega) only [encs_getN] | simp (disch := omega) only [wrapS]); (try simp only [go_sem, ↓reduceIte, Nat.reduceEqDiff, Nat.reduceAdd, Nat.reduceSub, Nat.reduceMul, Nat.reduceLT, Nat.reduceLeDiff, reduceCtorEq, Int.reduceToNat])))
  · rw [leaveK_in (by assumption) (by assumption), wrap_id (by omega) (by unfold maxLen; omega)]
    simp only [VO.val.injEq, AV.agg.injEq, List.cons.injEq, AV.int.injEq, true_and, and_true]; omega
  · rw [leaveK_0 (by assumption) (by assumption)]
  · rw [leaveK_err (by assumption)]
theorem ref05_Done (c : K) : VPure Try.prog 25 [refC c] (.tup [.int .i64 (doneK c).1, .int .i64 (doneK c).2]) := by
  refine vpure_of c0bg (by simp) (by simp only [go_sem]) rfl fun hw => ?_
  repeat' (first | refine vi_seq ?_ | refine vi_block ?_ | refine vi_scope ?_ | ((first | refine vi_reg ?_ | refine vi_regE (by rfl) ?_ | refine vi_regD ?_ | refine vi_label ?_ | refine vi_goto ?_ | refine vi_ret ?_ | refine vi_exit ?_ | refine vi_skip ?_ | refine vi_cond ?_); simp only [go_sem, ↓reduceIte, Nat.reduceEqDiff, Nat.reduceAdd, Nat.reduceSub, Nat.reduceMul, Nat.reduceLT, Nat.reduceLeDiff, reduceCtorEq, Int.reduceToNat]) | ((first | simp (disch := omega) only [encTs_getT]); (try simp only [go_sem, ↓reduceIte, Nat.reduceEqDiff, Nat.reduceAdd, Nat.reduceSub, Nat.reduceMul, Nat.reduceLT, Nat.reduceLeDiff, reduceCtorEq, Int.reduceToNat])) | ((first | refine gd_caseb ?_ ?_ | refine cnd_caseb ?_ ?_) <;> intro hc <;> simp only [hc, go_sem, ↓reduceIte, Nat.reduceEqDiff, Nat.reduceAdd, Nat.reduceSub, Nat.reduceMul, Nat.reduceLT, Nat.reduceLeDiff, reduceCtorEq, Int.reduceToNat] <;> (try simp only [bool_not_true, bool_not_false, decide_eq_true_eq, decide_eq_false_iff_not, Bool.and_eq_true] at hc)) | refine And.intro (by first | assumption | omega | (have := len_pos (by assumption); omega) | (unfold capOK; omega)) ?_ | ((first | simp (disch := omega) only [encs_getN] | simp (disch := omega) only [wrapS]); (try simp only [go_sem, ↓reduceIte, Nat.reduceEqDiff, Nat.reduceAdd, Nat.reduceSub, Nat.reduceMul, Nat.reduceLT, Nat.reduceLeDiff, reduceCtorEq, Int.reduceToNat])))
  · rw [doneK_err (by assumption)]
  · rw [doneK_in (by assumption) (at_in' (by assumption)), dropL0 (by have := at_in' (c := c) (by assumption); omega)]
  · rw [doneK_end (by assumption) (at_end' (by assumption))]
/-- The words ahead of the first end. -/
def aheadT : List T → List T
  | [] => []
  | t :: r => if t.kind = 0 then [] else t :: aheadT r
def endT : List T → Int
  | [] => 0
  | t :: r => if t.kind = 0 then t.pos else endT r
def newK (l : List T) : K := ⟨aheadT l, endT l, 0, 0, 0, 0⟩
theorem aheadT_len : ∀ l : List T, (aheadT l).length ≤ l.length
  | [] => Nat.le_refl _
  | t :: r => by
    rw [aheadT]
    split
    · exact Nat.zero_le _
    · have := aheadT_len r; simp only [List.length_cons]; omega
theorem ahead_end {l : List T} {i : Nat} (h1 : ∀ t ∈ l.take i, t.kind ≠ 0) (h : i < l.length) (h2 : (l.getD i T0).kind = 0) : aheadT l = l.take i ∧ endT l = (l.getD i T0).pos := by
  induction l generalizing i with
  | nil => simp at h
  | cons t r ih =>
    cases i with
    | zero => simp only [List.getD_cons_zero] at h2 ⊢; rw [aheadT, endT, if_pos h2, if_pos h2]; exact ⟨rfl, rfl⟩
    | succ i =>
      have ht := h1 t (by simp)
      obtain ⟨g1, g2⟩ := ih (fun u hu => h1 u (List.mem_cons_of_mem t hu)) (by simpa using h) (by simpa using h2)
      rw [aheadT, endT, if_neg ht, if_neg ht, g1, g2]
      exact ⟨rfl, rfl⟩
theorem ahead_all {l : List T} (h1 : ∀ t ∈ l, t.kind ≠ 0) : aheadT l = l ∧ endT l = 0 := by
  induction l with
  | nil => exact ⟨rfl, rfl⟩
  | cons t r ih =>
    obtain ⟨g1, g2⟩ := ih fun u hu => h1 u (by simp [hu])
    rw [aheadT, endT, if_neg (h1 t (by simp)), if_neg (h1 t (by simp)), g1, g2]
    exact ⟨rfl, rfl⟩
theorem take_mem_succ {a : List T} {i : Nat} (h : i < a.length) {p : T → Prop} (h1 : ∀ t ∈ a.take i, p t) (h2 : p (a.getD i T0)) : ∀ t ∈ a.take (i + 1), p t := by
  intro t ht
  rw [List.take_add_one, List.getElem?_eq_getElem h] at ht
  rcases List.mem_append.1 ht with ht | ht
  · exact h1 t ht
  · simp only [Option.toList_some, List.mem_singleton] at ht
    subst ht
    rwa [List.getD_eq_getElem?_getD, List.getElem?_eq_getElem h] at h2
theorem ref05_New (l : List T) : VPure Try.prog 15 [.sl 4 (encTs l)] (refC (newK l)) := by
  refine vpure_of c0bh (by simp) (by simp only [go_sem]) (by simp only [go_sem]) fun hw => ?_
  have h1 := encTs_lenK hw
  repeat' (first | refine vi_seq ?_ | refine vi_block ?_ | refine vi_scope ?_ | ((first | refine vi_reg ?_ | refine vi_regE (by rfl) ?_ | refine vi_regD ?_ | refine vi_label ?_ | refine vi_goto ?_ | refine vi_ret ?_ | refine vi_exit ?_ | refine vi_skip ?_ | refine vi_cond ?_); simp only [go_sem, ↓reduceIte, Nat.reduceEqDiff, Nat.reduceAdd, Nat.reduceSub, Nat.reduceMul, Nat.reduceLT, Nat.reduceLeDiff, reduceCtorEq, Int.reduceToNat]) | ((first | refine gd_caseb ?_ ?_ | refine cnd_caseb ?_ ?_) <;> intro hc <;> simp only [hc, go_sem, ↓reduceIte, Nat.reduceEqDiff, Nat.reduceAdd, Nat.reduceSub, Nat.reduceMul, Nat.reduceLT, Nat.reduceLeDiff, reduceCtorEq, Int.reduceToNat] <;> (try simp only [bool_not_true, bool_not_false, decide_eq_true_eq, decide_eq_false_iff_not, Bool.and_eq_true] at hc)) | refine And.intro (by first | assumption | omega | (have := len_pos (by assumption); omega) | (unfold capOK; omega)) ?_ | ((first | simp (disch := omega) only [encs_getN] | simp (disch := omega) only [wrapS]); (try simp only [go_sem, ↓reduceIte, Nat.reduceEqDiff, Nat.reduceAdd, Nat.reduceSub, Nat.reduceMul, Nat.reduceLT, Nat.reduceLeDiff, reduceCtorEq, Int.reduceToNat])))
  refine vi_loop (S := Nat) (fun i => i ≤ l.length ∧ ∀ t ∈ l.take i, t.kind ≠ 0) (fun i => (⟨[(0, .sl 4 (encTs l)), (2, .ptr 0 0), (3, .int .i64 i)], []⟩, [.blk [.nils, .int .i64 0, .int .i64 0, .int .i64 0, .str [], .int .i64 0, .int .i64 0, .int .i64 0]])) (fun i => l.length - i) ?_ fun i hi => ?_
  · refine at_of 0 [0] ⟨Nat.zero_le _, by simp⟩ rfl (by simp) ?_ ?_ ?_ <;> (try simp only [go_sem, ↓reduceIte, Nat.reduceEqDiff, Nat.reduceAdd, Nat.reduceSub, Nat.reduceMul, Nat.reduceLT, Nat.reduceLeDiff, reduceCtorEq, Int.reduceToNat]) <;> (try simp (disch := omega) only [wrapS])
  · obtain ⟨hi, ha⟩ := hi
    repeat' (first | refine vi_seq ?_ | refine vi_block ?_ | refine vi_scope ?_ | ((first | refine vi_reg ?_ | refine vi_regE (by rfl) ?_ | refine vi_regD ?_ | refine vi_label ?_ | refine vi_goto ?_ | refine vi_ret ?_ | refine vi_exit ?_ | refine vi_skip ?_ | refine vi_cond ?_); simp only [go_sem, ↓reduceIte, Nat.reduceEqDiff, Nat.reduceAdd, Nat.reduceSub, Nat.reduceMul, Nat.reduceLT, Nat.reduceLeDiff, reduceCtorEq, Int.reduceToNat]) | ((first | simp (disch := omega) only [encTs_getT]); (try simp only [go_sem, ↓reduceIte, Nat.reduceEqDiff, Nat.reduceAdd, Nat.reduceSub, Nat.reduceMul, Nat.reduceLT, Nat.reduceLeDiff, reduceCtorEq, Int.reduceToNat])) | ((first | refine gd_caseb ?_ ?_ | refine cnd_caseb ?_ ?_) <;> intro hc <;> simp only [hc, go_sem, ↓reduceIte, Nat.reduceEqDiff, Nat.reduceAdd, Nat.reduceSub, Nat.reduceMul, Nat.reduceLT, Nat.reduceLeDiff, reduceCtorEq, Int.reduceToNat] <;> (try simp only [bool_not_true, bool_not_false, decide_eq_true_eq, decide_eq_false_iff_not, Bool.and_eq_true] at hc)) | refine And.intro (by first | assumption | omega | (have := len_pos (by assumption); omega) | (unfold capOK; omega)) ?_ | ((first | simp (disch := omega) only [encs_getN] | simp (disch := omega) only [wrapS]); (try simp only [go_sem, ↓reduceIte, Nat.reduceEqDiff, Nat.reduceAdd, Nat.reduceSub, Nat.reduceMul, Nat.reduceLT, Nat.reduceLeDiff, reduceCtorEq, Int.reduceToNat])))
    · obtain ⟨g1, g2⟩ := ahead_end ha (by omega) (by assumption)
      rw [newK, g1, g2]; rfl
    · refine at_of (i + 1) [0] ⟨⟨by omega, take_mem_succ (by omega) ha (by assumption)⟩, by omega⟩ rfl (by simp) ?_ ?_ ?_ <;> (try simp only [go_sem, ↓reduceIte, Nat.reduceEqDiff, Nat.reduceAdd, Nat.reduceSub, Nat.reduceMul, Nat.reduceLT, Nat.reduceLeDiff, reduceCtorEq, Int.reduceToNat]) <;> (try simp (disch := omega) only [wrapS])
    · rw [List.take_of_length_le (by omega)] at ha
      obtain ⟨g1, g2⟩ := ahead_all ha
      rw [newK, g1, g2]; rfl
theorem co_acc (x : Ent) (es : List AV) : co (x :: accE 4 es) (.sl 4) (accV 1 es) = .sl 4 es := by
  cases es with
  | nil => rw [accV_nil, co_sl_nils]
  | cons e es =>
    rw [accV_ne (by simp), co_sl_row, accE_ne (by simp)]
    simp only [ent, cor_app, if_true]
def newSt (l : List T) (i : Nat) : AF × List Ent :=
  (⟨[(3, .ptr 0 0), (8, .sl 4 (encTs l)), (9, .int .i64 l.length), (10, .int .i64 i)], []⟩,
    .blk [accV 1 (encTs (l.take i)), .int .i64 0, .int .i64 0, .int .i64 0, .str [], .int .i64 0, .int .i64 0, .int .i64 0, .int .i64 0] :: accE 4 (encTs (l.take i)))
theorem encTs_ne' {l : List T} (h : l ≠ []) : encTs l ≠ [] := by cases l with | nil => exact absurd rfl h | cons _ _ => simp [encTs]
theorem take_succT {l : List T} {i : Nat} (h : i < l.length) : l.take (i + 1) = l.take i ++ [l.getD i T0] := by
  rw [List.take_add_one, List.getElem?_eq_getElem h, List.getD_eq_getElem?_getD, List.getElem?_eq_getElem h]; rfl
theorem capT {n : Nat} (h : n ≤ 1048580) : capOK n 40 := by unfold capOK; omega
theorem newK_cur (l : List T) (hl : l.length ≤ 1048577) : VCalls Try.prog 14 [] [.sl 4 (encTs l)] fun H' o => H' = [curE (newK l)] ∧ o = .val (.ptr 0 0) := by
  refine vcalls_of c0bi 1 (by simp) (by simp) ?_
  have hmx : (1048577 : Nat) ≤ maxLen := by unfold maxLen; omega
  repeat' (first | refine vi_seq ?_ | refine vi_block ?_ | refine vi_scope ?_ | ((first | refine vi_reg ?_ | refine vi_regE (by rfl) ?_ | refine vi_regD ?_ | refine vi_label ?_ | refine vi_goto ?_ | refine vi_ret ?_ | refine vi_exit ?_ | refine vi_skip ?_ | refine vi_cond ?_); simp only [go_sem, ↓reduceIte, Nat.reduceEqDiff, Nat.reduceAdd, Nat.reduceSub, Nat.reduceMul, Nat.reduceLT, Nat.reduceLeDiff, reduceCtorEq, Int.reduceToNat]) | ((first | refine gd_caseb ?_ ?_ | refine cnd_caseb ?_ ?_) <;> intro hc <;> simp only [hc, go_sem, ↓reduceIte, Nat.reduceEqDiff, Nat.reduceAdd, Nat.reduceSub, Nat.reduceMul, Nat.reduceLT, Nat.reduceLeDiff, reduceCtorEq, Int.reduceToNat] <;> (try simp only [bool_not_true, bool_not_false, decide_eq_true_eq, decide_eq_false_iff_not, Bool.and_eq_true] at hc)) | refine And.intro (by first | assumption | omega | (have := len_pos (by assumption); omega) | (unfold capOK; omega)) ?_ | ((first | simp (disch := omega) only [encs_getN] | simp (disch := omega) only [wrapS]); (try simp only [go_sem, ↓reduceIte, Nat.reduceEqDiff, Nat.reduceAdd, Nat.reduceSub, Nat.reduceMul, Nat.reduceLT, Nat.reduceLeDiff, reduceCtorEq, Int.reduceToNat])))
  refine vi_loop (S := Nat) (fun i => i ≤ l.length ∧ ∀ t ∈ l.take i, t.kind ≠ 0) (newSt l) (fun i => l.length - i) ?_ fun i hi => ?_
  · refine at_of 0 [0] ⟨Nat.zero_le _, by simp⟩ rfl (by simp) ?_ ?_ ?_ <;> simp only [newSt, List.take_zero, encTs_nil, accV_nil, accE_nil] <;> (try simp only [go_sem, ↓reduceIte, Nat.reduceEqDiff, Nat.reduceAdd, Nat.reduceSub, Nat.reduceMul, Nat.reduceLT, Nat.reduceLeDiff, reduceCtorEq, Int.reduceToNat]) <;> (try simp (disch := omega) only [wrapS])
  · obtain ⟨hi, ha⟩ := hi
    unfold newSt
    by_cases hx : i < l.length ∧ (l.getD i T0).kind ≠ 0
    · have hT : AV.agg [.int .i64 (l.getD i T0).kind, .int .i64 (l.getD i T0).pos, .int .i64 (l.getD i T0).num, .str (l.getD i T0).text] = encT (l.getD i T0) := rfl
      have hts := take_succT hx.1
      have hne : encTs (l.take (i + 1)) ≠ [] := encTs_ne' (by rw [hts]; simp)
      have hlen : (l.take (i + 1)).length = i + 1 := by rw [List.length_take]; omega
      by_cases h0 : i = 0
      · subst h0
        simp only [List.take_zero, encTs_nil, accV_nil, accE_nil]
        repeat' (first | refine vi_seq ?_ | refine vi_block ?_ | refine vi_scope ?_ | ((first | refine vi_reg ?_ | refine vi_regE (by rfl) ?_ | refine vi_regD ?_ | refine vi_label ?_ | refine vi_goto ?_ | refine vi_ret ?_ | refine vi_exit ?_ | refine vi_skip ?_ | refine vi_cond ?_); simp only [go_sem, ↓reduceIte, Nat.reduceEqDiff, Nat.reduceAdd, Nat.reduceSub, Nat.reduceMul, Nat.reduceLT, Nat.reduceLeDiff, reduceCtorEq, Int.reduceToNat]) | ((first | simp (disch := omega) only [encTs_getT]); (try simp only [go_sem, ↓reduceIte, Nat.reduceEqDiff, Nat.reduceAdd, Nat.reduceSub, Nat.reduceMul, Nat.reduceLT, Nat.reduceLeDiff, reduceCtorEq, Int.reduceToNat])) | ((first | refine gd_caseb ?_ ?_ | refine cnd_caseb ?_ ?_) <;> intro hc <;> simp only [hc, go_sem, ↓reduceIte, Nat.reduceEqDiff, Nat.reduceAdd, Nat.reduceSub, Nat.reduceMul, Nat.reduceLT, Nat.reduceLeDiff, reduceCtorEq, Int.reduceToNat] <;> (try simp only [bool_not_true, bool_not_false, decide_eq_true_eq, decide_eq_false_iff_not, Bool.and_eq_true] at hc)) | refine And.intro (by first | assumption | omega | (have := len_pos (by assumption); omega) | (unfold capOK; omega)) ?_ | ((first | simp (disch := omega) only [encs_getN] | simp (disch := omega) only [wrapS]); (try simp only [go_sem, ↓reduceIte, Nat.reduceEqDiff, Nat.reduceAdd, Nat.reduceSub, Nat.reduceMul, Nat.reduceLT, Nat.reduceLeDiff, reduceCtorEq, Int.reduceToNat])))
        · exact absurd (by assumption) hx.2
        · refine at_of 1 [0, 2] ⟨⟨by omega, take_mem_succ (by omega) ha hx.2⟩, by omega⟩ rfl (by simp) ?_ ?_ ?_
          all_goals simp only [newSt, accV_ne hne, accE_ne hne, encTs_len, hlen]
          all_goals (try simp only [Nat.zero_add] at hts)
          all_goals simp only [hts, List.take_zero, List.nil_append]
          all_goals simp only [go_sem, ↓reduceIte, Nat.reduceEqDiff, Nat.reduceAdd, Nat.reduceSub, Nat.reduceMul, Nat.reduceLT, Nat.reduceLeDiff, reduceCtorEq, Int.reduceToNat]
          all_goals first | exact ⟨rfl, rfl⟩ | exact congrArg _ (by decide) | rfl | trace_state
        · omega
      · have hne0 : encTs (l.take i) ≠ [] := encTs_ne' (by intro e; have := congrArg List.length e; simp only [List.length_take, List.length_nil] at this; omega)
        have hli : (l.take i).length = i := by rw [List.length_take]; omega
        simp only [accV_ne hne0, accE_ne hne0, encTs_len]
        have hat : ∀ ac : List T, ac = l.take i → encTs ac ++ [encT (l.getD i T0)] = encTs (l.take (i + 1)) := fun ac e => by rw [e, encTs_one, hts]
        generalize hac : l.take i = ac at *
        have hcap : capOK (ac.length + 1) 40 := capT (by omega)
        have hil : (i : Int) < l.length := by omega
        have hkd := hx.2
        repeat' (first | refine vi_seq ?_ | refine vi_block ?_ | refine vi_scope ?_ | ((first | refine vi_reg ?_ | refine vi_regE (by rfl) ?_ | refine vi_regD ?_ | refine vi_label ?_ | refine vi_goto ?_ | refine vi_ret ?_ | refine vi_exit ?_ | refine vi_skip ?_ | refine vi_cond ?_); simp (disch := first | omega | (simp only [List.length_set, List.length_append, List.length_cons, List.length_nil]; done) | (simp only [List.length_set, List.length_append, List.length_cons, List.length_nil]; omega)) only [hil, hkd, encTs_getT, ne_eq, go_sem, ↓reduceIte, Nat.reduceEqDiff, Nat.reduceAdd, Nat.reduceSub, Nat.reduceMul, Nat.reduceLT, Nat.reduceLeDiff, reduceCtorEq, Int.reduceToNat]) | ((first | refine gd_caseb ?_ ?_ | refine cnd_caseb ?_ ?_) <;> intro hc <;> simp only [hc, go_sem, ↓reduceIte, Nat.reduceEqDiff, Nat.reduceAdd, Nat.reduceSub, Nat.reduceMul, Nat.reduceLT, Nat.reduceLeDiff, reduceCtorEq, Int.reduceToNat] <;> (try simp only [bool_not_true, bool_not_false, decide_eq_true_eq, decide_eq_false_iff_not, Bool.and_eq_true] at hc)) | refine And.intro (by first | assumption | omega | (have := len_pos (by assumption); omega) | (unfold capOK; omega)) ?_ | ((first | simp (disch := omega) only [encs_getN] | simp (disch := omega) only [wrapS]); (try simp only [go_sem, ↓reduceIte, Nat.reduceEqDiff, Nat.reduceAdd, Nat.reduceSub, Nat.reduceMul, Nat.reduceLT, Nat.reduceLeDiff, reduceCtorEq, Int.reduceToNat])))
        · refine at_of (i + 1) [0, 3] ⟨⟨by omega, take_mem_succ (by omega) (by rw [hac]; exact ha) hx.2⟩, by omega⟩ rfl (by simp) ?_ ?_ ?_
          all_goals simp only [newSt, accV_ne hne, accE_ne hne, encTs_len, hlen]
          all_goals rw [← hat ac rfl]
          all_goals simp only [go_sem, ↓reduceIte, Nat.reduceEqDiff, Nat.reduceAdd, Nat.reduceSub, Nat.reduceMul, Nat.reduceLT, Nat.reduceLeDiff, reduceCtorEq, Int.reduceToNat]
          rw [hli, encTs_one ac, encTs_ren]
          exact ⟨rfl, encTs_bd _ _, rfl⟩
    · refine vi_cell 0 0 (.sl 4) rfl ?_
      simp only [List.set_cons_zero, List.getD_cons_zero, co_acc]
      repeat' (first | refine vi_seq ?_ | refine vi_block ?_ | refine vi_scope ?_ | ((first | refine vi_reg ?_ | refine vi_regE (by rfl) ?_ | refine vi_regD ?_ | refine vi_label ?_ | refine vi_goto ?_ | refine vi_ret ?_ | refine vi_exit ?_ | refine vi_skip ?_ | refine vi_cond ?_); simp only [go_sem, ↓reduceIte, Nat.reduceEqDiff, Nat.reduceAdd, Nat.reduceSub, Nat.reduceMul, Nat.reduceLT, Nat.reduceLeDiff, reduceCtorEq, Int.reduceToNat]) | ((first | simp (disch := omega) only [encTs_getT]); (try simp only [go_sem, ↓reduceIte, Nat.reduceEqDiff, Nat.reduceAdd, Nat.reduceSub, Nat.reduceMul, Nat.reduceLT, Nat.reduceLeDiff, reduceCtorEq, Int.reduceToNat])) | ((first | refine gd_caseb ?_ ?_ | refine cnd_caseb ?_ ?_) <;> intro hc <;> simp only [hc, go_sem, ↓reduceIte, Nat.reduceEqDiff, Nat.reduceAdd, Nat.reduceSub, Nat.reduceMul, Nat.reduceLT, Nat.reduceLeDiff, reduceCtorEq, Int.reduceToNat] <;> (try simp only [bool_not_true, bool_not_false, decide_eq_true_eq, decide_eq_false_iff_not, Bool.and_eq_true] at hc)) | refine And.intro (by first | assumption | omega | (have := len_pos (by assumption); omega) | (unfold capOK; omega)) ?_ | ((first | simp (disch := omega) only [encs_getN] | simp (disch := omega) only [wrapS]); (try simp only [go_sem, ↓reduceIte, Nat.reduceEqDiff, Nat.reduceAdd, Nat.reduceSub, Nat.reduceMul, Nat.reduceLT, Nat.reduceLeDiff, reduceCtorEq, Int.reduceToNat])))
      · obtain ⟨g1, g2⟩ := ahead_end ha (by omega) (by assumption)
        rw [newK, g1, g2]; rfl
      · exact hx ⟨by omega, by assumption⟩
      · rw [List.take_of_length_le (by omega)] at ha ⊢
        obtain ⟨g1, g2⟩ := ahead_all ha
        rw [newK, g1, g2]; rfl
end Go.Proofs.Ytjigahnncojikaa
