/- Texts of this proof, joined. -/
import Derived.Test.YtaoiamkloigfhaaJau
import Derived.Test.YtaoiamkloigfhaaJaw

/- patterns: what is read (plain) -/
namespace Go.Proofs.Ytaoiamkloigfhaa
open Go Go.RowKit Go.V
set_option linter.unusedVariables false
set_option linter.unusedSimpArgs false

def K.good (c : K) : Prop := c.at' ≤ c.l.length ∧ c.l.length ≤ 1048577 ∧ c.nest ≤ 200
def rest (c : K) : Nat := c.l.length - c.at'
theorem K.good.ok {c : K} (h : c.good) : c.ok := ⟨h.1, Nat.le_trans h.2.1 (by unfold maxLen; omega)⟩
theorem K.good.rest {c : K} (h : c.good) : c.l.length - c.at' ≤ 1048577 := by have := h.2.1; omega
theorem capN {n : Nat} (h : n ≤ 1048580) : capOK n 64 := by unfold capOK; omega
/-- It has gone on, if it has gone. -/
def Mono (c c' : K) : Prop := (c.good → c'.good) ∧ rest c' ≤ rest c
theorem Mono.refl (c : K) : Mono c c := ⟨id, Nat.le_refl _⟩
theorem Mono.trans {a b c : K} (h : Mono a b) (k : Mono b c) : Mono a c := ⟨fun g => k.1 (h.1 g), Nat.le_trans k.2 h.2⟩
theorem mono_next (c : K) : Mono c (nextK c) := by
  unfold nextK
  split
  · split
    · exact ⟨fun h => ⟨by simp only; omega, h.2⟩, by unfold rest; simp only; omega⟩
    · exact Mono.refl c
  · exact Mono.refl c
theorem mono_fail (c : K) (e : Int) : Mono c (failK c e) := by
  unfold failK
  split
  · exact ⟨fun h => h, Nat.le_refl _⟩
  · exact Mono.refl c
theorem mono_enter (c : K) : Mono c (enterK c).1 := by
  unfold enterK
  split
  · split
    · rename_i h1; exact ⟨fun h => ⟨h.1, h.2.1, by simp only; omega⟩, Nat.le_refl _⟩
    · exact mono_fail c 2
  · exact Mono.refl c
theorem mono_leave (c : K) : Mono c (leaveK c) := by
  unfold leaveK
  split
  · split
    · exact ⟨fun h => ⟨h.1, h.2.1, by have := h.2.2; simp only; omega⟩, Nat.le_refl _⟩
    · exact Mono.refl c
  · exact Mono.refl c
theorem mono_take (c : K) (x : List UInt8) : Mono c (takeK c x).1 := by
  unfold takeK
  split
  · exact mono_next c
  · exact Mono.refl c
theorem mono_want (c : K) (x : List UInt8) : Mono c (wantK c x).1 := by
  unfold wantK
  split
  · exact mono_next c
  · exact mono_fail c 5
/-- There is a next word, that is no end. -/
theorem peek_there {c : K} (h : (peekK c).kind ≠ 0) : c.err = 0 ∧ c.at' < c.l.length := by
  unfold peekK at h
  split at h
  · rename_i h1
    split at h
    · rename_i h2; exact ⟨h1, h2⟩
    · exact absurd rfl h
  · exact absurd rfl h
theorem rest_next {c : K} (h : (peekK c).kind ≠ 0) : rest (nextK c) + 1 = rest c := by
  obtain ⟨h1, h2⟩ := peek_there h
  rw [nextK_in h1 (by omega)]
  unfold rest; simp only; omega
theorem isK_kind {c : K} {x : List UInt8} (h : isK c x = true) : (peekK c).kind ≠ 0 := by
  simp only [isK, wordW, Bool.and_eq_true, Bool.or_eq_true, decide_eq_true_eq] at h
  omega
theorem isK_err {c : K} {x : List UInt8} (h : isK c x = true) : c.err = 0 := by
  simp only [isK, Bool.and_eq_true, decide_eq_true_eq] at h
  exact h.1
theorem enter_err {c : K} (h : (enterK c).2 = true) : c.err = 0 ∧ (enterK c).1.err = 0 ∧ (enterK c).1 = { c with nest := c.nest + 1 } := by
  unfold enterK at h ⊢
  split at h
  · rename_i h1
    split at h
    · rename_i h2; rw [if_pos h1, if_pos h2]; exact ⟨h1, h1, rfl⟩
    · cases h
  · cases h
theorem enter_peek {c : K} (h : (enterK c).2 = true) : peekK (enterK c).1 = peekK c := by rw [(enter_err h).2.2]; rfl
theorem fail_err (c : K) {e : Int} : (failK c e).err ≠ 0 := by
  unfold failK
  split
  · simp only; split
    · simp
    · assumption
  · assumption
theorem enter_bad {c : K} (h : (enterK c).2 = false) : (enterK c).1.err ≠ 0 := by
  unfold enterK at h ⊢
  split at h
  · rename_i h1
    split at h
    · cases h
    · rename_i h2; rw [if_pos h1, if_neg h2]; exact fail_err c
  · rename_i h1; rw [if_neg h1]; exact h1
theorem want_bad {c : K} {x : List UInt8} (h : (wantK c x).2 = false) : (wantK c x).1.err ≠ 0 := by
  unfold wantK at h ⊢
  split at h
  · cases h
  · rename_i h1; rw [if_neg h1]; exact fail_err c
theorem leave_bad {c : K} (h : c.err ≠ 0) : leaveK c = c := if_neg h
theorem want_err {c : K} {x : List UInt8} (h : c.err ≠ 0) : wantK c x = (c, false) := by
  rw [wantK, if_neg (fun h2 => h (isK_err h2)), failK_err h]
theorem enter_no {c : K} (h : c.err ≠ 0) : enterK c = (c, false) := enterK_err h
theorem next_err {c : K} (h : c.err ≠ 0) : nextK c = c := nextK_err h
theorem isK_bad {c : K} {x : List UInt8} (h : c.err ≠ 0) : isK c x = false := by
  simp only [isK, decide_eq_false h, Bool.false_and]
theorem take_no {c : K} {x : List UInt8} (h : c.err ≠ 0) : takeK c x = (c, false) := takeK_f (isK_bad h)

/-! Patterns. -/
def leafP (c : K) : Option N :=
  if (peekK c).kind = 1 then some (.mk 11 (peekK c).pos 0 (peekK c).text [])
  else if (peekK c).kind = 2 then some (.mk 14 (peekK c).pos 0 (peekK c).text [])
  else if (peekK c).kind = 3 then some (.mk 13 (peekK c).pos (peekK c).num [] [])
  else if isK c [95] = true then some (.mk 12 (peekK c).pos 0 [] [])
  else none
def begP (c : K) : Bool := (leafP c).isSome || isK c [40]
def patAtom (rec : K → K × Option N) (c : K) : K × Option N :=
  if (leafP c).isSome = true then (nextK c, leafP c)
  else if isK c [40] = true then
    if (enterK c).2 = true then
      if (rec (nextK (enterK c).1)).2.isSome = true then
        if (wantK (rec (nextK (enterK c).1)).1 [41]).2 = true then (leaveK (wantK (rec (nextK (enterK c).1)).1 [41]).1, (rec (nextK (enterK c).1)).2)
        else ((wantK (rec (nextK (enterK c).1)).1 [41]).1, none)
      else ((rec (nextK (enterK c).1)).1, none)
    else ((enterK c).1, none)
  else (failK c 5, none)
def kidsP (rec : K → K × Option N) : Nat → K → List N → K × Option (List N)
  | 0, c, acc => (c, none)
  | f + 1, c, acc =>
    if begP c = true then
      if (patAtom rec c).2.isSome = true then kidsP rec f (patAtom rec c).1 (acc ++ [(patAtom rec c).2.getD N0])
      else ((patAtom rec c).1, none)
    else (c, some acc)
def patAt : Nat → K → K × Option N
  | 0, c => (c, none)
  | f + 1, c =>
    if (enterK c).2 = true then
      if (peekK (enterK c).1).kind = 2 then
        (leaveK (kidsP (patAt f) (rest (enterK c).1 + 1) (nextK (enterK c).1) []).1, (kidsP (patAt f) (rest (enterK c).1 + 1) (nextK (enterK c).1) []).2.map fun ks => .mk 14 (peekK (enterK c).1).pos 0 (peekK (enterK c).1).text ks)
      else (leaveK (patAtom (patAt f) (enterK c).1).1, (patAtom (patAt f) (enterK c).1).2)
    else ((enterK c).1, none)

theorem leaf_kind {c : K} {n : N} (h : leafP c = some n) : (peekK c).kind ≠ 0 := by
  unfold leafP at h
  split at h
  · omega
  · split at h
    · omega
    · split at h
      · omega
      · split at h
        · exact isK_kind (by assumption)
        · cases h
section
variable {rec : K → K × Option N} (hm : ∀ c, Mono c (rec c).1)
include hm
theorem mono_atom (c : K) : Mono c (patAtom rec c).1 := by
  unfold patAtom
  split
  · exact mono_next c
  · split
    · split
      · have h1 := ((mono_enter c).trans (mono_next _)).trans (hm _)
        split
        · split
          · exact (h1.trans (mono_want _ _)).trans (mono_leave _)
          · exact h1.trans (mono_want _ _)
        · exact h1
      · exact mono_enter c
    · exact mono_fail c 5
theorem atom_less {c : K} (h : (patAtom rec c).2.isSome = true) : rest (patAtom rec c).1 < rest c := by
  unfold patAtom at h ⊢
  split at h
  · rename_i hl
    rw [if_pos hl]
    obtain ⟨n, hn⟩ := Option.isSome_iff_exists.1 hl
    have := rest_next (leaf_kind hn)
    simp only; omega
  · rename_i hl
    rw [if_neg hl]
    split at h
    · rename_i hk
      rw [if_pos hk]
      split at h
      · rename_i he
        rw [if_pos he]
        have hp := rest_next (c := (enterK c).1) (by rw [enter_peek he]; exact isK_kind hk)
        have h0 := (mono_enter c).2
        have h1 := (hm (nextK (enterK c).1)).2
        split at h
        · rename_i hr
          rw [if_pos hr]
          have h2 := (mono_want (rec (nextK (enterK c).1)).1 [41]).2
          split at h
          · rename_i hw
            rw [if_pos hw]
            have h3 := (mono_leave (wantK (rec (nextK (enterK c).1)).1 [41]).1).2
            simp only; omega
          · cases h
        · cases h
      · cases h
    · cases h
theorem mono_kids : ∀ (f : Nat) (c : K) (acc : List N), Mono c (kidsP rec f c acc).1
  | 0, c, acc => Mono.refl c
  | f + 1, c, acc => by
    rw [kidsP]
    split
    · split
      · exact (mono_atom hm c).trans (mono_kids f _ _)
      · exact mono_atom hm c
    · exact Mono.refl c
end
theorem mono_patAt : ∀ (f : Nat) (c : K), Mono c (patAt f c).1
  | 0, c => Mono.refl c
  | f + 1, c => by
    rw [patAt]
    split
    · split
      · exact (((mono_enter c).trans (mono_next _)).trans (mono_kids (mono_patAt f) _ _ _)).trans (mono_leave _)
      · exact ((mono_enter c).trans (mono_atom (mono_patAt f) _)).trans (mono_leave _)
    · exact mono_enter c
end Go.Proofs.Ytaoiamkloigfhaa

/- patterns: the program -/
set_option maxRecDepth 4000
namespace Go.Proofs.Ytaoiamkloigfhaa
open Go Go.RowKit Go.V
set_option linter.unusedVariables false
set_option linter.unusedSimpArgs false

def resP (r : Option N) : AV := .tup [enc (r.getD N0), .bool r.isSome]
attribute [go_sem] resP
theorem resP_bd (k : Nat) (r : Option N) : (resP r).bd k = true := by simp only [resP, AV.bd, AV.bds, enc_bd, Bool.and_true]
theorem m_app {P : Program} {f : FuncId} {c c' : K} {L : List Ent} {args : List AV} {r : Option N} {Q : List Ent → VO → Prop} (h : VMeth P f (curE c) (curE c') args (resP r)) (ha : AV.bds 1 args = true) (hq : Q (curE c' :: L) (.val (resP r))) : VApp P (curE c :: L) (.fn f [] []) args Q :=
  vmeth_app h (curE_bd _ _) (curE_bd _ _) ha (resP_bd _ _) fun _ => hq
theorem enc_z : AV.agg [.int .i64 0, .int .i64 0, .int .i64 0, .str [], .sl 5 []] = enc N0 := by simp [N0, enc, encs]
theorem pats_leaf (c : K) : VMeth Try.prog 57 (curE c) (curE c) [.ptr 0 0] (resP (leafP c)) := by
  refine vcalls_of c_ppats_leaf 1 (by simp) (by simp) ?_
  repeat' (first | refine vi_seq ?_ | refine vi_block ?_ | refine vi_scope ?_ | ((first | refine vi_reg ?_ | refine vi_regE (by rfl) ?_ | refine vi_regD ?_ | refine vi_label ?_ | refine vi_goto ?_ | refine vi_ret ?_ | refine vi_exit ?_ | refine vi_skip ?_); simp only [go_sem, ↓reduceIte, Nat.reduceEqDiff, Nat.reduceAdd, Nat.reduceSub, Nat.reduceMul, Nat.reduceLT, Nat.reduceLeDiff, reduceCtorEq, Int.reduceToNat]) | ((first | refine gd_caseb ?_ ?_ | refine cnd_caseb ?_ ?_) <;> intro hc <;> simp only [hc, go_sem, ↓reduceIte, Nat.reduceEqDiff, Nat.reduceAdd, Nat.reduceSub, Nat.reduceMul, Nat.reduceLT, Nat.reduceLeDiff, reduceCtorEq, Int.reduceToNat] <;> (try simp only [bool_not_true, bool_not_false, decide_eq_true_eq, decide_eq_false_iff_not, Bool.and_eq_true] at hc)) | (refine vi_cond ?_; simp only [go_sem, ↓reduceIte, Nat.reduceEqDiff, Nat.reduceAdd, Nat.reduceSub, Nat.reduceMul, Nat.reduceLT, Nat.reduceLeDiff, reduceCtorEq, Int.reduceToNat]) | refine And.intro (by first | assumption | omega | (have := len_pos (by assumption); omega) | (unfold capOK; omega)) ?_ | (simp (disch := omega) only [encs_getN]; (try simp only [go_sem, ↓reduceIte, Nat.reduceEqDiff, Nat.reduceAdd, Nat.reduceSub, Nat.reduceMul, Nat.reduceLT, Nat.reduceLeDiff, reduceCtorEq, Int.reduceToNat])) | (simp (disch := omega) only [wrapS]; (try simp only [go_sem, ↓reduceIte, Nat.reduceEqDiff, Nat.reduceAdd, Nat.reduceSub, Nat.reduceMul, Nat.reduceLT, Nat.reduceLeDiff, reduceCtorEq, Int.reduceToNat])) | ((first | refine a_Peek ?_ | refine a_Is ?_); simp only [go_sem, ↓reduceIte, Nat.reduceEqDiff, Nat.reduceAdd, Nat.reduceSub, Nat.reduceMul, Nat.reduceLT, Nat.reduceLeDiff, reduceCtorEq, Int.reduceToNat]))
  all_goals (unfold leafP; simp_all [enc, encs, N0])
theorem a_leafP {c : K} {L : List Ent} {Q : List Ent → VO → Prop} (hq : Q (curE c :: L) (.val (resP (leafP c)))) : VApp Try.prog (curE c :: L) (.fn 57 [] []) [.ptr 0 0] Q := m_app (pats_leaf c) rfl hq
theorem pats_begins (c : K) : VMeth Try.prog 34 (curE c) (curE c) [.ptr 0 0] (.bool (begP c)) := by
  refine vcalls_of c_ppats_begins 1 (by simp) (by simp) ?_
  repeat' (first | refine vi_seq ?_ | refine vi_block ?_ | refine vi_scope ?_ | ((first | refine vi_reg ?_ | refine vi_regE (by rfl) ?_ | refine vi_regD ?_ | refine vi_label ?_ | refine vi_goto ?_ | refine vi_ret ?_ | refine vi_exit ?_ | refine vi_skip ?_); simp only [go_sem, ↓reduceIte, Nat.reduceEqDiff, Nat.reduceAdd, Nat.reduceSub, Nat.reduceMul, Nat.reduceLT, Nat.reduceLeDiff, reduceCtorEq, Int.reduceToNat]) | ((first | refine gd_caseb ?_ ?_ | refine cnd_caseb ?_ ?_) <;> intro hc <;> simp only [hc, go_sem, ↓reduceIte, Nat.reduceEqDiff, Nat.reduceAdd, Nat.reduceSub, Nat.reduceMul, Nat.reduceLT, Nat.reduceLeDiff, reduceCtorEq, Int.reduceToNat] <;> (try simp only [bool_not_true, bool_not_false, decide_eq_true_eq, decide_eq_false_iff_not, Bool.and_eq_true] at hc)) | (refine vi_cond ?_; simp only [go_sem, ↓reduceIte, Nat.reduceEqDiff, Nat.reduceAdd, Nat.reduceSub, Nat.reduceMul, Nat.reduceLT, Nat.reduceLeDiff, reduceCtorEq, Int.reduceToNat]) | refine And.intro (by first | assumption | omega | (have := len_pos (by assumption); omega) | (unfold capOK; omega)) ?_ | (simp (disch := omega) only [encs_getN]; (try simp only [go_sem, ↓reduceIte, Nat.reduceEqDiff, Nat.reduceAdd, Nat.reduceSub, Nat.reduceMul, Nat.reduceLT, Nat.reduceLeDiff, reduceCtorEq, Int.reduceToNat])) | (simp (disch := omega) only [wrapS]; (try simp only [go_sem, ↓reduceIte, Nat.reduceEqDiff, Nat.reduceAdd, Nat.reduceSub, Nat.reduceMul, Nat.reduceLT, Nat.reduceLeDiff, reduceCtorEq, Int.reduceToNat])) | ((first | refine a_leafP ?_ | refine a_Is ?_); simp only [go_sem, ↓reduceIte, Nat.reduceEqDiff, Nat.reduceAdd, Nat.reduceSub, Nat.reduceMul, Nat.reduceLT, Nat.reduceLeDiff, reduceCtorEq, Int.reduceToNat]))
  all_goals (unfold begP; simp_all)
theorem a_begP {c : K} {L : List Ent} {Q : List Ent → VO → Prop} (hq : Q (curE c :: L) (.val (.bool (begP c)))) : VApp Try.prog (curE c :: L) (.fn 34 [] []) [.ptr 0 0] Q := vmeth_app (pats_begins c) (curE_bd _ _) (curE_bd _ _) rfl rfl fun _ => hq
theorem pats_atom {rec : K → K × Option N} {b : Nat} (hm : ∀ c, Mono c (rec c).1) (ih : ∀ c, c.good → rest c < b → VMeth Try.prog 20 (curE c) (curE (rec c).1) [.ptr 0 0] (resP (rec c).2)) (c : K) (hg : c.good) (hr : rest c ≤ b) :
    VMeth Try.prog 33 (curE c) (curE (patAtom rec c).1) [.ptr 0 0] (resP (patAtom rec c).2) := by
  have g1 : (enterK c).1.good := (mono_enter c).1 hg
  have g2 : (nextK (enterK c).1).good := (mono_next _).1 g1
  have g3 : (rec (nextK (enterK c).1)).1.good := (hm _).1 g2
  have g4 : (wantK (rec (nextK (enterK c).1)).1 [41]).1.good := (mono_want _ _).1 g3
  have hrr : isK c [40] = true → (enterK c).2 = true → rest (nextK (enterK c).1) < b := fun h1 h2 => by
    have := rest_next (c := (enterK c).1) (by rw [enter_peek h2]; exact isK_kind h1)
    have := (mono_enter c).2
    omega
  refine vcalls_of c_ppats_atom 1 (by simp) (by simp) ?_
  repeat' (first | refine vi_seq ?_ | refine vi_block ?_ | refine vi_scope ?_ | ((first | refine vi_reg ?_ | refine vi_regE (by rfl) ?_ | refine vi_regD ?_ | refine vi_label ?_ | refine vi_goto ?_ | refine vi_ret ?_ | refine vi_exit ?_ | refine vi_skip ?_); simp only [go_sem, ↓reduceIte, Nat.reduceEqDiff, Nat.reduceAdd, Nat.reduceSub, Nat.reduceMul, Nat.reduceLT, Nat.reduceLeDiff, reduceCtorEq, Int.reduceToNat]) | ((first | refine gd_caseb ?_ ?_ | refine cnd_caseb ?_ ?_) <;> intro hc <;> simp only [hc, go_sem, ↓reduceIte, Nat.reduceEqDiff, Nat.reduceAdd, Nat.reduceSub, Nat.reduceMul, Nat.reduceLT, Nat.reduceLeDiff, reduceCtorEq, Int.reduceToNat] <;> (try simp only [bool_not_true, bool_not_false, decide_eq_true_eq, decide_eq_false_iff_not, Bool.and_eq_true] at hc)) | (refine vi_cond ?_; simp only [go_sem, ↓reduceIte, Nat.reduceEqDiff, Nat.reduceAdd, Nat.reduceSub, Nat.reduceMul, Nat.reduceLT, Nat.reduceLeDiff, reduceCtorEq, Int.reduceToNat]) | refine And.intro (by first | assumption | omega | (have := len_pos (by assumption); omega) | (unfold capOK; omega)) ?_ | (simp (disch := omega) only [encs_getN]; (try simp only [go_sem, ↓reduceIte, Nat.reduceEqDiff, Nat.reduceAdd, Nat.reduceSub, Nat.reduceMul, Nat.reduceLT, Nat.reduceLeDiff, reduceCtorEq, Int.reduceToNat])) | (simp (disch := omega) only [wrapS]; (try simp only [go_sem, ↓reduceIte, Nat.reduceEqDiff, Nat.reduceAdd, Nat.reduceSub, Nat.reduceMul, Nat.reduceLT, Nat.reduceLeDiff, reduceCtorEq, Int.reduceToNat])) | ((first | refine a_leafP ?_ | refine a_Is ?_ | refine a_Fail ?_ | refine a_Enter ?_ | refine a_Next hg.ok ?_ | refine a_Next g1.ok ?_ | refine m_app (ih _ g2 (hrr (by assumption) (by assumption))) rfl ?_ | refine a_Want g3.ok ?_ | refine a_Leave g4.2.2 ?_); simp only [go_sem, ↓reduceIte, Nat.reduceEqDiff, Nat.reduceAdd, Nat.reduceSub, Nat.reduceMul, Nat.reduceLT, Nat.reduceLeDiff, reduceCtorEq, Int.reduceToNat]))
  all_goals (unfold patAtom; simp only [*, enc_z, if_true, if_false, reduceIte, Bool.false_eq_true, Option.getD_none, Option.getD_some, Option.isSome_none, Option.isSome_some, and_self, true_and, and_true]; try rfl)
/-- The name's node, as it is made. -/
def conZ (c : K) : AV := .tup [.agg [.int .i64 14, .int .i64 (peekK c).pos, .int .i64 0, .str (peekK c).text, .nils], .bool true]
attribute [go_sem] conZ
theorem conZ_bd (k : Nat) (c : K) : (conZ c).bd k = true := rfl
theorem pats_leafC (c : K) (hc : (peekK c).kind = 2) : VMeth Try.prog 57 (curE c) (curE c) [.ptr 0 0] (conZ c) := by
  refine vcalls_raw c_ppats_leaf 1 (by simp) (by simp) ?_
  repeat' (first | refine vi_seq ?_ | refine vi_block ?_ | refine vi_scope ?_ | ((first | refine vi_reg ?_ | refine vi_regE (by rfl) ?_ | refine vi_regD ?_ | refine vi_label ?_ | refine vi_goto ?_ | refine vi_ret ?_ | refine vi_exit ?_ | refine vi_skip ?_); simp (disch := first | omega | (simp only [List.length_set, List.length_append, List.length_cons, List.length_nil]; done) | (simp only [List.length_set, List.length_append, List.length_cons, List.length_nil]; omega)) only [hc, Int.reduceEq, go_sem, ↓reduceIte, Nat.reduceEqDiff, Nat.reduceAdd, Nat.reduceSub, Nat.reduceMul, Nat.reduceLT, Nat.reduceLeDiff, reduceCtorEq, Int.reduceToNat]) | ((first | refine gd_caseb ?_ ?_ | refine cnd_caseb ?_ ?_) <;> intro hc <;> simp only [hc, go_sem, ↓reduceIte, Nat.reduceEqDiff, Nat.reduceAdd, Nat.reduceSub, Nat.reduceMul, Nat.reduceLT, Nat.reduceLeDiff, reduceCtorEq, Int.reduceToNat] <;> (try simp only [bool_not_true, bool_not_false, decide_eq_true_eq, decide_eq_false_iff_not, Bool.and_eq_true] at hc)) | (refine vi_cond ?_; simp (disch := first | omega | (simp only [List.length_set, List.length_append, List.length_cons, List.length_nil]; done) | (simp only [List.length_set, List.length_append, List.length_cons, List.length_nil]; omega)) only [hc, Int.reduceEq, go_sem, ↓reduceIte, Nat.reduceEqDiff, Nat.reduceAdd, Nat.reduceSub, Nat.reduceMul, Nat.reduceLT, Nat.reduceLeDiff, reduceCtorEq, Int.reduceToNat]) | refine And.intro (by first | assumption | omega | (have := len_pos (by assumption); omega) | (unfold capOK; omega)) ?_ | (simp (disch := omega) only [encs_getN]; (try simp only [go_sem, ↓reduceIte, Nat.reduceEqDiff, Nat.reduceAdd, Nat.reduceSub, Nat.reduceMul, Nat.reduceLT, Nat.reduceLeDiff, reduceCtorEq, Int.reduceToNat])) | (simp (disch := omega) only [wrapS]; (try simp only [go_sem, ↓reduceIte, Nat.reduceEqDiff, Nat.reduceAdd, Nat.reduceSub, Nat.reduceMul, Nat.reduceLT, Nat.reduceLeDiff, reduceCtorEq, Int.reduceToNat])) | ((first | refine a_Peek ?_ | refine a_Is ?_); simp only [go_sem, ↓reduceIte, Nat.reduceEqDiff, Nat.reduceAdd, Nat.reduceSub, Nat.reduceMul, Nat.reduceLT, Nat.reduceLeDiff, reduceCtorEq, Int.reduceToNat]))
theorem pats_atomC (c : K) (hg : c.good) (hc : (peekK c).kind = 2) : VMeth Try.prog 33 (curE c) (curE (nextK c)) [.ptr 0 0] (conZ c) := by
  refine vcalls_raw c_ppats_atom 1 (by simp) (by simp) ?_
  repeat' (first | refine vi_seq ?_ | refine vi_block ?_ | refine vi_scope ?_ | ((first | refine vi_reg ?_ | refine vi_regE (by rfl) ?_ | refine vi_regD ?_ | refine vi_label ?_ | refine vi_goto ?_ | refine vi_ret ?_ | refine vi_exit ?_ | refine vi_skip ?_); simp (disch := first | omega | (simp only [List.length_set, List.length_append, List.length_cons, List.length_nil]; done) | (simp only [List.length_set, List.length_append, List.length_cons, List.length_nil]; omega)) only [hc, go_sem, ↓reduceIte, Nat.reduceEqDiff, Nat.reduceAdd, Nat.reduceSub, Nat.reduceMul, Nat.reduceLT, Nat.reduceLeDiff, reduceCtorEq, Int.reduceToNat]) | ((first | refine gd_caseb ?_ ?_ | refine cnd_caseb ?_ ?_) <;> intro hc <;> simp only [hc, go_sem, ↓reduceIte, Nat.reduceEqDiff, Nat.reduceAdd, Nat.reduceSub, Nat.reduceMul, Nat.reduceLT, Nat.reduceLeDiff, reduceCtorEq, Int.reduceToNat] <;> (try simp only [bool_not_true, bool_not_false, decide_eq_true_eq, decide_eq_false_iff_not, Bool.and_eq_true] at hc)) | (refine vi_cond ?_; simp (disch := first | omega | (simp only [List.length_set, List.length_append, List.length_cons, List.length_nil]; done) | (simp only [List.length_set, List.length_append, List.length_cons, List.length_nil]; omega)) only [hc, go_sem, ↓reduceIte, Nat.reduceEqDiff, Nat.reduceAdd, Nat.reduceSub, Nat.reduceMul, Nat.reduceLT, Nat.reduceLeDiff, reduceCtorEq, Int.reduceToNat]) | refine And.intro (by first | assumption | omega | (have := len_pos (by assumption); omega) | (unfold capOK; omega)) ?_ | (simp (disch := omega) only [encs_getN]; (try simp only [go_sem, ↓reduceIte, Nat.reduceEqDiff, Nat.reduceAdd, Nat.reduceSub, Nat.reduceMul, Nat.reduceLT, Nat.reduceLeDiff, reduceCtorEq, Int.reduceToNat])) | (simp (disch := omega) only [wrapS]; (try simp only [go_sem, ↓reduceIte, Nat.reduceEqDiff, Nat.reduceAdd, Nat.reduceSub, Nat.reduceMul, Nat.reduceLT, Nat.reduceLeDiff, reduceCtorEq, Int.reduceToNat])) | ((first | refine vmeth_app (pats_leafC c hc) (curE_bd _ _) (curE_bd _ _) rfl (conZ_bd _ _) fun _ => ?_ | refine a_Next hg.ok ?_); simp only [go_sem, ↓reduceIte, Nat.reduceEqDiff, Nat.reduceAdd, Nat.reduceSub, Nat.reduceMul, Nat.reduceLT, Nat.reduceLeDiff, reduceCtorEq, Int.reduceToNat]))
theorem encs_ne {l : List N} (h : l ≠ []) : encs l ≠ [] := by cases l with | nil => exact absurd rfl h | cons _ _ => simp [encs]
def kidsSt (p : Int) (t : List UInt8) (x : Bool × Nat × K × List N) : AF × List Ent :=
  (⟨[(0, .ptr 0 0), (2, .ptr 1 0), (4, .bool true), (5, .ptr 2 0), (6, .bool x.1)], []⟩,
    curE x.2.2.1 :: .blk [.int .i64 0, .int .i64 0, .int .i64 0, .str [], .nils] :: .blk [.int .i64 14, .int .i64 p, .int .i64 0, .str t, accV 3 (encs x.2.2.2)] :: accE 5 (encs x.2.2.2))
theorem pats_At_step {f : Nat} (ih : ∀ c, c.good → rest c < f → VMeth Try.prog 20 (curE c) (curE (patAt f c).1) [.ptr 0 0] (resP (patAt f c).2)) (c : K) (hg : c.good) (hr : rest c < f + 1) :
    VMeth Try.prog 20 (curE c) (curE (patAt (f + 1) c).1) [.ptr 0 0] (resP (patAt (f + 1) c).2) := by
  have hm := mono_patAt f
  have g1 : (enterK c).1.good := (mono_enter c).1 hg
  have hr1 : rest (enterK c).1 ≤ f := by have := (mono_enter c).2; omega
  refine vcalls_of c_ppats_At 1 (by simp) (by simp) ?_
  by_cases hk : (enterK c).2 = true ∧ (peekK (enterK c).1).kind = 2
  · obtain ⟨hk1, hk2⟩ := hk
    have g2 : (nextK (enterK c).1).good := (mono_next _).1 g1
    have hpa : patAt (f + 1) c = (leaveK (kidsP (patAt f) (rest (enterK c).1 + 1) (nextK (enterK c).1) []).1, (kidsP (patAt f) (rest (enterK c).1 + 1) (nextK (enterK c).1) []).2.map fun ks => .mk 14 (peekK (enterK c).1).pos 0 (peekK (enterK c).1).text ks) := by rw [patAt, if_pos hk1, if_pos hk2]
    rw [hpa]
    clear hpa
    generalize htg : kidsP (patAt f) (rest (enterK c).1 + 1) (nextK (enterK c).1) [] = tg
    have hmt : Mono (nextK (enterK c).1) tg.1 := htg ▸ mono_kids hm _ _ _
    have g3 : tg.1.good := hmt.1 g2
    repeat' (first | refine vi_seq ?_ | refine vi_block ?_ | refine vi_scope ?_ | ((first | refine vi_reg ?_ | refine vi_regE (by rfl) ?_ | refine vi_regD ?_ | refine vi_label ?_ | refine vi_goto ?_ | refine vi_ret ?_ | refine vi_exit ?_ | refine vi_skip ?_); simp (disch := first | omega | (simp only [List.length_set, List.length_append, List.length_cons, List.length_nil]; done) | (simp only [List.length_set, List.length_append, List.length_cons, List.length_nil]; omega)) only [hk1, hk2, Int.reduceEq, go_sem, ↓reduceIte, Nat.reduceEqDiff, Nat.reduceAdd, Nat.reduceSub, Nat.reduceMul, Nat.reduceLT, Nat.reduceLeDiff, reduceCtorEq, Int.reduceToNat]) | ((first | refine gd_caseb ?_ ?_ | refine cnd_caseb ?_ ?_) <;> intro hc <;> simp only [hc, go_sem, ↓reduceIte, Nat.reduceEqDiff, Nat.reduceAdd, Nat.reduceSub, Nat.reduceMul, Nat.reduceLT, Nat.reduceLeDiff, reduceCtorEq, Int.reduceToNat] <;> (try simp only [bool_not_true, bool_not_false, decide_eq_true_eq, decide_eq_false_iff_not, Bool.and_eq_true] at hc)) | (refine vi_cond ?_; simp (disch := first | omega | (simp only [List.length_set, List.length_append, List.length_cons, List.length_nil]; done) | (simp only [List.length_set, List.length_append, List.length_cons, List.length_nil]; omega)) only [hk1, hk2, Int.reduceEq, go_sem, ↓reduceIte, Nat.reduceEqDiff, Nat.reduceAdd, Nat.reduceSub, Nat.reduceMul, Nat.reduceLT, Nat.reduceLeDiff, reduceCtorEq, Int.reduceToNat]) | refine And.intro (by first | assumption | omega | (have := len_pos (by assumption); omega) | (unfold capOK; omega)) ?_ | (simp (disch := omega) only [encs_getN]; (try simp only [go_sem, ↓reduceIte, Nat.reduceEqDiff, Nat.reduceAdd, Nat.reduceSub, Nat.reduceMul, Nat.reduceLT, Nat.reduceLeDiff, reduceCtorEq, Int.reduceToNat])) | (simp (disch := omega) only [wrapS]; (try simp only [go_sem, ↓reduceIte, Nat.reduceEqDiff, Nat.reduceAdd, Nat.reduceSub, Nat.reduceMul, Nat.reduceLT, Nat.reduceLeDiff, reduceCtorEq, Int.reduceToNat])) | ((first | refine a_Enter ?_ | refine a_Peek ?_ | refine vmeth_app (pats_atomC _ g1 hk2) (curE_bd _ _) (curE_bd _ _) rfl (conZ_bd _ _) fun _ => ?_); simp only [go_sem, ↓reduceIte, Nat.reduceEqDiff, Nat.reduceAdd, Nat.reduceSub, Nat.reduceMul, Nat.reduceLT, Nat.reduceLeDiff, reduceCtorEq, Int.reduceToNat]))
    refine vi_loop (S := Bool × Nat × K × List N) (fun x => x.2.2.1.good ∧ rest x.2.2.1 ≤ f ∧ (x.1 = true → kidsP (patAt f) x.2.1 x.2.2.1 x.2.2.2 = tg ∧ rest x.2.2.1 < x.2.1) ∧ (x.1 = false → tg = (x.2.2.1, none)) ∧ x.2.2.2.length + rest x.2.2.1 ≤ 1048577)
      (kidsSt (peekK (enterK c).1).pos (peekK (enterK c).1).text) (fun x => if x.1 = true then rest x.2.2.1 + 1 else 0) ?_ ?_
    · have hrn := (mono_next (enterK c).1).2
      refine at_of (true, rest (enterK c).1 + 1, nextK (enterK c).1, []) [0, 1, 2] ⟨g2, by simp only; omega, fun _ => ⟨htg, by simp only; omega⟩, (by intro h; cases h), ?_⟩ rfl (by simp) ?_ ?_ ?_
      · have h9 := g2.rest
        unfold rest
        simp only [List.length_nil]
        omega
      all_goals simp only [kidsSt, encs, accV_nil, accE_nil]
      all_goals simp only [go_sem, ↓reduceIte, Nat.reduceEqDiff, Nat.reduceAdd, Nat.reduceSub, Nat.reduceMul, Nat.reduceLT, Nat.reduceLeDiff, reduceCtorEq, Int.reduceToNat]
    · rintro ⟨b, fu, d, acc⟩ ⟨i1, i2, i3, i4, i5⟩
      simp only at i1 i2 i3 i4 i5
      unfold kidsSt
      cases b with
      | false =>
        have i4 := i4 rfl
        subst i4
        repeat' (first | refine vi_seq ?_ | refine vi_block ?_ | refine vi_scope ?_ | ((first | refine vi_reg ?_ | refine vi_regE (by rfl) ?_ | refine vi_regD ?_ | refine vi_label ?_ | refine vi_goto ?_ | refine vi_ret ?_ | refine vi_exit ?_ | refine vi_skip ?_); simp only [go_sem, ↓reduceIte, Nat.reduceEqDiff, Nat.reduceAdd, Nat.reduceSub, Nat.reduceMul, Nat.reduceLT, Nat.reduceLeDiff, reduceCtorEq, Int.reduceToNat]) | ((first | refine gd_caseb ?_ ?_ | refine cnd_caseb ?_ ?_) <;> intro hc <;> simp only [hc, go_sem, ↓reduceIte, Nat.reduceEqDiff, Nat.reduceAdd, Nat.reduceSub, Nat.reduceMul, Nat.reduceLT, Nat.reduceLeDiff, reduceCtorEq, Int.reduceToNat] <;> (try simp only [bool_not_true, bool_not_false, decide_eq_true_eq, decide_eq_false_iff_not, Bool.and_eq_true] at hc)) | (refine vi_cond ?_; simp only [go_sem, ↓reduceIte, Nat.reduceEqDiff, Nat.reduceAdd, Nat.reduceSub, Nat.reduceMul, Nat.reduceLT, Nat.reduceLeDiff, reduceCtorEq, Int.reduceToNat]) | refine And.intro (by first | assumption | omega | (have := len_pos (by assumption); omega) | (unfold capOK; omega)) ?_ | (simp (disch := omega) only [encs_getN]; (try simp only [go_sem, ↓reduceIte, Nat.reduceEqDiff, Nat.reduceAdd, Nat.reduceSub, Nat.reduceMul, Nat.reduceLT, Nat.reduceLeDiff, reduceCtorEq, Int.reduceToNat])) | (simp (disch := omega) only [wrapS]; (try simp only [go_sem, ↓reduceIte, Nat.reduceEqDiff, Nat.reduceAdd, Nat.reduceSub, Nat.reduceMul, Nat.reduceLT, Nat.reduceLeDiff, reduceCtorEq, Int.reduceToNat])) | ((first | refine a_Leave i1.2.2 ?_); simp only [go_sem, ↓reduceIte, Nat.reduceEqDiff, Nat.reduceAdd, Nat.reduceSub, Nat.reduceMul, Nat.reduceLT, Nat.reduceLeDiff, reduceCtorEq, Int.reduceToNat]))
        simp only [Option.map_none, Option.getD_none, Option.isSome_none, enc_z]
      | true =>
        have i6 := (i3 rfl).2
        replace i3 := (i3 rfl).1
        clear i4
        obtain ⟨fu, rfl⟩ : ∃ k, fu = k + 1 := ⟨fu - 1, by omega⟩
        rw [kidsP] at i3
        have hcap : capOK (acc.length + 1) 64 := capN (by omega)
        have j1 : (patAtom (patAt f) d).1.good := (mono_atom hm d).1 i1
        have j2 : rest (patAtom (patAt f) d).1 ≤ rest d := (mono_atom hm d).2
        by_cases h0 : acc = []
        · subst h0
          simp only [encs, accV_nil, accE_nil]
          repeat' (first | refine vi_seq ?_ | refine vi_block ?_ | refine vi_scope ?_ | ((first | refine vi_reg ?_ | refine vi_regE (by rfl) ?_ | refine vi_regD ?_ | refine vi_label ?_ | refine vi_goto ?_ | refine vi_ret ?_ | refine vi_exit ?_ | refine vi_skip ?_); simp only [go_sem, ↓reduceIte, Nat.reduceEqDiff, Nat.reduceAdd, Nat.reduceSub, Nat.reduceMul, Nat.reduceLT, Nat.reduceLeDiff, reduceCtorEq, Int.reduceToNat]) | ((first | refine gd_caseb ?_ ?_ | refine cnd_caseb ?_ ?_) <;> intro hc <;> simp only [hc, go_sem, ↓reduceIte, Nat.reduceEqDiff, Nat.reduceAdd, Nat.reduceSub, Nat.reduceMul, Nat.reduceLT, Nat.reduceLeDiff, reduceCtorEq, Int.reduceToNat] <;> (try simp only [bool_not_true, bool_not_false, decide_eq_true_eq, decide_eq_false_iff_not, Bool.and_eq_true] at hc)) | (refine vi_cond ?_; simp only [go_sem, ↓reduceIte, Nat.reduceEqDiff, Nat.reduceAdd, Nat.reduceSub, Nat.reduceMul, Nat.reduceLT, Nat.reduceLeDiff, reduceCtorEq, Int.reduceToNat]) | refine And.intro (by first | assumption | omega | (have := len_pos (by assumption); omega) | (unfold capOK; omega)) ?_ | (simp (disch := omega) only [encs_getN]; (try simp only [go_sem, ↓reduceIte, Nat.reduceEqDiff, Nat.reduceAdd, Nat.reduceSub, Nat.reduceMul, Nat.reduceLT, Nat.reduceLeDiff, reduceCtorEq, Int.reduceToNat])) | (simp (disch := omega) only [wrapS]; (try simp only [go_sem, ↓reduceIte, Nat.reduceEqDiff, Nat.reduceAdd, Nat.reduceSub, Nat.reduceMul, Nat.reduceLT, Nat.reduceLeDiff, reduceCtorEq, Int.reduceToNat])) | ((first | refine a_begP ?_ | refine m_app (pats_atom hm ih _ i1 i2) rfl ?_ | refine a_Leave i1.2.2 ?_); simp only [go_sem, ↓reduceIte, Nat.reduceEqDiff, Nat.reduceAdd, Nat.reduceSub, Nat.reduceMul, Nat.reduceLT, Nat.reduceLeDiff, reduceCtorEq, Int.reduceToNat]))
          · have hb : begP d = true := by assumption
            have hs : (patAtom (patAt f) d).2.isSome = true := by assumption
            rw [if_pos hb, if_pos hs] at i3
            have hlt := atom_less hm hs
            refine at_of (true, fu, (patAtom (patAt f) d).1, [] ++ [(patAtom (patAt f) d).2.getD N0]) [0, 1, 2, 4] ⟨⟨j1, by simp only; omega, fun _ => ⟨i3, by simp only; omega⟩, (by intro h; cases h), ?_⟩, by simp only [if_true]; omega⟩ rfl (by simp) ?_ ?_ ?_
            · simp only [List.length_append, List.length_cons, List.length_nil]; omega
            all_goals simp only [← encs_snoc, accV_snoc, accE_snoc, List.nil_append, encs, accV_one, accE_one]
            all_goals simp only [go_sem, ↓reduceIte, Nat.reduceEqDiff, Nat.reduceAdd, Nat.reduceSub, Nat.reduceMul, Nat.reduceLT, Nat.reduceLeDiff, reduceCtorEq, Int.reduceToNat]
          · have hb : begP d = true := by assumption
            have hs : (patAtom (patAt f) d).2.isSome = false := by assumption
            rw [if_pos hb, if_neg (by rw [hs]; simp)] at i3
            refine at_of (false, 0, (patAtom (patAt f) d).1, []) [0, 1, 2] ⟨⟨j1, by simp only; omega, (by intro h; cases h), fun _ => i3.symm, by simp only; omega⟩, by simp only [if_true, Bool.false_eq_true, if_false]; omega⟩ rfl (by simp) ?_ ?_ ?_
            all_goals simp only [encs, accV_nil, accE_nil]
            all_goals simp only [go_sem, ↓reduceIte, Nat.reduceEqDiff, Nat.reduceAdd, Nat.reduceSub, Nat.reduceMul, Nat.reduceLT, Nat.reduceLeDiff, reduceCtorEq, Int.reduceToNat]
          · have hb : begP d = false := by assumption
            rw [if_neg (by rw [hb]; simp)] at i3
            subst i3
            simp only [Option.map_some, Option.getD_some, Option.isSome_some, enc, encs, and_self]
        · have hne := encs_ne h0
          simp only [accV_ne hne, accE_ne hne, encs_len]
          repeat' (first | refine vi_seq ?_ | refine vi_block ?_ | refine vi_scope ?_ | ((first | refine vi_reg ?_ | refine vi_regE (by rfl) ?_ | refine vi_regD ?_ | refine vi_label ?_ | refine vi_goto ?_ | refine vi_ret ?_ | refine vi_exit ?_ | refine vi_skip ?_); simp only [go_sem, ↓reduceIte, Nat.reduceEqDiff, Nat.reduceAdd, Nat.reduceSub, Nat.reduceMul, Nat.reduceLT, Nat.reduceLeDiff, reduceCtorEq, Int.reduceToNat]) | ((first | refine gd_caseb ?_ ?_ | refine cnd_caseb ?_ ?_) <;> intro hc <;> simp only [hc, go_sem, ↓reduceIte, Nat.reduceEqDiff, Nat.reduceAdd, Nat.reduceSub, Nat.reduceMul, Nat.reduceLT, Nat.reduceLeDiff, reduceCtorEq, Int.reduceToNat] <;> (try simp only [bool_not_true, bool_not_false, decide_eq_true_eq, decide_eq_false_iff_not, Bool.and_eq_true] at hc)) | (refine vi_cond ?_; simp only [go_sem, ↓reduceIte, Nat.reduceEqDiff, Nat.reduceAdd, Nat.reduceSub, Nat.reduceMul, Nat.reduceLT, Nat.reduceLeDiff, reduceCtorEq, Int.reduceToNat]) | refine And.intro (by first | assumption | omega | (have := len_pos (by assumption); omega) | (unfold capOK; omega)) ?_ | (simp (disch := omega) only [encs_getN]; (try simp only [go_sem, ↓reduceIte, Nat.reduceEqDiff, Nat.reduceAdd, Nat.reduceSub, Nat.reduceMul, Nat.reduceLT, Nat.reduceLeDiff, reduceCtorEq, Int.reduceToNat])) | (simp (disch := omega) only [wrapS]; (try simp only [go_sem, ↓reduceIte, Nat.reduceEqDiff, Nat.reduceAdd, Nat.reduceSub, Nat.reduceMul, Nat.reduceLT, Nat.reduceLeDiff, reduceCtorEq, Int.reduceToNat])) | ((first | refine a_begP ?_ | refine m_app (pats_atom hm ih _ i1 i2) rfl ?_ | refine a_Leave i1.2.2 ?_); simp only [go_sem, ↓reduceIte, Nat.reduceEqDiff, Nat.reduceAdd, Nat.reduceSub, Nat.reduceMul, Nat.reduceLT, Nat.reduceLeDiff, reduceCtorEq, Int.reduceToNat]))
          · have hb : begP d = true := by assumption
            have hs : (patAtom (patAt f) d).2.isSome = true := by assumption
            rw [if_pos hb, if_pos hs] at i3
            have hlt := atom_less hm hs
            refine at_of (true, fu, (patAtom (patAt f) d).1, acc ++ [(patAtom (patAt f) d).2.getD N0]) [0, 1, 2, 5] ⟨⟨j1, by simp only; omega, fun _ => ⟨i3, by simp only; omega⟩, (by intro h; cases h), ?_⟩, by simp only [if_true]; omega⟩ rfl (by simp) ?_ ?_ ?_
            · simp only [List.length_append, List.length_cons, List.length_nil]; omega
            all_goals simp only [← encs_snoc, accV_snoc, accE_snoc, List.nil_append, encs, accV_one, accE_one]
            all_goals simp only [go_sem, ↓reduceIte, Nat.reduceEqDiff, Nat.reduceAdd, Nat.reduceSub, Nat.reduceMul, Nat.reduceLT, Nat.reduceLeDiff, reduceCtorEq, Int.reduceToNat]
            rw [encs_snoc, encs_bd, encs_ren]; exact ⟨rfl, rfl⟩
          · have hb : begP d = true := by assumption
            have hs : (patAtom (patAt f) d).2.isSome = false := by assumption
            rw [if_pos hb, if_neg (by rw [hs]; simp)] at i3
            refine at_of (false, 0, (patAtom (patAt f) d).1, acc) [0, 1, 2, 3] ⟨⟨j1, by simp only; omega, (by intro h; cases h), fun _ => i3.symm, by simp only; omega⟩, by simp only [if_true, Bool.false_eq_true, if_false]; omega⟩ rfl (by simp) ?_ ?_ ?_
            all_goals simp only [accV_ne hne, accE_ne hne, encs_len]
            all_goals simp only [go_sem, ↓reduceIte, Nat.reduceEqDiff, Nat.reduceAdd, Nat.reduceSub, Nat.reduceMul, Nat.reduceLT, Nat.reduceLeDiff, reduceCtorEq, Int.reduceToNat]
          · have hb : begP d = false := by assumption
            rw [if_neg (by rw [hb]; simp)] at i3
            subst i3
            simp only [Option.map_some, Option.getD_some, Option.isSome_some, enc, encs, and_self]
  · by_cases hk1 : (enterK c).2 = true
    · have hk2 : ¬ (peekK (enterK c).1).kind = 2 := fun h => hk ⟨hk1, h⟩
      have j1 : (patAtom (patAt f) (enterK c).1).1.good := (mono_atom hm _).1 g1
      have hpa : patAt (f + 1) c = (leaveK (patAtom (patAt f) (enterK c).1).1, (patAtom (patAt f) (enterK c).1).2) := by rw [patAt, if_pos hk1, if_neg hk2]
      rw [hpa]
      clear hpa
      repeat' (first | refine vi_seq ?_ | refine vi_block ?_ | refine vi_scope ?_ | ((first | refine vi_reg ?_ | refine vi_regE (by rfl) ?_ | refine vi_regD ?_ | refine vi_label ?_ | refine vi_goto ?_ | refine vi_ret ?_ | refine vi_exit ?_ | refine vi_skip ?_); simp (disch := first | omega | (simp only [List.length_set, List.length_append, List.length_cons, List.length_nil]; done) | (simp only [List.length_set, List.length_append, List.length_cons, List.length_nil]; omega)) only [hk1, hk2, go_sem, ↓reduceIte, Nat.reduceEqDiff, Nat.reduceAdd, Nat.reduceSub, Nat.reduceMul, Nat.reduceLT, Nat.reduceLeDiff, reduceCtorEq, Int.reduceToNat]) | ((first | refine gd_caseb ?_ ?_ | refine cnd_caseb ?_ ?_) <;> intro hc <;> simp only [hc, go_sem, ↓reduceIte, Nat.reduceEqDiff, Nat.reduceAdd, Nat.reduceSub, Nat.reduceMul, Nat.reduceLT, Nat.reduceLeDiff, reduceCtorEq, Int.reduceToNat] <;> (try simp only [bool_not_true, bool_not_false, decide_eq_true_eq, decide_eq_false_iff_not, Bool.and_eq_true] at hc)) | (refine vi_cond ?_; simp (disch := first | omega | (simp only [List.length_set, List.length_append, List.length_cons, List.length_nil]; done) | (simp only [List.length_set, List.length_append, List.length_cons, List.length_nil]; omega)) only [hk1, hk2, go_sem, ↓reduceIte, Nat.reduceEqDiff, Nat.reduceAdd, Nat.reduceSub, Nat.reduceMul, Nat.reduceLT, Nat.reduceLeDiff, reduceCtorEq, Int.reduceToNat]) | refine And.intro (by first | assumption | omega | (have := len_pos (by assumption); omega) | (unfold capOK; omega)) ?_ | (simp (disch := omega) only [encs_getN]; (try simp only [go_sem, ↓reduceIte, Nat.reduceEqDiff, Nat.reduceAdd, Nat.reduceSub, Nat.reduceMul, Nat.reduceLT, Nat.reduceLeDiff, reduceCtorEq, Int.reduceToNat])) | (simp (disch := omega) only [wrapS]; (try simp only [go_sem, ↓reduceIte, Nat.reduceEqDiff, Nat.reduceAdd, Nat.reduceSub, Nat.reduceMul, Nat.reduceLT, Nat.reduceLeDiff, reduceCtorEq, Int.reduceToNat])) | ((first | refine a_Enter ?_ | refine a_Peek ?_ | refine m_app (pats_atom hm ih _ g1 hr1) rfl ?_); simp only [go_sem, ↓reduceIte, Nat.reduceEqDiff, Nat.reduceAdd, Nat.reduceSub, Nat.reduceMul, Nat.reduceLT, Nat.reduceLeDiff, reduceCtorEq, Int.reduceToNat]))
      generalize hr' : patAtom (patAt f) (enterK c).1 = r at j1
      refine vi_loop (S := Unit) (fun _ => True) (fun _ => (⟨[(0, .ptr 0 0), (2, .ptr 1 0), (4, .bool false), (5, .ptr 2 0), (6, .bool r.2.isSome)], []⟩, [curE r.1, .blk [.int .i64 0, .int .i64 0, .int .i64 0, .str [], .nils], .blk (enc (r.2.getD N0)).cells])) (fun _ => 0) ?_ ?_
      · refine at_of () [0, 1, 2] trivial rfl (by simp) ?_ ?_ ?_ <;> (try simp only [go_sem, ↓reduceIte, Nat.reduceEqDiff, Nat.reduceAdd, Nat.reduceSub, Nat.reduceMul, Nat.reduceLT, Nat.reduceLeDiff, reduceCtorEq, Int.reduceToNat]) <;> (try simp (disch := omega) only [wrapS])
      · intro _ _
        repeat' (first | refine vi_seq ?_ | refine vi_block ?_ | refine vi_scope ?_ | ((first | refine vi_reg ?_ | refine vi_regE (by rfl) ?_ | refine vi_regD ?_ | refine vi_label ?_ | refine vi_goto ?_ | refine vi_ret ?_ | refine vi_exit ?_ | refine vi_skip ?_); simp only [go_sem, ↓reduceIte, Nat.reduceEqDiff, Nat.reduceAdd, Nat.reduceSub, Nat.reduceMul, Nat.reduceLT, Nat.reduceLeDiff, reduceCtorEq, Int.reduceToNat]) | ((first | refine gd_caseb ?_ ?_ | refine cnd_caseb ?_ ?_) <;> intro hc <;> simp only [hc, go_sem, ↓reduceIte, Nat.reduceEqDiff, Nat.reduceAdd, Nat.reduceSub, Nat.reduceMul, Nat.reduceLT, Nat.reduceLeDiff, reduceCtorEq, Int.reduceToNat] <;> (try simp only [bool_not_true, bool_not_false, decide_eq_true_eq, decide_eq_false_iff_not, Bool.and_eq_true] at hc)) | (refine vi_cond ?_; simp only [go_sem, ↓reduceIte, Nat.reduceEqDiff, Nat.reduceAdd, Nat.reduceSub, Nat.reduceMul, Nat.reduceLT, Nat.reduceLeDiff, reduceCtorEq, Int.reduceToNat]) | refine And.intro (by first | assumption | omega | (have := len_pos (by assumption); omega) | (unfold capOK; omega)) ?_ | (simp (disch := omega) only [encs_getN]; (try simp only [go_sem, ↓reduceIte, Nat.reduceEqDiff, Nat.reduceAdd, Nat.reduceSub, Nat.reduceMul, Nat.reduceLT, Nat.reduceLeDiff, reduceCtorEq, Int.reduceToNat])) | (simp (disch := omega) only [wrapS]; (try simp only [go_sem, ↓reduceIte, Nat.reduceEqDiff, Nat.reduceAdd, Nat.reduceSub, Nat.reduceMul, Nat.reduceLT, Nat.reduceLeDiff, reduceCtorEq, Int.reduceToNat])) | ((first | refine a_Leave j1.2.2 ?_); simp only [go_sem, ↓reduceIte, Nat.reduceEqDiff, Nat.reduceAdd, Nat.reduceSub, Nat.reduceMul, Nat.reduceLT, Nat.reduceLeDiff, reduceCtorEq, Int.reduceToNat]))
        have hs : r.2 = none := by
          have : r.2.isSome = false := by assumption
          revert this
          cases r.2 <;> simp
        rw [hs, enc_z]; rfl
    · have hk1 : (enterK c).2 = false := by simpa using hk1
      have hpa : patAt (f + 1) c = ((enterK c).1, none) := by rw [patAt, if_neg (by rw [hk1]; simp)]
      rw [hpa]
      repeat' (first | refine vi_seq ?_ | refine vi_block ?_ | refine vi_scope ?_ | ((first | refine vi_reg ?_ | refine vi_regE (by rfl) ?_ | refine vi_regD ?_ | refine vi_label ?_ | refine vi_goto ?_ | refine vi_ret ?_ | refine vi_exit ?_ | refine vi_skip ?_); simp (disch := first | omega | (simp only [List.length_set, List.length_append, List.length_cons, List.length_nil]; done) | (simp only [List.length_set, List.length_append, List.length_cons, List.length_nil]; omega)) only [hk1, go_sem, ↓reduceIte, Nat.reduceEqDiff, Nat.reduceAdd, Nat.reduceSub, Nat.reduceMul, Nat.reduceLT, Nat.reduceLeDiff, reduceCtorEq, Int.reduceToNat]) | ((first | refine gd_caseb ?_ ?_ | refine cnd_caseb ?_ ?_) <;> intro hc <;> simp only [hc, go_sem, ↓reduceIte, Nat.reduceEqDiff, Nat.reduceAdd, Nat.reduceSub, Nat.reduceMul, Nat.reduceLT, Nat.reduceLeDiff, reduceCtorEq, Int.reduceToNat] <;> (try simp only [bool_not_true, bool_not_false, decide_eq_true_eq, decide_eq_false_iff_not, Bool.and_eq_true] at hc)) | (refine vi_cond ?_; simp (disch := first | omega | (simp only [List.length_set, List.length_append, List.length_cons, List.length_nil]; done) | (simp only [List.length_set, List.length_append, List.length_cons, List.length_nil]; omega)) only [hk1, go_sem, ↓reduceIte, Nat.reduceEqDiff, Nat.reduceAdd, Nat.reduceSub, Nat.reduceMul, Nat.reduceLT, Nat.reduceLeDiff, reduceCtorEq, Int.reduceToNat]) | refine And.intro (by first | assumption | omega | (have := len_pos (by assumption); omega) | (unfold capOK; omega)) ?_ | (simp (disch := omega) only [encs_getN]; (try simp only [go_sem, ↓reduceIte, Nat.reduceEqDiff, Nat.reduceAdd, Nat.reduceSub, Nat.reduceMul, Nat.reduceLT, Nat.reduceLeDiff, reduceCtorEq, Int.reduceToNat])) | (simp (disch := omega) only [wrapS]; (try simp only [go_sem, ↓reduceIte, Nat.reduceEqDiff, Nat.reduceAdd, Nat.reduceSub, Nat.reduceMul, Nat.reduceLT, Nat.reduceLeDiff, reduceCtorEq, Int.reduceToNat])) | ((first | refine a_Enter ?_); simp only [go_sem, ↓reduceIte, Nat.reduceEqDiff, Nat.reduceAdd, Nat.reduceSub, Nat.reduceMul, Nat.reduceLT, Nat.reduceLeDiff, reduceCtorEq, Int.reduceToNat]))
      rw [enc_z]; rfl
theorem pats_At (f : Nat) : ∀ c : K, c.good → rest c < f → VMeth Try.prog 20 (curE c) (curE (patAt f c).1) [.ptr 0 0] (resP (patAt f c).2) := by
  induction f with
  | zero => exact fun c _ h => absurd h (by omega)
  | succ f ih => exact pats_At_step ih
end Go.Proofs.Ytaoiamkloigfhaa

/- patterns: the reference -/
set_option maxRecDepth 4000
namespace Go.Proofs.Ytaoiamkloigfhaa
open Go Go.RowKit Go.V
set_option linter.unusedVariables false
set_option linter.unusedSimpArgs false

/-- It goes on, and a failure stays. -/
def Mon (c c' : K) : Prop := Mono c c' ∧ (c.err ≠ 0 → c'.err ≠ 0)
def em (c : K) : Nat := if c.err = 0 then rest c + 1 else 0
theorem Mon.em {c c' : K} (h : Mon c c') : em c' ≤ em c := by
  unfold Go.Proofs.Ytaoiamkloigfhaa.em
  have := h.1.2
  split
  · split
    · omega
    · rename_i h1 h2; exact absurd h1 (h.2 h2)
  · omega
theorem Mon.refl (c : K) : Mon c c := ⟨Mono.refl c, id⟩
theorem Mon.trans {a b c : K} (h : Mon a b) (k : Mon b c) : Mon a c := ⟨h.1.trans k.1, fun e => k.2 (h.2 e)⟩
theorem mon_next (c : K) : Mon c (nextK c) := ⟨mono_next c, fun h => by rwa [nextK_err h]⟩
theorem mon_fail (c : K) (e : Int) : Mon c (failK c e) := ⟨mono_fail c e, fun _ => fail_err c⟩
theorem mon_enter (c : K) : Mon c (enterK c).1 := ⟨mono_enter c, fun h => by rwa [enterK_err h]⟩
theorem mon_leave (c : K) : Mon c (leaveK c) := ⟨mono_leave c, fun h => by rwa [leaveK_err h]⟩
theorem mon_want (c : K) (x : List UInt8) : Mon c (wantK c x).1 := ⟨mono_want c x, fun h => by rwa [want_err h]⟩
theorem em_le (c : K) : em c ≤ rest c + 1 := by unfold em; split <;> omega
theorem em_err {c : K} (h : c.err ≠ 0) : em c = 0 := if_neg h
theorem em_ok {c : K} (h : c.err = 0) : em c = rest c + 1 := if_pos h
theorem leaf_err {c : K} (h : (leafP c).isSome = true) : c.err = 0 ∧ rest (nextK c) + 1 = rest c := by
  obtain ⟨n, hn⟩ := Option.isSome_iff_exists.1 h
  exact ⟨(peek_there (leaf_kind hn)).1, rest_next (leaf_kind hn)⟩
theorem beg_err {c : K} (h : begP c = true) : c.err = 0 := by
  simp only [begP, Bool.or_eq_true] at h
  rcases h with h | h
  · exact (leaf_err h).1
  · exact isK_err h
theorem beg_bad {c : K} (h : c.err ≠ 0) : begP c = false := by
  cases hb : begP c with
  | false => rfl
  | true => exact absurd (beg_err hb) h
theorem isK_enter {c : K} {x : List UInt8} (h : (enterK c).2 = true) : isK (enterK c).1 x = isK c x := by rw [(enter_err h).2.2]; rfl
theorem rest_enter {c : K} : rest (enterK c).1 ≤ rest c := (mono_enter c).2
theorem em_paren {c : K} (h : isK c [40] = true) : em (wantK (enterK c).1 [40]).1 < em c := by
  rw [em_ok (isK_err h)]
  cases he : (enterK c).2 with
  | false => rw [want_err (enter_bad he), em_err (enter_bad he)]; omega
  | true =>
    have h1 : isK (enterK c).1 [40] = true := by rw [isK_enter he]; exact h
    have h2 := rest_next (isK_kind h1)
    have h3 := rest_enter (c := c)
    have h4 := em_le (nextK (enterK c).1)
    rw [wantK, if_pos h1]
    simp only; omega

def refAtom (rec : K → K × N) (c : K) : K × N :=
  if begP c = true then
    if isK c [40] = true then (leaveK (wantK (rec (wantK (enterK c).1 [40]).1).1 [41]).1, (rec (wantK (enterK c).1 [40]).1).2)
    else (nextK c, (leafP c).getD N0)
  else (failK c 5, N0)
def refKids (rec : K → K × N) : Nat → K → List N → K × List N
  | 0, c, acc => (c, acc)
  | f + 1, c, acc => if begP c = true then refKids rec f (refAtom rec c).1 (acc ++ [(refAtom rec c).2]) else (c, acc)
def refAt : Nat → K → K × N
  | 0, c => (c, N0)
  | f + 1, c =>
    if (peekK (enterK c).1).kind = 2 then
      (leaveK (refKids (refAt f) (em (nextK (enterK c).1) + 1) (nextK (enterK c).1) []).1, .mk 14 (peekK (enterK c).1).pos 0 (peekK (enterK c).1).text (refKids (refAt f) (em (nextK (enterK c).1) + 1) (nextK (enterK c).1) []).2)
    else (leaveK (refAtom (refAt f) (enterK c).1).1, (refAtom (refAt f) (enterK c).1).2)
section
variable {rec : K → K × N} (hm : ∀ c, Mon c (rec c).1)
include hm
theorem mon_paren (c : K) : Mon (wantK (enterK c).1 [40]).1 (leaveK (wantK (rec (wantK (enterK c).1 [40]).1).1 [41]).1) := ((hm _).trans (mon_want _ _)).trans (mon_leave _)
theorem mon_refAtom (c : K) : Mon c (refAtom rec c).1 := by
  unfold refAtom
  split
  · split
    · exact ((mon_enter c).trans (mon_want _ _)).trans (mon_paren hm c)
    · exact mon_next c
  · exact mon_fail c 5
theorem refAtom_less {c : K} (h : begP c = true) : em (refAtom rec c).1 < em c := by
  unfold refAtom
  rw [if_pos h]
  split
  · have h1 := em_paren (c := c) (by assumption)
    have h2 := (mon_paren hm c).em
    simp only; omega
  · rename_i hk
    have h1 := leaf_err (c := c) (by simpa [begP, hk] using h)
    have h2 := em_le (nextK c)
    rw [em_ok h1.1]
    simp only; omega
theorem mon_refKids : ∀ (f : Nat) (c : K) (acc : List N), Mon c (refKids rec f c acc).1
  | 0, c, acc => Mon.refl c
  | f + 1, c, acc => by
    rw [refKids]
    split
    · exact (mon_refAtom hm c).trans (mon_refKids f _ _)
    · exact Mon.refl c
end
theorem mon_refAt : ∀ (f : Nat) (c : K), Mon c (refAt f c).1
  | 0, c => Mon.refl c
  | f + 1, c => by
    rw [refAt]
    split
    · exact (((mon_enter c).trans (mon_next _)).trans (mon_refKids (mon_refAt f) _ _ _)).trans (mon_leave _)
    · exact ((mon_enter c).trans (mon_refAtom (mon_refAt f) _)).trans (mon_leave _)

/-! The program. -/
theorem ref08_begins (c : K) : VPure Try.prog 44 [refC c] (.bool (begP c)) := by
  refine vpure_of c_envoyref08_begins (by simp) (by simp only [go_sem]) rfl fun hw => ?_
  repeat' (first | refine vi_seq ?_ | refine vi_block ?_ | refine vi_scope ?_ | ((first | refine vi_reg ?_ | refine vi_regE (by rfl) ?_ | refine vi_regD ?_ | refine vi_label ?_ | refine vi_goto ?_ | refine vi_ret ?_ | refine vi_exit ?_ | refine vi_skip ?_); simp only [go_sem, ↓reduceIte, Nat.reduceEqDiff, Nat.reduceAdd, Nat.reduceSub, Nat.reduceMul, Nat.reduceLT, Nat.reduceLeDiff, reduceCtorEq, Int.reduceToNat]) | ((first | refine gd_caseb ?_ ?_ | refine cnd_caseb ?_ ?_) <;> intro hc <;> simp only [hc, go_sem, ↓reduceIte, Nat.reduceEqDiff, Nat.reduceAdd, Nat.reduceSub, Nat.reduceMul, Nat.reduceLT, Nat.reduceLeDiff, reduceCtorEq, Int.reduceToNat] <;> (try simp only [bool_not_true, bool_not_false, decide_eq_true_eq, decide_eq_false_iff_not, Bool.and_eq_true] at hc)) | (refine vi_cond ?_; simp only [go_sem, ↓reduceIte, Nat.reduceEqDiff, Nat.reduceAdd, Nat.reduceSub, Nat.reduceMul, Nat.reduceLT, Nat.reduceLeDiff, reduceCtorEq, Int.reduceToNat]) | refine And.intro (by first | assumption | omega | (have := len_pos (by assumption); omega) | (unfold capOK; omega)) ?_ | (simp (disch := omega) only [encs_getN]; (try simp only [go_sem, ↓reduceIte, Nat.reduceEqDiff, Nat.reduceAdd, Nat.reduceSub, Nat.reduceMul, Nat.reduceLT, Nat.reduceLeDiff, reduceCtorEq, Int.reduceToNat])) | (simp (disch := omega) only [wrapS]; (try simp only [go_sem, ↓reduceIte, Nat.reduceEqDiff, Nat.reduceAdd, Nat.reduceSub, Nat.reduceMul, Nat.reduceLT, Nat.reduceLeDiff, reduceCtorEq, Int.reduceToNat])) | ((first | refine vapp_pure0 (ref05_Peek c) fun _ => ?_ | refine vapp_pure0 (ref05_Is c _) fun _ => ?_ | refine dapp_pure  (ref05_Peek c) ?_ | refine dapp_pure  (ref05_Is c _) ?_); simp only [go_sem, ↓reduceIte, Nat.reduceEqDiff, Nat.reduceAdd, Nat.reduceSub, Nat.reduceMul, Nat.reduceLT, Nat.reduceLeDiff, reduceCtorEq, Int.reduceToNat]))
  all_goals (have := @beg_bad c; unfold begP leafP at *; simp_all)
theorem ref08_atom {rec : K → K × N} {b : Nat} (hm : ∀ c, Mon c (rec c).1) (ih : ∀ c, c.good → em c < b → VPure Try.prog 24 [refC c] (.tup [refC (rec c).1, enc (rec c).2])) (c : K) (hg : c.good) (hr : em c ≤ b) :
    VPure Try.prog 41 [refC c] (.tup [refC (refAtom rec c).1, enc (refAtom rec c).2]) := by
  have g1 : (wantK (enterK c).1 [40]).1.good := ((mon_enter c).trans (mon_want _ _)).1.1 hg
  have g2 : (wantK (rec (wantK (enterK c).1 [40]).1).1 [41]).1.good := ((hm _).trans (mon_want _ _)).1.1 g1
  refine vpure_of c_envoyref08_atom (by simp) (by simp only [go_sem]) (by simp only [go_sem]) fun hw => ?_
  repeat' (first | refine vi_seq ?_ | refine vi_block ?_ | refine vi_scope ?_ | ((first | refine vi_reg ?_ | refine vi_regE (by rfl) ?_ | refine vi_regD ?_ | refine vi_label ?_ | refine vi_goto ?_ | refine vi_ret ?_ | refine vi_exit ?_ | refine vi_skip ?_); simp only [go_sem, ↓reduceIte, Nat.reduceEqDiff, Nat.reduceAdd, Nat.reduceSub, Nat.reduceMul, Nat.reduceLT, Nat.reduceLeDiff, reduceCtorEq, Int.reduceToNat]) | ((first | refine gd_caseb ?_ ?_ | refine cnd_caseb ?_ ?_) <;> intro hc <;> simp only [hc, go_sem, ↓reduceIte, Nat.reduceEqDiff, Nat.reduceAdd, Nat.reduceSub, Nat.reduceMul, Nat.reduceLT, Nat.reduceLeDiff, reduceCtorEq, Int.reduceToNat] <;> (try simp only [bool_not_true, bool_not_false, decide_eq_true_eq, decide_eq_false_iff_not, Bool.and_eq_true] at hc)) | (refine vi_cond ?_; simp only [go_sem, ↓reduceIte, Nat.reduceEqDiff, Nat.reduceAdd, Nat.reduceSub, Nat.reduceMul, Nat.reduceLT, Nat.reduceLeDiff, reduceCtorEq, Int.reduceToNat]) | refine And.intro (by first | assumption | omega | (have := len_pos (by assumption); omega) | (unfold capOK; omega)) ?_ | (simp (disch := omega) only [encs_getN]; (try simp only [go_sem, ↓reduceIte, Nat.reduceEqDiff, Nat.reduceAdd, Nat.reduceSub, Nat.reduceMul, Nat.reduceLT, Nat.reduceLeDiff, reduceCtorEq, Int.reduceToNat])) | (simp (disch := omega) only [wrapS]; (try simp only [go_sem, ↓reduceIte, Nat.reduceEqDiff, Nat.reduceAdd, Nat.reduceSub, Nat.reduceMul, Nat.reduceLT, Nat.reduceLeDiff, reduceCtorEq, Int.reduceToNat])) | ((first | refine vapp_pure0 (ref05_Peek c) fun _ => ?_ | refine vapp_pure0 (ref05_Is c _) fun _ => ?_ | refine vapp_pure0 (ref08_begins c) fun _ => ?_ | refine vapp_pure0 (ref05_Fail c _) fun _ => ?_ | refine vapp_pure0 (ref05_Enter c) fun _ => ?_ | refine vapp_pure0 (ref05_Want _ _) fun _ => ?_ | refine vapp_pure0 (ih _ g1 (Nat.lt_of_lt_of_le (em_paren (by assumption)) hr)) fun _ => ?_ | refine vapp_pure0 (ref05_Leave _ g2.2.2) fun _ => ?_ | refine vapp_pure0 (ref05_Next c) fun _ => ?_ | refine dapp_pure  (ref05_Peek c) ?_ | refine dapp_pure  (ref05_Is c _) ?_ | refine dapp_pure  (ref08_begins c) ?_ | refine dapp_pure  (ref05_Fail c _) ?_ | refine dapp_pure  (ref05_Enter c) ?_ | refine dapp_pure  (ref05_Want _ _) ?_ | refine dapp_pure  (ih _ g1 (Nat.lt_of_lt_of_le (em_paren (by assumption)) hr)) ?_ | refine dapp_pure  (ref05_Leave _ g2.2.2) ?_ | refine dapp_pure  (ref05_Next c) ?_); simp only [go_sem, ↓reduceIte, Nat.reduceEqDiff, Nat.reduceAdd, Nat.reduceSub, Nat.reduceMul, Nat.reduceLT, Nat.reduceLeDiff, reduceCtorEq, Int.reduceToNat]))
  all_goals (unfold refAtom; simp only [*, enc_z, if_true, if_false, reduceIte, Bool.false_eq_true, Option.getD_none, Option.getD_some, Option.isSome_none, Option.isSome_some, and_self, true_and, and_true]; try rfl)
  all_goals
    have hb : begP c = true := by assumption
    have hk : isK c [40] = false := by assumption
    simp only [begP, hk, Bool.or_false] at hb
    unfold leafP at hb ⊢
    clear ih
    simp_all [enc, encs]
def refSt (p : Int) (t : List UInt8) (x : Nat × K × List N) : AF × List Ent :=
  (⟨[(1, .ptr 0 0), (2, .ptr 1 0), (3, .ptr 2 0), (7, .ptr 3 0)], []⟩,
    .blk (refC x.2.1).cells :: .blk [.nils, .int .i64 0, .int .i64 0, .int .i64 0, .str [], .int .i64 0, .int .i64 0, .int .i64 0] :: .blk [.int .i64 0, .int .i64 0, .int .i64 0, .str [], .nils] :: .blk [.int .i64 14, .int .i64 p, .int .i64 0, .str t, accV 4 (encs x.2.2)] :: accE 5 (encs x.2.2))
theorem ref08_At_step {f : Nat} (ih : ∀ c, c.good → em c < f → VPure Try.prog 24 [refC c] (.tup [refC (refAt f c).1, enc (refAt f c).2])) (c : K) (hg : c.good) (hr : em c < f + 1) :
    VPure Try.prog 24 [refC c] (.tup [refC (refAt (f + 1) c).1, enc (refAt (f + 1) c).2]) := by
  have hm := mon_refAt f
  have g1 : (enterK c).1.good := (mono_enter c).1 hg
  have hr1 : em (enterK c).1 ≤ f := by have := (mon_enter c).em; omega
  refine vpure_of c_envoyref08_At (by simp) (by simp only [go_sem]) (by simp only [go_sem]) fun hw => ?_
  by_cases hk : (peekK (enterK c).1).kind = 2
  · have hpa : refAt (f + 1) c = (leaveK (refKids (refAt f) (em (nextK (enterK c).1) + 1) (nextK (enterK c).1) []).1, .mk 14 (peekK (enterK c).1).pos 0 (peekK (enterK c).1).text (refKids (refAt f) (em (nextK (enterK c).1) + 1) (nextK (enterK c).1) []).2) := by rw [refAt, if_pos hk]
    rw [hpa]
    clear hpa
    have g2 : (nextK (enterK c).1).good := (mono_next _).1 g1
    have hr2 : em (nextK (enterK c).1) ≤ f := by have := (mon_next (enterK c).1).em; omega
    generalize htg : refKids (refAt f) (em (nextK (enterK c).1) + 1) (nextK (enterK c).1) [] = tg
    have hmt : Mon (nextK (enterK c).1) tg.1 := htg ▸ mon_refKids hm _ _ _
    have g3 : tg.1.good := hmt.1.1 g2
    repeat' (first | refine vi_seq ?_ | refine vi_block ?_ | refine vi_scope ?_ | ((first | refine vi_reg ?_ | refine vi_regE (by rfl) ?_ | refine vi_regD ?_ | refine vi_label ?_ | refine vi_goto ?_ | refine vi_ret ?_ | refine vi_exit ?_ | refine vi_skip ?_); simp (disch := first | omega | (simp only [List.length_set, List.length_append, List.length_cons, List.length_nil]; done) | (simp only [List.length_set, List.length_append, List.length_cons, List.length_nil]; omega)) only [hk, go_sem, ↓reduceIte, Nat.reduceEqDiff, Nat.reduceAdd, Nat.reduceSub, Nat.reduceMul, Nat.reduceLT, Nat.reduceLeDiff, reduceCtorEq, Int.reduceToNat]) | ((first | refine gd_caseb ?_ ?_ | refine cnd_caseb ?_ ?_) <;> intro hc <;> simp only [hc, go_sem, ↓reduceIte, Nat.reduceEqDiff, Nat.reduceAdd, Nat.reduceSub, Nat.reduceMul, Nat.reduceLT, Nat.reduceLeDiff, reduceCtorEq, Int.reduceToNat] <;> (try simp only [bool_not_true, bool_not_false, decide_eq_true_eq, decide_eq_false_iff_not, Bool.and_eq_true] at hc)) | (refine vi_cond ?_; simp (disch := first | omega | (simp only [List.length_set, List.length_append, List.length_cons, List.length_nil]; done) | (simp only [List.length_set, List.length_append, List.length_cons, List.length_nil]; omega)) only [hk, go_sem, ↓reduceIte, Nat.reduceEqDiff, Nat.reduceAdd, Nat.reduceSub, Nat.reduceMul, Nat.reduceLT, Nat.reduceLeDiff, reduceCtorEq, Int.reduceToNat]) | refine And.intro (by first | assumption | omega | (have := len_pos (by assumption); omega) | (unfold capOK; omega)) ?_ | (simp (disch := omega) only [encs_getN]; (try simp only [go_sem, ↓reduceIte, Nat.reduceEqDiff, Nat.reduceAdd, Nat.reduceSub, Nat.reduceMul, Nat.reduceLT, Nat.reduceLeDiff, reduceCtorEq, Int.reduceToNat])) | (simp (disch := omega) only [wrapS]; (try simp only [go_sem, ↓reduceIte, Nat.reduceEqDiff, Nat.reduceAdd, Nat.reduceSub, Nat.reduceMul, Nat.reduceLT, Nat.reduceLeDiff, reduceCtorEq, Int.reduceToNat])) | ((first | refine vapp_pure0 (ref05_Peek _) fun _ => ?_ | refine vapp_pure0 (ref05_Enter c) fun _ => ?_ | refine vapp_pure0 (ref05_Next _) fun _ => ?_ | refine dapp_pure  (ref05_Peek _) ?_ | refine dapp_pure  (ref05_Enter c) ?_ | refine dapp_pure  (ref05_Next _) ?_); simp only [go_sem, ↓reduceIte, Nat.reduceEqDiff, Nat.reduceAdd, Nat.reduceSub, Nat.reduceMul, Nat.reduceLT, Nat.reduceLeDiff, reduceCtorEq, Int.reduceToNat]))
    refine vi_loop (S := Nat × K × List N) (fun x => x.2.1.good ∧ em x.2.1 ≤ f ∧ refKids (refAt f) x.1 x.2.1 x.2.2 = tg ∧ em x.2.1 < x.1 ∧ x.2.2.length + em x.2.1 ≤ 1048578)
      (refSt (peekK (enterK c).1).pos (peekK (enterK c).1).text) (fun x => em x.2.1) ?_ ?_
    · refine at_of (em (nextK (enterK c).1) + 1, nextK (enterK c).1, []) [0, 1, 2, 4] ⟨g2, hr2, htg, by simp only; omega, ?_⟩ rfl (by simp) ?_ ?_ ?_
      · have h9 := g2.rest
        have h8 := em_le (nextK (enterK c).1)
        unfold rest at h8
        simp only [List.length_nil]
        omega
      all_goals simp only [refSt, encs, accV_nil, accE_nil]
      all_goals simp only [go_sem, ↓reduceIte, Nat.reduceEqDiff, Nat.reduceAdd, Nat.reduceSub, Nat.reduceMul, Nat.reduceLT, Nat.reduceLeDiff, reduceCtorEq, Int.reduceToNat]
    · rintro ⟨fu, d, acc⟩ ⟨i1, i2, i3, i4, i5⟩
      simp only at i1 i2 i3 i4 i5
      unfold refSt
      obtain ⟨fu, rfl⟩ : ∃ k, fu = k + 1 := ⟨fu - 1, by omega⟩
      rw [refKids] at i3
      have hcap : capOK (acc.length + 1) 64 := capN (by omega)
      have j1 : (refAtom (refAt f) d).1.good := (mon_refAtom hm d).1.1 i1
      have j2 : em (refAtom (refAt f) d).1 ≤ em d := (mon_refAtom hm d).em
      by_cases h0 : acc = []
      · subst h0
        simp only [encs, accV_nil, accE_nil]
        repeat' (first | refine vi_seq ?_ | refine vi_block ?_ | refine vi_scope ?_ | ((first | refine vi_reg ?_ | refine vi_regE (by rfl) ?_ | refine vi_regD ?_ | refine vi_label ?_ | refine vi_goto ?_ | refine vi_ret ?_ | refine vi_exit ?_ | refine vi_skip ?_); simp only [go_sem, ↓reduceIte, Nat.reduceEqDiff, Nat.reduceAdd, Nat.reduceSub, Nat.reduceMul, Nat.reduceLT, Nat.reduceLeDiff, reduceCtorEq, Int.reduceToNat]) | ((first | refine gd_caseb ?_ ?_ | refine cnd_caseb ?_ ?_) <;> intro hc <;> simp only [hc, go_sem, ↓reduceIte, Nat.reduceEqDiff, Nat.reduceAdd, Nat.reduceSub, Nat.reduceMul, Nat.reduceLT, Nat.reduceLeDiff, reduceCtorEq, Int.reduceToNat] <;> (try simp only [bool_not_true, bool_not_false, decide_eq_true_eq, decide_eq_false_iff_not, Bool.and_eq_true] at hc)) | (refine vi_cond ?_; simp only [go_sem, ↓reduceIte, Nat.reduceEqDiff, Nat.reduceAdd, Nat.reduceSub, Nat.reduceMul, Nat.reduceLT, Nat.reduceLeDiff, reduceCtorEq, Int.reduceToNat]) | refine And.intro (by first | assumption | omega | (have := len_pos (by assumption); omega) | (unfold capOK; omega)) ?_ | (simp (disch := omega) only [encs_getN]; (try simp only [go_sem, ↓reduceIte, Nat.reduceEqDiff, Nat.reduceAdd, Nat.reduceSub, Nat.reduceMul, Nat.reduceLT, Nat.reduceLeDiff, reduceCtorEq, Int.reduceToNat])) | (simp (disch := omega) only [wrapS]; (try simp only [go_sem, ↓reduceIte, Nat.reduceEqDiff, Nat.reduceAdd, Nat.reduceSub, Nat.reduceMul, Nat.reduceLT, Nat.reduceLeDiff, reduceCtorEq, Int.reduceToNat])) | ((first | refine vapp_pure0 (ref08_begins _) fun _ => ?_ | refine vapp_pure0 (ref08_atom hm ih _ i1 i2) fun _ => ?_ | refine vapp_pure0 (ref05_Leave _ i1.2.2) fun _ => ?_ | refine dapp_pure  (ref08_begins _) ?_ | refine dapp_pure  (ref08_atom hm ih _ i1 i2) ?_ | refine dapp_pure  (ref05_Leave _ i1.2.2) ?_); simp only [go_sem, ↓reduceIte, Nat.reduceEqDiff, Nat.reduceAdd, Nat.reduceSub, Nat.reduceMul, Nat.reduceLT, Nat.reduceLeDiff, reduceCtorEq, Int.reduceToNat]))
        · have hb : begP d = true := by assumption
          rw [if_pos hb] at i3
          have hlt := refAtom_less hm hb
          refine at_of (fu, (refAtom (refAt f) d).1, [] ++ [(refAtom (refAt f) d).2]) [0, 1, 2, 3, 6] ⟨⟨j1, by simp only; omega, i3, by simp only; omega, ?_⟩, by simp only; omega⟩ rfl (by simp) ?_ ?_ ?_
          · simp only [List.length_append, List.length_cons, List.length_nil]; omega
          all_goals simp only [refSt, ← encs_snoc, accV_snoc, accE_snoc, List.nil_append, encs, accV_one, accE_one]
          all_goals simp only [go_sem, ↓reduceIte, Nat.reduceEqDiff, Nat.reduceAdd, Nat.reduceSub, Nat.reduceMul, Nat.reduceLT, Nat.reduceLeDiff, reduceCtorEq, Int.reduceToNat]
        · have hb : begP d = false := by assumption
          rw [if_neg (by rw [hb]; simp)] at i3
          subst i3
          rfl
      · have hne := encs_ne h0
        simp only [accV_ne hne, accE_ne hne, encs_len]
        repeat' (first | refine vi_seq ?_ | refine vi_block ?_ | refine vi_scope ?_ | ((first | refine vi_reg ?_ | refine vi_regE (by rfl) ?_ | refine vi_regD ?_ | refine vi_label ?_ | refine vi_goto ?_ | refine vi_ret ?_ | refine vi_exit ?_ | refine vi_skip ?_); simp only [go_sem, ↓reduceIte, Nat.reduceEqDiff, Nat.reduceAdd, Nat.reduceSub, Nat.reduceMul, Nat.reduceLT, Nat.reduceLeDiff, reduceCtorEq, Int.reduceToNat]) | ((first | refine gd_caseb ?_ ?_ | refine cnd_caseb ?_ ?_) <;> intro hc <;> simp only [hc, go_sem, ↓reduceIte, Nat.reduceEqDiff, Nat.reduceAdd, Nat.reduceSub, Nat.reduceMul, Nat.reduceLT, Nat.reduceLeDiff, reduceCtorEq, Int.reduceToNat] <;> (try simp only [bool_not_true, bool_not_false, decide_eq_true_eq, decide_eq_false_iff_not, Bool.and_eq_true] at hc)) | (refine vi_cond ?_; simp only [go_sem, ↓reduceIte, Nat.reduceEqDiff, Nat.reduceAdd, Nat.reduceSub, Nat.reduceMul, Nat.reduceLT, Nat.reduceLeDiff, reduceCtorEq, Int.reduceToNat]) | refine And.intro (by first | assumption | omega | (have := len_pos (by assumption); omega) | (unfold capOK; omega)) ?_ | (simp (disch := omega) only [encs_getN]; (try simp only [go_sem, ↓reduceIte, Nat.reduceEqDiff, Nat.reduceAdd, Nat.reduceSub, Nat.reduceMul, Nat.reduceLT, Nat.reduceLeDiff, reduceCtorEq, Int.reduceToNat])) | (simp (disch := omega) only [wrapS]; (try simp only [go_sem, ↓reduceIte, Nat.reduceEqDiff, Nat.reduceAdd, Nat.reduceSub, Nat.reduceMul, Nat.reduceLT, Nat.reduceLeDiff, reduceCtorEq, Int.reduceToNat])) | ((first | refine vapp_pure0 (ref08_begins _) fun _ => ?_ | refine vapp_pure0 (ref08_atom hm ih _ i1 i2) fun _ => ?_ | refine vapp_pure0 (ref05_Leave _ i1.2.2) fun _ => ?_ | refine dapp_pure  (ref08_begins _) ?_ | refine dapp_pure  (ref08_atom hm ih _ i1 i2) ?_ | refine dapp_pure  (ref05_Leave _ i1.2.2) ?_); simp only [go_sem, ↓reduceIte, Nat.reduceEqDiff, Nat.reduceAdd, Nat.reduceSub, Nat.reduceMul, Nat.reduceLT, Nat.reduceLeDiff, reduceCtorEq, Int.reduceToNat]))
        · have hb : begP d = true := by assumption
          rw [if_pos hb] at i3
          have hlt := refAtom_less hm hb
          refine at_of (fu, (refAtom (refAt f) d).1, acc ++ [(refAtom (refAt f) d).2]) [0, 1, 2, 3, 7] ⟨⟨j1, by simp only; omega, i3, by simp only; omega, ?_⟩, by simp only; omega⟩ rfl (by simp) ?_ ?_ ?_
          · simp only [List.length_append, List.length_cons, List.length_nil]; omega
          all_goals simp only [refSt, ← encs_snoc, accV_snoc, accE_snoc, List.nil_append, encs, accV_one, accE_one]
          all_goals simp only [go_sem, ↓reduceIte, Nat.reduceEqDiff, Nat.reduceAdd, Nat.reduceSub, Nat.reduceMul, Nat.reduceLT, Nat.reduceLeDiff, reduceCtorEq, Int.reduceToNat]
          rw [encs_snoc, encs_bd, encs_ren]; exact ⟨rfl, rfl⟩
        · have hb : begP d = false := by assumption
          rw [if_neg (by rw [hb]; simp)] at i3
          subst i3
          rfl
  · have hpa : refAt (f + 1) c = (leaveK (refAtom (refAt f) (enterK c).1).1, (refAtom (refAt f) (enterK c).1).2) := by rw [refAt, if_neg hk]
    rw [hpa]
    have j1 : (refAtom (refAt f) (enterK c).1).1.good := (mon_refAtom hm _).1.1 g1
    repeat' (first | refine vi_seq ?_ | refine vi_block ?_ | refine vi_scope ?_ | ((first | refine vi_reg ?_ | refine vi_regE (by rfl) ?_ | refine vi_regD ?_ | refine vi_label ?_ | refine vi_goto ?_ | refine vi_ret ?_ | refine vi_exit ?_ | refine vi_skip ?_); simp (disch := first | omega | (simp only [List.length_set, List.length_append, List.length_cons, List.length_nil]; done) | (simp only [List.length_set, List.length_append, List.length_cons, List.length_nil]; omega)) only [hk, go_sem, ↓reduceIte, Nat.reduceEqDiff, Nat.reduceAdd, Nat.reduceSub, Nat.reduceMul, Nat.reduceLT, Nat.reduceLeDiff, reduceCtorEq, Int.reduceToNat]) | ((first | refine gd_caseb ?_ ?_ | refine cnd_caseb ?_ ?_) <;> intro hc <;> simp only [hc, go_sem, ↓reduceIte, Nat.reduceEqDiff, Nat.reduceAdd, Nat.reduceSub, Nat.reduceMul, Nat.reduceLT, Nat.reduceLeDiff, reduceCtorEq, Int.reduceToNat] <;> (try simp only [bool_not_true, bool_not_false, decide_eq_true_eq, decide_eq_false_iff_not, Bool.and_eq_true] at hc)) | (refine vi_cond ?_; simp (disch := first | omega | (simp only [List.length_set, List.length_append, List.length_cons, List.length_nil]; done) | (simp only [List.length_set, List.length_append, List.length_cons, List.length_nil]; omega)) only [hk, go_sem, ↓reduceIte, Nat.reduceEqDiff, Nat.reduceAdd, Nat.reduceSub, Nat.reduceMul, Nat.reduceLT, Nat.reduceLeDiff, reduceCtorEq, Int.reduceToNat]) | refine And.intro (by first | assumption | omega | (have := len_pos (by assumption); omega) | (unfold capOK; omega)) ?_ | (simp (disch := omega) only [encs_getN]; (try simp only [go_sem, ↓reduceIte, Nat.reduceEqDiff, Nat.reduceAdd, Nat.reduceSub, Nat.reduceMul, Nat.reduceLT, Nat.reduceLeDiff, reduceCtorEq, Int.reduceToNat])) | (simp (disch := omega) only [wrapS]; (try simp only [go_sem, ↓reduceIte, Nat.reduceEqDiff, Nat.reduceAdd, Nat.reduceSub, Nat.reduceMul, Nat.reduceLT, Nat.reduceLeDiff, reduceCtorEq, Int.reduceToNat])) | ((first | refine vapp_pure0 (ref05_Peek _) fun _ => ?_ | refine vapp_pure0 (ref05_Enter c) fun _ => ?_ | refine vapp_pure0 (ref08_atom hm ih _ g1 hr1) fun _ => ?_ | refine vapp_pure0 (ref05_Leave _ j1.2.2) fun _ => ?_ | refine dapp_pure  (ref05_Peek _) ?_ | refine dapp_pure  (ref05_Enter c) ?_ | refine dapp_pure  (ref08_atom hm ih _ g1 hr1) ?_ | refine dapp_pure  (ref05_Leave _ j1.2.2) ?_); simp only [go_sem, ↓reduceIte, Nat.reduceEqDiff, Nat.reduceAdd, Nat.reduceSub, Nat.reduceMul, Nat.reduceLT, Nat.reduceLeDiff, reduceCtorEq, Int.reduceToNat]))
theorem ref08_At (f : Nat) : ∀ c : K, c.good → em c < f → VPure Try.prog 24 [refC c] (.tup [refC (refAt f c).1, enc (refAt f c).2]) := by
  induction f with
  | zero => exact fun c _ h => absurd h (by omega)
  | succ f ih => exact ref08_At_step ih

/-! What both read. -/
/-- The program's state is the reference's, and so is the tree, if there is one; else something failed. -/
def Alike (p : K × Option N) (r : K × N) : Prop := p.1 = r.1 ∧ (∀ n, p.2 = some n → n = r.2) ∧ (p.2 = none → p.1.err ≠ 0)
theorem wantK_is {c : K} {x : List UInt8} (h : isK c x = true) : wantK c x = (nextK c, true) := if_pos h
theorem refAtom_err {rec : K → K × N} {c : K} (h : c.err ≠ 0) : refAtom rec c = (c, N0) := by
  rw [refAtom, if_neg (by rw [beg_bad h]; simp), failK_err h]
theorem refKids_err {rec : K → K × N} {c : K} (h : c.err ≠ 0) (f : Nat) (acc : List N) : refKids rec f c acc = (c, acc) := by
  cases f with
  | zero => rfl
  | succ f => rw [refKids, if_neg (by rw [beg_bad h]; simp)]
theorem refAt_err (f : Nat) {c : K} (h : c.err ≠ 0) : refAt f c = (c, N0) := by
  cases f with
  | zero => rfl
  | succ f => rw [refAt, enterK_err h, peekK_err h, if_neg (by decide), refAtom_err h, leave_bad h]
section
variable {rp : K → K × Option N} {rr : K → K × N} {b : Nat} (hx : ∀ c : K, c.err ≠ 0 → (rr c).1 = c) (ih : ∀ c, em c < b → Alike (rp c) (rr c))
include hx ih
theorem alike_atom {c : K} (hr : em c ≤ b) : Alike (patAtom rp c) (refAtom rr c) := by
  unfold patAtom refAtom
  by_cases hl : (leafP c).isSome = true
  · have hk : ¬ isK c [40] = true := by
      intro h
      obtain ⟨n, hn⟩ := Option.isSome_iff_exists.1 hl
      simp only [isK, wordW, Bool.and_eq_true, Bool.or_eq_true, decide_eq_true_eq] at h
      unfold leafP at hn
      rw [if_neg (by omega), if_neg (by omega), if_neg (by omega), if_neg (by simp [isK, wordW, h.2.2])] at hn
      cases hn
    rw [if_pos hl, if_pos (show begP c = true by simp [begP, hl]), if_neg hk]
    exact ⟨rfl, fun n h => by simp only at h ⊢; rw [h]; rfl, fun h => by simp only at h; rw [h] at hl; cases hl⟩
  · rw [if_neg hl]
    by_cases hk : isK c [40] = true
    · rw [if_pos hk, if_pos (show begP c = true by simp [begP, hk]), if_pos hk]
      have hem := em_paren hk
      by_cases he : (enterK c).2 = true
      · rw [if_pos he]
        have hk' : isK (enterK c).1 [40] = true := by rw [isK_enter he]; exact hk
        rw [wantK_is hk'] at hem ⊢
        simp only at hem ⊢
        obtain ⟨a1, a2, a3⟩ := ih (nextK (enterK c).1) (by omega)
        rw [← a1]
        generalize rp (nextK (enterK c).1) = r at *
        obtain ⟨d, o⟩ := r
        simp only at a1 a2 a3 ⊢
        cases o with
        | none =>
          have h3 := a3 rfl
          rw [if_neg (by simp), want_err h3, leave_bad h3]
          exact ⟨rfl, (fun n h => by cases h), fun _ => h3⟩
        | some n =>
          rw [if_pos (by rfl)]
          by_cases hw : (wantK d [41]).2 = true
          · rw [if_pos hw]
            exact ⟨rfl, fun m h => a2 m h, (fun h => by cases h)⟩
          · rw [if_neg hw]
            have h3 := want_bad (by simpa using hw)
            exact ⟨(leave_bad h3).symm, (fun n h => by cases h), fun _ => h3⟩
      · have he' : (enterK c).2 = false := by simpa using he
        have h1 := enter_bad he'
        rw [if_neg he]
        rw [want_err h1] at hem ⊢
        simp only at hem ⊢
        rw [hx _ h1, want_err h1, leave_bad h1]
        exact ⟨rfl, (fun n h => by cases h), fun _ => h1⟩
    · rw [if_neg hk, if_neg (show ¬ begP c = true by simp [begP, hl, hk])]
      exact ⟨rfl, (fun n h => by cases h), fun _ => fail_err c⟩
theorem alike_kids (hp : ∀ c, Mono c (rp c).1) (hm : ∀ c, Mon c (rr c).1) : ∀ (f g : Nat) (c : K) (acc : List N), rest c < f → em c < g → em c ≤ b →
    (kidsP rp f c acc).1 = (refKids rr g c acc).1 ∧ (∀ l, (kidsP rp f c acc).2 = some l → l = (refKids rr g c acc).2) ∧ ((kidsP rp f c acc).2 = none → (kidsP rp f c acc).1.err ≠ 0)
  | 0, _, _, _ => fun h _ _ => by omega
  | _, 0, _, _ => fun _ h _ => by omega
  | f + 1, g + 1, c, acc => fun hf hg hb => by
    rw [kidsP, refKids]
    by_cases hk : begP c = true
    · rw [if_pos hk, if_pos hk]
      obtain ⟨a1, a2, a3⟩ := alike_atom hx ih hb
      have hl := refAtom_less hm hk
      rw [← a1] at hl ⊢
      cases ho : (patAtom rp c).2 with
      | none =>
        have h3 := a3 ho
        rw [if_neg (by simp), refKids_err h3]
        exact ⟨rfl, (fun n h => by cases h), fun _ => h3⟩
      | some n =>
        rw [if_pos (by rfl), ← a2 n ho]
        exact alike_kids hp hm f g _ _ (by have := atom_less hp (c := c) (by rw [ho]; rfl); omega) (by omega) (by omega)
    · rw [if_neg hk, if_neg hk]
      exact ⟨rfl, (fun l h => by cases h; rfl), (fun h => by cases h)⟩
end
theorem alike_At : ∀ (f : Nat) (c : K), em c < f → Alike (patAt f c) (refAt f c)
  | 0, _ => fun h => by omega
  | f + 1, c => fun hf => by
    have ih := alike_At f
    have hx : ∀ c : K, c.err ≠ 0 → (refAt f c).1 = c := fun c h => by rw [refAt_err f h]
    by_cases he : (enterK c).2 = true
    · have h1 := (mon_enter c).em
      rw [patAt, refAt, if_pos he]
      by_cases hk : (peekK (enterK c).1).kind = 2
      · rw [if_pos hk, if_pos hk]
        have hr := rest_next (c := (enterK c).1) (by omega)
        obtain ⟨a1, a2, a3⟩ := alike_kids hx ih (mono_patAt f) (mon_refAt f) (rest (enterK c).1 + 1) (em (nextK (enterK c).1) + 1) (nextK (enterK c).1) [] (by omega) (by omega) (by have := (mon_next (enterK c).1).em; omega)
        rw [← a1]
        generalize kidsP (patAt f) (rest (enterK c).1 + 1) (nextK (enterK c).1) [] = r at *
        obtain ⟨d, o⟩ := r
        cases o with
        | none =>
          have h3 := a3 rfl
          simp only at h3
          refine ⟨rfl, (fun n h => by cases h), fun _ => ?_⟩
          simp only
          rwa [leave_bad h3]
        | some l => exact ⟨rfl, (fun n h => by cases h; rw [a2 l rfl]), (fun h => by cases h)⟩
      · rw [if_neg hk, if_neg hk]
        obtain ⟨a1, a2, a3⟩ := alike_atom hx ih (c := (enterK c).1) (by omega)
        rw [← a1]
        exact ⟨rfl, a2, fun h => by simp only at h ⊢; rw [leave_bad (a3 h)]; exact a3 h⟩
    · have he' : (enterK c).2 = false := by simpa using he
      have h1 := enter_bad he'
      rw [patAt, if_neg he, refAt, peekK_err h1, if_neg (by decide), refAtom_err h1]
      exact ⟨(leave_bad h1).symm, (fun n h => by cases h), fun _ => h1⟩
end Go.Proofs.Ytaoiamkloigfhaa
