/- Texts of this proof, joined. -/
import Derived.Test.YtjigahnncojikaaPay
import Derived.Test.YtjigahnncojikaaPaz
import Derived.Test.YtjigahnncojikaaPba

/- types: contexts: the program -/
set_option maxRecDepth 4000
namespace Go.Proofs.Ytjigahnncojikaa
open Go Go.RowKit Go.V
set_option linter.unusedVariables false
set_option linter.unusedSimpArgs false

theorem mon_kind (c : K) (k : Int) : Mon c (kindK c k).1 := by
  unfold kindK
  split
  · exact mon_next c
  · exact mon_fail c 5
theorem kind_err {c : K} {k : Int} (h : (kindK c k).2 = true) : c.err = 0 ∧ (peekK c).kind = k := by
  unfold kindK at h
  split at h
  · rename_i h1
    simp only [Bool.and_eq_true, decide_eq_true_eq] at h1
    exact h1
  · cases h
theorem kind_is {c : K} {k : Int} (h : (kindK c k).2 = true) : kindK c k = (nextK c, true) ∧ kindT c k = peekK c := by
  obtain ⟨h1, h2⟩ := kind_err h
  exact ⟨kindK_t h1 h2, kindT_t h1 h2⟩
theorem kind_bad {c : K} {k : Int} (h : (kindK c k).2 = false) : (kindK c k).1.err ≠ 0 := by
  unfold kindK at h ⊢
  split at h
  · cases h
  · rename_i h1; rw [if_neg h1]; exact fail_err c
def failT (c : K) : Bool := !decide ((doneK c).2 = 0) && (!decide ((doneK c).2 = 5) || decide ((peekK c).kind = 0))
theorem typ_failed (c : K) (hk : c.ok) : VMeth Try.prog 51 (curE c) (curE c) [.ptr 0 0] (.bool (failT c)) := by
  refine vcalls_of c0q 1 (by simp) (by simp) ?_
  repeat' (first | refine vi_seq ?_ | refine vi_block ?_ | refine vi_scope ?_ | ((first | refine vi_reg ?_ | refine vi_regE (by rfl) ?_ | refine vi_regD ?_ | refine vi_label ?_ | refine vi_goto ?_ | refine vi_ret ?_ | refine vi_exit ?_ | refine vi_skip ?_ | refine vi_cond ?_ | refine a_Done hk ?_ | refine a_Peek ?_); simp only [go_sem, ↓reduceIte, Nat.reduceEqDiff, Nat.reduceAdd, Nat.reduceSub, Nat.reduceMul, Nat.reduceLT, Nat.reduceLeDiff, reduceCtorEq, Int.reduceToNat]) | ((first | refine gd_caseb ?_ ?_ | refine cnd_caseb ?_ ?_) <;> intro hc <;> simp only [hc, go_sem, ↓reduceIte, Nat.reduceEqDiff, Nat.reduceAdd, Nat.reduceSub, Nat.reduceMul, Nat.reduceLT, Nat.reduceLeDiff, reduceCtorEq, Int.reduceToNat] <;> (try simp only [bool_not_true, bool_not_false, decide_eq_true_eq, decide_eq_false_iff_not, Bool.and_eq_true] at hc)) | refine And.intro (by first | assumption | omega | (have := len_pos (by assumption); omega) | (unfold capOK; omega)) ?_ | ((first | simp (disch := omega) only [encs_getN] | simp (disch := omega) only [wrapS]); (try simp only [go_sem, ↓reduceIte, Nat.reduceEqDiff, Nat.reduceAdd, Nat.reduceSub, Nat.reduceMul, Nat.reduceLT, Nat.reduceLeDiff, reduceCtorEq, Int.reduceToNat])))
  all_goals (unfold failT; simp_all)
theorem a_failT {c : K} {L : List Ent} {Q : List Ent → VO → Prop} (hk : c.ok) (hq : Q (curE c :: L) (.val (.bool (failT c)))) : VApp Try.prog (curE c :: L) (.fn 51 [] []) [.ptr 0 0] Q := vmeth_app (typ_failed c hk) (curE_bd _ _) (curE_bd _ _) rfl rfl fun _ => hq
def predN (t : T) (n : N) : N := .mk 3 t.pos 0 t.text [n]
def typPred (rec : K → K × Option N) (c : K) : K × Option N :=
  if (kindK c 2).2 = true then ((typAtom rec (kindK c 2).1).1, (typAtom rec (kindK c 2).1).2.map (predN (kindT c 2)))
  else ((kindK c 2).1, none)
theorem a_tellPred {c : K} {L : List Ent} {t : T} {n : N} {b : Bool} {Q : List Ent → VO → Prop} (hq : Q (curE c :: L) (.val (resP (tellN (predN t n) b)))) :
    VApp Try.prog (curE c :: L) (.fn 43 [] []) [.ptr 0 0, .agg [.int .i64 3, .int .i64 t.pos, .int .i64 0, .str t.text, .sl 5 [enc n]], .bool b] Q := by
  have h := a_told (n := predN t n) hq
  simpa only [predN, enc, encs] using h
theorem tell_pred {r : Option N} {t : T} : tellN (predN t (r.getD N0)) r.isSome = r.map (predN t) := tell_map
section
variable {rec : K → K × Option N} {b : Nat} (hm : ∀ c, Mon c (rec c).1) (ih : ∀ c, c.good → rest c < b → VMeth Try.prog 20 (curE c) (curE (rec c).1) [.ptr 0 0] (resP (rec c).2))
include hm ih
theorem typ_pred (c : K) (hg : c.good) (hr : rest c ≤ b) : VMeth Try.prog 53 (curE c) (curE (typPred rec c).1) [.ptr 0 0] (resP (typPred rec c).2) := by
  have g1 : (kindK c 2).1.good := (mon_kind c 2).1 hg
  have hr1 : rest (kindK c 2).1 ≤ b := by have := (mon_kind c 2).2.1; omega
  refine vcalls_of c0r 1 (by simp) (by simp) ?_
  repeat' (first | refine vi_seq ?_ | refine vi_block ?_ | refine vi_scope ?_ | ((first | refine vi_reg ?_ | refine vi_regE (by rfl) ?_ | refine vi_regD ?_ | refine vi_label ?_ | refine vi_goto ?_ | refine vi_ret ?_ | refine vi_exit ?_ | refine vi_skip ?_ | refine vi_cond ?_ | refine a_Kind hg.ok ?_ | refine m_app (typ_AtomAt hm ih _ g1 hr1) rfl ?_ | refine a_tellPred ?_); simp only [go_sem, ↓reduceIte, Nat.reduceEqDiff, Nat.reduceAdd, Nat.reduceSub, Nat.reduceMul, Nat.reduceLT, Nat.reduceLeDiff, reduceCtorEq, Int.reduceToNat]) | ((first | refine gd_caseb ?_ ?_ | refine cnd_caseb ?_ ?_) <;> intro hc <;> simp only [hc, go_sem, ↓reduceIte, Nat.reduceEqDiff, Nat.reduceAdd, Nat.reduceSub, Nat.reduceMul, Nat.reduceLT, Nat.reduceLeDiff, reduceCtorEq, Int.reduceToNat] <;> (try simp only [bool_not_true, bool_not_false, decide_eq_true_eq, decide_eq_false_iff_not, Bool.and_eq_true] at hc)) | refine And.intro (by first | assumption | omega | (have := len_pos (by assumption); omega) | (unfold capOK; omega)) ?_ | ((first | simp (disch := omega) only [encs_getN] | simp (disch := omega) only [wrapS]); (try simp only [go_sem, ↓reduceIte, Nat.reduceEqDiff, Nat.reduceAdd, Nat.reduceSub, Nat.reduceMul, Nat.reduceLT, Nat.reduceLeDiff, reduceCtorEq, Int.reduceToNat])))
  all_goals (try simp only [tell_pred])
  all_goals (unfold typPred; simp only [*, enc_z, Int.reduceEq, if_true, if_false, reduceIte, Bool.false_eq_true, Option.getD_none, Option.getD_some, Option.isSome_none, Option.isSome_some, and_self, true_and, and_true]; try rfl)
end
end Go.Proofs.Ytjigahnncojikaa

/- types: contexts: a row of predicates -/
set_option maxRecDepth 4000
namespace Go.Proofs.Ytjigahnncojikaa
open Go Go.RowKit Go.V
set_option linter.unusedVariables false
set_option linter.unusedSimpArgs false

def predsL (rec : K → K × Option N) (many : Bool) : Nat → K → List N → K × Option (List N)
  | 0, c, _ => (c, none)
  | f + 1, c, acc =>
    if (typPred rec c).2.isSome = true then
      if (many && (takeK (typPred rec c).1 [44]).2) = true then predsL rec many f (takeK (typPred rec c).1 [44]).1 (acc ++ [(typPred rec c).2.getD N0])
      else ((typPred rec c).1, some (acc ++ [(typPred rec c).2.getD N0]))
    else ((typPred rec c).1, none)
def predsE (many : Bool) (r : K × Option (List N)) : K × Option (List N) :=
  if r.2.isSome = true then
    if many = true then
      if (wantK r.1 [41]).2 = true then ((wantK (wantK r.1 [41]).1 [61, 62]).1, if (wantK (wantK r.1 [41]).1 [61, 62]).2 = true then r.2 else none)
      else ((wantK r.1 [41]).1, none)
    else ((wantK r.1 [61, 62]).1, if (wantK r.1 [61, 62]).2 = true then r.2 else none)
  else (r.1, none)
def predsB (rec : K → K × Option N) (c : K) : K × Option (List N) :=
  if ((takeK c [40]).2 && isK (takeK c [40]).1 [41]) = true then ((takeK c [40]).1, some []) else predsL rec (takeK c [40]).2 (rest (takeK c [40]).1 + 1) (takeK c [40]).1 []
def typPreds (rec : K → K × Option N) (c : K) : K × Option (List N) :=
  if aheadK c [61, 62] = true then predsE (takeK c [40]).2 (predsB rec c)
  else (c, if failT c = true then none else some [])
section
variable {rec : K → K × Option N} (hm : ∀ c, Mon c (rec c).1)
include hm
theorem mon_typPred (c : K) : Mon c (typPred rec c).1 := by
  unfold typPred
  split
  · exact (mon_kind c 2).trans (mon_typAtom hm _)
  · exact mon_kind c 2
theorem typPred_less {c : K} (h : (typPred rec c).2.isSome = true) : rest (typPred rec c).1 < rest c := by
  unfold typPred at h ⊢
  split at h
  · rename_i h1
    rw [if_pos h1]
    have h2 := (mon_kind c 2).2.1
    have h3 := typAtom_less hm (c := (kindK c 2).1) (by simpa using h)
    simp only; omega
  · cases h
theorem mon_predsL (many : Bool) : ∀ (f : Nat) (c : K) (acc : List N), Mon c (predsL rec many f c acc).1
  | 0, c, acc => Mon.refl c
  | f + 1, c, acc => by
    rw [predsL]
    split
    · split
      · exact ((mon_typPred hm c).trans (mon_take _ _)).trans (mon_predsL many f _ _)
      · exact mon_typPred hm c
    · exact mon_typPred hm c
theorem mon_predsB (c : K) : Mon c (predsB rec c).1 := by
  unfold predsB
  split
  · exact mon_take c _
  · exact (mon_take c _).trans (mon_predsL hm _ _ _ _)
theorem mon_typPreds (c : K) : Mon c (typPreds rec c).1 := by
  unfold typPreds predsE
  have h := mon_predsB hm c
  split
  · split
    · split
      · split
        · exact (h.trans (mon_want _ _)).trans (mon_want _ _)
        · exact h.trans (mon_want _ _)
      · exact h.trans (mon_want _ _)
    · exact h
  · exact Mon.refl c
end
def predR (p : Nat) (r : Option (List N)) : AV := .tup [accV p (encs (r.getD [])), .bool r.isSome]
def PredsSpec (rec : K → K × Option N) (c : K) : Prop := VCalls Try.prog 18 [curE c] [.ptr 0 0] fun H' o => H' = curE (typPreds rec c).1 :: accE 5 (encs ((typPreds rec c).2.getD [])) ∧ o = .val (predR 1 (typPreds rec c).2)
def preSt (many : Bool) (x : Bool × Nat × K × List N) : AF × List Ent :=
  (⟨[(0, .ptr 0 0), (4, accV 1 (encs x.2.2.2)), (5, .bool many), (6, .bool x.1)], []⟩, curE x.2.2.1 :: accE 5 (encs x.2.2.2))
section
variable {rec : K → K × Option N} {b : Nat} (hm : ∀ c, Mon c (rec c).1) (ih : ∀ c, c.good → rest c < b → VMeth Try.prog 20 (curE c) (curE (rec c).1) [.ptr 0 0] (resP (rec c).2))
include hm ih
theorem typ_PredsAt (c : K) (hg : c.good) (hr : rest c ≤ b) : PredsSpec rec c := by
  unfold PredsSpec
  obtain ⟨kk, hk1, hk2, hk0⟩ : ∃ k : Nat, ((typPreds rec c).2.getD [] = [] → k = 1) ∧ ((typPreds rec c).2.getD [] ≠ [] → k = 2) ∧ 1 ≤ k := by
    by_cases h : (typPreds rec c).2.getD [] = []
    · exact ⟨1, fun _ => rfl, fun g => absurd h g, by omega⟩
    · exact ⟨2, fun g => absurd g h, fun _ => rfl, by omega⟩
  refine vcalls_raw c0p kk (by simpa using hk0) (by simp) ?_
  have g1 : (takeK c [40]).1.good := (mon_take c _).1 hg
  have hr1 : rest (takeK c [40]).1 ≤ b := by have := (mon_take c [40]).2.1; omega
  by_cases ha : aheadK c [61, 62] = true
  · have hpa : typPreds rec c = predsE (takeK c [40]).2 (predsB rec c) := by rw [typPreds, if_pos ha]
    rw [hpa] at hk1 hk2 ⊢
    clear hpa
    unfold predsB at hk1 hk2 ⊢
    generalize htg : (if ((takeK c [40]).2 && isK (takeK c [40]).1 [41]) = true then ((takeK c [40]).1, some []) else predsL rec (takeK c [40]).2 (rest (takeK c [40]).1 + 1) (takeK c [40]).1 []) = tg at hk1 hk2 ⊢
    generalize hd0 : (takeK c [40]).1 = d0 at *
    generalize hmn : (takeK c [40]).2 = many at *
    have h0t : (!(many && isK d0 [41])) = true → predsL rec many (rest d0 + 1) d0 [] = tg := fun h => by
      rw [Bool.not_eq_true'] at h
      rw [← htg, if_neg (by rw [h]; simp)]
    have h0f : (!(many && isK d0 [41])) = false → tg = (d0, some []) := fun h => by
      rw [Bool.not_eq_false'] at h
      rw [← htg, if_pos h]
    clear htg
    obtain ⟨mm, hmm⟩ : ∃ mm, mm = many := ⟨_, rfl⟩
    cases many <;> (
      repeat' (first | refine vi_seq ?_ | refine vi_block ?_ | refine vi_scope ?_ | ((first | refine vi_reg ?_ | refine vi_regE (by rfl) ?_ | refine vi_regD ?_ | refine vi_label ?_ | refine vi_goto ?_ | refine vi_ret ?_ | refine vi_exit ?_ | refine vi_skip ?_ | refine vi_cond ?_); simp (disch := first | omega | (simp only [List.length_set, List.length_append, List.length_cons, List.length_nil]; done) | (simp only [List.length_set, List.length_append, List.length_cons, List.length_nil]; omega)) only [ha, hd0, hmn, go_sem, ↓reduceIte, Nat.reduceEqDiff, Nat.reduceAdd, Nat.reduceSub, Nat.reduceMul, Nat.reduceLT, Nat.reduceLeDiff, reduceCtorEq, Int.reduceToNat]) | ((first | refine gd_caseb ?_ ?_ | refine cnd_caseb ?_ ?_) <;> intro hc <;> simp only [hc, go_sem, ↓reduceIte, Nat.reduceEqDiff, Nat.reduceAdd, Nat.reduceSub, Nat.reduceMul, Nat.reduceLT, Nat.reduceLeDiff, reduceCtorEq, Int.reduceToNat] <;> (try simp only [bool_not_true, bool_not_false, decide_eq_true_eq, decide_eq_false_iff_not, Bool.and_eq_true] at hc)) | refine And.intro (by first | assumption | omega | (have := len_pos (by assumption); omega) | (unfold capOK; omega)) ?_ | ((first | simp (disch := omega) only [encs_getN] | simp (disch := omega) only [wrapS]); (try simp only [go_sem, ↓reduceIte, Nat.reduceEqDiff, Nat.reduceAdd, Nat.reduceSub, Nat.reduceMul, Nat.reduceLT, Nat.reduceLeDiff, reduceCtorEq, Int.reduceToNat])) | ((first | refine a_Ahead hg.ok hg.2.1 ?_ | refine a_Take hg.ok ?_ | refine a_Is ?_); simp only [go_sem, ↓reduceIte, Nat.reduceEqDiff, Nat.reduceAdd, Nat.reduceSub, Nat.reduceMul, Nat.reduceLT, Nat.reduceLeDiff, reduceCtorEq, Int.reduceToNat]))
      refine vi_loop (S := Bool × Nat × K × List N) (fun x => x.2.2.1.good ∧ rest x.2.2.1 ≤ b ∧ (x.1 = true → predsL rec mm x.2.1 x.2.2.1 x.2.2.2 = tg ∧ rest x.2.2.1 < x.2.1) ∧ (x.1 = false → tg = (x.2.2.1, some x.2.2.2)) ∧ x.2.2.2.length + rest x.2.2.1 ≤ 1048577)
        (preSt mm) (fun x => if x.1 = true then rest x.2.2.1 + 1 else 0) ?_ ?_
      · refine at_of (!(mm && isK d0 [41]), rest d0 + 1, d0, []) [0] ⟨g1, hr1, fun h => ⟨by rw [hmm]; exact h0t (by simp only [hmm] at h; exact h), Nat.lt_succ_self _⟩, fun h => h0f (by simp only [hmm] at h; exact h), ?_⟩ rfl (by simp) ?_ ?_ ?_
        · have h9 := g1.rest
          unfold rest
          simp only [List.length_nil]
          omega
        all_goals simp only [preSt, encs, accV_nil, accE_nil, hmm, Bool.false_and, Bool.true_and, Bool.not_false]
        all_goals simp only [go_sem, ↓reduceIte, Nat.reduceEqDiff, Nat.reduceAdd, Nat.reduceSub, Nat.reduceMul, Nat.reduceLT, Nat.reduceLeDiff, reduceCtorEq, Int.reduceToNat]
      · rintro ⟨more, fu, d, acc⟩ ⟨i1, i2, i3, i4, i5⟩
        simp only at i1 i2 i3 i4 i5
        unfold preSt
        have hcap : capOK (acc.length + 1) 64 := capN (by omega)
        cases more with
        | false =>
          have i4 := i4 rfl
          subst i4
          clear i3
          by_cases hE : (predsE mm (d, some acc)).2.getD [] = []
          · simp only [hmm] at hE
            obtain rfl := hk1 hE
            by_cases h0 : acc = []
            · subst h0
              simp only [encs, accV_nil, accE_nil, hmm]
              repeat' (first | refine vi_seq ?_ | refine vi_block ?_ | refine vi_scope ?_ | ((first | refine vi_reg ?_ | refine vi_regE (by rfl) ?_ | refine vi_regD ?_ | refine vi_label ?_ | refine vi_goto ?_ | refine vi_ret ?_ | refine vi_exit ?_ | refine vi_skip ?_ | refine vi_cond ?_); simp (disch := first | omega | (simp only [List.length_set, List.length_append, List.length_cons, List.length_nil]; done) | (simp only [List.length_set, List.length_append, List.length_cons, List.length_nil]; omega)) only [hmm, go_sem, ↓reduceIte, Nat.reduceEqDiff, Nat.reduceAdd, Nat.reduceSub, Nat.reduceMul, Nat.reduceLT, Nat.reduceLeDiff, reduceCtorEq, Int.reduceToNat]) | ((first | refine gd_caseb ?_ ?_ | refine cnd_caseb ?_ ?_) <;> intro hc <;> simp only [hc, go_sem, ↓reduceIte, Nat.reduceEqDiff, Nat.reduceAdd, Nat.reduceSub, Nat.reduceMul, Nat.reduceLT, Nat.reduceLeDiff, reduceCtorEq, Int.reduceToNat] <;> (try simp only [bool_not_true, bool_not_false, decide_eq_true_eq, decide_eq_false_iff_not, Bool.and_eq_true] at hc)) | refine And.intro (by first | assumption | omega | (have := len_pos (by assumption); omega) | (unfold capOK; omega)) ?_ | ((first | simp (disch := omega) only [encs_getN] | simp (disch := omega) only [wrapS]); (try simp only [go_sem, ↓reduceIte, Nat.reduceEqDiff, Nat.reduceAdd, Nat.reduceSub, Nat.reduceMul, Nat.reduceLT, Nat.reduceLeDiff, reduceCtorEq, Int.reduceToNat])) | ((first | refine a_Want i1.ok ?_ | refine a_Want ((mon_want d _).1 i1).ok ?_); simp only [go_sem, ↓reduceIte, Nat.reduceEqDiff, Nat.reduceAdd, Nat.reduceSub, Nat.reduceMul, Nat.reduceLT, Nat.reduceLeDiff, reduceCtorEq, Int.reduceToNat]))
              all_goals (unfold predsE; simp only [*, predR, encs, accV_nil, accE_nil, if_true, if_false, reduceIte, Bool.false_eq_true, Option.isSome_some, Option.isSome_none, Option.getD_some, Option.getD_none, and_self, true_and, and_true, Bool.true_and, Bool.false_and, not_true_eq_false])
            · have hne := encs_ne h0
              simp only [accV_ne hne, accE_ne hne, encs_len, hmm]
              repeat' (first | refine vi_seq ?_ | refine vi_block ?_ | refine vi_scope ?_ | ((first | refine vi_reg ?_ | refine vi_regE (by rfl) ?_ | refine vi_regD ?_ | refine vi_label ?_ | refine vi_goto ?_ | refine vi_ret ?_ | refine vi_exit ?_ | refine vi_skip ?_ | refine vi_cond ?_); simp (disch := first | omega | (simp only [List.length_set, List.length_append, List.length_cons, List.length_nil]; done) | (simp only [List.length_set, List.length_append, List.length_cons, List.length_nil]; omega)) only [hmm, go_sem, ↓reduceIte, Nat.reduceEqDiff, Nat.reduceAdd, Nat.reduceSub, Nat.reduceMul, Nat.reduceLT, Nat.reduceLeDiff, reduceCtorEq, Int.reduceToNat]) | ((first | refine gd_caseb ?_ ?_ | refine cnd_caseb ?_ ?_) <;> intro hc <;> simp only [hc, go_sem, ↓reduceIte, Nat.reduceEqDiff, Nat.reduceAdd, Nat.reduceSub, Nat.reduceMul, Nat.reduceLT, Nat.reduceLeDiff, reduceCtorEq, Int.reduceToNat] <;> (try simp only [bool_not_true, bool_not_false, decide_eq_true_eq, decide_eq_false_iff_not, Bool.and_eq_true] at hc)) | refine And.intro (by first | assumption | omega | (have := len_pos (by assumption); omega) | (unfold capOK; omega)) ?_ | ((first | simp (disch := omega) only [encs_getN] | simp (disch := omega) only [wrapS]); (try simp only [go_sem, ↓reduceIte, Nat.reduceEqDiff, Nat.reduceAdd, Nat.reduceSub, Nat.reduceMul, Nat.reduceLT, Nat.reduceLeDiff, reduceCtorEq, Int.reduceToNat])) | ((first | refine a_Want i1.ok ?_ | refine a_Want ((mon_want d _).1 i1).ok ?_); simp only [go_sem, ↓reduceIte, Nat.reduceEqDiff, Nat.reduceAdd, Nat.reduceSub, Nat.reduceMul, Nat.reduceLT, Nat.reduceLeDiff, reduceCtorEq, Int.reduceToNat]))
              all_goals first | (exfalso; unfold predsE at hE; simp only [*, predR, encs, accV_nil, accE_nil, if_true, if_false, reduceIte, Bool.false_eq_true, Option.isSome_some, Option.isSome_none, Option.getD_some, Option.getD_none, and_self, true_and, and_true, Bool.true_and, Bool.false_and, not_true_eq_false] at hE; done) | (unfold predsE; simp only [*, predR, encs, accV_nil, accE_nil, if_true, if_false, reduceIte, Bool.false_eq_true, Option.isSome_some, Option.isSome_none, Option.getD_some, Option.getD_none, and_self, true_and, and_true, Bool.true_and, Bool.false_and, not_true_eq_false])
          · simp only [hmm] at hE
            obtain rfl := hk2 hE
            have h0 : ¬ acc = [] := by
              intro h
              subst h
              apply hE
              unfold predsE
              repeat' split
              all_goals rfl
            have hne := encs_ne h0
            simp only [accV_ne hne, accE_ne hne, encs_len, hmm]
            repeat' (first | refine vi_seq ?_ | refine vi_block ?_ | refine vi_scope ?_ | ((first | refine vi_reg ?_ | refine vi_regE (by rfl) ?_ | refine vi_regD ?_ | refine vi_label ?_ | refine vi_goto ?_ | refine vi_ret ?_ | refine vi_exit ?_ | refine vi_skip ?_ | refine vi_cond ?_); simp (disch := first | omega | (simp only [List.length_set, List.length_append, List.length_cons, List.length_nil]; done) | (simp only [List.length_set, List.length_append, List.length_cons, List.length_nil]; omega)) only [hmm, go_sem, ↓reduceIte, Nat.reduceEqDiff, Nat.reduceAdd, Nat.reduceSub, Nat.reduceMul, Nat.reduceLT, Nat.reduceLeDiff, reduceCtorEq, Int.reduceToNat]) | ((first | refine gd_caseb ?_ ?_ | refine cnd_caseb ?_ ?_) <;> intro hc <;> simp only [hc, go_sem, ↓reduceIte, Nat.reduceEqDiff, Nat.reduceAdd, Nat.reduceSub, Nat.reduceMul, Nat.reduceLT, Nat.reduceLeDiff, reduceCtorEq, Int.reduceToNat] <;> (try simp only [bool_not_true, bool_not_false, decide_eq_true_eq, decide_eq_false_iff_not, Bool.and_eq_true] at hc)) | refine And.intro (by first | assumption | omega | (have := len_pos (by assumption); omega) | (unfold capOK; omega)) ?_ | ((first | simp (disch := omega) only [encs_getN] | simp (disch := omega) only [wrapS]); (try simp only [go_sem, ↓reduceIte, Nat.reduceEqDiff, Nat.reduceAdd, Nat.reduceSub, Nat.reduceMul, Nat.reduceLT, Nat.reduceLeDiff, reduceCtorEq, Int.reduceToNat])) | ((first | refine a_Want i1.ok ?_ | refine a_Want ((mon_want d _).1 i1).ok ?_); simp only [go_sem, ↓reduceIte, Nat.reduceEqDiff, Nat.reduceAdd, Nat.reduceSub, Nat.reduceMul, Nat.reduceLT, Nat.reduceLeDiff, reduceCtorEq, Int.reduceToNat]))
            all_goals first | (exfalso; unfold predsE at hE; simp only [*, predR, encs, accV_nil, accE_nil, if_true, if_false, reduceIte, Bool.false_eq_true, Option.isSome_some, Option.isSome_none, Option.getD_some, Option.getD_none, and_self, true_and, and_true, Bool.true_and, Bool.false_and, not_true_eq_false] at hE; done) | (unfold predsE; simp only [*, predR, encs, accV_nil, accE_nil, if_true, if_false, reduceIte, Bool.false_eq_true, Option.isSome_some, Option.isSome_none, Option.getD_some, Option.getD_none, and_self, true_and, and_true, Bool.true_and, Bool.false_and, not_true_eq_false]; rw [accE_ne hne, accV_ne hne, encs_len]; exact ⟨rfl, rfl⟩)
        | true =>
          have i6 := (i3 rfl).2
          replace i3 := (i3 rfl).1
          clear i4
          obtain ⟨fu, rfl⟩ : ∃ k, fu = k + 1 := ⟨fu - 1, by omega⟩
          rw [predsL] at i3
          have j1 : (typPred rec d).1.good := (mon_typPred hm d).1 i1
          have j2 : rest (typPred rec d).1 ≤ rest d := (mon_typPred hm d).2.1
          have j3 : (takeK (typPred rec d).1 [44]).1.good := (mon_take _ _).1 j1
          have j4 := (mon_take (typPred rec d).1 [44]).2.1
          by_cases hs : (typPred rec d).2.isSome = true
          · rw [if_pos hs] at i3
            have hlt := typPred_less hm hs
            obtain ⟨d', hd', k1, k2, k3, k4⟩ : ∃ d', d' = (if mm = true then (takeK (typPred rec d).1 [44]).1 else (typPred rec d).1) ∧ d'.good ∧ rest d' ≤ rest (typPred rec d).1 ∧ ((mm && (takeK (typPred rec d).1 [44]).2) = true → predsL rec mm fu d' (acc ++ [(typPred rec d).2.getD N0]) = tg) ∧ ((mm && (takeK (typPred rec d).1 [44]).2) = false → tg = (d', some (acc ++ [(typPred rec d).2.getD N0]))) := by
              refine ⟨_, rfl, ?_, ?_, fun h => ?_, fun h => ?_⟩
              · cases mm
                · exact j1
                · exact j3
              · cases mm
                · exact Nat.le_refl _
                · exact j4
              · rw [if_pos h] at i3
                rw [if_pos (by simp only [Bool.and_eq_true] at h; exact h.1)]
                exact i3
              · rw [if_neg (by rw [h]; simp)] at i3
                rw [← i3]
                clear hmm
                cases mm
                · rfl
                · rw [Bool.true_and] at h
                  rw [if_pos rfl, takeK_same' h]
            by_cases h0 : acc = []
            · subst h0
              simp only [encs, accV_nil, accE_nil, hmm]
              repeat' (first | refine vi_seq ?_ | refine vi_block ?_ | refine vi_scope ?_ | ((first | refine vi_reg ?_ | refine vi_regE (by rfl) ?_ | refine vi_regD ?_ | refine vi_label ?_ | refine vi_goto ?_ | refine vi_ret ?_ | refine vi_exit ?_ | refine vi_skip ?_ | refine vi_cond ?_); simp (disch := first | omega | (simp only [List.length_set, List.length_append, List.length_cons, List.length_nil]; done) | (simp only [List.length_set, List.length_append, List.length_cons, List.length_nil]; omega)) only [hmm, hs, go_sem, ↓reduceIte, Nat.reduceEqDiff, Nat.reduceAdd, Nat.reduceSub, Nat.reduceMul, Nat.reduceLT, Nat.reduceLeDiff, reduceCtorEq, Int.reduceToNat]) | ((first | refine gd_caseb ?_ ?_ | refine cnd_caseb ?_ ?_) <;> intro hc <;> simp only [hc, go_sem, ↓reduceIte, Nat.reduceEqDiff, Nat.reduceAdd, Nat.reduceSub, Nat.reduceMul, Nat.reduceLT, Nat.reduceLeDiff, reduceCtorEq, Int.reduceToNat] <;> (try simp only [bool_not_true, bool_not_false, decide_eq_true_eq, decide_eq_false_iff_not, Bool.and_eq_true] at hc)) | refine And.intro (by first | assumption | omega | (have := len_pos (by assumption); omega) | (unfold capOK; omega)) ?_ | ((first | simp (disch := omega) only [encs_getN] | simp (disch := omega) only [wrapS]); (try simp only [go_sem, ↓reduceIte, Nat.reduceEqDiff, Nat.reduceAdd, Nat.reduceSub, Nat.reduceMul, Nat.reduceLT, Nat.reduceLeDiff, reduceCtorEq, Int.reduceToNat])) | ((first | refine m_app (typ_pred hm ih d i1 i2) rfl ?_ | refine a_Take j1.ok ?_); simp only [go_sem, ↓reduceIte, Nat.reduceEqDiff, Nat.reduceAdd, Nat.reduceSub, Nat.reduceMul, Nat.reduceLT, Nat.reduceLeDiff, reduceCtorEq, Int.reduceToNat]))
              · refine at_of (mm && (takeK (typPred rec d).1 [44]).2, fu, d', [] ++ [(typPred rec d).2.getD N0]) [0, 2] ⟨⟨k1, by simp only; omega, fun h => ⟨by first | exact k3 h | (have := k3 h; simpa only [hmm] using this), by simp only; omega⟩, fun h => k4 h, ?_⟩, ?_⟩ rfl (by simp) ?_ ?_ ?_
                · simp only [List.length_append, List.length_cons, List.length_nil]; omega
                · simp only; split <;> omega
                all_goals simp only [hd', hmm, if_true, if_false, reduceIte, Bool.false_eq_true, Bool.true_and, Bool.false_and, preSt, ← encs_snoc, accV_snoc, accE_snoc, List.nil_append, encs, accV_one, accE_one]
                all_goals simp only [go_sem, ↓reduceIte, Nat.reduceEqDiff, Nat.reduceAdd, Nat.reduceSub, Nat.reduceMul, Nat.reduceLT, Nat.reduceLeDiff, reduceCtorEq, Int.reduceToNat]
            · have hne := encs_ne h0
              simp only [accV_ne hne, accE_ne hne, encs_len, hmm]
              repeat' (first | refine vi_seq ?_ | refine vi_block ?_ | refine vi_scope ?_ | ((first | refine vi_reg ?_ | refine vi_regE (by rfl) ?_ | refine vi_regD ?_ | refine vi_label ?_ | refine vi_goto ?_ | refine vi_ret ?_ | refine vi_exit ?_ | refine vi_skip ?_ | refine vi_cond ?_); simp (disch := first | omega | (simp only [List.length_set, List.length_append, List.length_cons, List.length_nil]; done) | (simp only [List.length_set, List.length_append, List.length_cons, List.length_nil]; omega)) only [hmm, hs, go_sem, ↓reduceIte, Nat.reduceEqDiff, Nat.reduceAdd, Nat.reduceSub, Nat.reduceMul, Nat.reduceLT, Nat.reduceLeDiff, reduceCtorEq, Int.reduceToNat]) | ((first | refine gd_caseb ?_ ?_ | refine cnd_caseb ?_ ?_) <;> intro hc <;> simp only [hc, go_sem, ↓reduceIte, Nat.reduceEqDiff, Nat.reduceAdd, Nat.reduceSub, Nat.reduceMul, Nat.reduceLT, Nat.reduceLeDiff, reduceCtorEq, Int.reduceToNat] <;> (try simp only [bool_not_true, bool_not_false, decide_eq_true_eq, decide_eq_false_iff_not, Bool.and_eq_true] at hc)) | refine And.intro (by first | assumption | omega | (have := len_pos (by assumption); omega) | (unfold capOK; omega)) ?_ | ((first | simp (disch := omega) only [encs_getN] | simp (disch := omega) only [wrapS]); (try simp only [go_sem, ↓reduceIte, Nat.reduceEqDiff, Nat.reduceAdd, Nat.reduceSub, Nat.reduceMul, Nat.reduceLT, Nat.reduceLeDiff, reduceCtorEq, Int.reduceToNat])) | ((first | refine m_app (typ_pred hm ih d i1 i2) rfl ?_ | refine a_Take j1.ok ?_); simp only [go_sem, ↓reduceIte, Nat.reduceEqDiff, Nat.reduceAdd, Nat.reduceSub, Nat.reduceMul, Nat.reduceLT, Nat.reduceLeDiff, reduceCtorEq, Int.reduceToNat]))
              · refine at_of (mm && (takeK (typPred rec d).1 [44]).2, fu, d', acc ++ [(typPred rec d).2.getD N0]) [0, 3] ⟨⟨k1, by simp only; omega, fun h => ⟨by first | exact k3 h | (have := k3 h; simpa only [hmm] using this), by simp only; omega⟩, fun h => k4 h, ?_⟩, ?_⟩ rfl (by simp) ?_ ?_ ?_
                · simp only [List.length_append, List.length_cons, List.length_nil]; omega
                · simp only; split <;> omega
                all_goals simp only [hd', hmm, if_true, if_false, reduceIte, Bool.false_eq_true, Bool.true_and, Bool.false_and, preSt, ← encs_snoc, accV_snoc, accE_snoc, List.nil_append, encs, accV_one, accE_one]
                all_goals simp only [go_sem, ↓reduceIte, Nat.reduceEqDiff, Nat.reduceAdd, Nat.reduceSub, Nat.reduceMul, Nat.reduceLT, Nat.reduceLeDiff, reduceCtorEq, Int.reduceToNat]
                all_goals (try (rw [encs_snoc, encs_bd, encs_ren]; exact ⟨rfl, rfl⟩))
          · have hs : (typPred rec d).2.isSome = false := by simpa using hs
            rw [if_neg (by rw [hs]; simp)] at i3
            subst i3
            obtain rfl := hk1 rfl
            by_cases h0 : acc = []
            · subst h0
              simp only [encs, accV_nil, accE_nil, hmm]
              repeat' (first | refine vi_seq ?_ | refine vi_block ?_ | refine vi_scope ?_ | ((first | refine vi_reg ?_ | refine vi_regE (by rfl) ?_ | refine vi_regD ?_ | refine vi_label ?_ | refine vi_goto ?_ | refine vi_ret ?_ | refine vi_exit ?_ | refine vi_skip ?_ | refine vi_cond ?_); simp (disch := first | omega | (simp only [List.length_set, List.length_append, List.length_cons, List.length_nil]; done) | (simp only [List.length_set, List.length_append, List.length_cons, List.length_nil]; omega)) only [hmm, hs, go_sem, ↓reduceIte, Nat.reduceEqDiff, Nat.reduceAdd, Nat.reduceSub, Nat.reduceMul, Nat.reduceLT, Nat.reduceLeDiff, reduceCtorEq, Int.reduceToNat]) | ((first | refine gd_caseb ?_ ?_ | refine cnd_caseb ?_ ?_) <;> intro hc <;> simp only [hc, go_sem, ↓reduceIte, Nat.reduceEqDiff, Nat.reduceAdd, Nat.reduceSub, Nat.reduceMul, Nat.reduceLT, Nat.reduceLeDiff, reduceCtorEq, Int.reduceToNat] <;> (try simp only [bool_not_true, bool_not_false, decide_eq_true_eq, decide_eq_false_iff_not, Bool.and_eq_true] at hc)) | refine And.intro (by first | assumption | omega | (have := len_pos (by assumption); omega) | (unfold capOK; omega)) ?_ | ((first | simp (disch := omega) only [encs_getN] | simp (disch := omega) only [wrapS]); (try simp only [go_sem, ↓reduceIte, Nat.reduceEqDiff, Nat.reduceAdd, Nat.reduceSub, Nat.reduceMul, Nat.reduceLT, Nat.reduceLeDiff, reduceCtorEq, Int.reduceToNat])) | ((first | refine m_app (typ_pred hm ih d i1 i2) rfl ?_ | refine a_Take j1.ok ?_); simp only [go_sem, ↓reduceIte, Nat.reduceEqDiff, Nat.reduceAdd, Nat.reduceSub, Nat.reduceMul, Nat.reduceLT, Nat.reduceLeDiff, reduceCtorEq, Int.reduceToNat]))
              exact ⟨rfl, rfl⟩
            · have hne := encs_ne h0
              simp only [accV_ne hne, accE_ne hne, encs_len, hmm]
              repeat' (first | refine vi_seq ?_ | refine vi_block ?_ | refine vi_scope ?_ | ((first | refine vi_reg ?_ | refine vi_regE (by rfl) ?_ | refine vi_regD ?_ | refine vi_label ?_ | refine vi_goto ?_ | refine vi_ret ?_ | refine vi_exit ?_ | refine vi_skip ?_ | refine vi_cond ?_); simp (disch := first | omega | (simp only [List.length_set, List.length_append, List.length_cons, List.length_nil]; done) | (simp only [List.length_set, List.length_append, List.length_cons, List.length_nil]; omega)) only [hmm, hs, go_sem, ↓reduceIte, Nat.reduceEqDiff, Nat.reduceAdd, Nat.reduceSub, Nat.reduceMul, Nat.reduceLT, Nat.reduceLeDiff, reduceCtorEq, Int.reduceToNat]) | ((first | refine gd_caseb ?_ ?_ | refine cnd_caseb ?_ ?_) <;> intro hc <;> simp only [hc, go_sem, ↓reduceIte, Nat.reduceEqDiff, Nat.reduceAdd, Nat.reduceSub, Nat.reduceMul, Nat.reduceLT, Nat.reduceLeDiff, reduceCtorEq, Int.reduceToNat] <;> (try simp only [bool_not_true, bool_not_false, decide_eq_true_eq, decide_eq_false_iff_not, Bool.and_eq_true] at hc)) | refine And.intro (by first | assumption | omega | (have := len_pos (by assumption); omega) | (unfold capOK; omega)) ?_ | ((first | simp (disch := omega) only [encs_getN] | simp (disch := omega) only [wrapS]); (try simp only [go_sem, ↓reduceIte, Nat.reduceEqDiff, Nat.reduceAdd, Nat.reduceSub, Nat.reduceMul, Nat.reduceLT, Nat.reduceLeDiff, reduceCtorEq, Int.reduceToNat])) | ((first | refine m_app (typ_pred hm ih d i1 i2) rfl ?_ | refine a_Take j1.ok ?_); simp only [go_sem, ↓reduceIte, Nat.reduceEqDiff, Nat.reduceAdd, Nat.reduceSub, Nat.reduceMul, Nat.reduceLT, Nat.reduceLeDiff, reduceCtorEq, Int.reduceToNat]))
              exact ⟨rfl, rfl⟩
      )
  · have hpa : typPreds rec c = (c, if failT c = true then none else some []) := by rw [typPreds, if_neg ha]
    rw [hpa] at hk1 hk2 ⊢
    obtain rfl := hk1 (by simp only; split <;> rfl)
    repeat' (first | refine vi_seq ?_ | refine vi_block ?_ | refine vi_scope ?_ | ((first | refine vi_reg ?_ | refine vi_regE (by rfl) ?_ | refine vi_regD ?_ | refine vi_label ?_ | refine vi_goto ?_ | refine vi_ret ?_ | refine vi_exit ?_ | refine vi_skip ?_ | refine vi_cond ?_); simp (disch := first | omega | (simp only [List.length_set, List.length_append, List.length_cons, List.length_nil]; done) | (simp only [List.length_set, List.length_append, List.length_cons, List.length_nil]; omega)) only [ha, go_sem, ↓reduceIte, Nat.reduceEqDiff, Nat.reduceAdd, Nat.reduceSub, Nat.reduceMul, Nat.reduceLT, Nat.reduceLeDiff, reduceCtorEq, Int.reduceToNat]) | ((first | refine gd_caseb ?_ ?_ | refine cnd_caseb ?_ ?_) <;> intro hc <;> simp only [hc, go_sem, ↓reduceIte, Nat.reduceEqDiff, Nat.reduceAdd, Nat.reduceSub, Nat.reduceMul, Nat.reduceLT, Nat.reduceLeDiff, reduceCtorEq, Int.reduceToNat] <;> (try simp only [bool_not_true, bool_not_false, decide_eq_true_eq, decide_eq_false_iff_not, Bool.and_eq_true] at hc)) | refine And.intro (by first | assumption | omega | (have := len_pos (by assumption); omega) | (unfold capOK; omega)) ?_ | ((first | simp (disch := omega) only [encs_getN] | simp (disch := omega) only [wrapS]); (try simp only [go_sem, ↓reduceIte, Nat.reduceEqDiff, Nat.reduceAdd, Nat.reduceSub, Nat.reduceMul, Nat.reduceLT, Nat.reduceLeDiff, reduceCtorEq, Int.reduceToNat])) | ((first | refine a_Ahead hg.ok hg.2.1 ?_ | refine a_failT hg.ok ?_); simp only [go_sem, ↓reduceIte, Nat.reduceEqDiff, Nat.reduceAdd, Nat.reduceSub, Nat.reduceMul, Nat.reduceLT, Nat.reduceLeDiff, reduceCtorEq, Int.reduceToNat]))
    cases failT c <;> exact ⟨rfl, rfl⟩
end
end Go.Proofs.Ytjigahnncojikaa

/- types: a context and a type; of a text: the program -/
set_option maxRecDepth 4000
namespace Go.Proofs.Ytjigahnncojikaa
open Go Go.RowKit Go.V
set_option linter.unusedVariables false
set_option linter.unusedSimpArgs false

theorem preds_app0 {rec : K → K × Option N} {c : K} (h : PredsSpec rec c) (h0 : (typPreds rec c).2.getD [] = []) {L : List Ent} {Q : List Ent → VO → Prop} (hq : Q (curE (typPreds rec c).1 :: L) (.val (.tup [.nils, .bool (typPreds rec c).2.isSome]))) :
    VApp Try.prog (curE c :: L) (.fn 18 [] []) [.ptr 0 0] Q :=
  vmeth_app (r := .tup [.nils, .bool (typPreds rec c).2.isSome]) (e' := curE (typPreds rec c).1) (by
    unfold PredsSpec at h
    rw [h0] at h
    unfold VMeth
    have hr : predR 1 (typPreds rec c).2 = .tup [.nils, .bool (typPreds rec c).2.isSome] := by rw [predR, h0]; rfl
    rw [hr] at h
    exact h) (curE_bd _ _) (curE_bd _ _) rfl rfl fun _ => hq
theorem preds_app1 {rec : K → K × Option N} {c : K} (h : PredsSpec rec c) {l : List N} (hl : (typPreds rec c).2 = some l) (h0 : l ≠ []) {L : List Ent} {Q : List Ent → VO → Prop}
    (hq : Q (curE (typPreds rec c).1 :: (L ++ [.app 5 (encs l)])) (.val (.tup [.row (L.length + 1) l.length, .bool true]))) :
    VApp Try.prog (curE c :: L) (.fn 18 [] []) [.ptr 0 0] Q :=
  vapp_fn (first := []) (caps := []) (by
    simp only [List.nil_append, List.append_nil]
    have hne := encs_ne h0
    have hs : AV.rens (sg [0]) [.ptr 0 0] = [.ptr 0 0] := rfl
    rw [← hs]
    have ha : AV.bds 1 [.ptr 0 0] = true := rfl
    have napp_ren : ∀ σ : Nat → Nat, (Ent.app 5 (encs l)).ren σ = .app 5 (encs l) := fun σ => Ent.ren_same (m := 0) (fun i hi => by omega) _ (by simp [Ent.bd, encs_bd])
    refine vcalls_sel (H0 := [curE c]) [0] h (by simp) (by simp) rfl ?_ ha ?_
    · intro j e2 hj
      obtain rfl : j = 0 := by have := (List.getElem?_eq_some_iff.1 hj).1; simp at this; omega
      simp only [List.getElem?_cons_zero, Option.some.injEq] at hj
      subst hj
      exact .inr ⟨curE_bd _ _, by rw [curE_ren]; rfl⟩
    rintro H1 o ⟨rfl, rfl⟩
    rw [hl]
    simp only [Option.getD_some, accE_ne hne, predR, accV_ne hne, encs_len, Option.isSome_some, List.length_cons, List.length_nil, List.take_succ_cons, List.take_zero, List.map_nil, setAll, List.drop_zero, List.drop_succ_cons, List.map_cons, curE_ren, napp_ren, VO.ren, AV.ren, AV.rens, sg', List.set_cons_zero]
    exact hq)
def qualN (p : Int) (l : List N) (t : N) : N := .mk 4 p 0 [] (l ++ [t])
def typQual (f : Nat) (c : K) : K × Option N :=
  if (typPreds (typAt f) c).2.isSome = true then ((typAt f (typPreds (typAt f) c).1).1, (typAt f (typPreds (typAt f) c).1).2.map (qualN (peekK c).pos ((typPreds (typAt f) c).2.getD [])))
  else ((typPreds (typAt f) c).1, none)
theorem a_tellQual {c : K} {L : List Ent} {p : Int} {l : List N} {t : N} {b : Bool} {Q : List Ent → VO → Prop} (hq : Q (curE c :: L) (.val (resP (tellN (qualN p l t) b)))) :
    VApp Try.prog (curE c :: L) (.fn 43 [] []) [.ptr 0 0, .agg [.int .i64 4, .int .i64 p, .int .i64 0, .str [], .sl 5 (encs l ++ [enc t])], .bool b] Q := by
  have h := a_told (n := qualN p l t) hq
  simpa only [qualN, enc, encs_snoc] using h
theorem a_tellQual0 {c : K} {L : List Ent} {p : Int} {t : N} {b : Bool} {Q : List Ent → VO → Prop} (hq : Q (curE c :: L) (.val (resP (tellN (qualN p [] t) b)))) :
    VApp Try.prog (curE c :: L) (.fn 43 [] []) [.ptr 0 0, .agg [.int .i64 4, .int .i64 p, .int .i64 0, .str [], .sl 5 [enc t]], .bool b] Q := a_tellQual (l := []) hq
theorem tell_qual {r : Option N} {p : Int} {l : List N} : tellN (qualN p l (r.getD N0)) r.isSome = r.map (qualN p l) := tell_map
theorem preds_len {rec : K → K × Option N} (hm : ∀ c, Mon c (rec c).1) (many : Bool) : ∀ (f : Nat) (c : K) (acc l : List N), (predsL rec many f c acc).2 = some l → l.length ≤ acc.length + rest c
  | 0, c, acc, l => fun h => by cases h
  | f + 1, c, acc, l => fun h => by
    rw [predsL] at h
    split at h
    · rename_i hs
      have h1 := typPred_less hm hs
      split at h
      · have h2 := preds_len hm many f _ _ _ h
        have h3 := (mon_take (typPred rec c).1 [44]).2.1
        simp only [List.length_append, List.length_cons, List.length_nil] at h2
        omega
      · cases h
        simp only [List.length_append, List.length_cons, List.length_nil]
        omega
    · cases h
theorem predsE_some {m : Bool} {r : K × Option (List N)} {l : List N} (h : (predsE m r).2 = some l) : r.2 = some l := by
  unfold predsE at h
  repeat' split at h
  all_goals first | exact h | cases h
theorem typPreds_len {rec : K → K × Option N} (hm : ∀ c, Mon c (rec c).1) {c : K} {l : List N} (h : (typPreds rec c).2 = some l) : l.length ≤ rest c := by
  unfold typPreds at h
  split at h
  · have h := predsE_some h
    unfold predsB at h
    split at h
    · cases h; exact Nat.zero_le _
    · have h1 := preds_len hm _ _ _ _ _ h
      have h2 := (mon_take c [40]).2.1
      simp only [List.length_nil] at h1
      omega
  · simp only at h
    split at h
    · cases h
    · cases h; exact Nat.zero_le _
theorem typ_QualAt (f : Nat) (c : K) (hg : c.good) (hr : rest c < f) : VMeth Try.prog 22 (curE c) (curE (typQual f c).1) [.ptr 0 0] (resP (typQual f c).2) := by
  have hm := mon_typAt f
  have hP := typ_PredsAt hm (typ_At f) c hg (by omega)
  have g1 : (typPreds (typAt f) c).1.good := (mon_typPreds hm c).1 hg
  have hr1 : rest (typPreds (typAt f) c).1 < f := by have := (mon_typPreds hm c).2.1; omega
  refine vcalls_of c0o 1 (by simp) (by simp) ?_
  unfold typQual
  cases ho : (typPreds (typAt f) c).2 with
  | none =>
    have h0 : (typPreds (typAt f) c).2.getD [] = [] := by rw [ho]; rfl
    repeat' (first | refine vi_seq ?_ | refine vi_block ?_ | refine vi_scope ?_ | ((first | refine vi_reg ?_ | refine vi_regE (by rfl) ?_ | refine vi_regD ?_ | refine vi_label ?_ | refine vi_goto ?_ | refine vi_ret ?_ | refine vi_exit ?_ | refine vi_skip ?_ | refine vi_cond ?_); simp (disch := first | omega | (simp only [List.length_set, List.length_append, List.length_cons, List.length_nil]; done) | (simp only [List.length_set, List.length_append, List.length_cons, List.length_nil]; omega)) only [ho, Option.isSome_none, go_sem, ↓reduceIte, Nat.reduceEqDiff, Nat.reduceAdd, Nat.reduceSub, Nat.reduceMul, Nat.reduceLT, Nat.reduceLeDiff, reduceCtorEq, Int.reduceToNat]) | ((first | refine gd_caseb ?_ ?_ | refine cnd_caseb ?_ ?_) <;> intro hc <;> simp only [hc, go_sem, ↓reduceIte, Nat.reduceEqDiff, Nat.reduceAdd, Nat.reduceSub, Nat.reduceMul, Nat.reduceLT, Nat.reduceLeDiff, reduceCtorEq, Int.reduceToNat] <;> (try simp only [bool_not_true, bool_not_false, decide_eq_true_eq, decide_eq_false_iff_not, Bool.and_eq_true] at hc)) | refine And.intro (by first | assumption | omega | (have := len_pos (by assumption); omega) | (unfold capOK; omega)) ?_ | ((first | simp (disch := omega) only [encs_getN] | simp (disch := omega) only [wrapS]); (try simp only [go_sem, ↓reduceIte, Nat.reduceEqDiff, Nat.reduceAdd, Nat.reduceSub, Nat.reduceMul, Nat.reduceLT, Nat.reduceLeDiff, reduceCtorEq, Int.reduceToNat])) | ((first | refine a_Peek ?_ | refine preds_app0 hP h0 ?_); simp only [go_sem, ↓reduceIte, Nat.reduceEqDiff, Nat.reduceAdd, Nat.reduceSub, Nat.reduceMul, Nat.reduceLT, Nat.reduceLeDiff, reduceCtorEq, Int.reduceToNat]))
    rw [enc_z]; rfl
  | some l =>
    have hlen := typPreds_len hm ho
    have hlen2 := hg.rest
    by_cases h0 : l = []
    · subst h0
      have h0 : (typPreds (typAt f) c).2.getD [] = [] := by rw [ho]; rfl
      have hcap : capOK 1 64 := capN (by omega)
      repeat' (first | refine vi_seq ?_ | refine vi_block ?_ | refine vi_scope ?_ | ((first | refine vi_reg ?_ | refine vi_regE (by rfl) ?_ | refine vi_regD ?_ | refine vi_label ?_ | refine vi_goto ?_ | refine vi_ret ?_ | refine vi_exit ?_ | refine vi_skip ?_ | refine vi_cond ?_); simp (disch := first | omega | (simp only [List.length_set, List.length_append, List.length_cons, List.length_nil]; done) | (simp only [List.length_set, List.length_append, List.length_cons, List.length_nil]; omega)) only [ho, Option.isSome_some, go_sem, ↓reduceIte, Nat.reduceEqDiff, Nat.reduceAdd, Nat.reduceSub, Nat.reduceMul, Nat.reduceLT, Nat.reduceLeDiff, reduceCtorEq, Int.reduceToNat]) | ((first | refine gd_caseb ?_ ?_ | refine cnd_caseb ?_ ?_) <;> intro hc <;> simp only [hc, go_sem, ↓reduceIte, Nat.reduceEqDiff, Nat.reduceAdd, Nat.reduceSub, Nat.reduceMul, Nat.reduceLT, Nat.reduceLeDiff, reduceCtorEq, Int.reduceToNat] <;> (try simp only [bool_not_true, bool_not_false, decide_eq_true_eq, decide_eq_false_iff_not, Bool.and_eq_true] at hc)) | refine And.intro (by first | assumption | omega | (have := len_pos (by assumption); omega) | (unfold capOK; omega)) ?_ | ((first | simp (disch := omega) only [encs_getN] | simp (disch := omega) only [wrapS]); (try simp only [go_sem, ↓reduceIte, Nat.reduceEqDiff, Nat.reduceAdd, Nat.reduceSub, Nat.reduceMul, Nat.reduceLT, Nat.reduceLeDiff, reduceCtorEq, Int.reduceToNat])) | ((first | refine a_Peek ?_ | refine preds_app0 hP h0 ?_ | refine m_app (typ_At f _ g1 hr1) rfl ?_ | refine a_tellQual0 ?_); simp only [go_sem, ↓reduceIte, Nat.reduceEqDiff, Nat.reduceAdd, Nat.reduceSub, Nat.reduceMul, Nat.reduceLT, Nat.reduceLeDiff, reduceCtorEq, Int.reduceToNat]))
      rw [tell_qual]; rfl
    · have hcap : capOK (l.length + 1) 64 := capN (by unfold rest at hlen; omega)
      repeat' (first | refine vi_seq ?_ | refine vi_block ?_ | refine vi_scope ?_ | ((first | refine vi_reg ?_ | refine vi_regE (by rfl) ?_ | refine vi_regD ?_ | refine vi_label ?_ | refine vi_goto ?_ | refine vi_ret ?_ | refine vi_exit ?_ | refine vi_skip ?_ | refine vi_cond ?_); simp (disch := first | omega | (simp only [List.length_set, List.length_append, List.length_cons, List.length_nil]; done) | (simp only [List.length_set, List.length_append, List.length_cons, List.length_nil]; omega)) only [ho, Option.isSome_some, go_sem, ↓reduceIte, Nat.reduceEqDiff, Nat.reduceAdd, Nat.reduceSub, Nat.reduceMul, Nat.reduceLT, Nat.reduceLeDiff, reduceCtorEq, Int.reduceToNat]) | ((first | refine gd_caseb ?_ ?_ | refine cnd_caseb ?_ ?_) <;> intro hc <;> simp only [hc, go_sem, ↓reduceIte, Nat.reduceEqDiff, Nat.reduceAdd, Nat.reduceSub, Nat.reduceMul, Nat.reduceLT, Nat.reduceLeDiff, reduceCtorEq, Int.reduceToNat] <;> (try simp only [bool_not_true, bool_not_false, decide_eq_true_eq, decide_eq_false_iff_not, Bool.and_eq_true] at hc)) | refine And.intro (by first | assumption | omega | (have := len_pos (by assumption); omega) | (unfold capOK; omega)) ?_ | ((first | simp (disch := omega) only [encs_getN] | simp (disch := omega) only [wrapS]); (try simp only [go_sem, ↓reduceIte, Nat.reduceEqDiff, Nat.reduceAdd, Nat.reduceSub, Nat.reduceMul, Nat.reduceLT, Nat.reduceLeDiff, reduceCtorEq, Int.reduceToNat])) | ((first | refine a_Peek ?_ | refine preds_app1 hP ho h0 ?_ | refine m_app (typ_At f _ g1 hr1) rfl ?_ | refine a_tellQual ?_); simp only [go_sem, ↓reduceIte, Nat.reduceEqDiff, Nat.reduceAdd, Nat.reduceSub, Nat.reduceMul, Nat.reduceLT, Nat.reduceLeDiff, reduceCtorEq, Int.reduceToNat]))
      rw [tell_qual]; rfl
end Go.Proofs.Ytjigahnncojikaa

/- types: of a text -/
namespace Go.Proofs.Ytjigahnncojikaa
open Go Go.RowKit Go.V
set_option linter.unusedVariables false
set_option linter.unusedSimpArgs false

theorem vmeth_atF {P : Program} {f : FuncId} {e e' : Ent} {L : List Ent} {first args0 args : List AV} {r : AV} {Q : List Ent → VO → Prop} (k : Nat) (h : VMeth P f e e' args0 r) (hk : L[k]? = some e) (hb : e.bd 0 = true) (hb' : e'.bd 0 = true) (ha : AV.bds 1 args0 = true) (hr : r.bd 0 = true) (hs : AV.rens (sg [k]) args0 = first ++ args) (hq : r.wf → Q (L.set k e') (.val r)) :
    VApp P L (.fn f first []) args Q :=
  vapp_fn (first := first) (caps := []) (by
    simp only [List.append_nil]
    rw [← hs]
    have hlt : k < L.length := (List.getElem?_eq_some_iff.1 hk).1
    refine vcalls_sel (H0 := [e]) [k] (h.mono' (Q' := fun H' o => (H' = [e'] ∧ o = .val r) ∧ r.wf) fun H' o hw ho => ⟨ho, by have := ho.2; subst this; exact hw⟩) (by simp) (by simpa using hlt) rfl ?_ ha ?_
    · intro j e2 hj
      obtain rfl : j = 0 := by have := (List.getElem?_eq_some_iff.1 hj).1; simp at this; omega
      simp only [List.getElem?_cons_zero, Option.some.injEq] at hj
      subst hj
      exact .inr ⟨Ent.bd_le (Nat.zero_le _) _ hb, by rw [Ent.ren_same (m := 0) (fun i hi => by omega) _ hb]; exact hk⟩
    · rintro H1 o ⟨⟨rfl, rfl⟩, hw⟩
      have h1 : e'.ren (sg' [k] L.length) = e' := Ent.ren_same (m := 0) (fun i hi => by omega) _ hb'
      have h2 : r.ren (sg' [k] L.length) = r := ren_same (m := 0) (fun i hi => by omega) _ hr
      simp only [List.length_cons, List.length_nil, List.take_succ_cons, List.take_zero, List.map_cons, List.map_nil, setAll, h1, VO.ren, h2, List.drop_succ_cons, List.drop_nil, List.append_nil]
      exact hq hw)

/-! The size of what is read. -/
theorem szs_app : ∀ (a b : List N), szs (a ++ b) = szs a + szs b
  | [], b => by simp [szs]
  | x :: a, b => by rw [List.cons_append, szs, szs, szs_app a b]; omega
theorem sz_name (c : K) (k : Int) (ks : List N) : sz (nameN c k ks) = szs ks + 1 := by rw [sz_eq]; rfl
section
variable {rec : K → K × Option N} (hm : ∀ c, Mon c (rec c).1) (ih : ∀ c n, (rec c).2 = some n → sz n + rest (rec c).1 ≤ rest c)
include hm ih
omit hm in
theorem sz_typAtom {c : K} {n : N} (h : (typAtom rec c).2 = some n) : sz n + rest (typAtom rec c).1 ≤ rest c := by
  unfold typAtom at h ⊢
  split at h
  · rename_i h1
    rw [if_pos h1]
    cases h
    have := rest_next (c := c) (by omega)
    rw [sz_name]; simp only [szs]; omega
  · rename_i h1
    rw [if_neg h1]
    split at h
    · rename_i h2
      rw [if_pos h2]
      cases h
      have := rest_next (c := c) (by omega)
      rw [sz_name]; simp only [szs]; omega
    · rename_i h2
      rw [if_neg h2]
      split at h
      · rename_i h3
        rw [if_pos h3]
        split at h
        · rename_i h4
          rw [if_pos h4]
          have hp := rest_next (c := (enterK c).1) (by rw [enter_peek h4]; exact isK_kind h3)
          have h0 := (mon_enter c).2.1
          split at h
          · rename_i h5
            rw [if_pos h5]
            simp only at h ⊢
            split at h
            · have h6 := ih _ _ h
              have h7 := (mon_want (rec (nextK (enterK c).1)).1 [41]).2.1
              have h8 := (mon_leave (wantK (rec (nextK (enterK c).1)).1 [41]).1).2.1
              omega
            · cases h
          · cases h
        · cases h
      · cases h
omit hm in
theorem sz_typKids : ∀ (f : Nat) (c : K) (acc l : List N), (typKids rec f c acc).2 = some l → szs l + rest (typKids rec f c acc).1 ≤ szs acc + rest c
  | 0, c, acc, l => fun h => by cases h
  | f + 1, c, acc, l => fun h => by
    rw [typKids] at h ⊢
    split at h
    · rename_i h1
      rw [if_pos h1]
      split at h
      · rename_i h2
        rw [if_pos h2]
        obtain ⟨n, hn⟩ := Option.isSome_iff_exists.1 h2
        have h3 := sz_typKids f _ _ _ h
        have h4 := sz_typAtom ih hn
        rw [szs_app, hn] at h3
        simp only [Option.getD_some, szs] at h3
        rw [hn]
        simp only [Option.getD_some]
        omega
      · cases h
    · rename_i h1
      rw [if_neg h1]
      cases h
      exact Nat.le_refl _
omit hm in
theorem sz_typRow {c : K} {n : N} (h : (typRow rec c).2 = some n) : sz n + rest (typRow rec c).1 ≤ rest c := by
  unfold typRow at h ⊢
  split at h
  · rename_i h1
    rw [if_pos h1]
    obtain ⟨l, hl, rfl⟩ := Option.map_eq_some_iff.1 h
    have h2 := sz_typKids ih _ _ _ _ hl
    have h3 := rest_next (c := c) (by omega)
    rw [sz_name]
    simp only [szs] at h2 ⊢
    omega
  · rename_i h1
    rw [if_neg h1]
    exact sz_typAtom ih h
omit hm in
theorem sz_typPred {c : K} {n : N} (h : (typPred rec c).2 = some n) : sz n + rest (typPred rec c).1 ≤ rest c := by
  unfold typPred at h ⊢
  split at h
  · rename_i h1
    rw [if_pos h1]
    obtain ⟨m, hk, rfl⟩ := Option.map_eq_some_iff.1 h
    have h2 := sz_typAtom ih hk
    obtain ⟨e1, e2⟩ := kind_err h1
    rw [(kind_is h1).1] at h2 ⊢
    have h3 := rest_next (c := c) (by omega)
    have : sz (predN (kindT c 2) m) = sz m + 1 := by rw [sz_eq]; simp [predN, N.kids, szs]
    simp only at h2 ⊢
    omega
  · cases h
omit hm in
theorem sz_predsL (many : Bool) : ∀ (f : Nat) (c : K) (acc l : List N), (predsL rec many f c acc).2 = some l → szs l + rest (predsL rec many f c acc).1 ≤ szs acc + rest c
  | 0, c, acc, l => fun h => by cases h
  | f + 1, c, acc, l => fun h => by
    rw [predsL] at h ⊢
    split at h
    · rename_i h1
      rw [if_pos h1]
      obtain ⟨n, hn⟩ := Option.isSome_iff_exists.1 h1
      have h4 := sz_typPred ih hn
      split at h
      · rename_i h2
        rw [if_pos h2]
        have h3 := sz_predsL many f _ _ _ h
        have h5 := (mon_take (typPred rec c).1 [44]).2.1
        rw [szs_app, hn] at h3
        simp only [Option.getD_some, szs] at h3
        rw [hn]
        simp only [Option.getD_some]
        omega
      · rename_i h2
        rw [if_neg h2]
        cases h
        rw [hn, szs_app]
        simp only [Option.getD_some, szs]
        omega
    · cases h
end
theorem sz_typAt : ∀ (f : Nat) (c : K) (n : N), (typAt f c).2 = some n → sz n + rest (typAt f c).1 ≤ rest c
  | 0, _, _ => fun h => by cases h
  | f + 1, c, n => fun h => by
    have ih := sz_typAt f
    have h0 := (mon_enter c).2.1
    rw [typAt] at h ⊢
    split at h
    · rename_i h1
      rw [if_pos h1]
      split at h
      · rename_i h2
        rw [if_pos h2]
        obtain ⟨m, hm⟩ := Option.isSome_iff_exists.1 h2
        have h3 := sz_typRow ih hm
        split at h
        · rename_i h4
          rw [if_pos h4]
          obtain ⟨q, hq, rfl⟩ := Option.map_eq_some_iff.1 h
          have h5 := ih _ _ hq
          have h6 := (mon_leave (typAt f (takeK (typRow (typAt f) (enterK c).1).1 [45, 62]).1).1).2.1
          have h7 : rest (takeK (typRow (typAt f) (enterK c).1).1 [45, 62]).1 + 1 ≤ rest (typRow (typAt f) (enterK c).1).1 := by
            unfold takeK at h4 ⊢
            split at h4
            · rename_i h8
              rw [if_pos h8]
              have := rest_next (isK_kind h8)
              simp only; omega
            · cases h4
          have : sz (arrowN ((typRow (typAt f) (enterK c).1).2.getD N0) q) = sz m + sz q + 1 := by rw [sz_eq, hm]; simp [arrowN, N.kids, szs]
          simp only
          omega
        · rename_i h4
          rw [if_neg h4]
          have h5 := (mon_leave (typRow (typAt f) (enterK c).1).1).2.1
          have h6 := sz_typRow ih h
          simp only
          omega
      · cases h
    · cases h
theorem sz_typQual {f : Nat} {c : K} {n : N} (h : (typQual f c).2 = some n) : sz n ≤ rest c + 1 := by
  unfold typQual at h
  split at h
  · rename_i h1
    obtain ⟨l, hl⟩ := Option.isSome_iff_exists.1 h1
    obtain ⟨q, hq, rfl⟩ := Option.map_eq_some_iff.1 h
    have h2 := sz_typAt f _ _ hq
    rw [hl]
    have h3 : szs l + rest (typPreds (typAt f) c).1 ≤ rest c := by
      have hx := hl
      unfold typPreds at hx ⊢
      split at hx
      · rename_i ha
        rw [if_pos ha]
        have h5 := predsE_some hx
        have h6 : szs l + rest (predsB (typAt f) c).1 ≤ rest c := by
          unfold predsB at h5 ⊢
          have ht := (mon_take c [40]).2.1
          split at h5
          · rename_i hb
            rw [if_pos hb]
            cases h5
            simp only [szs]; omega
          · rename_i hb
            rw [if_neg hb]
            have := sz_predsL (sz_typAt f) _ _ _ _ _ h5
            simp only [szs] at this
            omega
        have h7 : rest (predsE (takeK c [40]).2 (predsB (typAt f) c)).1 ≤ rest (predsB (typAt f) c).1 := by
          unfold predsE
          split
          · split
            · split
              · exact Nat.le_trans (mon_want _ _).2.1 (mon_want _ _).2.1
              · exact (mon_want _ _).2.1
            · exact (mon_want _ _).2.1
          · exact Nat.le_refl _
        omega
      · rename_i ha
        rw [if_neg ha]
        simp only at hx ⊢
        split at hx
        · cases hx
        · cases hx; simp only [szs]; omega
    have : sz (qualN (peekK c).pos l q) = szs l + sz q + 1 := by rw [sz_eq]; simp [qualN, N.kids, szs_app, szs]
    simp only [Option.getD_some]
    omega
  · cases h
theorem newK_good {l : List T} (h : l.length ≤ 1048577) : (newK l).good := ⟨Nat.zero_le _, Nat.le_trans (aheadT_len l) h, Nat.zero_le _⟩
end Go.Proofs.Ytjigahnncojikaa

/- types: of a text: the program -/
set_option maxRecDepth 4000
namespace Go.Proofs.Ytjigahnncojikaa
open Go Go.RowKit Go.V
set_option linter.unusedVariables false
set_option linter.unusedSimpArgs false

/-- What is all there is. -/
def wholeV (c : K) (n : N) : N × Int × Int :=
  if (doneK c).2 = 0 then if depR n > 100 then (N0, n.pos, 2) else (n, 0, 0) else (N0, (doneK c).1, (doneK c).2)
def textV (rd : K → K × Option N) (s : List UInt8) : N × Int × Int :=
  if (lexV s).2.2 = 0 then wholeV (rd (newK (lexV s).1)).1 ((rd (newK (lexV s).1)).2.getD N0)
  else (N0, (lexV s).2.1, (lexV s).2.2)
def resV (r : N × Int × Int) : AV := .tup [enc r.1, .int .i64 r.2.1, .int .i64 r.2.2]
attribute [go_sem] resV lexR
theorem typ_whole {so : FuncId} {q : Bool} {rd : K → K × Option N} {s : List UInt8} (hs : s.length ≤ 900000) (hrd : ∀ c : K, c.good → rest c ≤ 900001 → VMeth Try.prog so (curE c) (curE (rd c).1) [.agg [.bool q], .ptr 0 0] (resP (rd c).2))
    (hm : ∀ c, Mon c (rd c).1) (hsz : ∀ c n, (rd c).2 = some n → sz n ≤ rest c + 1) : VPure Try.prog 35 [.str s, .fn so [.agg [.bool q]] []] (resV (textV rd s)) := by
  have g := newK_good (lexV_len s).1
  have g2 : (rd (newK (lexV s).1)).1.good := (hm _).1 g
  have hr : rest (newK (lexV s).1) ≤ 900001 := by
    have h2 := aheadT_len (lexV s).1
    have h3 := (lexV_len s).2
    have h4 : rest (newK (lexV s).1) = (aheadT (lexV s).1).length := rfl
    omega
  have hsz' : sz ((rd (newK (lexV s).1)).2.getD N0) ≤ 1000000 := by
    cases ho : (rd (newK (lexV s).1)).2 with
    | none => rw [Option.getD_none, sz_eq]; simp [N0, N.kids, szs]
    | some n =>
      have h1 := hsz _ _ ho
      simp only [Option.getD_some]
      omega
  have hdp := depth_law' hsz'
  refine vpure_of c0k (by simp) (by simp only [go_sem]) (by simp only [go_sem]) fun hw => ?_
  repeat' (first | refine vi_seq ?_ | refine vi_block ?_ | refine vi_scope ?_ | ((first | refine vi_reg ?_ | refine vi_regE (by rfl) ?_ | refine vi_regD ?_ | refine vi_label ?_ | refine vi_goto ?_ | refine vi_ret ?_ | refine vi_exit ?_ | refine vi_skip ?_ | refine vi_cond ?_ | refine vapp_pure0 (lexer_Lex s) fun _ => ?_ | refine vnew_app (newK_cur _ (lexV_len s).1) (curE_bd _ _) (by simp only [go_sem]) ?_ | refine vmeth_atF 1 (hrd _ g hr) (by rfl) (curE_bd _ _) (curE_bd _ _) (by rfl) (resP_bd _ _) (by rfl) fun _ => ?_ | refine vmeth_at 1 (cur_Done _ g2.ok) (by rfl) (curE_bd _ _) (curE_bd _ _) (by rfl) (by rfl) (by rfl) fun _ => ?_ | refine vapp_pure0 (vp_eq (depth11 _) (by rw [hdp])) fun _ => ?_ | refine dapp_pure  (lexer_Lex s) ?_ | refine dapp_pure  (vp_eq (depth11 _) (by rw [hdp])) ?_); simp only [go_sem, ↓reduceIte, Nat.reduceEqDiff, Nat.reduceAdd, Nat.reduceSub, Nat.reduceMul, Nat.reduceLT, Nat.reduceLeDiff, reduceCtorEq, Int.reduceToNat]) | ((first | refine gd_caseb ?_ ?_ | refine cnd_caseb ?_ ?_) <;> intro hc <;> simp only [hc, go_sem, ↓reduceIte, Nat.reduceEqDiff, Nat.reduceAdd, Nat.reduceSub, Nat.reduceMul, Nat.reduceLT, Nat.reduceLeDiff, reduceCtorEq, Int.reduceToNat] <;> (try simp only [bool_not_true, bool_not_false, decide_eq_true_eq, decide_eq_false_iff_not, Bool.and_eq_true] at hc)) | refine And.intro (by first | assumption | omega | (have := len_pos (by assumption); omega) | (unfold capOK; omega)) ?_ | ((first | simp (disch := omega) only [encs_getN] | simp (disch := omega) only [wrapS]); (try simp only [go_sem, ↓reduceIte, Nat.reduceEqDiff, Nat.reduceAdd, Nat.reduceSub, Nat.reduceMul, Nat.reduceLT, Nat.reduceLeDiff, reduceCtorEq, Int.reduceToNat])))
  all_goals (try rw [enc_z])
  all_goals unfold textV wholeV
  all_goals (repeat' split)
  all_goals first | omega | rfl | (exfalso; omega) | simp_all [go_sem]
def typRd (q : Bool) (c : K) : K × Option N := if q = true then typQual (rest c + 2) c else typAt (rest c + 2) c
theorem typ_read (q : Bool) (c : K) (hg : c.good) (hr : rest c ≤ 900001) : VMeth Try.prog 34 (curE c) (curE (typRd q c).1) [.agg [.bool q], .ptr 0 0] (resP (typRd q c).2) := by
  refine vcalls_of c0l 1 (by simp) (by simp) ?_
  repeat' (first | refine vi_seq ?_ | refine vi_block ?_ | refine vi_scope ?_ | ((first | refine vi_reg ?_ | refine vi_regE (by rfl) ?_ | refine vi_regD ?_ | refine vi_label ?_ | refine vi_goto ?_ | refine vi_ret ?_ | refine vi_exit ?_ | refine vi_skip ?_ | refine vi_cond ?_ | refine m_app (typ_At (rest c + 2) c hg (by omega)) rfl ?_ | refine m_app (typ_QualAt (rest c + 2) c hg (by omega)) rfl ?_); simp only [go_sem, ↓reduceIte, Nat.reduceEqDiff, Nat.reduceAdd, Nat.reduceSub, Nat.reduceMul, Nat.reduceLT, Nat.reduceLeDiff, reduceCtorEq, Int.reduceToNat]) | ((first | refine gd_caseb ?_ ?_ | refine cnd_caseb ?_ ?_) <;> intro hc <;> simp only [hc, go_sem, ↓reduceIte, Nat.reduceEqDiff, Nat.reduceAdd, Nat.reduceSub, Nat.reduceMul, Nat.reduceLT, Nat.reduceLeDiff, reduceCtorEq, Int.reduceToNat] <;> (try simp only [bool_not_true, bool_not_false, decide_eq_true_eq, decide_eq_false_iff_not, Bool.and_eq_true] at hc)) | refine And.intro (by first | assumption | omega | (have := len_pos (by assumption); omega) | (unfold capOK; omega)) ?_ | ((first | simp (disch := omega) only [encs_getN] | simp (disch := omega) only [wrapS]); (try simp only [go_sem, ↓reduceIte, Nat.reduceEqDiff, Nat.reduceAdd, Nat.reduceSub, Nat.reduceMul, Nat.reduceLT, Nat.reduceLeDiff, reduceCtorEq, Int.reduceToNat])))
  · rw [typRd, if_pos rfl]; exact ⟨rfl, rfl⟩
  · rw [typRd, if_neg (by simp)]; exact ⟨rfl, rfl⟩
theorem mon_typQual (f : Nat) (c : K) : Mon c (typQual f c).1 := by
  have hm := mon_typAt f
  unfold typQual
  split
  · exact (mon_typPreds hm c).trans (hm _)
  · exact mon_typPreds hm c
theorem mon_typRd (q : Bool) (c : K) : Mon c (typRd q c).1 := by
  unfold typRd
  split
  · exact mon_typQual _ c
  · exact mon_typAt _ c
theorem sz_typRd {q : Bool} {c : K} {n : N} (h : (typRd q c).2 = some n) : sz n ≤ rest c + 1 := by
  unfold typRd at h
  split at h
  · exact sz_typQual h
  · have := sz_typAt _ _ _ h; omega
theorem ptypes_Type (s : List UInt8) (hs : s.length ≤ 900000) : VPure Try.prog 9 [.str s] (resV (textV (typRd false) s)) := by
  refine vpure_of c0m (by simp) (by simp only [go_sem]) (by simp only [go_sem]) fun hw => ?_
  repeat' (first | refine vi_seq ?_ | refine vi_block ?_ | refine vi_scope ?_ | ((first | refine vi_reg ?_ | refine vi_regE (by rfl) ?_ | refine vi_regD ?_ | refine vi_label ?_ | refine vi_goto ?_ | refine vi_ret ?_ | refine vi_exit ?_ | refine vi_skip ?_ | refine vi_cond ?_ | refine vapp_pure0 (typ_whole hs (typ_read false) (mon_typRd false) fun _ _ h => sz_typRd h) fun _ => ?_ | refine dapp_pure  (typ_whole hs (typ_read false) (mon_typRd false) fun _ _ h => sz_typRd h) ?_); simp only [go_sem, ↓reduceIte, Nat.reduceEqDiff, Nat.reduceAdd, Nat.reduceSub, Nat.reduceMul, Nat.reduceLT, Nat.reduceLeDiff, reduceCtorEq, Int.reduceToNat]) | ((first | refine gd_caseb ?_ ?_ | refine cnd_caseb ?_ ?_) <;> intro hc <;> simp only [hc, go_sem, ↓reduceIte, Nat.reduceEqDiff, Nat.reduceAdd, Nat.reduceSub, Nat.reduceMul, Nat.reduceLT, Nat.reduceLeDiff, reduceCtorEq, Int.reduceToNat] <;> (try simp only [bool_not_true, bool_not_false, decide_eq_true_eq, decide_eq_false_iff_not, Bool.and_eq_true] at hc)) | refine And.intro (by first | assumption | omega | (have := len_pos (by assumption); omega) | (unfold capOK; omega)) ?_ | ((first | simp (disch := omega) only [encs_getN] | simp (disch := omega) only [wrapS]); (try simp only [go_sem, ↓reduceIte, Nat.reduceEqDiff, Nat.reduceAdd, Nat.reduceSub, Nat.reduceMul, Nat.reduceLT, Nat.reduceLeDiff, reduceCtorEq, Int.reduceToNat])))
theorem ptypes_Qual (s : List UInt8) (hs : s.length ≤ 900000) : VPure Try.prog 12 [.str s] (resV (textV (typRd true) s)) := by
  refine vpure_of c0n (by simp) (by simp only [go_sem]) (by simp only [go_sem]) fun hw => ?_
  repeat' (first | refine vi_seq ?_ | refine vi_block ?_ | refine vi_scope ?_ | ((first | refine vi_reg ?_ | refine vi_regE (by rfl) ?_ | refine vi_regD ?_ | refine vi_label ?_ | refine vi_goto ?_ | refine vi_ret ?_ | refine vi_exit ?_ | refine vi_skip ?_ | refine vi_cond ?_ | refine vapp_pure0 (typ_whole hs (typ_read true) (mon_typRd true) fun _ _ h => sz_typRd h) fun _ => ?_ | refine dapp_pure  (typ_whole hs (typ_read true) (mon_typRd true) fun _ _ h => sz_typRd h) ?_); simp only [go_sem, ↓reduceIte, Nat.reduceEqDiff, Nat.reduceAdd, Nat.reduceSub, Nat.reduceMul, Nat.reduceLT, Nat.reduceLeDiff, reduceCtorEq, Int.reduceToNat]) | ((first | refine gd_caseb ?_ ?_ | refine cnd_caseb ?_ ?_) <;> intro hc <;> simp only [hc, go_sem, ↓reduceIte, Nat.reduceEqDiff, Nat.reduceAdd, Nat.reduceSub, Nat.reduceMul, Nat.reduceLT, Nat.reduceLeDiff, reduceCtorEq, Int.reduceToNat] <;> (try simp only [bool_not_true, bool_not_false, decide_eq_true_eq, decide_eq_false_iff_not, Bool.and_eq_true] at hc)) | refine And.intro (by first | assumption | omega | (have := len_pos (by assumption); omega) | (unfold capOK; omega)) ?_ | ((first | simp (disch := omega) only [encs_getN] | simp (disch := omega) only [wrapS]); (try simp only [go_sem, ↓reduceIte, Nat.reduceEqDiff, Nat.reduceAdd, Nat.reduceSub, Nat.reduceMul, Nat.reduceLT, Nat.reduceLeDiff, reduceCtorEq, Int.reduceToNat])))
end Go.Proofs.Ytjigahnncojikaa

/- types: the reference -/
set_option maxRecDepth 4000
namespace Go.Proofs.Ytjigahnncojikaa
open Go Go.RowKit Go.V
set_option linter.unusedVariables false
set_option linter.unusedSimpArgs false

theorem em_next {c : K} (h : (peekK c).kind ≠ 0) : em (nextK c) < em c := by
  have h1 := rest_next h
  rw [em_ok (peek_there h).1]
  have := em_le (nextK c)
  omega
theorem em_take {c : K} {x : List UInt8} (h : (takeK c x).2 = true) : em (takeK c x).1 < em c := by
  unfold takeK at h ⊢
  split at h
  · rename_i h1
    rw [if_pos h1]
    exact em_next (isK_kind h1)
  · cases h
theorem em_paren {c : K} (h : isK c [40] = true) : em (wantK (enterK c).1 [40]).1 < em c := by
  rw [em_ok (isK_err h)]
  cases he : (enterK c).2 with
  | false => rw [want_err (enter_bad he), em_err (enter_bad he)]; omega
  | true =>
    have h1 : isK (enterK c).1 [40] = true := by rw [enter_is he]; exact h
    have h2 := rest_next (isK_kind h1)
    have h3 := (mon_enter c).2.1
    have h4 := em_le (nextK (enterK c).1)
    rw [wantK_is h1]
    simp only; omega
def refTAtom (rec : K → K × N) (c : K) : K × N :=
  if c.err = 0 then
    if (peekK c).kind = 1 then (nextK c, nameN c 1 [])
    else if (peekK c).kind = 2 then (nextK c, nameN c 2 [])
    else if isK c [40] = true then (leaveK (wantK (rec (wantK (enterK c).1 [40]).1).1 [41]).1, (rec (wantK (enterK c).1 [40]).1).2)
    else (failK c 5, N0)
  else (c, N0)
def refTKids (rec : K → K × N) : Nat → K → List N → K × List N
  | 0, c, acc => (c, acc)
  | f + 1, c, acc => if begT c = true then refTKids rec f (refTAtom rec c).1 (acc ++ [(refTAtom rec c).2]) else (c, acc)
def refTRow (rec : K → K × N) (c : K) : K × N :=
  if (peekK c).kind = 2 then ((refTKids rec (em (nextK c) + 1) (nextK c) []).1, nameN c 2 (refTKids rec (em (nextK c) + 1) (nextK c) []).2) else refTAtom rec c
def refTAt : Nat → K → K × N
  | 0, c => (c, N0)
  | f + 1, c =>
    if (takeK (refTRow (refTAt f) (enterK c).1).1 [45, 62]).2 = true then
      (leaveK (refTAt f (takeK (refTRow (refTAt f) (enterK c).1).1 [45, 62]).1).1, arrowN (refTRow (refTAt f) (enterK c).1).2 (refTAt f (takeK (refTRow (refTAt f) (enterK c).1).1 [45, 62]).1).2)
    else (leaveK (refTRow (refTAt f) (enterK c).1).1, (refTRow (refTAt f) (enterK c).1).2)
section
variable {rec : K → K × N} (hm : ∀ c, Mon c (rec c).1)
include hm
theorem mon_parT (c : K) : Mon (wantK (enterK c).1 [40]).1 (leaveK (wantK (rec (wantK (enterK c).1 [40]).1).1 [41]).1) := ((hm _).trans (mon_want _ _)).trans (mon_leave _)
theorem mon_refTAtom (c : K) : Mon c (refTAtom rec c).1 := by
  unfold refTAtom
  split
  · split
    · exact mon_next c
    · split
      · exact mon_next c
      · split
        · exact ((mon_enter c).trans (mon_want _ _)).trans (mon_parT hm c)
        · exact mon_fail c 5
  · exact Mon.refl c
theorem refTAtom_less {c : K} (h : begT c = true) : em (refTAtom rec c).1 < em c := by
  unfold refTAtom
  rw [if_pos (beg_err h)]
  split
  · exact em_next (by omega)
  · split
    · exact em_next (by omega)
    · rename_i h1 h2
      have hk : isK c [40] = true := by simpa only [begT, decide_eq_false h1, decide_eq_false h2, Bool.false_or] using h
      rw [if_pos hk]
      have h3 := em_paren hk
      have h4 := (mon_parT hm c).em
      simp only; omega
theorem mon_refTKids : ∀ (f : Nat) (c : K) (acc : List N), Mon c (refTKids rec f c acc).1
  | 0, c, acc => Mon.refl c
  | f + 1, c, acc => by
    rw [refTKids]
    split
    · exact (mon_refTAtom hm c).trans (mon_refTKids f _ _)
    · exact Mon.refl c
theorem mon_refTRow (c : K) : Mon c (refTRow rec c).1 := by
  unfold refTRow
  split
  · exact (mon_next c).trans (mon_refTKids hm _ _ _)
  · exact mon_refTAtom hm c
end
theorem mon_refTAt : ∀ (f : Nat) (c : K), Mon c (refTAt f c).1
  | 0, c => Mon.refl c
  | f + 1, c => by
    have hr := (mon_enter c).trans (mon_refTRow (mon_refTAt f) (enterK c).1)
    rw [refTAt]
    split
    · exact ((hr.trans (mon_take _ _)).trans (mon_refTAt f _)).trans (mon_leave _)
    · exact hr.trans (mon_leave _)

/-! The program. -/
theorem ref07_begins (c : K) : VPure Try.prog 78 [refC c] (.bool (begT c)) := by
  refine vpure_of c0g (by simp) (by simp only [go_sem]) rfl fun hw => ?_
  repeat' (first | refine vi_seq ?_ | refine vi_block ?_ | refine vi_scope ?_ | ((first | refine vi_reg ?_ | refine vi_regE (by rfl) ?_ | refine vi_regD ?_ | refine vi_label ?_ | refine vi_goto ?_ | refine vi_ret ?_ | refine vi_exit ?_ | refine vi_skip ?_ | refine vi_cond ?_ | refine vapp_pure0 (ref05_Peek c) fun _ => ?_ | refine vapp_pure0 (ref05_Is c _) fun _ => ?_ | refine dapp_pure  (ref05_Peek c) ?_ | refine dapp_pure  (ref05_Is c _) ?_); simp only [go_sem, ↓reduceIte, Nat.reduceEqDiff, Nat.reduceAdd, Nat.reduceSub, Nat.reduceMul, Nat.reduceLT, Nat.reduceLeDiff, reduceCtorEq, Int.reduceToNat]) | ((first | refine gd_caseb ?_ ?_ | refine cnd_caseb ?_ ?_) <;> intro hc <;> simp only [hc, go_sem, ↓reduceIte, Nat.reduceEqDiff, Nat.reduceAdd, Nat.reduceSub, Nat.reduceMul, Nat.reduceLT, Nat.reduceLeDiff, reduceCtorEq, Int.reduceToNat] <;> (try simp only [bool_not_true, bool_not_false, decide_eq_true_eq, decide_eq_false_iff_not, Bool.and_eq_true] at hc)) | refine And.intro (by first | assumption | omega | (have := len_pos (by assumption); omega) | (unfold capOK; omega)) ?_ | ((first | simp (disch := omega) only [encs_getN] | simp (disch := omega) only [wrapS]); (try simp only [go_sem, ↓reduceIte, Nat.reduceEqDiff, Nat.reduceAdd, Nat.reduceSub, Nat.reduceMul, Nat.reduceLT, Nat.reduceLeDiff, reduceCtorEq, Int.reduceToNat])))
  all_goals (have := @beg_bad c; unfold begT at *; simp_all)
def rowRSt (p : Int) (t : List UInt8) (c : K) (acc : List N) : AF × List Ent :=
  (⟨[(1, .ptr 0 0), (2, .ptr 1 0), (3, .ptr 2 0), (5, .ptr 3 0)], []⟩,
    .blk (refC c).cells :: .blk [.nils, .int .i64 0, .int .i64 0, .int .i64 0, .str [], .int .i64 0, .int .i64 0, .int .i64 0] :: .blk [.int .i64 0, .int .i64 0, .int .i64 0, .str [], .nils] :: .blk [.int .i64 2, .int .i64 p, .int .i64 0, .str t, accV 4 (encs acc)] :: accE 5 (encs acc))
section
variable {rec : K → K × N} {b : Nat} (hm : ∀ c, Mon c (rec c).1) (ih : ∀ c, c.good → em c < b → VPure Try.prog 21 [refC c] (.tup [refC (rec c).1, enc (rec c).2]))
include hm ih
theorem ref07_Atom (c : K) (hg : c.good) (hr : em c ≤ b) : VPure Try.prog 17 [refC c] (.tup [refC (refTAtom rec c).1, enc (refTAtom rec c).2]) := by
  have g1 : (wantK (enterK c).1 [40]).1.good := ((mon_enter c).trans (mon_want _ _)).1 hg
  have g2 : (wantK (rec (wantK (enterK c).1 [40]).1).1 [41]).1.good := ((hm _).trans (mon_want _ _)).1 g1
  refine vpure_of c0h (by simp) (by simp only [go_sem]) (by simp only [go_sem]) fun hw => ?_
  repeat' (first | refine vi_seq ?_ | refine vi_block ?_ | refine vi_scope ?_ | ((first | refine vi_reg ?_ | refine vi_regE (by rfl) ?_ | refine vi_regD ?_ | refine vi_label ?_ | refine vi_goto ?_ | refine vi_ret ?_ | refine vi_exit ?_ | refine vi_skip ?_ | refine vi_cond ?_ | refine vapp_pure0 (ref05_Peek c) fun _ => ?_ | refine vapp_pure0 (ref05_Is c _) fun _ => ?_ | refine vapp_pure0 (ref05_Fail c _) fun _ => ?_ | refine vapp_pure0 (ref05_Enter c) fun _ => ?_ | refine vapp_pure0 (ref05_Want _ _) fun _ => ?_ | refine vapp_pure0 (ih _ g1 (Nat.lt_of_lt_of_le (em_paren (by assumption)) hr)) fun _ => ?_ | refine vapp_pure0 (ref05_Leave _ g2.2.2) fun _ => ?_ | refine vapp_pure0 (ref05_Next c) fun _ => ?_ | refine dapp_pure  (ref05_Peek c) ?_ | refine dapp_pure  (ref05_Is c _) ?_ | refine dapp_pure  (ref05_Fail c _) ?_ | refine dapp_pure  (ref05_Enter c) ?_ | refine dapp_pure  (ref05_Want _ _) ?_ | refine dapp_pure  (ih _ g1 (Nat.lt_of_lt_of_le (em_paren (by assumption)) hr)) ?_ | refine dapp_pure  (ref05_Leave _ g2.2.2) ?_ | refine dapp_pure  (ref05_Next c) ?_); simp only [go_sem, ↓reduceIte, Nat.reduceEqDiff, Nat.reduceAdd, Nat.reduceSub, Nat.reduceMul, Nat.reduceLT, Nat.reduceLeDiff, reduceCtorEq, Int.reduceToNat]) | ((first | refine gd_caseb ?_ ?_ | refine cnd_caseb ?_ ?_) <;> intro hc <;> simp only [hc, go_sem, ↓reduceIte, Nat.reduceEqDiff, Nat.reduceAdd, Nat.reduceSub, Nat.reduceMul, Nat.reduceLT, Nat.reduceLeDiff, reduceCtorEq, Int.reduceToNat] <;> (try simp only [bool_not_true, bool_not_false, decide_eq_true_eq, decide_eq_false_iff_not, Bool.and_eq_true] at hc)) | refine And.intro (by first | assumption | omega | (have := len_pos (by assumption); omega) | (unfold capOK; omega)) ?_ | ((first | simp (disch := omega) only [encs_getN] | simp (disch := omega) only [wrapS]); (try simp only [go_sem, ↓reduceIte, Nat.reduceEqDiff, Nat.reduceAdd, Nat.reduceSub, Nat.reduceMul, Nat.reduceLT, Nat.reduceLeDiff, reduceCtorEq, Int.reduceToNat])))
  all_goals (unfold refTAtom nameN; simp only [*, enc_z, Int.reduceEq, if_true, if_false, reduceIte, Bool.false_eq_true, Option.getD_none, Option.getD_some, Option.isSome_none, Option.isSome_some, and_self, true_and, and_true]; try rfl)
theorem ref07_row (c : K) (hg : c.good) (hr : em c ≤ b) : VPure Try.prog 58 [refC c] (.tup [refC (refTRow rec c).1, enc (refTRow rec c).2]) := by
  refine vpure_of c0i (by simp) (by simp only [go_sem]) (by simp only [go_sem]) fun hw => ?_
  by_cases hk : (peekK c).kind = 2
  · have hpa : refTRow rec c = ((refTKids rec (em (nextK c) + 1) (nextK c) []).1, nameN c 2 (refTKids rec (em (nextK c) + 1) (nextK c) []).2) := by rw [refTRow, if_pos hk]
    rw [hpa]
    clear hpa
    have g1 : (nextK c).good := (mon_next _).1 hg
    have hr1 : em (nextK c) ≤ b := by have := (mon_next c).em; omega
    generalize htg : refTKids rec (em (nextK c) + 1) (nextK c) [] = tg
    repeat' (first | refine vi_seq ?_ | refine vi_block ?_ | refine vi_scope ?_ | ((first | refine vi_reg ?_ | refine vi_regE (by rfl) ?_ | refine vi_regD ?_ | refine vi_label ?_ | refine vi_goto ?_ | refine vi_ret ?_ | refine vi_exit ?_ | refine vi_skip ?_ | refine vi_cond ?_); simp (disch := first | omega | (simp only [List.length_set, List.length_append, List.length_cons, List.length_nil]; done) | (simp only [List.length_set, List.length_append, List.length_cons, List.length_nil]; omega)) only [hk, Int.reduceEq, go_sem, ↓reduceIte, Nat.reduceEqDiff, Nat.reduceAdd, Nat.reduceSub, Nat.reduceMul, Nat.reduceLT, Nat.reduceLeDiff, reduceCtorEq, Int.reduceToNat]) | ((first | refine gd_caseb ?_ ?_ | refine cnd_caseb ?_ ?_) <;> intro hc <;> simp only [hc, go_sem, ↓reduceIte, Nat.reduceEqDiff, Nat.reduceAdd, Nat.reduceSub, Nat.reduceMul, Nat.reduceLT, Nat.reduceLeDiff, reduceCtorEq, Int.reduceToNat] <;> (try simp only [bool_not_true, bool_not_false, decide_eq_true_eq, decide_eq_false_iff_not, Bool.and_eq_true] at hc)) | refine And.intro (by first | assumption | omega | (have := len_pos (by assumption); omega) | (unfold capOK; omega)) ?_ | ((first | simp (disch := omega) only [encs_getN] | simp (disch := omega) only [wrapS]); (try simp only [go_sem, ↓reduceIte, Nat.reduceEqDiff, Nat.reduceAdd, Nat.reduceSub, Nat.reduceMul, Nat.reduceLT, Nat.reduceLeDiff, reduceCtorEq, Int.reduceToNat])) | ((first | refine vapp_pure0 (ref05_Peek _) fun _ => ?_ | refine vapp_pure0 (ref05_Next _) fun _ => ?_ | refine dapp_pure  (ref05_Peek _) ?_ | refine dapp_pure  (ref05_Next _) ?_); simp only [go_sem, ↓reduceIte, Nat.reduceEqDiff, Nat.reduceAdd, Nat.reduceSub, Nat.reduceMul, Nat.reduceLT, Nat.reduceLeDiff, reduceCtorEq, Int.reduceToNat]))
    refine vi_loop (S := Nat × K × List N) (fun x => x.2.1.good ∧ em x.2.1 ≤ b ∧ refTKids rec x.1 x.2.1 x.2.2 = tg ∧ em x.2.1 < x.1 ∧ x.2.2.length + em x.2.1 ≤ 1048578)
      (fun x => rowRSt (peekK c).pos (peekK c).text x.2.1 x.2.2) (fun x => em x.2.1) ?_ ?_
    · refine at_of (em (nextK c) + 1, nextK c, []) [0, 1, 2, 4] ⟨g1, hr1, htg, by simp only; omega, ?_⟩ rfl (by simp) ?_ ?_ ?_
      · have h9 := g1.rest
        have h8 := em_le (nextK c)
        unfold rest at h8
        simp only [List.length_nil]
        omega
      all_goals simp only [rowRSt, encs, accV_nil, accE_nil]
      all_goals simp only [go_sem, ↓reduceIte, Nat.reduceEqDiff, Nat.reduceAdd, Nat.reduceSub, Nat.reduceMul, Nat.reduceLT, Nat.reduceLeDiff, reduceCtorEq, Int.reduceToNat]
    · rintro ⟨fu, d, acc⟩ ⟨i1, i2, i3, i4, i5⟩
      simp only at i1 i2 i3 i4 i5
      unfold rowRSt
      obtain ⟨fu, rfl⟩ : ∃ k, fu = k + 1 := ⟨fu - 1, by omega⟩
      rw [refTKids] at i3
      have hcap : capOK (acc.length + 1) 64 := capN (by omega)
      have j1 : (refTAtom rec d).1.good := (mon_refTAtom hm d).1 i1
      have j2 : em (refTAtom rec d).1 ≤ em d := (mon_refTAtom hm d).em
      by_cases h0 : acc = []
      · subst h0
        simp only [encs, accV_nil, accE_nil]
        repeat' (first | refine vi_seq ?_ | refine vi_block ?_ | refine vi_scope ?_ | ((first | refine vi_reg ?_ | refine vi_regE (by rfl) ?_ | refine vi_regD ?_ | refine vi_label ?_ | refine vi_goto ?_ | refine vi_ret ?_ | refine vi_exit ?_ | refine vi_skip ?_ | refine vi_cond ?_ | refine vapp_pure0 (ref07_begins _) fun _ => ?_ | refine vapp_pure0 (ref07_Atom hm ih _ i1 i2) fun _ => ?_ | refine dapp_pure  (ref07_begins _) ?_ | refine dapp_pure  (ref07_Atom hm ih _ i1 i2) ?_); simp only [go_sem, ↓reduceIte, Nat.reduceEqDiff, Nat.reduceAdd, Nat.reduceSub, Nat.reduceMul, Nat.reduceLT, Nat.reduceLeDiff, reduceCtorEq, Int.reduceToNat]) | ((first | refine gd_caseb ?_ ?_ | refine cnd_caseb ?_ ?_) <;> intro hc <;> simp only [hc, go_sem, ↓reduceIte, Nat.reduceEqDiff, Nat.reduceAdd, Nat.reduceSub, Nat.reduceMul, Nat.reduceLT, Nat.reduceLeDiff, reduceCtorEq, Int.reduceToNat] <;> (try simp only [bool_not_true, bool_not_false, decide_eq_true_eq, decide_eq_false_iff_not, Bool.and_eq_true] at hc)) | refine And.intro (by first | assumption | omega | (have := len_pos (by assumption); omega) | (unfold capOK; omega)) ?_ | ((first | simp (disch := omega) only [encs_getN] | simp (disch := omega) only [wrapS]); (try simp only [go_sem, ↓reduceIte, Nat.reduceEqDiff, Nat.reduceAdd, Nat.reduceSub, Nat.reduceMul, Nat.reduceLT, Nat.reduceLeDiff, reduceCtorEq, Int.reduceToNat])))
        · have hb : begT d = true := by assumption
          rw [if_pos hb] at i3
          have hlt := refTAtom_less hm hb
          refine at_of (fu, (refTAtom rec d).1, [] ++ [(refTAtom rec d).2]) [0, 1, 2, 3, 6] ⟨⟨j1, by simp only; omega, i3, by simp only; omega, ?_⟩, by simp only; omega⟩ rfl (by simp) ?_ ?_ ?_
          · simp only [List.length_append, List.length_cons, List.length_nil]; omega
          all_goals simp only [rowRSt, ← encs_snoc, accV_snoc, accE_snoc, List.nil_append, encs, accV_one, accE_one]
          all_goals simp only [go_sem, ↓reduceIte, Nat.reduceEqDiff, Nat.reduceAdd, Nat.reduceSub, Nat.reduceMul, Nat.reduceLT, Nat.reduceLeDiff, reduceCtorEq, Int.reduceToNat]
        · have hb : begT d = false := by assumption
          rw [if_neg (by rw [hb]; simp)] at i3
          subst i3
          rfl
      · have hne := encs_ne h0
        simp only [accV_ne hne, accE_ne hne, encs_len]
        repeat' (first | refine vi_seq ?_ | refine vi_block ?_ | refine vi_scope ?_ | ((first | refine vi_reg ?_ | refine vi_regE (by rfl) ?_ | refine vi_regD ?_ | refine vi_label ?_ | refine vi_goto ?_ | refine vi_ret ?_ | refine vi_exit ?_ | refine vi_skip ?_ | refine vi_cond ?_ | refine vapp_pure0 (ref07_begins _) fun _ => ?_ | refine vapp_pure0 (ref07_Atom hm ih _ i1 i2) fun _ => ?_ | refine dapp_pure  (ref07_begins _) ?_ | refine dapp_pure  (ref07_Atom hm ih _ i1 i2) ?_); simp only [go_sem, ↓reduceIte, Nat.reduceEqDiff, Nat.reduceAdd, Nat.reduceSub, Nat.reduceMul, Nat.reduceLT, Nat.reduceLeDiff, reduceCtorEq, Int.reduceToNat]) | ((first | refine gd_caseb ?_ ?_ | refine cnd_caseb ?_ ?_) <;> intro hc <;> simp only [hc, go_sem, ↓reduceIte, Nat.reduceEqDiff, Nat.reduceAdd, Nat.reduceSub, Nat.reduceMul, Nat.reduceLT, Nat.reduceLeDiff, reduceCtorEq, Int.reduceToNat] <;> (try simp only [bool_not_true, bool_not_false, decide_eq_true_eq, decide_eq_false_iff_not, Bool.and_eq_true] at hc)) | refine And.intro (by first | assumption | omega | (have := len_pos (by assumption); omega) | (unfold capOK; omega)) ?_ | ((first | simp (disch := omega) only [encs_getN] | simp (disch := omega) only [wrapS]); (try simp only [go_sem, ↓reduceIte, Nat.reduceEqDiff, Nat.reduceAdd, Nat.reduceSub, Nat.reduceMul, Nat.reduceLT, Nat.reduceLeDiff, reduceCtorEq, Int.reduceToNat])))
        · have hb : begT d = true := by assumption
          rw [if_pos hb] at i3
          have hlt := refTAtom_less hm hb
          refine at_of (fu, (refTAtom rec d).1, acc ++ [(refTAtom rec d).2]) [0, 1, 2, 3, 7] ⟨⟨j1, by simp only; omega, i3, by simp only; omega, ?_⟩, by simp only; omega⟩ rfl (by simp) ?_ ?_ ?_
          · simp only [List.length_append, List.length_cons, List.length_nil]; omega
          all_goals simp only [rowRSt, ← encs_snoc, accV_snoc, accE_snoc, List.nil_append, encs, accV_one, accE_one]
          all_goals simp only [go_sem, ↓reduceIte, Nat.reduceEqDiff, Nat.reduceAdd, Nat.reduceSub, Nat.reduceMul, Nat.reduceLT, Nat.reduceLeDiff, reduceCtorEq, Int.reduceToNat]
          rw [encs_snoc, encs_bd, encs_ren]; exact ⟨rfl, rfl⟩
        · have hb : begT d = false := by assumption
          rw [if_neg (by rw [hb]; simp)] at i3
          subst i3
          rfl
  · repeat' (first | refine vi_seq ?_ | refine vi_block ?_ | refine vi_scope ?_ | ((first | refine vi_reg ?_ | refine vi_regE (by rfl) ?_ | refine vi_regD ?_ | refine vi_label ?_ | refine vi_goto ?_ | refine vi_ret ?_ | refine vi_exit ?_ | refine vi_skip ?_ | refine vi_cond ?_); simp (disch := first | omega | (simp only [List.length_set, List.length_append, List.length_cons, List.length_nil]; done) | (simp only [List.length_set, List.length_append, List.length_cons, List.length_nil]; omega)) only [hk, go_sem, ↓reduceIte, Nat.reduceEqDiff, Nat.reduceAdd, Nat.reduceSub, Nat.reduceMul, Nat.reduceLT, Nat.reduceLeDiff, reduceCtorEq, Int.reduceToNat]) | ((first | refine gd_caseb ?_ ?_ | refine cnd_caseb ?_ ?_) <;> intro hc <;> simp only [hc, go_sem, ↓reduceIte, Nat.reduceEqDiff, Nat.reduceAdd, Nat.reduceSub, Nat.reduceMul, Nat.reduceLT, Nat.reduceLeDiff, reduceCtorEq, Int.reduceToNat] <;> (try simp only [bool_not_true, bool_not_false, decide_eq_true_eq, decide_eq_false_iff_not, Bool.and_eq_true] at hc)) | refine And.intro (by first | assumption | omega | (have := len_pos (by assumption); omega) | (unfold capOK; omega)) ?_ | ((first | simp (disch := omega) only [encs_getN] | simp (disch := omega) only [wrapS]); (try simp only [go_sem, ↓reduceIte, Nat.reduceEqDiff, Nat.reduceAdd, Nat.reduceSub, Nat.reduceMul, Nat.reduceLT, Nat.reduceLeDiff, reduceCtorEq, Int.reduceToNat])) | ((first | refine vapp_pure0 (ref05_Peek _) fun _ => ?_ | refine vapp_pure0 (ref07_Atom hm ih c hg hr) fun _ => ?_ | refine dapp_pure  (ref05_Peek _) ?_ | refine dapp_pure  (ref07_Atom hm ih c hg hr) ?_); simp only [go_sem, ↓reduceIte, Nat.reduceEqDiff, Nat.reduceAdd, Nat.reduceSub, Nat.reduceMul, Nat.reduceLT, Nat.reduceLeDiff, reduceCtorEq, Int.reduceToNat]))
    rw [refTRow, if_neg hk]
end
theorem ref07_At_step {f : Nat} (ih : ∀ c, c.good → em c < f → VPure Try.prog 21 [refC c] (.tup [refC (refTAt f c).1, enc (refTAt f c).2])) (c : K) (hg : c.good) (hr : em c < f + 1) :
    VPure Try.prog 21 [refC c] (.tup [refC (refTAt (f + 1) c).1, enc (refTAt (f + 1) c).2]) := by
  have hm := mon_refTAt f
  have g1 : (enterK c).1.good := (mon_enter c).1 hg
  have hr1 : em (enterK c).1 ≤ f := by have := (mon_enter c).em; omega
  have hrow := ref07_row hm ih _ g1 hr1
  have mrow := mon_refTRow hm (enterK c).1
  have hpa : refTAt (f + 1) c = if (takeK (refTRow (refTAt f) (enterK c).1).1 [45, 62]).2 = true then
      (leaveK (refTAt f (takeK (refTRow (refTAt f) (enterK c).1).1 [45, 62]).1).1, arrowN (refTRow (refTAt f) (enterK c).1).2 (refTAt f (takeK (refTRow (refTAt f) (enterK c).1).1 [45, 62]).1).2)
    else (leaveK (refTRow (refTAt f) (enterK c).1).1, (refTRow (refTAt f) (enterK c).1).2) := by rw [refTAt]
  rw [hpa]
  clear hpa
  generalize refTRow (refTAt f) (enterK c).1 = r at *
  have g2 : r.1.good := mrow.1 g1
  have g3 : (takeK r.1 [45, 62]).1.good := (mon_take _ _).1 g2
  have g4 : (refTAt f (takeK r.1 [45, 62]).1).1.good := (hm _).1 g3
  have hlt : (takeK r.1 [45, 62]).2 = true → em (takeK r.1 [45, 62]).1 < f := fun h => by
    have := em_take h
    have := mrow.em
    omega
  refine vpure_of c0j (by simp) (by simp only [go_sem]) (by simp only [go_sem]) fun hw => ?_
  repeat' (first | refine vi_seq ?_ | refine vi_block ?_ | refine vi_scope ?_ | ((first | refine vi_reg ?_ | refine vi_regE (by rfl) ?_ | refine vi_regD ?_ | refine vi_label ?_ | refine vi_goto ?_ | refine vi_ret ?_ | refine vi_exit ?_ | refine vi_skip ?_ | refine vi_cond ?_ | refine vapp_pure0 (ref05_Enter c) fun _ => ?_ | refine vapp_pure0 hrow fun _ => ?_ | refine vapp_pure0 (ref05_Take _ _) fun _ => ?_ | refine vapp_pure0 (ih _ g3 (hlt (by assumption))) fun _ => ?_ | refine vapp_pure0 (ref05_Leave _ g4.2.2) fun _ => ?_ | refine vapp_pure0 (ref05_Leave _ g3.2.2) fun _ => ?_ | refine dapp_pure  (ref05_Enter c) ?_ | refine dapp_pure  hrow ?_ | refine dapp_pure  (ref05_Take _ _) ?_ | refine dapp_pure  (ih _ g3 (hlt (by assumption))) ?_ | refine dapp_pure  (ref05_Leave _ g4.2.2) ?_ | refine dapp_pure  (ref05_Leave _ g3.2.2) ?_); simp only [go_sem, ↓reduceIte, Nat.reduceEqDiff, Nat.reduceAdd, Nat.reduceSub, Nat.reduceMul, Nat.reduceLT, Nat.reduceLeDiff, reduceCtorEq, Int.reduceToNat]) | ((first | refine gd_caseb ?_ ?_ | refine cnd_caseb ?_ ?_) <;> intro hc <;> simp only [hc, go_sem, ↓reduceIte, Nat.reduceEqDiff, Nat.reduceAdd, Nat.reduceSub, Nat.reduceMul, Nat.reduceLT, Nat.reduceLeDiff, reduceCtorEq, Int.reduceToNat] <;> (try simp only [bool_not_true, bool_not_false, decide_eq_true_eq, decide_eq_false_iff_not, Bool.and_eq_true] at hc)) | refine And.intro (by first | assumption | omega | (have := len_pos (by assumption); omega) | (unfold capOK; omega)) ?_ | ((first | simp (disch := omega) only [encs_getN] | simp (disch := omega) only [wrapS]); (try simp only [go_sem, ↓reduceIte, Nat.reduceEqDiff, Nat.reduceAdd, Nat.reduceSub, Nat.reduceMul, Nat.reduceLT, Nat.reduceLeDiff, reduceCtorEq, Int.reduceToNat])))
  · simp only [arrowN, enc, encs]
  · rw [takeK_same' (by assumption)]
theorem ref07_At (f : Nat) : ∀ c : K, c.good → em c < f → VPure Try.prog 21 [refC c] (.tup [refC (refTAt f c).1, enc (refTAt f c).2]) := by
  induction f with
  | zero => exact fun c _ h => absurd h (by omega)
  | succ f ih => exact ref07_At_step ih
end Go.Proofs.Ytjigahnncojikaa

/- types: contexts: the reference -/
set_option maxRecDepth 4000
namespace Go.Proofs.Ytjigahnncojikaa
open Go Go.RowKit Go.V
set_option linter.unusedVariables false
set_option linter.unusedSimpArgs false

def refPred (rec : K → K × N) (c : K) : K × N := ((refTAtom rec (kindK c 2).1).1, predN (kindT c 2) (refTAtom rec (kindK c 2).1).2)
def refPredsL (rec : K → K × N) : Nat → K → List N → K × List N
  | 0, c, acc => (c, acc)
  | f + 1, c, acc =>
    if (takeK (refPred rec c).1 [44]).2 = true then refPredsL rec f (takeK (refPred rec c).1 [44]).1 (acc ++ [(refPred rec c).2])
    else ((refPred rec c).1, acc ++ [(refPred rec c).2])
def refPredsB (rec : K → K × N) (c : K) : K × List N :=
  if isK c [41] = true then (c, []) else refPredsL rec (em c + 2) c []
def refPreds (rec : K → K × N) (c : K) : K × List N :=
  if aheadK c [61, 62] = true then
    if (takeK c [40]).2 = true then ((wantK (wantK (refPredsB rec (takeK c [40]).1).1 [41]).1 [61, 62]).1, (refPredsB rec (takeK c [40]).1).2)
    else ((wantK (refPred rec c).1 [61, 62]).1, [(refPred rec c).2])
  else (c, [])
section
variable {rec : K → K × N} (hm : ∀ c, Mon c (rec c).1)
include hm
theorem mon_refPred (c : K) : Mon c (refPred rec c).1 := (mon_kind c 2).trans (mon_refTAtom hm _)
theorem mon_refPredsL : ∀ (f : Nat) (c : K) (acc : List N), Mon c (refPredsL rec f c acc).1
  | 0, c, acc => Mon.refl c
  | f + 1, c, acc => by
    rw [refPredsL]
    split
    · exact ((mon_refPred hm c).trans (mon_take _ _)).trans (mon_refPredsL f _ _)
    · exact mon_refPred hm c
theorem mon_refPredsB (c : K) : Mon c (refPredsB rec c).1 := by
  unfold refPredsB
  split
  · exact Mon.refl c
  · exact mon_refPredsL hm _ _ _
theorem mon_refPreds (c : K) : Mon c (refPreds rec c).1 := by
  unfold refPreds
  split
  · split
    · exact (((mon_take c _).trans (mon_refPredsB hm _)).trans (mon_want _ _)).trans (mon_want _ _)
    · exact (mon_refPred hm c).trans (mon_want _ _)
  · exact Mon.refl c
end
def preRSt (x : Bool × Nat × K × List N) : AF × List Ent :=
  (⟨[(2, .ptr 0 0), (4, accV 2 (encs x.2.2.2)), (5, .ptr 1 0), (9, .bool x.1)], []⟩,
    .blk [.nils, .int .i64 0, .int .i64 0, .int .i64 0, .str [], .int .i64 0, .int .i64 0, .int .i64 0] :: .blk (refC x.2.2.1).cells :: accE 5 (encs x.2.2.2))
section
variable {rec : K → K × N} {b : Nat} (hm : ∀ c, Mon c (rec c).1) (ih : ∀ c, c.good → em c < b → VPure Try.prog 21 [refC c] (.tup [refC (rec c).1, enc (rec c).2]))
include hm ih
theorem ref07_pred (c : K) (hg : c.good) (hr : em c ≤ b) : VPure Try.prog 56 [refC c] (.tup [refC (refPred rec c).1, enc (refPred rec c).2]) := by
  have g1 : (kindK c 2).1.good := (mon_kind c 2).1 hg
  have hr1 : em (kindK c 2).1 ≤ b := by have := (mon_kind c 2).em; omega
  refine vpure_of c0d (by simp) (by simp only [go_sem]) (by simp only [go_sem]) fun hw => ?_
  repeat' (first | refine vi_seq ?_ | refine vi_block ?_ | refine vi_scope ?_ | ((first | refine vi_reg ?_ | refine vi_regE (by rfl) ?_ | refine vi_regD ?_ | refine vi_label ?_ | refine vi_goto ?_ | refine vi_ret ?_ | refine vi_exit ?_ | refine vi_skip ?_ | refine vi_cond ?_ | refine vapp_pure0 (ref05_Kind c 2) fun _ => ?_ | refine vapp_pure0 (ref07_Atom hm ih _ g1 hr1) fun _ => ?_ | refine dapp_pure  (ref05_Kind c 2) ?_ | refine dapp_pure  (ref07_Atom hm ih _ g1 hr1) ?_); simp only [go_sem, ↓reduceIte, Nat.reduceEqDiff, Nat.reduceAdd, Nat.reduceSub, Nat.reduceMul, Nat.reduceLT, Nat.reduceLeDiff, reduceCtorEq, Int.reduceToNat]) | ((first | refine gd_caseb ?_ ?_ | refine cnd_caseb ?_ ?_) <;> intro hc <;> simp only [hc, go_sem, ↓reduceIte, Nat.reduceEqDiff, Nat.reduceAdd, Nat.reduceSub, Nat.reduceMul, Nat.reduceLT, Nat.reduceLeDiff, reduceCtorEq, Int.reduceToNat] <;> (try simp only [bool_not_true, bool_not_false, decide_eq_true_eq, decide_eq_false_iff_not, Bool.and_eq_true] at hc)) | refine And.intro (by first | assumption | omega | (have := len_pos (by assumption); omega) | (unfold capOK; omega)) ?_ | ((first | simp (disch := omega) only [encs_getN] | simp (disch := omega) only [wrapS]); (try simp only [go_sem, ↓reduceIte, Nat.reduceEqDiff, Nat.reduceAdd, Nat.reduceSub, Nat.reduceMul, Nat.reduceLT, Nat.reduceLeDiff, reduceCtorEq, Int.reduceToNat])))
  all_goals (simp only [refPred, predN, enc, encs])
theorem ref07_Preds (c : K) (hg : c.good) (hr : em c ≤ b) : VPure Try.prog 19 [refC c] (.tup [refC (refPreds rec c).1, .sl 5 (encs (refPreds rec c).2)]) := by
  refine vpure_of c0e (by simp) (by simp only [go_sem]) (by simp only [go_sem]) fun hw => ?_
  have g1 : (takeK c [40]).1.good := (mon_take c _).1 hg
  have hr1 : em (takeK c [40]).1 ≤ b := by have := (mon_take c [40]).em; omega
  unfold refPreds
  by_cases ha : aheadK c [61, 62] = true
  · rw [if_pos ha]
    by_cases ht : (takeK c [40]).2 = true
    · rw [if_pos ht]
      generalize htg : refPredsB rec (takeK c [40]).1 = tg
      have gt : tg.1.good := htg ▸ (mon_refPredsB hm _).1 g1
      unfold refPredsB at htg
      by_cases hi : isK (takeK c [40]).1 [41] = true
      · rw [if_pos hi] at htg
        subst htg
        repeat' (first | refine vi_seq ?_ | refine vi_block ?_ | refine vi_scope ?_ | ((first | refine vi_reg ?_ | refine vi_regE (by rfl) ?_ | refine vi_regD ?_ | refine vi_label ?_ | refine vi_goto ?_ | refine vi_ret ?_ | refine vi_exit ?_ | refine vi_skip ?_ | refine vi_cond ?_); simp (disch := first | omega | (simp only [List.length_set, List.length_append, List.length_cons, List.length_nil]; done) | (simp only [List.length_set, List.length_append, List.length_cons, List.length_nil]; omega)) only [ha, ht, hi, go_sem, ↓reduceIte, Nat.reduceEqDiff, Nat.reduceAdd, Nat.reduceSub, Nat.reduceMul, Nat.reduceLT, Nat.reduceLeDiff, reduceCtorEq, Int.reduceToNat]) | ((first | refine gd_caseb ?_ ?_ | refine cnd_caseb ?_ ?_) <;> intro hc <;> simp only [hc, go_sem, ↓reduceIte, Nat.reduceEqDiff, Nat.reduceAdd, Nat.reduceSub, Nat.reduceMul, Nat.reduceLT, Nat.reduceLeDiff, reduceCtorEq, Int.reduceToNat] <;> (try simp only [bool_not_true, bool_not_false, decide_eq_true_eq, decide_eq_false_iff_not, Bool.and_eq_true] at hc)) | refine And.intro (by first | assumption | omega | (have := len_pos (by assumption); omega) | (unfold capOK; omega)) ?_ | ((first | simp (disch := omega) only [encs_getN] | simp (disch := omega) only [wrapS]); (try simp only [go_sem, ↓reduceIte, Nat.reduceEqDiff, Nat.reduceAdd, Nat.reduceSub, Nat.reduceMul, Nat.reduceLT, Nat.reduceLeDiff, reduceCtorEq, Int.reduceToNat])) | ((first | refine vapp_pure0 (ref05_Ahead c hg.2.1 _) fun _ => ?_ | refine vapp_pure0 (ref05_Take c _) fun _ => ?_ | refine vapp_pure0 (ref05_Is _ _) fun _ => ?_ | refine vapp_pure0 (ref05_Want _ _) fun _ => ?_ | refine dapp_pure  (ref05_Ahead c hg.2.1 _) ?_ | refine dapp_pure  (ref05_Take c _) ?_ | refine dapp_pure  (ref05_Is _ _) ?_ | refine dapp_pure  (ref05_Want _ _) ?_); simp only [go_sem, ↓reduceIte, Nat.reduceEqDiff, Nat.reduceAdd, Nat.reduceSub, Nat.reduceMul, Nat.reduceLT, Nat.reduceLeDiff, reduceCtorEq, Int.reduceToNat]))
        rfl
      · rw [if_neg hi] at htg
        repeat' (first | refine vi_seq ?_ | refine vi_block ?_ | refine vi_scope ?_ | ((first | refine vi_reg ?_ | refine vi_regE (by rfl) ?_ | refine vi_regD ?_ | refine vi_label ?_ | refine vi_goto ?_ | refine vi_ret ?_ | refine vi_exit ?_ | refine vi_skip ?_ | refine vi_cond ?_); simp (disch := first | omega | (simp only [List.length_set, List.length_append, List.length_cons, List.length_nil]; done) | (simp only [List.length_set, List.length_append, List.length_cons, List.length_nil]; omega)) only [ha, ht, hi, go_sem, ↓reduceIte, Nat.reduceEqDiff, Nat.reduceAdd, Nat.reduceSub, Nat.reduceMul, Nat.reduceLT, Nat.reduceLeDiff, reduceCtorEq, Int.reduceToNat]) | ((first | refine gd_caseb ?_ ?_ | refine cnd_caseb ?_ ?_) <;> intro hc <;> simp only [hc, go_sem, ↓reduceIte, Nat.reduceEqDiff, Nat.reduceAdd, Nat.reduceSub, Nat.reduceMul, Nat.reduceLT, Nat.reduceLeDiff, reduceCtorEq, Int.reduceToNat] <;> (try simp only [bool_not_true, bool_not_false, decide_eq_true_eq, decide_eq_false_iff_not, Bool.and_eq_true] at hc)) | refine And.intro (by first | assumption | omega | (have := len_pos (by assumption); omega) | (unfold capOK; omega)) ?_ | ((first | simp (disch := omega) only [encs_getN] | simp (disch := omega) only [wrapS]); (try simp only [go_sem, ↓reduceIte, Nat.reduceEqDiff, Nat.reduceAdd, Nat.reduceSub, Nat.reduceMul, Nat.reduceLT, Nat.reduceLeDiff, reduceCtorEq, Int.reduceToNat])) | ((first | refine vapp_pure0 (ref05_Ahead c hg.2.1 _) fun _ => ?_ | refine vapp_pure0 (ref05_Take c _) fun _ => ?_ | refine vapp_pure0 (ref05_Is _ _) fun _ => ?_ | refine vapp_pure0 (ref05_Want _ _) fun _ => ?_ | refine dapp_pure  (ref05_Ahead c hg.2.1 _) ?_ | refine dapp_pure  (ref05_Take c _) ?_ | refine dapp_pure  (ref05_Is _ _) ?_ | refine dapp_pure  (ref05_Want _ _) ?_); simp only [go_sem, ↓reduceIte, Nat.reduceEqDiff, Nat.reduceAdd, Nat.reduceSub, Nat.reduceMul, Nat.reduceLT, Nat.reduceLeDiff, reduceCtorEq, Int.reduceToNat]))
        refine vi_loop (S := Bool × Nat × K × List N) (fun x => x.2.2.1.good ∧ em x.2.2.1 ≤ b ∧ (x.1 = true → refPredsL rec x.2.1 x.2.2.1 x.2.2.2 = tg ∧ em x.2.2.1 < x.2.1 ∧ x.2.2.2.length + em x.2.2.1 ≤ 1048578) ∧ (x.1 = false → tg = (x.2.2.1, x.2.2.2)))
          preRSt (fun x => if x.1 = true then em x.2.2.1 + 1 else 0) ?_ ?_
        · refine at_of (true, em (takeK c [40]).1 + 2, (takeK c [40]).1, []) [1, 2] ⟨g1, hr1, fun _ => ⟨htg, by simp only; omega, ?_⟩, (by intro h; cases h)⟩ rfl (by simp) ?_ ?_ ?_
          · have h9 := g1.rest
            have h8 := em_le (takeK c [40]).1
            unfold rest at h8
            simp only [List.length_nil]
            omega
          all_goals simp only [preRSt, encs, accV_nil, accE_nil]
          all_goals simp only [go_sem, ↓reduceIte, Nat.reduceEqDiff, Nat.reduceAdd, Nat.reduceSub, Nat.reduceMul, Nat.reduceLT, Nat.reduceLeDiff, reduceCtorEq, Int.reduceToNat]
        · rintro ⟨more, fu, d, acc⟩ ⟨i1, i2, i3, i4⟩
          simp only at i1 i2 i3 i4
          unfold preRSt
          cases more with
          | false =>
            have i4 := i4 rfl
            subst i4
            clear i3
            by_cases h0 : acc = []
            · subst h0
              simp only [encs, accV_nil, accE_nil]
              repeat' (first | refine vi_seq ?_ | refine vi_block ?_ | refine vi_scope ?_ | ((first | refine vi_reg ?_ | refine vi_regE (by rfl) ?_ | refine vi_regD ?_ | refine vi_label ?_ | refine vi_goto ?_ | refine vi_ret ?_ | refine vi_exit ?_ | refine vi_skip ?_ | refine vi_cond ?_ | refine vapp_pure0 (ref05_Want _ _) fun _ => ?_ | refine dapp_pure  (ref05_Want _ _) ?_); simp only [go_sem, ↓reduceIte, Nat.reduceEqDiff, Nat.reduceAdd, Nat.reduceSub, Nat.reduceMul, Nat.reduceLT, Nat.reduceLeDiff, reduceCtorEq, Int.reduceToNat]) | ((first | refine gd_caseb ?_ ?_ | refine cnd_caseb ?_ ?_) <;> intro hc <;> simp only [hc, go_sem, ↓reduceIte, Nat.reduceEqDiff, Nat.reduceAdd, Nat.reduceSub, Nat.reduceMul, Nat.reduceLT, Nat.reduceLeDiff, reduceCtorEq, Int.reduceToNat] <;> (try simp only [bool_not_true, bool_not_false, decide_eq_true_eq, decide_eq_false_iff_not, Bool.and_eq_true] at hc)) | refine And.intro (by first | assumption | omega | (have := len_pos (by assumption); omega) | (unfold capOK; omega)) ?_ | ((first | simp (disch := omega) only [encs_getN] | simp (disch := omega) only [wrapS]); (try simp only [go_sem, ↓reduceIte, Nat.reduceEqDiff, Nat.reduceAdd, Nat.reduceSub, Nat.reduceMul, Nat.reduceLT, Nat.reduceLeDiff, reduceCtorEq, Int.reduceToNat])))
            · have hne := encs_ne h0
              simp only [accV_ne hne, accE_ne hne, encs_len]
              repeat' (first | refine vi_seq ?_ | refine vi_block ?_ | refine vi_scope ?_ | ((first | refine vi_reg ?_ | refine vi_regE (by rfl) ?_ | refine vi_regD ?_ | refine vi_label ?_ | refine vi_goto ?_ | refine vi_ret ?_ | refine vi_exit ?_ | refine vi_skip ?_ | refine vi_cond ?_ | refine vapp_pure0 (ref05_Want _ _) fun _ => ?_ | refine dapp_pure  (ref05_Want _ _) ?_); simp only [go_sem, ↓reduceIte, Nat.reduceEqDiff, Nat.reduceAdd, Nat.reduceSub, Nat.reduceMul, Nat.reduceLT, Nat.reduceLeDiff, reduceCtorEq, Int.reduceToNat]) | ((first | refine gd_caseb ?_ ?_ | refine cnd_caseb ?_ ?_) <;> intro hc <;> simp only [hc, go_sem, ↓reduceIte, Nat.reduceEqDiff, Nat.reduceAdd, Nat.reduceSub, Nat.reduceMul, Nat.reduceLT, Nat.reduceLeDiff, reduceCtorEq, Int.reduceToNat] <;> (try simp only [bool_not_true, bool_not_false, decide_eq_true_eq, decide_eq_false_iff_not, Bool.and_eq_true] at hc)) | refine And.intro (by first | assumption | omega | (have := len_pos (by assumption); omega) | (unfold capOK; omega)) ?_ | ((first | simp (disch := omega) only [encs_getN] | simp (disch := omega) only [wrapS]); (try simp only [go_sem, ↓reduceIte, Nat.reduceEqDiff, Nat.reduceAdd, Nat.reduceSub, Nat.reduceMul, Nat.reduceLT, Nat.reduceLeDiff, reduceCtorEq, Int.reduceToNat])))
          | true =>
            obtain ⟨i3, i5, i6⟩ := i3 rfl
            clear i4
            obtain ⟨fu, rfl⟩ : ∃ k, fu = k + 1 := ⟨fu - 1, by omega⟩
            rw [refPredsL] at i3
            have hcap : capOK (acc.length + 1) 64 := capN (by omega)
            have j1 : (refPred rec d).1.good := (mon_refPred hm d).1 i1
            have j2 := (mon_refPred hm d).em
            have j3 : (takeK (refPred rec d).1 [44]).1.good := (mon_take _ _).1 j1
            have j4 := (mon_take (refPred rec d).1 [44]).em
            have k3 : (takeK (refPred rec d).1 [44]).2 = true → refPredsL rec fu (takeK (refPred rec d).1 [44]).1 (acc ++ [(refPred rec d).2]) = tg ∧ em (takeK (refPred rec d).1 [44]).1 < fu ∧ (acc ++ [(refPred rec d).2]).length + em (takeK (refPred rec d).1 [44]).1 ≤ 1048578 := fun h => by
              rw [if_pos h] at i3
              have := em_take h
              refine ⟨i3, by omega, ?_⟩
              simp only [List.length_append, List.length_cons, List.length_nil]; omega
            have k4 : (takeK (refPred rec d).1 [44]).2 = false → tg = ((takeK (refPred rec d).1 [44]).1, acc ++ [(refPred rec d).2]) := fun h => by
              rw [if_neg (by rw [h]; simp)] at i3
              rw [takeK_same' h, ← i3]
            have k5 : (if (takeK (refPred rec d).1 [44]).2 = true then em (takeK (refPred rec d).1 [44]).1 + 1 else 0) < em d + 1 := by
              split
              · rename_i h
                have := em_take h
                omega
              · omega
            by_cases h0 : acc = []
            · subst h0
              simp only [encs, accV_nil, accE_nil]
              repeat' (first | refine vi_seq ?_ | refine vi_block ?_ | refine vi_scope ?_ | ((first | refine vi_reg ?_ | refine vi_regE (by rfl) ?_ | refine vi_regD ?_ | refine vi_label ?_ | refine vi_goto ?_ | refine vi_ret ?_ | refine vi_exit ?_ | refine vi_skip ?_ | refine vi_cond ?_ | refine vapp_pure0 (ref07_pred hm ih d i1 i2) fun _ => ?_ | refine vapp_pure0 (ref05_Take _ _) fun _ => ?_ | refine dapp_pure  (ref07_pred hm ih d i1 i2) ?_ | refine dapp_pure  (ref05_Take _ _) ?_); simp only [go_sem, ↓reduceIte, Nat.reduceEqDiff, Nat.reduceAdd, Nat.reduceSub, Nat.reduceMul, Nat.reduceLT, Nat.reduceLeDiff, reduceCtorEq, Int.reduceToNat]) | ((first | refine gd_caseb ?_ ?_ | refine cnd_caseb ?_ ?_) <;> intro hc <;> simp only [hc, go_sem, ↓reduceIte, Nat.reduceEqDiff, Nat.reduceAdd, Nat.reduceSub, Nat.reduceMul, Nat.reduceLT, Nat.reduceLeDiff, reduceCtorEq, Int.reduceToNat] <;> (try simp only [bool_not_true, bool_not_false, decide_eq_true_eq, decide_eq_false_iff_not, Bool.and_eq_true] at hc)) | refine And.intro (by first | assumption | omega | (have := len_pos (by assumption); omega) | (unfold capOK; omega)) ?_ | ((first | simp (disch := omega) only [encs_getN] | simp (disch := omega) only [wrapS]); (try simp only [go_sem, ↓reduceIte, Nat.reduceEqDiff, Nat.reduceAdd, Nat.reduceSub, Nat.reduceMul, Nat.reduceLT, Nat.reduceLeDiff, reduceCtorEq, Int.reduceToNat])))
              refine at_of ((takeK (refPred rec d).1 [44]).2, fu, (takeK (refPred rec d).1 [44]).1, [] ++ [(refPred rec d).2]) [0, 1, 4] ⟨⟨j3, by simp only; omega, k3, k4⟩, k5⟩ rfl (by simp) ?_ ?_ ?_
              all_goals simp only [preRSt, ← encs_snoc, accV_snoc, accE_snoc, List.nil_append, encs, accV_one, accE_one]
              all_goals simp only [go_sem, ↓reduceIte, Nat.reduceEqDiff, Nat.reduceAdd, Nat.reduceSub, Nat.reduceMul, Nat.reduceLT, Nat.reduceLeDiff, reduceCtorEq, Int.reduceToNat]
            · have hne := encs_ne h0
              simp only [accV_ne hne, accE_ne hne, encs_len]
              repeat' (first | refine vi_seq ?_ | refine vi_block ?_ | refine vi_scope ?_ | ((first | refine vi_reg ?_ | refine vi_regE (by rfl) ?_ | refine vi_regD ?_ | refine vi_label ?_ | refine vi_goto ?_ | refine vi_ret ?_ | refine vi_exit ?_ | refine vi_skip ?_ | refine vi_cond ?_ | refine vapp_pure0 (ref07_pred hm ih d i1 i2) fun _ => ?_ | refine vapp_pure0 (ref05_Take _ _) fun _ => ?_ | refine dapp_pure  (ref07_pred hm ih d i1 i2) ?_ | refine dapp_pure  (ref05_Take _ _) ?_); simp only [go_sem, ↓reduceIte, Nat.reduceEqDiff, Nat.reduceAdd, Nat.reduceSub, Nat.reduceMul, Nat.reduceLT, Nat.reduceLeDiff, reduceCtorEq, Int.reduceToNat]) | ((first | refine gd_caseb ?_ ?_ | refine cnd_caseb ?_ ?_) <;> intro hc <;> simp only [hc, go_sem, ↓reduceIte, Nat.reduceEqDiff, Nat.reduceAdd, Nat.reduceSub, Nat.reduceMul, Nat.reduceLT, Nat.reduceLeDiff, reduceCtorEq, Int.reduceToNat] <;> (try simp only [bool_not_true, bool_not_false, decide_eq_true_eq, decide_eq_false_iff_not, Bool.and_eq_true] at hc)) | refine And.intro (by first | assumption | omega | (have := len_pos (by assumption); omega) | (unfold capOK; omega)) ?_ | ((first | simp (disch := omega) only [encs_getN] | simp (disch := omega) only [wrapS]); (try simp only [go_sem, ↓reduceIte, Nat.reduceEqDiff, Nat.reduceAdd, Nat.reduceSub, Nat.reduceMul, Nat.reduceLT, Nat.reduceLeDiff, reduceCtorEq, Int.reduceToNat])))
              refine at_of ((takeK (refPred rec d).1 [44]).2, fu, (takeK (refPred rec d).1 [44]).1, acc ++ [(refPred rec d).2]) [0, 1, 5] ⟨⟨j3, by simp only; omega, k3, k4⟩, k5⟩ rfl (by simp) ?_ ?_ ?_
              all_goals simp only [preRSt, ← encs_snoc, accV_snoc, accE_snoc, List.nil_append, encs, accV_one, accE_one]
              all_goals simp only [go_sem, ↓reduceIte, Nat.reduceEqDiff, Nat.reduceAdd, Nat.reduceSub, Nat.reduceMul, Nat.reduceLT, Nat.reduceLeDiff, reduceCtorEq, Int.reduceToNat]
              rw [encs_snoc, encs_bd, encs_ren]; exact ⟨rfl, rfl⟩
    · rw [if_neg ht]
      repeat' (first | refine vi_seq ?_ | refine vi_block ?_ | refine vi_scope ?_ | ((first | refine vi_reg ?_ | refine vi_regE (by rfl) ?_ | refine vi_regD ?_ | refine vi_label ?_ | refine vi_goto ?_ | refine vi_ret ?_ | refine vi_exit ?_ | refine vi_skip ?_ | refine vi_cond ?_); simp (disch := first | omega | (simp only [List.length_set, List.length_append, List.length_cons, List.length_nil]; done) | (simp only [List.length_set, List.length_append, List.length_cons, List.length_nil]; omega)) only [ha, ht, go_sem, ↓reduceIte, Nat.reduceEqDiff, Nat.reduceAdd, Nat.reduceSub, Nat.reduceMul, Nat.reduceLT, Nat.reduceLeDiff, reduceCtorEq, Int.reduceToNat]) | ((first | refine gd_caseb ?_ ?_ | refine cnd_caseb ?_ ?_) <;> intro hc <;> simp only [hc, go_sem, ↓reduceIte, Nat.reduceEqDiff, Nat.reduceAdd, Nat.reduceSub, Nat.reduceMul, Nat.reduceLT, Nat.reduceLeDiff, reduceCtorEq, Int.reduceToNat] <;> (try simp only [bool_not_true, bool_not_false, decide_eq_true_eq, decide_eq_false_iff_not, Bool.and_eq_true] at hc)) | refine And.intro (by first | assumption | omega | (have := len_pos (by assumption); omega) | (unfold capOK; omega)) ?_ | ((first | simp (disch := omega) only [encs_getN] | simp (disch := omega) only [wrapS]); (try simp only [go_sem, ↓reduceIte, Nat.reduceEqDiff, Nat.reduceAdd, Nat.reduceSub, Nat.reduceMul, Nat.reduceLT, Nat.reduceLeDiff, reduceCtorEq, Int.reduceToNat])) | ((first | refine vapp_pure0 (ref05_Ahead c hg.2.1 _) fun _ => ?_ | refine vapp_pure0 (ref05_Take c _) fun _ => ?_ | refine vapp_pure0 (ref05_Want _ _) fun _ => ?_ | refine vapp_pure0 (ref07_pred hm ih c hg hr) fun _ => ?_ | refine dapp_pure  (ref05_Ahead c hg.2.1 _) ?_ | refine dapp_pure  (ref05_Take c _) ?_ | refine dapp_pure  (ref05_Want _ _) ?_ | refine dapp_pure  (ref07_pred hm ih c hg hr) ?_); simp only [go_sem, ↓reduceIte, Nat.reduceEqDiff, Nat.reduceAdd, Nat.reduceSub, Nat.reduceMul, Nat.reduceLT, Nat.reduceLeDiff, reduceCtorEq, Int.reduceToNat]))
      rfl
  · rw [if_neg ha]
    repeat' (first | refine vi_seq ?_ | refine vi_block ?_ | refine vi_scope ?_ | ((first | refine vi_reg ?_ | refine vi_regE (by rfl) ?_ | refine vi_regD ?_ | refine vi_label ?_ | refine vi_goto ?_ | refine vi_ret ?_ | refine vi_exit ?_ | refine vi_skip ?_ | refine vi_cond ?_); simp (disch := first | omega | (simp only [List.length_set, List.length_append, List.length_cons, List.length_nil]; done) | (simp only [List.length_set, List.length_append, List.length_cons, List.length_nil]; omega)) only [ha, go_sem, ↓reduceIte, Nat.reduceEqDiff, Nat.reduceAdd, Nat.reduceSub, Nat.reduceMul, Nat.reduceLT, Nat.reduceLeDiff, reduceCtorEq, Int.reduceToNat]) | ((first | refine gd_caseb ?_ ?_ | refine cnd_caseb ?_ ?_) <;> intro hc <;> simp only [hc, go_sem, ↓reduceIte, Nat.reduceEqDiff, Nat.reduceAdd, Nat.reduceSub, Nat.reduceMul, Nat.reduceLT, Nat.reduceLeDiff, reduceCtorEq, Int.reduceToNat] <;> (try simp only [bool_not_true, bool_not_false, decide_eq_true_eq, decide_eq_false_iff_not, Bool.and_eq_true] at hc)) | refine And.intro (by first | assumption | omega | (have := len_pos (by assumption); omega) | (unfold capOK; omega)) ?_ | ((first | simp (disch := omega) only [encs_getN] | simp (disch := omega) only [wrapS]); (try simp only [go_sem, ↓reduceIte, Nat.reduceEqDiff, Nat.reduceAdd, Nat.reduceSub, Nat.reduceMul, Nat.reduceLT, Nat.reduceLeDiff, reduceCtorEq, Int.reduceToNat])) | ((first | refine vapp_pure0 (ref05_Ahead c hg.2.1 _) fun _ => ?_ | refine dapp_pure  (ref05_Ahead c hg.2.1 _) ?_); simp only [go_sem, ↓reduceIte, Nat.reduceEqDiff, Nat.reduceAdd, Nat.reduceSub, Nat.reduceMul, Nat.reduceLT, Nat.reduceLeDiff, reduceCtorEq, Int.reduceToNat]))
    rfl
end
def refQual (f : Nat) (c : K) : K × N := ((refTAt f (refPreds (refTAt f) c).1).1, qualN (peekK c).pos (refPreds (refTAt f) c).2 (refTAt f (refPreds (refTAt f) c).1).2)
theorem refPredsL_len {rec : K → K × N} (hm : ∀ c, Mon c (rec c).1) : ∀ (f : Nat) (c : K) (acc : List N), (refPredsL rec f c acc).2.length ≤ acc.length + em c + 1
  | 0, c, acc => by simp only [refPredsL]; omega
  | f + 1, c, acc => by
    rw [refPredsL]
    split
    · rename_i h
      have h1 := refPredsL_len hm f (takeK (refPred rec c).1 [44]).1 (acc ++ [(refPred rec c).2])
      have h2 := em_take h
      have h3 := (mon_refPred hm c).em
      simp only [List.length_append, List.length_cons, List.length_nil] at h1
      omega
    · simp only [List.length_append, List.length_cons, List.length_nil]; omega
theorem refPreds_len {rec : K → K × N} (hm : ∀ c, Mon c (rec c).1) (c : K) : (refPreds rec c).2.length ≤ em c + 1 := by
  unfold refPreds
  split
  · split
    · rename_i h
      have h2 := em_take h
      unfold refPredsB
      split
      · simp
      · have := refPredsL_len hm (em (takeK c [40]).1 + 2) (takeK c [40]).1 []
        simp only [List.length_nil] at this
        simp only; omega
    · simp
  · simp
theorem ref07_Qual (f : Nat) (c : K) (hg : c.good) (hr : em c < f) : VPure Try.prog 23 [refC c] (.tup [refC (refQual f c).1, enc (refQual f c).2]) := by
  have hm := mon_refTAt f
  have g1 : (refPreds (refTAt f) c).1.good := (mon_refPreds hm c).1 hg
  have hr1 : em (refPreds (refTAt f) c).1 < f := by have := (mon_refPreds hm c).em; omega
  have hP := ref07_Preds hm (ref07_At f) c hg (by omega)
  have hA := ref07_At f _ g1 hr1
  have hln := refPreds_len hm c
  have hem := em_le c
  have hrs := hg.rest
  unfold rest at hem
  unfold refQual
  refine vpure_of c0f (by simp) (by simp only [go_sem]) (by simp only [go_sem]) fun hw => ?_
  generalize hp : refPreds (refTAt f) c = p at *
  by_cases h0 : p.2 = []
  · rw [h0] at hP ⊢
    repeat' (first | refine vi_seq ?_ | refine vi_block ?_ | refine vi_scope ?_ | ((first | refine vi_reg ?_ | refine vi_regE (by rfl) ?_ | refine vi_regD ?_ | refine vi_label ?_ | refine vi_goto ?_ | refine vi_ret ?_ | refine vi_exit ?_ | refine vi_skip ?_ | refine vi_cond ?_); simp (disch := first | omega | (simp only [List.length_set, List.length_append, List.length_cons, List.length_nil]; done) | (simp only [List.length_set, List.length_append, List.length_cons, List.length_nil]; omega)) only [List.length_nil, go_sem, ↓reduceIte, Nat.reduceEqDiff, Nat.reduceAdd, Nat.reduceSub, Nat.reduceMul, Nat.reduceLT, Nat.reduceLeDiff, reduceCtorEq, Int.reduceToNat]) | ((first | refine gd_caseb ?_ ?_ | refine cnd_caseb ?_ ?_) <;> intro hc <;> simp only [hc, go_sem, ↓reduceIte, Nat.reduceEqDiff, Nat.reduceAdd, Nat.reduceSub, Nat.reduceMul, Nat.reduceLT, Nat.reduceLeDiff, reduceCtorEq, Int.reduceToNat] <;> (try simp only [bool_not_true, bool_not_false, decide_eq_true_eq, decide_eq_false_iff_not, Bool.and_eq_true] at hc)) | refine And.intro (by first | assumption | omega | (have := len_pos (by assumption); omega) | (unfold capOK; omega)) ?_ | ((first | simp (disch := omega) only [encs_getN] | simp (disch := omega) only [wrapS]); (try simp only [go_sem, ↓reduceIte, Nat.reduceEqDiff, Nat.reduceAdd, Nat.reduceSub, Nat.reduceMul, Nat.reduceLT, Nat.reduceLeDiff, reduceCtorEq, Int.reduceToNat])) | ((first | refine vapp_pure0 (ref05_Peek c) fun _ => ?_ | refine vapp_pure0 hP fun _ => ?_ | refine vapp_pure0 hA fun _ => ?_ | refine dapp_pure  (ref05_Peek c) ?_ | refine dapp_pure  hP ?_ | refine dapp_pure  hA ?_); simp only [go_sem, ↓reduceIte, Nat.reduceEqDiff, Nat.reduceAdd, Nat.reduceSub, Nat.reduceMul, Nat.reduceLT, Nat.reduceLeDiff, reduceCtorEq, Int.reduceToNat]))
    simp only [qualN, enc, encs, List.nil_append]
  · have hne := encs_ne h0
    have hnl : ¬ p.2.length = 0 := fun h => h0 (List.length_eq_zero_iff.1 h)
    have hc1 : capOK p.2.length 64 := capN (by omega)
    have hc2 : capOK (p.2.length + 1) 64 := capN (by omega)
    repeat' (first | refine vi_seq ?_ | refine vi_block ?_ | refine vi_scope ?_ | ((first | refine vi_reg ?_ | refine vi_regE (by rfl) ?_ | refine vi_regD ?_ | refine vi_label ?_ | refine vi_goto ?_ | refine vi_ret ?_ | refine vi_exit ?_ | refine vi_skip ?_ | refine vi_cond ?_); simp (disch := first | omega | (simp only [List.length_set, List.length_append, List.length_cons, List.length_nil]; done) | (simp only [List.length_set, List.length_append, List.length_cons, List.length_nil]; omega)) only [hnl, hc1, hc2, go_sem, ↓reduceIte, Nat.reduceEqDiff, Nat.reduceAdd, Nat.reduceSub, Nat.reduceMul, Nat.reduceLT, Nat.reduceLeDiff, reduceCtorEq, Int.reduceToNat]) | ((first | refine gd_caseb ?_ ?_ | refine cnd_caseb ?_ ?_) <;> intro hc <;> simp only [hc, go_sem, ↓reduceIte, Nat.reduceEqDiff, Nat.reduceAdd, Nat.reduceSub, Nat.reduceMul, Nat.reduceLT, Nat.reduceLeDiff, reduceCtorEq, Int.reduceToNat] <;> (try simp only [bool_not_true, bool_not_false, decide_eq_true_eq, decide_eq_false_iff_not, Bool.and_eq_true] at hc)) | refine And.intro (by first | assumption | omega | (have := len_pos (by assumption); omega) | (unfold capOK; omega)) ?_ | ((first | simp (disch := omega) only [encs_getN] | simp (disch := omega) only [wrapS]); (try simp only [go_sem, ↓reduceIte, Nat.reduceEqDiff, Nat.reduceAdd, Nat.reduceSub, Nat.reduceMul, Nat.reduceLT, Nat.reduceLeDiff, reduceCtorEq, Int.reduceToNat])) | ((first | refine vapp_pure0 (ref05_Peek c) fun _ => ?_ | refine vapp_pure0 hP fun _ => ?_ | refine vapp_pure0 hA fun _ => ?_ | refine dapp_pure  (ref05_Peek c) ?_ | refine dapp_pure  hP ?_ | refine dapp_pure  hA ?_); simp only [go_sem, ↓reduceIte, Nat.reduceEqDiff, Nat.reduceAdd, Nat.reduceSub, Nat.reduceMul, Nat.reduceLT, Nat.reduceLeDiff, reduceCtorEq, Int.reduceToNat]))
    simp only [qualN, enc, encs_snoc, encs_bd, and_self]
end Go.Proofs.Ytjigahnncojikaa

/- types: both read alike -/
namespace Go.Proofs.Ytjigahnncojikaa
open Go Go.RowKit Go.V
set_option linter.unusedVariables false
set_option linter.unusedSimpArgs false

/-- The program's state is the reference's, and so is what is read, if there is something; else something failed. -/
def Alike {α : Type} (p : K × Option α) (r : K × α) : Prop := p.1 = r.1 ∧ (∀ n, p.2 = some n → n = r.2) ∧ (p.2 = none → p.1.err ≠ 0)
theorem refTAtom_err {rec : K → K × N} {c : K} (h : c.err ≠ 0) : refTAtom rec c = (c, N0) := if_neg h
theorem refTKids_err {rec : K → K × N} {c : K} (h : c.err ≠ 0) (f : Nat) (acc : List N) : refTKids rec f c acc = (c, acc) := by
  cases f with
  | zero => rfl
  | succ f => rw [refTKids, if_neg (by rw [beg_bad h]; simp)]
theorem refTRow_err {rec : K → K × N} {c : K} (h : c.err ≠ 0) : refTRow rec c = (c, N0) := by
  rw [refTRow, peekK_err h, if_neg (by decide), refTAtom_err h]
theorem refTAt_err (f : Nat) {c : K} (h : c.err ≠ 0) : refTAt f c = (c, N0) := by
  cases f with
  | zero => rfl
  | succ f => rw [refTAt, enterK_err h, refTRow_err h, take_no h, if_neg (by simp), leave_bad h]
section
variable {rp : K → K × Option N} {rr : K → K × N} {b : Nat} (hx : ∀ c : K, c.err ≠ 0 → (rr c).1 = c) (ih : ∀ c, em c < b → Alike (rp c) (rr c))
include hx ih
theorem alike_tAtom {c : K} (hr : em c ≤ b) : Alike (typAtom rp c) (refTAtom rr c) := by
  by_cases h0 : c.err = 0
  · unfold typAtom refTAtom
    rw [if_pos h0]
    by_cases h1 : (peekK c).kind = 1
    · rw [if_pos h1, if_pos h1]; exact ⟨rfl, (fun n h => by cases h; rfl), (fun h => by cases h)⟩
    · rw [if_neg h1, if_neg h1]
      by_cases h2 : (peekK c).kind = 2
      · rw [if_pos h2, if_pos h2]; exact ⟨rfl, (fun n h => by cases h; rfl), (fun h => by cases h)⟩
      · rw [if_neg h2, if_neg h2]
        by_cases hk : isK c [40] = true
        · rw [if_pos hk, if_pos hk]
          have hem := em_paren hk
          by_cases he : (enterK c).2 = true
          · rw [if_pos he]
            have hk' : isK (enterK c).1 [40] = true := by rw [enter_is he]; exact hk
            rw [wantK_is hk'] at hem ⊢
            simp only at hem ⊢
            obtain ⟨a1, a2, a3⟩ := ih (nextK (enterK c).1) (by omega)
            rw [← a1]
            generalize rp (nextK (enterK c).1) = r at *
            obtain ⟨d, o⟩ := r
            simp only at a1 a2 a3 ⊢
            cases o with
            | none =>
              have h3 := a3 rfl
              rw [if_neg (by simp), want_err h3, leave_bad h3]
              exact ⟨rfl, (fun n h => by cases h), fun _ => h3⟩
            | some n =>
              rw [if_pos (by rfl)]
              by_cases hw : (wantK d [41]).2 = true
              · rw [if_pos hw]
                exact ⟨rfl, fun m h => a2 m h, (fun h => by cases h)⟩
              · rw [if_neg hw]
                have h3 := want_bad (by simpa using hw)
                exact ⟨rfl, (fun n h => by cases h), fun _ => by simp only; rw [leave_bad h3]; exact h3⟩
          · have he' : (enterK c).2 = false := by simpa using he
            have h1 := enter_bad he'
            rw [if_neg he]
            rw [want_err h1] at hem ⊢
            simp only at hem ⊢
            rw [hx _ h1, want_err h1, leave_bad h1]
            exact ⟨rfl, (fun n h => by cases h), fun _ => h1⟩
        · rw [if_neg hk, if_neg hk]
          exact ⟨rfl, (fun n h => by cases h), fun _ => fail_err c⟩
  · rw [refTAtom_err h0, typAtom, peekK_err h0, if_neg (by decide), if_neg (by decide), if_neg (by rw [isK_bad h0]; simp), failK_err h0]
    exact ⟨rfl, (fun n h => by cases h), fun _ => h0⟩
theorem alike_tKids (hp : ∀ c, Mon c (rp c).1) (hm : ∀ c, Mon c (rr c).1) : ∀ (f g : Nat) (c : K) (acc : List N), rest c < f → em c < g → em c ≤ b → Alike (typKids rp f c acc) (refTKids rr g c acc)
  | 0, _, _, _ => fun h _ _ => by omega
  | _, 0, _, _ => fun _ h _ => by omega
  | f + 1, g + 1, c, acc => fun hf hg hb => by
    rw [typKids, refTKids]
    by_cases hk : begT c = true
    · rw [if_pos hk, if_pos hk]
      obtain ⟨a1, a2, a3⟩ := alike_tAtom hx ih hb
      have hl := refTAtom_less hm hk
      rw [← a1] at hl ⊢
      cases ho : (typAtom rp c).2 with
      | none =>
        have h3 := a3 ho
        rw [if_neg (by simp), refTKids_err h3]
        exact ⟨rfl, (fun n h => by cases h), fun _ => h3⟩
      | some n =>
        rw [if_pos (by rfl), ← a2 n ho]
        exact alike_tKids hp hm f g _ _ (by have := typAtom_less hp (c := c) (by rw [ho]; rfl); omega) (by omega) (by omega)
    · rw [if_neg hk, if_neg hk]
      exact ⟨rfl, (fun l h => by cases h; rfl), (fun h => by cases h)⟩
theorem alike_tRow (hp : ∀ c, Mon c (rp c).1) (hm : ∀ c, Mon c (rr c).1) {c : K} (hr : em c ≤ b) : Alike (typRow rp c) (refTRow rr c) := by
  unfold typRow refTRow
  by_cases hk : (peekK c).kind = 2
  · rw [if_pos hk, if_pos hk]
    have h1 := rest_next (c := c) (by omega)
    have h2 := em_next (c := c) (by omega)
    obtain ⟨a1, a2, a3⟩ := alike_tKids hx ih hp hm (rest c + 1) (em (nextK c) + 1) (nextK c) [] (by omega) (by omega) (by omega)
    refine ⟨a1, fun n h => ?_, fun h => a3 (by simpa using h)⟩
    obtain ⟨l, hl, rfl⟩ := Option.map_eq_some_iff.1 h
    rw [a2 l hl]
  · rw [if_neg hk, if_neg hk]
    exact alike_tAtom hx ih hr
theorem alike_pred {c : K} (hr : em c ≤ b) : Alike (typPred rp c) (refPred rr c) := by
  have h1 := (mon_kind c 2).em
  obtain ⟨a1, a2, a3⟩ := alike_tAtom hx ih (c := (kindK c 2).1) (by omega)
  unfold typPred refPred
  by_cases hk : (kindK c 2).2 = true
  · rw [if_pos hk]
    refine ⟨a1, fun n h => ?_, fun h => a3 (by simpa using h)⟩
    obtain ⟨m, hm, rfl⟩ := Option.map_eq_some_iff.1 h
    rw [a2 m hm]
  · rw [if_neg hk]
    have h2 := kind_bad (c := c) (k := 2) (by simpa using hk)
    rw [refTAtom_err h2]
    exact ⟨rfl, (fun n h => by cases h), fun _ => h2⟩
end
theorem alike_tAt : ∀ (f : Nat) (c : K), em c < f → Alike (typAt f c) (refTAt f c)
  | 0, _ => fun h => by omega
  | f + 1, c => fun hf => by
    have ih := alike_tAt f
    have hx : ∀ c : K, c.err ≠ 0 → (refTAt f c).1 = c := fun c h => by rw [refTAt_err f h]
    rw [typAt, refTAt]
    by_cases he : (enterK c).2 = true
    · have h1 := (mon_enter c).em
      rw [if_pos he]
      obtain ⟨a1, a2, a3⟩ := alike_tRow hx ih (mon_typAt f) (mon_refTAt f) (c := (enterK c).1) (by omega)
      have hl := (mon_refTRow (mon_refTAt f) (enterK c).1).em
      rw [← a1] at hl ⊢
      cases ho : (typRow (typAt f) (enterK c).1).2 with
      | none =>
        have h3 := a3 ho
        rw [if_neg (by simp), take_no h3, if_neg (by simp)]
        exact ⟨rfl, (fun n h => by cases h), fun _ => by simp only; rw [leave_bad h3]; exact h3⟩
      | some n =>
        rw [if_pos (by rfl), ← a2 n ho]
        by_cases ht : (takeK (typRow (typAt f) (enterK c).1).1 [45, 62]).2 = true
        · rw [if_pos ht, if_pos ht]
          have h5 := em_take ht
          obtain ⟨b1, b2, b3⟩ := ih (takeK (typRow (typAt f) (enterK c).1).1 [45, 62]).1 (by omega)
          refine ⟨by simp only; rw [b1], fun m h => ?_, fun h => ?_⟩
          · obtain ⟨q, hq, rfl⟩ := Option.map_eq_some_iff.1 h
            rw [b2 q hq]; rfl
          · have h6 := b3 (by simpa using h)
            simp only
            rw [leave_bad h6]; exact h6
        · rw [if_neg ht, if_neg ht]
          exact ⟨rfl, (fun m h => by cases h; rfl), (fun h => by cases h)⟩
    · have he' : (enterK c).2 = false := by simpa using he
      have h1 := enter_bad he'
      rw [if_neg he, refTRow_err h1, take_no h1, if_neg (by simp), leave_bad h1]
      exact ⟨rfl, (fun n h => by cases h), fun _ => h1⟩
section
variable {rp : K → K × Option N} {rr : K → K × N} {b : Nat} (hx : ∀ c : K, c.err ≠ 0 → (rr c).1 = c) (ih : ∀ c, em c < b → Alike (rp c) (rr c)) (hp : ∀ c, Mon c (rp c).1) (hm : ∀ c, Mon c (rr c).1)
include hx ih hp hm
theorem alike_predsL : ∀ (f g : Nat) (c : K) (acc : List N), rest c < f → em c < g → em c ≤ b → Alike (predsL rp true f c acc) (refPredsL rr g c acc)
  | 0, _, _, _ => fun h _ _ => by omega
  | _, 0, _, _ => fun _ h _ => by omega
  | f + 1, g + 1, c, acc => fun hf hg hb => by
    rw [predsL, refPredsL]
    obtain ⟨a1, a2, a3⟩ := alike_pred hx ih hb
    have hl := (mon_refPred hm c).em
    rw [← a1] at hl ⊢
    cases ho : (typPred rp c).2 with
    | none =>
      have h3 := a3 ho
      rw [if_neg (by simp), take_no h3, if_neg (by simp)]
      exact ⟨rfl, (fun n h => by cases h), fun _ => h3⟩
    | some n =>
      rw [if_pos (by rfl), Bool.true_and, ← a2 n ho]
      by_cases ht : (takeK (typPred rp c).1 [44]).2 = true
      · rw [if_pos ht, if_pos ht]
        have h5 := em_take ht
        have h6 := typPred_less hp (c := c) (by rw [ho]; rfl)
        have h7 := (mon_take (typPred rp c).1 [44]).2.1
        exact alike_predsL f g _ _ (by omega) (by omega) (by omega)
      · rw [if_neg ht, if_neg ht]
        exact ⟨rfl, (fun l h => by cases h; rfl), (fun h => by cases h)⟩
/-- The ends of a context. -/
theorem alike_preds {c : K} (hg : ∀ t ∈ c.l, t.kind ≠ 0) (hr : em c ≤ b) : Alike (typPreds rp c) (refPreds rr c) := by
  unfold typPreds refPreds
  by_cases ha : aheadK c [61, 62] = true
  · rw [if_pos ha, if_pos ha]
    unfold predsB
    by_cases ht : (takeK c [40]).2 = true
    · rw [if_pos ht, ht, Bool.true_and]
      have h5 := em_take ht
      have hB : Alike (if isK (takeK c [40]).1 [41] = true then ((takeK c [40]).1, some []) else predsL rp true (rest (takeK c [40]).1 + 1) (takeK c [40]).1 []) (refPredsB rr (takeK c [40]).1) := by
        unfold refPredsB
        split
        · exact ⟨rfl, (fun l h => by cases h; rfl), (fun h => by cases h)⟩
        · exact alike_predsL hx ih hp hm _ _ _ _ (by omega) (by omega) (by omega)
      obtain ⟨a1, a2, a3⟩ := hB
      generalize (if isK (takeK c [40]).1 [41] = true then ((takeK c [40]).1, some []) else predsL rp true (rest (takeK c [40]).1 + 1) (takeK c [40]).1 []) = p at *
      rw [← a1]
      unfold predsE
      cases ho : p.2 with
      | none =>
        have h3 := a3 ho
        rw [if_neg (by simp), want_err h3, want_err h3]
        exact ⟨rfl, (fun n h => by cases h), fun _ => h3⟩
      | some l =>
        rw [if_pos (by rfl), if_pos rfl, ← a2 l ho]
        by_cases hw : (wantK p.1 [41]).2 = true
        · rw [if_pos hw]
          by_cases hw2 : (wantK (wantK p.1 [41]).1 [61, 62]).2 = true
          · rw [if_pos hw2]; exact ⟨rfl, (fun m h => by cases h; rfl), (fun h => by cases h)⟩
          · rw [if_neg hw2]
            exact ⟨rfl, (fun n h => by cases h), fun _ => want_bad (by simpa using hw2)⟩
        · rw [if_neg hw]
          have h3 := want_bad (c := p.1) (x := [41]) (by simpa using hw)
          rw [want_err h3]
          exact ⟨rfl, (fun n h => by cases h), fun _ => h3⟩
    · have ht' : (takeK c [40]).2 = false := by simpa using ht
      have hsm := takeK_same' ht'
      rw [if_neg ht, ht', hsm, Bool.false_and, if_neg (by simp)]
      unfold predsE
      obtain ⟨a1, a2, a3⟩ := alike_pred hx ih hr
      rw [predsL, ← a1]
      cases ho : (typPred rp c).2 with
      | none =>
        have h3 := a3 ho
        rw [if_neg (by simp), if_neg (by simp), want_err h3]
        exact ⟨rfl, (fun n h => by cases h), fun _ => h3⟩
      | some n =>
        rw [if_pos (by rfl), Bool.false_and, if_neg (by simp), if_pos (by rfl), if_neg (by simp), ← a2 n ho]
        simp only [Option.getD_some, List.nil_append]
        by_cases hw : (wantK (typPred rp c).1 [61, 62]).2 = true
        · rw [if_pos hw]; exact ⟨rfl, (fun m h => by cases h; rfl), (fun h => by cases h)⟩
        · rw [if_neg hw]
          exact ⟨rfl, (fun n h => by cases h), fun _ => want_bad (by simpa using hw)⟩
  · rw [if_neg ha, if_neg ha]
    by_cases he : c.err = 0
    · have hf : failT c = false := by
        unfold failT
        by_cases hl : c.at' < c.l.length
        · have hk : (peekK c).kind ≠ 0 := by rw [peekK_in he (by omega)]; exact hg _ (getT_mem hl)
          rw [doneK_in he (by omega), decide_eq_false hk]; rfl
        · rw [doneK_end he (by omega)]; rfl
      rw [hf]
      exact ⟨rfl, (fun m h => by cases h; rfl), (fun h => by cases h)⟩
    · have hf : failT c = true := by
        unfold failT
        rw [doneK_err he, peekK_err he]
        simp [he, T0]
      rw [hf]
      exact ⟨rfl, (fun m h => by cases h), fun _ => he⟩
end
theorem alike_Qual (f : Nat) (c : K) (hg : ∀ t ∈ c.l, t.kind ≠ 0) (hr : em c < f) : Alike (typQual f c) (refQual f c) := by
  have hx : ∀ c : K, c.err ≠ 0 → (refTAt f c).1 = c := fun c h => by rw [refTAt_err f h]
  obtain ⟨a1, a2, a3⟩ := alike_preds hx (alike_tAt f) (mon_typAt f) (mon_refTAt f) hg (b := f) (by omega)
  have hl := (mon_refPreds (mon_refTAt f) c).em
  unfold typQual refQual
  rw [← a1] at hl ⊢
  cases ho : (typPreds (typAt f) c).2 with
  | none =>
    have h3 := a3 ho
    rw [if_neg (by simp), refTAt_err f h3]
    exact ⟨rfl, (fun n h => by cases h), fun _ => h3⟩
  | some l =>
    rw [if_pos (by rfl), ← a2 l ho]
    obtain ⟨b1, b2, b3⟩ := alike_tAt f (typPreds (typAt f) c).1 (by omega)
    refine ⟨b1, fun m h => ?_, fun h => b3 (by simpa using h)⟩
    obtain ⟨q, hq, rfl⟩ := Option.map_eq_some_iff.1 h
    rw [b2 q hq]; rfl
theorem ahead_kinds : ∀ {l : List T} {t : T}, t ∈ aheadT l → t.kind ≠ 0
  | [], t, h => by simp [aheadT] at h
  | u :: r, t, h => by
    rw [aheadT] at h
    split at h
    · simp at h
    · rename_i hk
      rcases List.mem_cons.1 h with rfl | h
      · exact hk
      · exact ahead_kinds h
end Go.Proofs.Ytjigahnncojikaa
