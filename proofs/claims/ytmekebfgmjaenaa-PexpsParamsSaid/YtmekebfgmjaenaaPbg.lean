/- A text of this proof. -/
import Derived.Test.YtmekebfgmjaenaaPbe
import Derived.Test.YtmekebfgmjaenaaPbf

/- expressions: the program: of a text -/
set_option maxRecDepth 4000
namespace Go.Proofs.Ytmekebfgmjaenaa
open Go Go.RowKit Go.V
set_option linter.unusedVariables false
set_option linter.unusedSimpArgs false

theorem qtw {f : Nat} (ih : ∀ c, c.good → rest c < f → qca Try.prog 10 (curE c) (curE (qbp f c).1) [.ptr 0 0] (resP (qbp f c).2)) (c : K) (hg : c.good) (hr : rest c < f + 1) :
    qca Try.prog 10 (curE c) (curE (qbp (f + 1) c).1) [.ptr 0 0] (resP (qbp (f + 1) c).2) := by
  have hm := qey f
  have g1 : (qe c).1.good := (qx c).1 hg
  have hr1 : rest (qe c).1 ≤ f := by have := (qx c).2.1; omega
  have ho := q5i hm ih _ g1 hr1
  have g2 := (qm2 hm (qe c).1).1 g1
  refine q9 c0b 1 (by simp) (by simp) ?_
  rw [qbp]
  generalize qcf (qbp f) (qe c).1 = r at *
  obtain ⟨d, n, ok⟩ := r
  simp only [toO] at ho g2 ⊢
  by_cases hk : (qe c).2 = true
  · rw [if_pos hk]
    cases ok with
    | false =>
      repeat' (first | refine ql ?_ | ((first | refine qn ?_ | refine qm ?_ | refine qj ?_ | refine qi ?_) <;> (try simp (disch := first | omega | (simp only [List.length_set, List.length_append, List.length_cons, List.length_nil]; done) | (simp only [List.length_set, List.length_append, List.length_cons, List.length_nil]; omega)) only [hk, go_sem, ↓reduceIte, Nat.reduceEqDiff, Nat.reduceAdd, Nat.reduceSub, Nat.reduceMul, Nat.reduceLT, Nat.reduceLeDiff, reduceCtorEq, Int.reduceToNat])) | ((first | ((first | refine qf ?_ ?_ | refine qc ?_ ?_) <;> intro hc <;> (try simp only [hc]) <;> (try simp only [qb, qa, decide_eq_true_eq, decide_eq_false_iff_not, Bool.and_eq_true] at hc)) | refine And.intro (by first | assumption | omega | (have := qh (by assumption); omega) | (unfold qt; omega)) ?_ | simp (disch := omega) only [qd] | simp (disch := omega) only [qq] | refine qgk ?_ | refine qoa ho rfl ?_ | refine qek g2.2.2 ?_) <;> (try simp only [go_sem, ↓reduceIte, Nat.reduceEqDiff, Nat.reduceAdd, Nat.reduceSub, Nat.reduceMul, Nat.reduceLT, Nat.reduceLeDiff, reduceCtorEq, Int.reduceToNat])))
      all_goals first | (rw [qd3]; done) | (rw [qd3]; rfl) | (rw [qd3]; exact ⟨rfl, rfl⟩)
    | true =>
      repeat' (first | refine ql ?_ | ((first | refine qn ?_ | refine qm ?_ | refine qj ?_ | refine qi ?_) <;> (try simp (disch := first | omega | (simp only [List.length_set, List.length_append, List.length_cons, List.length_nil]; done) | (simp only [List.length_set, List.length_append, List.length_cons, List.length_nil]; omega)) only [hk, go_sem, ↓reduceIte, Nat.reduceEqDiff, Nat.reduceAdd, Nat.reduceSub, Nat.reduceMul, Nat.reduceLT, Nat.reduceLeDiff, reduceCtorEq, Int.reduceToNat])) | ((first | ((first | refine qf ?_ ?_ | refine qc ?_ ?_) <;> intro hc <;> (try simp only [hc]) <;> (try simp only [qb, qa, decide_eq_true_eq, decide_eq_false_iff_not, Bool.and_eq_true] at hc)) | refine And.intro (by first | assumption | omega | (have := qh (by assumption); omega) | (unfold qt; omega)) ?_ | simp (disch := omega) only [qd] | simp (disch := omega) only [qq] | refine qgk ?_ | refine qoa ho rfl ?_ | refine qek g2.2.2 ?_) <;> (try simp only [go_sem, ↓reduceIte, Nat.reduceEqDiff, Nat.reduceAdd, Nat.reduceSub, Nat.reduceMul, Nat.reduceLT, Nat.reduceLeDiff, reduceCtorEq, Int.reduceToNat])))
      all_goals first | rfl | exact ⟨rfl, rfl⟩
  · rw [if_neg hk]
    repeat' (first | refine ql ?_ | ((first | refine qn ?_ | refine qm ?_ | refine qj ?_ | refine qi ?_) <;> (try simp (disch := first | omega | (simp only [List.length_set, List.length_append, List.length_cons, List.length_nil]; done) | (simp only [List.length_set, List.length_append, List.length_cons, List.length_nil]; omega)) only [hk, go_sem, ↓reduceIte, Nat.reduceEqDiff, Nat.reduceAdd, Nat.reduceSub, Nat.reduceMul, Nat.reduceLT, Nat.reduceLeDiff, reduceCtorEq, Int.reduceToNat])) | ((first | ((first | refine qf ?_ ?_ | refine qc ?_ ?_) <;> intro hc <;> (try simp only [hc]) <;> (try simp only [qb, qa, decide_eq_true_eq, decide_eq_false_iff_not, Bool.and_eq_true] at hc)) | refine And.intro (by first | assumption | omega | (have := qh (by assumption); omega) | (unfold qt; omega)) ?_ | simp (disch := omega) only [qd] | simp (disch := omega) only [qq] | refine qgk ?_) <;> (try simp only [go_sem, ↓reduceIte, Nat.reduceEqDiff, Nat.reduceAdd, Nat.reduceSub, Nat.reduceMul, Nat.reduceLT, Nat.reduceLeDiff, reduceCtorEq, Int.reduceToNat])))
    all_goals first | (rw [qd3]; done) | (rw [qd3]; rfl) | (rw [qd3]; exact ⟨rfl, rfl⟩)
theorem qboz (f : Nat) : ∀ c : K, c.good → rest c < f → qca Try.prog 10 (curE c) (curE (qbp f c).1) [.ptr 0 0] (resP (qbp f c).2) := by
  induction f with
  | zero => exact fun c _ h => absurd h (by omega)
  | succ f ih => exact qtw ih

/-! The size of what is read. -/
theorem qsg {k p m : Int} {t : List UInt8} {l : List N} : sz (.mk k p m t l) = szs l + 1 := by rw [qiw]; rfl
theorem q7j {c : K} {n : N} (h : leafE c = some n) : sz n = 1 := by
  unfold leafE qhg at h
  repeat' split at h
  all_goals first | (cases h; rw [qiw]; rfl) | cases h
def SzO (c : K) (r : K × Option N) : Prop := ∀ n, r.2 = some n → sz n + 1 + 2 * rest r.1 ≤ 2 * rest c
def SzB (c : K) (r : R3) : Prop := r.2.2 = true → sz r.2.1 + 1 + 2 * rest r.1 ≤ 2 * rest c
theorem qf3 {c : K} {r : K × Option N} (h : SzO c r) (hs : r.2.isSome = true) : sz (r.2.getD N0) + 1 + 2 * rest r.1 ≤ 2 * rest c := by
  obtain ⟨n, hn⟩ := Option.isSome_iff_exists.1 hs
  have := h n hn
  rw [hn]
  exact this
section
variable {rec : K → K × Option N} (ih : ∀ c, SzO c (rec c))
include ih
theorem qvx (c : K) : SzO c (qbc rec c) := by
  intro n h
  unfold qbc at h ⊢
  split at h
  · rename_i h1
    rw [if_pos h1]
    have := qbh (qif h1)
    have := q7j h
    simp only; omega
  · rename_i h1
    rw [if_neg h1]
    split at h
    · rename_i h2
      rw [if_pos h2]
      split at h
      · rename_i h3
        rw [if_pos h3]
        have hp := qbh (c := (qe c).1) (by rw [qcu h3]; exact qcd h2)
        have h0 := (qx c).2.1
        split at h
        · rename_i h4
          rw [if_pos h4]
          split at h
          · rename_i h5
            rw [if_pos h5]
            have h6 := ih _ _ h
            have h7 := (qo (rec (qs (qe c).1)).1 [41]).2.1
            have h8 := (qbg (qr (rec (qs (qe c).1)).1 [41]).1).2.1
            simp only at h6 ⊢; omega
          · cases h
        · cases h
      · cases h
    · cases h
theorem qwc : ∀ (f : Nat) (c d : K) (n : N), sz n + 1 + 2 * rest d ≤ 2 * rest c → SzB c (qd0 rec f d n)
  | 0, c, d, n => fun h0 h => by cases h
  | f + 1, c, d, n => fun h0 h => by
    rw [qd0] at h ⊢
    split at h
    · rename_i h1
      rw [if_pos h1]
      split at h
      · rename_i h2
        rw [if_pos h2]
        have h3 := qf3 (qvx ih d) h2
        refine qwc f c _ _ ?_ h
        rw [appN, qsg]
        simp only [szs]; omega
      · cases h
    · rename_i h1
      rw [if_neg h1]
      exact h0
theorem qbev (c : K) : SzB c (qfa rec c) := by
  intro h
  unfold qfa at h ⊢
  split at h
  · rename_i h1
    rw [if_pos h1]
    exact qwc ih _ _ _ _ (qf3 (qvx ih c) h1) h
  · cases h
theorem qps (x : List UInt8) : ∀ (f : Nat) (c : K), SzB c (qbs rec x f c)
  | 0, c => fun h => by cases h
  | f + 1, c => fun h => by
    rw [qbs] at h ⊢
    split at h
    · rename_i h1
      rw [if_pos h1]
      have h2 := qps x f (qs c) h
      have h3 := qbh (c := c) (by omega)
      simp only
      rw [lamN, qsg]
      simp only [szs]; omega
    · rename_i h1
      rw [if_neg h1]
      split at h
      · rename_i h2
        rw [if_pos h2]
        have h3 := qf3 (ih (qr c x).1) h
        have h4 := (qo c x).2.1
        simp only [ofO]; omega
      · cases h
theorem q5u (c : K) : SzO c (qbl rec c) := by
  intro n h
  unfold qbl at h ⊢
  split at h
  · rename_i h1
    rw [if_pos h1]
    have h2 := qsf h1
    split at h
    · rename_i h3
      rw [if_pos h3]
      obtain ⟨m, hm, rfl⟩ := Option.map_eq_some_iff.1 h
      have h4 := qxb hm
      have h5 := qdd h3
      have h6 := (qjh (rest (qp (kindK c 1).1 [58, 58]).1 + 2) (qp (kindK c 1).1 [58, 58]).1).2.1
      rw [qn7, qsg]
      simp only [szs]; omega
    · rename_i h3
      rw [if_neg h3]
      obtain ⟨m, hm, rfl⟩ := Option.map_eq_some_iff.1 h
      unfold toO at hm
      simp only at hm
      split at hm
      · rename_i h4
        cases hm
        have h5 := qps ih _ _ _ h4
        rw [qn7, qsg]
        simp only [szs]; omega
      · cases hm
  · cases h
omit ih in
theorem qtb {rd : K → R3} (hd : ∀ c, SzB c (rd c)) : ∀ (f : Nat) (c d : K) (acc : List N), szs acc + 2 * rest d ≤ 2 * rest c → (qbe rd f d acc).2.2 = true → szs (qbe rd f d acc).2.1 + 2 * rest (qbe rd f d acc).1 ≤ 2 * rest c
  | 0, c, d, acc => fun h0 h => by cases h
  | f + 1, c, d, acc => fun h0 h => by
    rw [qbe] at h ⊢
    split at h
    · rename_i h1
      rw [if_pos h1]
      have h2 := hd d h1
      have h3 := (q8 (rd d).1 [59]).2.1
      split at h
      · rename_i h4
        rw [if_pos h4]
        refine qtb hd f c _ _ ?_ h
        rw [qgl]
        simp only [szs]; omega
      · rename_i h4
        rw [if_neg h4]
        have h5 := (qo (qp (rd d).1 [59]).1 [125]).2.1
        simp only
        rw [qgl]
        simp only [szs]; omega
    · cases h
omit ih in
theorem qvz {rd : K → R3} (hd : ∀ c, SzB c (rd c)) (c : K) (h : (qbj rd c).2.2 = true) : szs (qbj rd c).2.1 + 2 * rest (qbj rd c).1 ≤ 2 * rest c := by
  unfold qbj at h ⊢
  split at h
  · rename_i h1
    rw [if_pos h1]
    have h2 := (qo c [123]).2.1
    exact qtb hd _ _ _ _ (by simp only [szs]; omega) h
  · cases h
theorem qbfk (p : Int) (c : K) : SzB c (qfq rec p c) := by
  intro h
  unfold qfq letB letC at h ⊢
  have hl := qvz (rd := fun c => ofO (qbl rec c)) (fun c hs => qf3 (q5u ih c) hs) c
  generalize qbj (fun c => ofO (qbl rec c)) c = L at *
  split at h
  · rename_i h1
    rw [if_pos h1]
    have hl := hl h1
    split at h
    · rename_i h2
      rw [if_pos h2]
      have h3 := qf3 (ih (qr L.1 [105, 110]).1) h
      have h4 := qfv h2
      simp only
      rw [qsg, qgl]
      simp only [szs]; omega
    · cases h
  · cases h
theorem qbe1 (c : K) : SzB c (qdk rec c) := by
  intro h
  unfold qdk altB altC at h ⊢
  have hp := qbco (rest c + 2) c
  generalize qb1 (rest c + 2) c = r at *
  split at h
  · rename_i h1
    rw [if_pos h1]
    obtain ⟨n, hn⟩ := Option.isSome_iff_exists.1 h1
    have hp := hp n hn
    split at h
    · rename_i h2
      rw [if_pos h2]
      have h3 := qf3 (ih (qr r.1 [45, 62]).1) h
      have h4 := qfv h2
      simp only
      rw [altN, qsg, hn]
      simp only [szs, Option.getD_some]; omega
    · cases h
  · cases h
theorem q3m (p : Int) (c : K) : SzB c (qeg rec p c) := by
  intro h
  unfold qeg qu9 qtt at h ⊢
  split at h
  · rename_i h1
    rw [if_pos h1]
    have h2 := qf3 (ih c) h1
    split at h
    · rename_i h3
      rw [if_pos h3]
      have h4 := qvz (qbe1 ih) _ h
      have h5 := qfv h3
      simp only
      rw [qsg]
      simp only [szs]; omega
    · cases h
  · cases h
theorem q1d (p : Int) : ∀ (l : List (List UInt8)) (c d : K) (acc : List N), szs acc + 2 * rest d ≤ 2 * rest c → (qc9 rec p l d acc).2.2 = true → sz (qc9 rec p l d acc).2.1 + 2 * rest (qc9 rec p l d acc).1 ≤ 2 * rest c + 1
  | [], c, d, acc => fun h0 h => by rw [qc9, qsg]; simp only; omega
  | w :: r, c, d, acc => fun h0 h => by
    rw [qc9] at h ⊢
    split at h
    · rename_i h1
      rw [if_pos h1]
      have h2 := (qln d w).2.1
      split at h
      · rename_i h3
        rw [if_pos h3]
        have h4 := qf3 (ih (ifsK d w).1) h3
        refine q1d p r c _ _ ?_ h
        rw [qgl]
        simp only [szs]; omega
      · cases h
    · cases h
theorem q6l (c : K) : SzB c (qcf rec c) := by
  intro h
  unfold qcf at h ⊢
  split at h
  · rename_i h1
    rw [if_pos h1]
    have h0 := qdd h1
    split at h
    · rename_i h2
      rw [if_pos h2]
      have := qps ih _ _ _ h
      omega
    · cases h
  · rename_i h1
    rw [if_neg h1]
    split at h
    · rename_i h2
      rw [if_pos h2]
      have h0 := qdd h2
      have := qbfk ih _ _ h
      omega
    · rename_i h2
      rw [if_neg h2]
      split at h
      · rename_i h3
        rw [if_pos h3]
        have h0 := qdd h3
        have := q3m ih _ _ h
        omega
      · rename_i h3
        rw [if_neg h3]
        split at h
        · rename_i h4
          rw [if_pos h4]
          have h0 := qdd h4
          have := q1d ih _ _ _ _ _ (by simp only [szs]; exact Nat.le_of_eq (Nat.zero_add _)) h
          omega
        · rename_i h4
          rw [if_neg h4]
          exact qbev ih c h
end
theorem q7s : ∀ (f : Nat) (c : K), SzO c (qbp f c)
  | 0, c => fun n h => by cases h
  | f + 1, c => fun n h => by
    rw [qbp] at h ⊢
    split at h
    · rename_i h1
      rw [if_pos h1]
      unfold toO at h
      simp only at h
      split at h
      · rename_i h2
        cases h
        have h3 := q6l (q7s f) _ h2
        have h4 := (qx c).2.1
        have h5 := (qbg (qcf (qbp f) (qe c).1).1).2.1
        simp only; omega
      · cases h
    · cases h

def expV (s : List UInt8) : N × Int × Int := qy7 (fun c => qbp (rest c + 2) c) s
/-- With steps to spare. -/
def expK (k : Nat) (s : List UInt8) : N × Int × Int := qy7 (fun c => qbp (rest c + k) c) s
theorem qgq (k : Nat) (hk : 2 ≤ k) (s : List UInt8) (hs : s.length ≤ 400000) : qdb Try.prog 6 [.str s] (resV (expK k s)) := by
  have g := qh8 (qg9 s).1
  have g2 : (qbp (rest (newK (lexV s).1) + k) (newK (lexV s).1)).1.good := (qey _ _).1 g
  have hsz : sz ((qbp (rest (newK (lexV s).1) + k) (newK (lexV s).1)).2.getD N0) ≤ 1000000 := by
    cases ho : (qbp (rest (newK (lexV s).1) + k) (newK (lexV s).1)).2 with
    | none => rw [Option.getD_none, qiw]; simp [N0, N.kids, szs]
    | some n =>
      have h1 := q7s _ _ _ ho
      have h2 := qkf (lexV s).1
      have h3 := (qg9 s).2
      have h4 : rest (newK (lexV s).1) = (qe1 (lexV s).1).length := rfl
      simp only [Option.getD_some]
      omega
  have hdp := qx3 hsz
  refine qb5 c0c (by simp) (by simp only [go_sem]) (by simp only [go_sem]) fun hw => ?_
  repeat' (first | refine ql ?_ | ((first | refine qn ?_ | refine qcw (by rfl) ?_ | refine qb6 ?_ | refine qm ?_ | refine qj ?_ | refine qi ?_ | refine qy (qrd s) fun _ => ?_ | refine q7f (q6b _ (qg9 s).1) (qbk _ _) (by simp only [go_sem]) ?_ | refine qwj 1 (qboz (rest (newK (lexV s).1) + k) _ g (by omega)) (by rfl) (qbk _ _) (qbk _ _) (by rfl) (q2z _ _) (by rfl) fun _ => ?_ | refine qwj 1 (qwm _ g2.ok) (by rfl) (qbk _ _) (qbk _ _) (by rfl) (by rfl) (by rfl) fun _ => ?_ | refine qy (q1t (q0m _) (by rw [hdp])) fun _ => ?_ | refine qba  (qrd s) ?_ | refine qba  (q1t (q0m _) (by rw [hdp])) ?_ | ((first | refine qf ?_ ?_ | refine qc ?_ ?_) <;> intro hc <;> (try simp only [hc]) <;> (try simp only [qb, qa, decide_eq_true_eq, decide_eq_false_iff_not, Bool.and_eq_true] at hc)) | refine And.intro (by first | assumption | omega | (have := qh (by assumption); omega) | (unfold qt; omega)) ?_ | simp (disch := omega) only [qd] | simp (disch := omega) only [qq]) <;> (try simp only [go_sem, ↓reduceIte, Nat.reduceEqDiff, Nat.reduceAdd, Nat.reduceSub, Nat.reduceMul, Nat.reduceLT, Nat.reduceLeDiff, reduceCtorEq, Int.reduceToNat])))
  all_goals (try rw [qd3])
  all_goals unfold expK qy7 qvm
  all_goals (repeat' split)
  all_goals first | omega | rfl | (exfalso; omega) | simp_all [go_sem]
theorem qmi (s : List UInt8) (hs : s.length ≤ 400000) : qdb Try.prog 6 [.str s] (resV (expV s)) := qgq 2 (by decide) s hs
end Go.Proofs.Ytmekebfgmjaenaa
