/- A text of this proof. -/
import Derived.Test.YtmekebfgmjaenaaRbe
import Derived.Test.YtmekebfgmjaenaaRbf

/- expressions: the program: of a text -/
set_option maxRecDepth 4000
namespace Go.Proofs.Ytmekebfgmjaenaa
open Go Go.RowKit Go.V
set_option linter.unusedVariables false
set_option linter.unusedSimpArgs false

theorem quh {f : Nat} (ih : ∀ c, c.good → rest c < f → qb8 Try.prog 10 (curE c) (curE (qbt f c).1) [.ptr 0 0] (resP (qbt f c).2)) (c : K) (hg : c.good) (hr : rest c < f + 1) :
    qb8 Try.prog 10 (curE c) (curE (qbt (f + 1) c).1) [.ptr 0 0] (resP (qbt (f + 1) c).2) := by
  have hm := qjx f
  have g1 : (qe c).1.good := (qv c).1 hg
  have hr1 : rest (qe c).1 ≤ f := by have := (qv c).2.1; omega
  have ho := q3q hm ih _ g1 hr1
  have g2 := (qmo hm (qe c).1).1 g1
  refine q7 c0b 1 (by simp) (by simp) ?_
  rw [qbt]
  generalize qcs (qbt f) (qe c).1 = r at *
  obtain ⟨d, n, ok⟩ := r
  simp only [toO] at ho g2 ⊢
  by_cases hk : (qe c).2 = true
  · rw [if_pos hk]
    cases ok with
    | false =>
      repeat' (first | refine ql ?_ | ((first | refine qn ?_ | refine qm ?_ | refine qj ?_ | refine qi ?_) <;> (try simp (disch := first | omega | (simp only [List.length_set, List.length_append, List.length_cons, List.length_nil]; done) | (simp only [List.length_set, List.length_append, List.length_cons, List.length_nil]; omega)) only [hk, go_sem, ↓reduceIte, Nat.reduceEqDiff, Nat.reduceAdd, Nat.reduceSub, Nat.reduceMul, Nat.reduceLT, Nat.reduceLeDiff, reduceCtorEq, Int.reduceToNat])) | ((first | ((first | refine qf ?_ ?_ | refine qc ?_ ?_) <;> intro hc <;> (try simp only [hc]) <;> (try simp only [qb, qa, decide_eq_true_eq, decide_eq_false_iff_not, Bool.and_eq_true] at hc)) | refine And.intro (by first | assumption | omega | (have := qh (by assumption); omega) | (unfold qs; omega)) ?_ | simp (disch := omega) only [qd] | simp (disch := omega) only [qr] | refine qgb ?_ | refine qn8 ho rfl ?_ | refine qeo g2.2.2 ?_) <;> (try simp only [go_sem, ↓reduceIte, Nat.reduceEqDiff, Nat.reduceAdd, Nat.reduceSub, Nat.reduceMul, Nat.reduceLT, Nat.reduceLeDiff, reduceCtorEq, Int.reduceToNat])))
      all_goals first | (rw [qdz]; done) | (rw [qdz]; rfl) | (rw [qdz]; exact ⟨rfl, rfl⟩)
    | true =>
      repeat' (first | refine ql ?_ | ((first | refine qn ?_ | refine qm ?_ | refine qj ?_ | refine qi ?_) <;> (try simp (disch := first | omega | (simp only [List.length_set, List.length_append, List.length_cons, List.length_nil]; done) | (simp only [List.length_set, List.length_append, List.length_cons, List.length_nil]; omega)) only [hk, go_sem, ↓reduceIte, Nat.reduceEqDiff, Nat.reduceAdd, Nat.reduceSub, Nat.reduceMul, Nat.reduceLT, Nat.reduceLeDiff, reduceCtorEq, Int.reduceToNat])) | ((first | ((first | refine qf ?_ ?_ | refine qc ?_ ?_) <;> intro hc <;> (try simp only [hc]) <;> (try simp only [qb, qa, decide_eq_true_eq, decide_eq_false_iff_not, Bool.and_eq_true] at hc)) | refine And.intro (by first | assumption | omega | (have := qh (by assumption); omega) | (unfold qs; omega)) ?_ | simp (disch := omega) only [qd] | simp (disch := omega) only [qr] | refine qgb ?_ | refine qn8 ho rfl ?_ | refine qeo g2.2.2 ?_) <;> (try simp only [go_sem, ↓reduceIte, Nat.reduceEqDiff, Nat.reduceAdd, Nat.reduceSub, Nat.reduceMul, Nat.reduceLT, Nat.reduceLeDiff, reduceCtorEq, Int.reduceToNat])))
      all_goals first | rfl | exact ⟨rfl, rfl⟩
  · rw [if_neg hk]
    repeat' (first | refine ql ?_ | ((first | refine qn ?_ | refine qm ?_ | refine qj ?_ | refine qi ?_) <;> (try simp (disch := first | omega | (simp only [List.length_set, List.length_append, List.length_cons, List.length_nil]; done) | (simp only [List.length_set, List.length_append, List.length_cons, List.length_nil]; omega)) only [hk, go_sem, ↓reduceIte, Nat.reduceEqDiff, Nat.reduceAdd, Nat.reduceSub, Nat.reduceMul, Nat.reduceLT, Nat.reduceLeDiff, reduceCtorEq, Int.reduceToNat])) | ((first | ((first | refine qf ?_ ?_ | refine qc ?_ ?_) <;> intro hc <;> (try simp only [hc]) <;> (try simp only [qb, qa, decide_eq_true_eq, decide_eq_false_iff_not, Bool.and_eq_true] at hc)) | refine And.intro (by first | assumption | omega | (have := qh (by assumption); omega) | (unfold qs; omega)) ?_ | simp (disch := omega) only [qd] | simp (disch := omega) only [qr] | refine qgb ?_) <;> (try simp only [go_sem, ↓reduceIte, Nat.reduceEqDiff, Nat.reduceAdd, Nat.reduceSub, Nat.reduceMul, Nat.reduceLT, Nat.reduceLeDiff, reduceCtorEq, Int.reduceToNat])))
    all_goals first | (rw [qdz]; done) | (rw [qdz]; rfl) | (rw [qdz]; exact ⟨rfl, rfl⟩)
theorem qbpq (f : Nat) : ∀ c : K, c.good → rest c < f → qb8 Try.prog 10 (curE c) (curE (qbt f c).1) [.ptr 0 0] (resP (qbt f c).2) := by
  induction f with
  | zero => exact fun c _ h => absurd h (by omega)
  | succ f ih => exact quh ih

/-! The size of what is read. -/
theorem qs4 {k p m : Int} {t : List UInt8} {l : List N} : sz (.mk k p m t l) = szs l + 1 := by rw [qim]; rfl
theorem q6f {c : K} {n : N} (h : leafE c = some n) : sz n = 1 := by
  unfold leafE qg7 at h
  repeat' split at h
  all_goals first | (cases h; rw [qim]; rfl) | cases h
def SzO (c : K) (r : K × Option N) : Prop := ∀ n, r.2 = some n → sz n + 1 + 2 * rest r.1 ≤ 2 * rest c
def SzB (c : K) (r : R3) : Prop := r.2.2 = true → sz r.2.1 + 1 + 2 * rest r.1 ≤ 2 * rest c
theorem qfv {c : K} {r : K × Option N} (h : SzO c r) (hs : r.2.isSome = true) : sz (r.2.getD N0) + 1 + 2 * rest r.1 ≤ 2 * rest c := by
  obtain ⟨n, hn⟩ := Option.isSome_iff_exists.1 hs
  have := h n hn
  rw [hn]
  exact this
section
variable {rec : K → K × Option N} (ih : ∀ c, SzO c (rec c))
include ih
theorem qv1 (c : K) : SzO c (q8 rec c) := by
  intro n h
  unfold q8 at h ⊢
  split at h
  · rename_i h1
    rw [if_pos h1]
    have := qbg (qih h1)
    have := q6f h
    simp only; omega
  · rename_i h1
    rw [if_neg h1]
    split at h
    · rename_i h2
      rw [if_pos h2]
      split at h
      · rename_i h3
        rw [if_pos h3]
        have hp := qbg (c := (qe c).1) (by rw [qcp h3]; exact qcg h2)
        have h0 := (qv c).2.1
        split at h
        · rename_i h4
          rw [if_pos h4]
          split at h
          · rename_i h5
            rw [if_pos h5]
            have h6 := ih _ _ h
            have h7 := (qo (rec (qt (qe c).1)).1 [41]).2.1
            have h8 := (qbc (qq (rec (qt (qe c).1)).1 [41]).1).2.1
            simp only at h6 ⊢; omega
          · cases h
        · cases h
      · cases h
    · cases h
theorem qwp : ∀ (f : Nat) (c d : K) (n : N), sz n + 1 + 2 * rest d ≤ 2 * rest c → SzB c (qdj rec f d n)
  | 0, c, d, n => fun h0 h => by cases h
  | f + 1, c, d, n => fun h0 h => by
    rw [qdj] at h ⊢
    split at h
    · rename_i h1
      rw [if_pos h1]
      split at h
      · rename_i h2
        rw [if_pos h2]
        have h3 := qfv (qv1 ih d) h2
        refine qwp f c _ _ ?_ h
        rw [appN, qs4]
        simp only [szs]; omega
      · cases h
    · rename_i h1
      rw [if_neg h1]
      exact h0
theorem qbgd (c : K) : SzB c (qeg rec c) := by
  intro h
  unfold qeg at h ⊢
  split at h
  · rename_i h1
    rw [if_pos h1]
    exact qwp ih _ _ _ _ (qfv (qv1 ih c) h1) h
  · cases h
theorem qpr (x : List UInt8) : ∀ (f : Nat) (c : K), SzB c (qby rec x f c)
  | 0, c => fun h => by cases h
  | f + 1, c => fun h => by
    rw [qby] at h ⊢
    split at h
    · rename_i h1
      rw [if_pos h1]
      have h2 := qpr x f (qt c) h
      have h3 := qbg (c := c) (by omega)
      simp only
      rw [lamN, qs4]
      simp only [szs]; omega
    · rename_i h1
      rw [if_neg h1]
      split at h
      · rename_i h2
        rw [if_pos h2]
        have h3 := qfv (ih (qq c x).1) h
        have h4 := (qo c x).2.1
        simp only [ofO]; omega
      · cases h
theorem q4l (c : K) : SzO c (qbq rec c) := by
  intro n h
  unfold qbq at h ⊢
  split at h
  · rename_i h1
    rw [if_pos h1]
    have h2 := qs7 h1
    split at h
    · rename_i h3
      rw [if_pos h3]
      obtain ⟨m, hm, rfl⟩ := Option.map_eq_some_iff.1 h
      have h4 := qya hm
      have h5 := qdm h3
      have h6 := (qi0 (rest (qp (kindK c 1).1 [58, 58]).1 + 2) (qp (kindK c 1).1 [58, 58]).1).2.1
      rw [qrf, qs4]
      simp only [szs]; omega
    · rename_i h3
      rw [if_neg h3]
      obtain ⟨m, hm, rfl⟩ := Option.map_eq_some_iff.1 h
      unfold toO at hm
      simp only at hm
      split at hm
      · rename_i h4
        cases hm
        have h5 := qpr ih _ _ _ h4
        rw [qrf, qs4]
        simp only [szs]; omega
      · cases hm
  · cases h
omit ih in
theorem qry {rd : K → R3} (hd : ∀ c, SzB c (rd c)) : ∀ (f : Nat) (c d : K) (acc : List N), szs acc + 2 * rest d ≤ 2 * rest c → (qbr rd f d acc).2.2 = true → szs (qbr rd f d acc).2.1 + 2 * rest (qbr rd f d acc).1 ≤ 2 * rest c
  | 0, c, d, acc => fun h0 h => by cases h
  | f + 1, c, d, acc => fun h0 h => by
    rw [qbr] at h ⊢
    split at h
    · rename_i h1
      rw [if_pos h1]
      have h2 := hd d h1
      have h3 := (q6 (rd d).1 [59]).2.1
      split at h
      · rename_i h4
        rw [if_pos h4]
        refine qry hd f c _ _ ?_ h
        rw [qgc]
        simp only [szs]; omega
      · rename_i h4
        rw [if_neg h4]
        have h5 := (qo (qp (rd d).1 [59]).1 [125]).2.1
        simp only
        rw [qgc]
        simp only [szs]; omega
    · cases h
omit ih in
theorem qve {rd : K → R3} (hd : ∀ c, SzB c (rd c)) (c : K) (h : (qbh rd c).2.2 = true) : szs (qbh rd c).2.1 + 2 * rest (qbh rd c).1 ≤ 2 * rest c := by
  unfold qbh at h ⊢
  split at h
  · rename_i h1
    rw [if_pos h1]
    have h2 := (qo c [123]).2.1
    exact qry hd _ _ _ _ (by simp only [szs]; omega) h
  · cases h
theorem qbge (p : Int) (c : K) : SzB c (qfz rec p c) := by
  intro h
  unfold qfz letB letC at h ⊢
  have hl := qve (rd := fun c => ofO (qbq rec c)) (fun c hs => qfv (q4l ih c) hs) c
  generalize qbh (fun c => ofO (qbq rec c)) c = L at *
  split at h
  · rename_i h1
    rw [if_pos h1]
    have hl := hl h1
    split at h
    · rename_i h2
      rw [if_pos h2]
      have h3 := qfv (ih (qq L.1 [105, 110]).1) h
      have h4 := qft h2
      simp only
      rw [qs4, qgc]
      simp only [szs]; omega
    · cases h
  · cases h
theorem qbeu (c : K) : SzB c (qdf rec c) := by
  intro h
  unfold qdf altB altC at h ⊢
  have hp := qbdb (rest c + 2) c
  generalize qbx (rest c + 2) c = r at *
  split at h
  · rename_i h1
    rw [if_pos h1]
    obtain ⟨n, hn⟩ := Option.isSome_iff_exists.1 h1
    have hp := hp n hn
    split at h
    · rename_i h2
      rw [if_pos h2]
      have h3 := qfv (ih (qq r.1 [45, 62]).1) h
      have h4 := qft h2
      simp only
      rw [altN, qs4, hn]
      simp only [szs, Option.getD_some]; omega
    · cases h
  · cases h
theorem q3h (p : Int) (c : K) : SzB c (qea rec p c) := by
  intro h
  unfold qea quj qu0 at h ⊢
  split at h
  · rename_i h1
    rw [if_pos h1]
    have h2 := qfv (ih c) h1
    split at h
    · rename_i h3
      rw [if_pos h3]
      have h4 := qve (qbeu ih) _ h
      have h5 := qft h3
      simp only
      rw [qs4]
      simp only [szs]; omega
    · cases h
  · cases h
theorem q2k (p : Int) : ∀ (l : List (List UInt8)) (c d : K) (acc : List N), szs acc + 2 * rest d ≤ 2 * rest c → (qc6 rec p l d acc).2.2 = true → sz (qc6 rec p l d acc).2.1 + 2 * rest (qc6 rec p l d acc).1 ≤ 2 * rest c + 1
  | [], c, d, acc => fun h0 h => by rw [qc6, qs4]; simp only; omega
  | w :: r, c, d, acc => fun h0 h => by
    rw [qc6] at h ⊢
    split at h
    · rename_i h1
      rw [if_pos h1]
      have h2 := (qlf d w).2.1
      split at h
      · rename_i h3
        rw [if_pos h3]
        have h4 := qfv (ih (ifsK d w).1) h3
        refine q2k p r c _ _ ?_ h
        rw [qgc]
        simp only [szs]; omega
      · cases h
    · cases h
theorem q37 (c : K) : SzB c (qcs rec c) := by
  intro h
  unfold qcs at h ⊢
  split at h
  · rename_i h1
    rw [if_pos h1]
    have h0 := qdm h1
    split at h
    · rename_i h2
      rw [if_pos h2]
      have := qpr ih _ _ _ h
      omega
    · cases h
  · rename_i h1
    rw [if_neg h1]
    split at h
    · rename_i h2
      rw [if_pos h2]
      have h0 := qdm h2
      have := qbge ih _ _ h
      omega
    · rename_i h2
      rw [if_neg h2]
      split at h
      · rename_i h3
        rw [if_pos h3]
        have h0 := qdm h3
        have := q3h ih _ _ h
        omega
      · rename_i h3
        rw [if_neg h3]
        split at h
        · rename_i h4
          rw [if_pos h4]
          have h0 := qdm h4
          have := q2k ih _ _ _ _ _ (by simp only [szs]; exact Nat.le_of_eq (Nat.zero_add _)) h
          omega
        · rename_i h4
          rw [if_neg h4]
          exact qbgd ih c h
end
theorem q7l : ∀ (f : Nat) (c : K), SzO c (qbt f c)
  | 0, c => fun n h => by cases h
  | f + 1, c => fun n h => by
    rw [qbt] at h ⊢
    split at h
    · rename_i h1
      rw [if_pos h1]
      unfold toO at h
      simp only at h
      split at h
      · rename_i h2
        cases h
        have h3 := q37 (q7l f) _ h2
        have h4 := (qv c).2.1
        have h5 := (qbc (qcs (qbt f) (qe c).1).1).2.1
        simp only; omega
      · cases h
    · cases h

def expV (s : List UInt8) : N × Int × Int := qxp (fun c => qbt (rest c + 2) c) s
/-- With steps to spare. -/
def expK (k : Nat) (s : List UInt8) : N × Int × Int := qxp (fun c => qbt (rest c + k) c) s
theorem qkg (k : Nat) (hk : 2 ≤ k) (s : List UInt8) (hs : s.length ≤ 400000) : qda Try.prog 6 [.str s] (resV (expK k s)) := by
  have g := qmp (qjc s).1
  have g2 : (qbt (rest (newK (lexV s).1) + k) (newK (lexV s).1)).1.good := (qjx _ _).1 g
  have hsz : sz ((qbt (rest (newK (lexV s).1) + k) (newK (lexV s).1)).2.getD N0) ≤ 1000000 := by
    cases ho : (qbt (rest (newK (lexV s).1) + k) (newK (lexV s).1)).2 with
    | none => rw [Option.getD_none, qim]; simp [N0, N.kids, szs]
    | some n =>
      have h1 := q7l _ _ _ ho
      have h2 := qkl (lexV s).1
      have h3 := (qjc s).2
      have h4 : rest (newK (lexV s).1) = (qey (lexV s).1).length := rfl
      simp only [Option.getD_some]
      omega
  have hdp := qyr hsz
  refine qb3 c0c (by simp) (by simp only [go_sem]) (by simp only [go_sem]) fun hw => ?_
  repeat' (first | refine ql ?_ | ((first | refine qn ?_ | refine qcr (by rfl) ?_ | refine qb4 ?_ | refine qm ?_ | refine qj ?_ | refine qi ?_ | refine qx (qsz s) fun _ => ?_ | refine q6l (q5x _ (qjc s).1) (qbf _ _) (by simp only [go_sem]) ?_ | refine qv8 1 (qbpq (rest (newK (lexV s).1) + k) _ g (by omega)) (by rfl) (qbf _ _) (qbf _ _) (by rfl) (q1a _ _) (by rfl) fun _ => ?_ | refine qv8 1 (qwn _ g2.ok) (by rfl) (qbf _ _) (qbf _ _) (by rfl) (by rfl) (by rfl) fun _ => ?_ | refine qx (qzl (q1k _) (by rw [hdp])) fun _ => ?_ | refine qba  (qsz s) ?_ | refine qba  (qzl (q1k _) (by rw [hdp])) ?_ | ((first | refine qf ?_ ?_ | refine qc ?_ ?_) <;> intro hc <;> (try simp only [hc]) <;> (try simp only [qb, qa, decide_eq_true_eq, decide_eq_false_iff_not, Bool.and_eq_true] at hc)) | refine And.intro (by first | assumption | omega | (have := qh (by assumption); omega) | (unfold qs; omega)) ?_ | simp (disch := omega) only [qd] | simp (disch := omega) only [qr]) <;> (try simp only [go_sem, ↓reduceIte, Nat.reduceEqDiff, Nat.reduceAdd, Nat.reduceSub, Nat.reduceMul, Nat.reduceLT, Nat.reduceLeDiff, reduceCtorEq, Int.reduceToNat])))
  all_goals (try rw [qdz])
  all_goals unfold expK qxp qs5
  all_goals (repeat' split)
  all_goals first | omega | rfl | (exfalso; omega) | simp_all [go_sem]
theorem qm2 (s : List UInt8) (hs : s.length ≤ 400000) : qda Try.prog 6 [.str s] (resV (expV s)) := qkg 2 (by decide) s hs
end Go.Proofs.Ytmekebfgmjaenaa
