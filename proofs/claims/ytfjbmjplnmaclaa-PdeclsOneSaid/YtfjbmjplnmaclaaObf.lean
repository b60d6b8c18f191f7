/- A text of this proof. -/
import Derived.Test.YtfjbmjplnmaclaaObd
import Derived.Test.YtfjbmjplnmaclaaObe

/- expressions: the program: of a text -/
set_option maxRecDepth 4000
namespace Go.Proofs.Ytfjbmjplnmaclaa
open Go Go.RowKit Go.V
set_option linter.unusedVariables false
set_option linter.unusedSimpArgs false

theorem qya {f : Nat} (ih : ∀ c, c.good → rest c < f → qcc Try.prog 66 (curE c) (curE (qfc f c).1) [.ptr 0 0] (resP (qfc f c).2)) (c : K) (hg : c.good) (hr : rest c < f + 1) :
    qcc Try.prog 66 (curE c) (curE (qfc (f + 1) c).1) [.ptr 0 0] (resP (qfc (f + 1) c).2) := by
  have hm := qjd f
  have g1 : (qi c).1.good := (q8 c).1 hg
  have hr1 : rest (qi c).1 ≤ f := by have := (q8 c).2.1; omega
  have ho := qbbb hm ih _ g1 hr1
  have g2 := (qpt hm (qi c).1).1 g1
  refine qx c0b 1 (by simp) (by simp) ?_
  rw [qfc]
  generalize qdn (qfc f) (qi c).1 = r at *
  obtain ⟨d, n, ok⟩ := r
  simp only [toO] at ho g2 ⊢
  by_cases hk : (qi c).2 = true
  · rw [if_pos hk]
    cases ok with
    | false =>
      repeat' (first | refine qj ?_ | ((first | refine qn ?_ | refine qk ?_ | refine qh ?_ | refine qg ?_) <;> (try simp (disch := first | omega | (simp only [List.length_set, List.length_append, List.length_cons, List.length_nil]; done) | (simp only [List.length_set, List.length_append, List.length_cons, List.length_nil]; omega)) only [hk, go_sem, ↓reduceIte, Nat.reduceEqDiff, Nat.reduceAdd, Nat.reduceSub, Nat.reduceMul, Nat.reduceLT, Nat.reduceLeDiff, reduceCtorEq, Int.reduceToNat])) | ((first | ((first | refine qe ?_ ?_ | refine qd ?_ ?_) <;> intro hc <;> (try simp only [hc]) <;> (try simp only [qb, qa, decide_eq_true_eq, decide_eq_false_iff_not, Bool.and_eq_true] at hc)) | refine And.intro (by first | assumption | omega | (have := qf (by assumption); omega) | (unfold qp; omega)) ?_ | simp (disch := omega) only [qc] | simp (disch := omega) only [qo] | refine qhh ?_ | refine qj9 ho rfl ?_ | refine qfi g2.2.2 ?_) <;> (try simp only [go_sem, ↓reduceIte, Nat.reduceEqDiff, Nat.reduceAdd, Nat.reduceSub, Nat.reduceMul, Nat.reduceLT, Nat.reduceLeDiff, reduceCtorEq, Int.reduceToNat])))
      all_goals first | (rw [qd2]; done) | (rw [qd2]; rfl) | (rw [qd2]; exact ⟨rfl, rfl⟩)
    | true =>
      repeat' (first | refine qj ?_ | ((first | refine qn ?_ | refine qk ?_ | refine qh ?_ | refine qg ?_) <;> (try simp (disch := first | omega | (simp only [List.length_set, List.length_append, List.length_cons, List.length_nil]; done) | (simp only [List.length_set, List.length_append, List.length_cons, List.length_nil]; omega)) only [hk, go_sem, ↓reduceIte, Nat.reduceEqDiff, Nat.reduceAdd, Nat.reduceSub, Nat.reduceMul, Nat.reduceLT, Nat.reduceLeDiff, reduceCtorEq, Int.reduceToNat])) | ((first | ((first | refine qe ?_ ?_ | refine qd ?_ ?_) <;> intro hc <;> (try simp only [hc]) <;> (try simp only [qb, qa, decide_eq_true_eq, decide_eq_false_iff_not, Bool.and_eq_true] at hc)) | refine And.intro (by first | assumption | omega | (have := qf (by assumption); omega) | (unfold qp; omega)) ?_ | simp (disch := omega) only [qc] | simp (disch := omega) only [qo] | refine qhh ?_ | refine qj9 ho rfl ?_ | refine qfi g2.2.2 ?_) <;> (try simp only [go_sem, ↓reduceIte, Nat.reduceEqDiff, Nat.reduceAdd, Nat.reduceSub, Nat.reduceMul, Nat.reduceLT, Nat.reduceLeDiff, reduceCtorEq, Int.reduceToNat])))
      all_goals first | rfl | exact ⟨rfl, rfl⟩
  · rw [if_neg hk]
    repeat' (first | refine qj ?_ | ((first | refine qn ?_ | refine qk ?_ | refine qh ?_ | refine qg ?_) <;> (try simp (disch := first | omega | (simp only [List.length_set, List.length_append, List.length_cons, List.length_nil]; done) | (simp only [List.length_set, List.length_append, List.length_cons, List.length_nil]; omega)) only [hk, go_sem, ↓reduceIte, Nat.reduceEqDiff, Nat.reduceAdd, Nat.reduceSub, Nat.reduceMul, Nat.reduceLT, Nat.reduceLeDiff, reduceCtorEq, Int.reduceToNat])) | ((first | ((first | refine qe ?_ ?_ | refine qd ?_ ?_) <;> intro hc <;> (try simp only [hc]) <;> (try simp only [qb, qa, decide_eq_true_eq, decide_eq_false_iff_not, Bool.and_eq_true] at hc)) | refine And.intro (by first | assumption | omega | (have := qf (by assumption); omega) | (unfold qp; omega)) ?_ | simp (disch := omega) only [qc] | simp (disch := omega) only [qo] | refine qhh ?_) <;> (try simp only [go_sem, ↓reduceIte, Nat.reduceEqDiff, Nat.reduceAdd, Nat.reduceSub, Nat.reduceMul, Nat.reduceLT, Nat.reduceLeDiff, reduceCtorEq, Int.reduceToNat])))
    all_goals first | (rw [qd2]; done) | (rw [qd2]; rfl) | (rw [qd2]; exact ⟨rfl, rfl⟩)
theorem qbsg (f : Nat) : ∀ c : K, c.good → rest c < f → qcc Try.prog 66 (curE c) (curE (qfc f c).1) [.ptr 0 0] (resP (qfc f c).2) := by
  induction f with
  | zero => exact fun c _ h => absurd h (by omega)
  | succ f ih => exact qya ih

/-! The size of what is read. -/
theorem qin {k p m : Int} {t : List UInt8} {l : List N} : sz (.mk k p m t l) = szs l + 1 := by rw [qjh]; rfl
theorem q8b {c : K} {n : N} (h : leafE c = some n) : sz n = 1 := by
  unfold leafE qho at h
  repeat' split at h
  all_goals first | (cases h; rw [qjh]; rfl) | cases h
def SzO (c : K) (r : K × Option N) : Prop := ∀ n, r.2 = some n → sz n + 1 + 2 * rest r.1 ≤ 2 * rest c
def SzB (c : K) (r : R3) : Prop := r.2.2 = true → sz r.2.1 + 1 + 2 * rest r.1 ≤ 2 * rest c
theorem qfl {c : K} {r : K × Option N} (h : SzO c r) (hs : r.2.isSome = true) : sz (r.2.getD N0) + 1 + 2 * rest r.1 ≤ 2 * rest c := by
  obtain ⟨n, hn⟩ := Option.isSome_iff_exists.1 hs
  have := h n hn
  rw [hn]
  exact this
section
variable {rec : K → K × Option N} (ih : ∀ c, SzO c (rec c))
include ih
theorem qy3 (c : K) : SzO c (qbd rec c) := by
  intro n h
  unfold qbd at h ⊢
  split at h
  · rename_i h1
    rw [if_pos h1]
    have := qbj (qjp h1)
    have := q8b h
    simp only; omega
  · rename_i h1
    rw [if_neg h1]
    split at h
    · rename_i h2
      rw [if_pos h2]
      split at h
      · rename_i h3
        rw [if_pos h3]
        have hp := qbj (c := (qi c).1) (by rw [qc1 h3]; exact qcv h2)
        have h0 := (q8 c).2.1
        split at h
        · rename_i h4
          rw [if_pos h4]
          split at h
          · rename_i h5
            rw [if_pos h5]
            have h6 := ih _ _ h
            have h7 := (qr (rec (q7 (qi c).1)).1 [41]).2.1
            have h8 := (qbh (qq (rec (q7 (qi c).1)).1 [41]).1).2.1
            simp only at h6 ⊢; omega
          · cases h
        · cases h
      · cases h
    · cases h
theorem qyr : ∀ (f : Nat) (c d : K) (n : N), sz n + 1 + 2 * rest d ≤ 2 * rest c → SzB c (qet rec f d n)
  | 0, c, d, n => fun h0 h => by cases h
  | f + 1, c, d, n => fun h0 h => by
    rw [qet] at h ⊢
    split at h
    · rename_i h1
      rw [if_pos h1]
      split at h
      · rename_i h2
        rw [if_pos h2]
        have h3 := qfl (qy3 ih d) h2
        refine qyr f c _ _ ?_ h
        rw [appN, qin]
        simp only [szs]; omega
      · cases h
    · rename_i h1
      rw [if_neg h1]
      exact h0
theorem qbg0 (c : K) : SzB c (qf5 rec c) := by
  intro h
  unfold qf5 at h ⊢
  split at h
  · rename_i h1
    rw [if_pos h1]
    exact qyr ih _ _ _ _ (qfl (qy3 ih c) h1) h
  · cases h
theorem qt2 (x : List UInt8) : ∀ (f : Nat) (c : K), SzB c (qcg rec x f c)
  | 0, c => fun h => by cases h
  | f + 1, c => fun h => by
    rw [qcg] at h ⊢
    split at h
    · rename_i h1
      rw [if_pos h1]
      have h2 := qt2 x f (q7 c) h
      have h3 := qbj (c := c) (by omega)
      simp only
      rw [lamN, qin]
      simp only [szs]; omega
    · rename_i h1
      rw [if_neg h1]
      split at h
      · rename_i h2
        rw [if_pos h2]
        have h3 := qfl (ih (qq c x).1) h
        have h4 := (qr c x).2.1
        simp only [ofO]; omega
      · cases h
theorem qzc (c : K) : SzO c (qb2 rec c) := by
  intro n h
  unfold qb2 at h ⊢
  split at h
  · rename_i h1
    rw [if_pos h1]
    have h2 := qv9 h1
    split at h
    · rename_i h3
      rw [if_pos h3]
      obtain ⟨m, hm, rfl⟩ := Option.map_eq_some_iff.1 h
      have h4 := q0z hm
      have h5 := qcs h3
      have h6 := (qkh (rest (qs (kindK c 1).1 [58, 58]).1 + 2) (qs (kindK c 1).1 [58, 58]).1).2.1
      rw [qum, qin]
      simp only [szs]; omega
    · rename_i h3
      rw [if_neg h3]
      obtain ⟨m, hm, rfl⟩ := Option.map_eq_some_iff.1 h
      unfold toO at hm
      simp only at hm
      split at hm
      · rename_i h4
        cases hm
        have h5 := qt2 ih _ _ _ h4
        rw [qum, qin]
        simp only [szs]; omega
      · cases hm
  · cases h
omit ih in
theorem qva {rd : K → R3} (hd : ∀ c, SzB c (rd c)) : ∀ (f : Nat) (c d : K) (acc : List N), szs acc + 2 * rest d ≤ 2 * rest c → (qb5 rd f d acc).2.2 = true → szs (qb5 rd f d acc).2.1 + 2 * rest (qb5 rd f d acc).1 ≤ 2 * rest c
  | 0, c, d, acc => fun h0 h => by cases h
  | f + 1, c, d, acc => fun h0 h => by
    rw [qb5] at h ⊢
    split at h
    · rename_i h1
      rw [if_pos h1]
      have h2 := hd d h1
      have h3 := (qz (rd d).1 [59]).2.1
      split at h
      · rename_i h4
        rw [if_pos h4]
        refine qva hd f c _ _ ?_ h
        rw [qfx]
        simp only [szs]; omega
      · rename_i h4
        rw [if_neg h4]
        have h5 := (qr (qs (rd d).1 [59]).1 [125]).2.1
        simp only
        rw [qfx]
        simp only [szs]; omega
    · cases h
omit ih in
theorem qys {rd : K → R3} (hd : ∀ c, SzB c (rd c)) (c : K) (h : (qbk rd c).2.2 = true) : szs (qbk rd c).2.1 + 2 * rest (qbk rd c).1 ≤ 2 * rest c := by
  unfold qbk at h ⊢
  split at h
  · rename_i h1
    rw [if_pos h1]
    have h2 := (qr c [123]).2.1
    exact qva hd _ _ _ _ (by simp only [szs]; omega) h
  · cases h
theorem qbe4 (p : Int) (c : K) : SzB c (qg0 rec p c) := by
  intro h
  unfold qg0 letB letC at h ⊢
  have hl := qys (rd := fun c => ofO (qb2 rec c)) (fun c hs => qfl (qzc ih c) hs) c
  generalize qbk (fun c => ofO (qb2 rec c)) c = L at *
  split at h
  · rename_i h1
    rw [if_pos h1]
    have hl := hl h1
    split at h
    · rename_i h2
      rw [if_pos h2]
      have h3 := qfl (ih (qq L.1 [105, 110]).1) h
      have h4 := qgm h2
      simp only
      rw [qin, qfx]
      simp only [szs]; omega
    · cases h
  · cases h
theorem qbox (c : K) : SzB c (qd8 rec c) := by
  intro h
  unfold qd8 altB altC at h ⊢
  have hp := qbhp (rest c + 2) c
  generalize qcf (rest c + 2) c = r at *
  split at h
  · rename_i h1
    rw [if_pos h1]
    obtain ⟨n, hn⟩ := Option.isSome_iff_exists.1 h1
    have hp := hp n hn
    split at h
    · rename_i h2
      rw [if_pos h2]
      have h3 := qfl (ih (qq r.1 [45, 62]).1) h
      have h4 := qgm h2
      simp only
      rw [altN, qin, hn]
      simp only [szs, Option.getD_some]; omega
    · cases h
  · cases h
theorem qbbv (p : Int) (c : K) : SzB c (qe2 rec p c) := by
  intro h
  unfold qe2 qxv qxf at h ⊢
  split at h
  · rename_i h1
    rw [if_pos h1]
    have h2 := qfl (ih c) h1
    split at h
    · rename_i h3
      rw [if_pos h3]
      have h4 := qys (qbox ih) _ h
      have h5 := qgm h3
      simp only
      rw [qin]
      simp only [szs]; omega
    · cases h
  · cases h
theorem q4h (p : Int) : ∀ (l : List (List UInt8)) (c d : K) (acc : List N), szs acc + 2 * rest d ≤ 2 * rest c → (qdt rec p l d acc).2.2 = true → sz (qdt rec p l d acc).2.1 + 2 * rest (qdt rec p l d acc).1 ≤ 2 * rest c + 1
  | [], c, d, acc => fun h0 h => by rw [qdt, qin]; simp only; omega
  | w :: r, c, d, acc => fun h0 h => by
    rw [qdt] at h ⊢
    split at h
    · rename_i h1
      rw [if_pos h1]
      have h2 := (qnt d w).2.1
      split at h
      · rename_i h3
        rw [if_pos h3]
        have h4 := qfl (ih (ifsK d w).1) h3
        refine q4h p r c _ _ ?_ h
        rw [qfx]
        simp only [szs]; omega
      · cases h
    · cases h
theorem q9q (c : K) : SzB c (qdn rec c) := by
  intro h
  unfold qdn at h ⊢
  split at h
  · rename_i h1
    rw [if_pos h1]
    have h0 := qcs h1
    split at h
    · rename_i h2
      rw [if_pos h2]
      have := qt2 ih _ _ _ h
      omega
    · cases h
  · rename_i h1
    rw [if_neg h1]
    split at h
    · rename_i h2
      rw [if_pos h2]
      have h0 := qcs h2
      have := qbe4 ih _ _ h
      omega
    · rename_i h2
      rw [if_neg h2]
      split at h
      · rename_i h3
        rw [if_pos h3]
        have h0 := qcs h3
        have := qbbv ih _ _ h
        omega
      · rename_i h3
        rw [if_neg h3]
        split at h
        · rename_i h4
          rw [if_pos h4]
          have h0 := qcs h4
          have := q4h ih _ _ _ _ _ (by simp only [szs]; exact Nat.le_of_eq (Nat.zero_add _)) h
          omega
        · rename_i h4
          rw [if_neg h4]
          exact qbg0 ih c h
end
theorem qbc6 : ∀ (f : Nat) (c : K), SzO c (qfc f c)
  | 0, c => fun n h => by cases h
  | f + 1, c => fun n h => by
    rw [qfc] at h ⊢
    split at h
    · rename_i h1
      rw [if_pos h1]
      unfold toO at h
      simp only at h
      split at h
      · rename_i h2
        cases h
        have h3 := q9q (qbc6 f) _ h2
        have h4 := (q8 c).2.1
        have h5 := (qbh (qdn (qfc f) (qi c).1).1).2.1
        simp only; omega
      · cases h
    · cases h

end Go.Proofs.Ytfjbmjplnmaclaa
