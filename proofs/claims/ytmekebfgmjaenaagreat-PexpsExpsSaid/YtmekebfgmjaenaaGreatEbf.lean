/- Texts of this proof, joined. -/
import Derived.Test.YtmekebfgmjaenaaGreatEbd
import Derived.Test.YtmekebfgmjaenaaGreatEbe

/- expressions: the program: of a text -/
set_option maxRecDepth 4000
namespace Go.Proofs.YtmekebfgmjaenaaGreat
open Go Go.RowKit Go.V
set_option linter.unusedVariables false
set_option linter.unusedSimpArgs false

theorem qvu {f : Nat} (ih : ∀ c, c.good → rest c < f → qcp Tryz.prog 10 (curE c) (curE (qgf f c).1) [.ptr 0 0] (resP (qgf f c).2)) (c : K) (hg : c.good) (hr : rest c < f + 1) :
    qcp Tryz.prog 10 (curE c) (curE (qgf (f + 1) c).1) [.ptr 0 0] (resP (qgf (f + 1) c).2) := by
  have hm := qjk f
  have g1 : (qj c).1.good := (qx c).1 hg
  have hr1 : rest (qj c).1 ≤ f := by have := (qx c).2.1; omega
  have ho := q8r hm ih _ g1 hr1
  have g2 := (qnz hm (qj c).1).1 g1
  refine qbe c0o 1 (by simp) (by simp) ?_
  rw [qgf]
  generalize qeg (qgf f) (qj c).1 = r at *
  obtain ⟨d, n, ok⟩ := r
  simp only [toO] at ho g2 ⊢
  by_cases hk : (qj c).2 = true
  · rw [if_pos hk]
    cases ok with
    | false =>
      repeat' (first | refine ql ?_ | ((first | refine qn ?_ | refine qm ?_ | refine qi ?_ | refine qh ?_); simp (disch := first | omega | (simp only [List.length_set, List.length_append, List.length_cons, List.length_nil]; done) | (simp only [List.length_set, List.length_append, List.length_cons, List.length_nil]; omega)) only [hk, go_sem, ↓reduceIte, Nat.reduceEqDiff, Nat.reduceAdd, Nat.reduceSub, Nat.reduceMul, Nat.reduceLT, Nat.reduceLeDiff, reduceCtorEq, Int.reduceToNat]) | ((first | refine qf ?_ ?_ | refine qe ?_ ?_) <;> intro hc <;> simp only [hc, go_sem, ↓reduceIte, Nat.reduceEqDiff, Nat.reduceAdd, Nat.reduceSub, Nat.reduceMul, Nat.reduceLT, Nat.reduceLeDiff, reduceCtorEq, Int.reduceToNat] <;> (try simp only [qb, qa, decide_eq_true_eq, decide_eq_false_iff_not, Bool.and_eq_true] at hc)) | refine And.intro (by first | assumption | omega | (have := qg (by assumption); omega) | (unfold qp; omega)) ?_ | fail | ((first | refine qht ?_ | refine qpk ho rfl ?_ | refine qfz g2.2.2 ?_); simp only [go_sem, ↓reduceIte, Nat.reduceEqDiff, Nat.reduceAdd, Nat.reduceSub, Nat.reduceMul, Nat.reduceLT, Nat.reduceLeDiff, reduceCtorEq, Int.reduceToNat]))
      all_goals first | (rw [qd3]; done) | (rw [qd3]; rfl) | (rw [qd3]; exact ⟨rfl, rfl⟩)
    | true =>
      repeat' (first | refine ql ?_ | ((first | refine qn ?_ | refine qm ?_ | refine qi ?_ | refine qh ?_); simp (disch := first | omega | (simp only [List.length_set, List.length_append, List.length_cons, List.length_nil]; done) | (simp only [List.length_set, List.length_append, List.length_cons, List.length_nil]; omega)) only [hk, go_sem, ↓reduceIte, Nat.reduceEqDiff, Nat.reduceAdd, Nat.reduceSub, Nat.reduceMul, Nat.reduceLT, Nat.reduceLeDiff, reduceCtorEq, Int.reduceToNat]) | ((first | refine qf ?_ ?_ | refine qe ?_ ?_) <;> intro hc <;> simp only [hc, go_sem, ↓reduceIte, Nat.reduceEqDiff, Nat.reduceAdd, Nat.reduceSub, Nat.reduceMul, Nat.reduceLT, Nat.reduceLeDiff, reduceCtorEq, Int.reduceToNat] <;> (try simp only [qb, qa, decide_eq_true_eq, decide_eq_false_iff_not, Bool.and_eq_true] at hc)) | refine And.intro (by first | assumption | omega | (have := qg (by assumption); omega) | (unfold qp; omega)) ?_ | fail | ((first | refine qht ?_ | refine qpk ho rfl ?_ | refine qfz g2.2.2 ?_); simp only [go_sem, ↓reduceIte, Nat.reduceEqDiff, Nat.reduceAdd, Nat.reduceSub, Nat.reduceMul, Nat.reduceLT, Nat.reduceLeDiff, reduceCtorEq, Int.reduceToNat]))
      all_goals first | rfl | exact ⟨rfl, rfl⟩
  · rw [if_neg hk]
    repeat' (first | refine ql ?_ | ((first | refine qn ?_ | refine qm ?_ | refine qi ?_ | refine qh ?_); simp (disch := first | omega | (simp only [List.length_set, List.length_append, List.length_cons, List.length_nil]; done) | (simp only [List.length_set, List.length_append, List.length_cons, List.length_nil]; omega)) only [hk, go_sem, ↓reduceIte, Nat.reduceEqDiff, Nat.reduceAdd, Nat.reduceSub, Nat.reduceMul, Nat.reduceLT, Nat.reduceLeDiff, reduceCtorEq, Int.reduceToNat]) | ((first | refine qf ?_ ?_ | refine qe ?_ ?_) <;> intro hc <;> simp only [hc, go_sem, ↓reduceIte, Nat.reduceEqDiff, Nat.reduceAdd, Nat.reduceSub, Nat.reduceMul, Nat.reduceLT, Nat.reduceLeDiff, reduceCtorEq, Int.reduceToNat] <;> (try simp only [qb, qa, decide_eq_true_eq, decide_eq_false_iff_not, Bool.and_eq_true] at hc)) | refine And.intro (by first | assumption | omega | (have := qg (by assumption); omega) | (unfold qp; omega)) ?_ | fail | ((first | refine qht ?_); simp only [go_sem, ↓reduceIte, Nat.reduceEqDiff, Nat.reduceAdd, Nat.reduceSub, Nat.reduceMul, Nat.reduceLT, Nat.reduceLeDiff, reduceCtorEq, Int.reduceToNat]))
    all_goals first | (rw [qd3]; done) | (rw [qd3]; rfl) | (rw [qd3]; exact ⟨rfl, rfl⟩)
theorem qb1x (f : Nat) : ∀ c : K, c.good → rest c < f → qcp Tryz.prog 10 (curE c) (curE (qgf f c).1) [.ptr 0 0] (resP (qgf f c).2) := by
  induction f with
  | zero => exact fun c _ h => absurd h (by omega)
  | succ f ih => exact qvu ih

/-! The size of what is read. -/
theorem qt2 {k p m : Int} {t : List UInt8} {l : List N} : sz (.mk k p m t l) = szs l + 1 := by rw [qi1]; rfl
theorem q7z {c : K} {n : N} (h : qiu c = some n) : sz n = 1 := by
  unfold qiu qh1 at h
  repeat' split at h
  all_goals first | (cases h; rw [qi1]; rfl) | cases h
def SzO (c : K) (r : K × Option N) : Prop := ∀ n, r.2 = some n → sz n + 1 + 2 * rest r.1 ≤ 2 * rest c
def SzB (c : K) (r : R3) : Prop := r.2.2 = true → sz r.2.1 + 1 + 2 * rest r.1 ≤ 2 * rest c
theorem qhp {c : K} {r : K × Option N} (h : SzO c r) (hs : r.2.isSome = true) : sz (r.2.getD N0) + 1 + 2 * rest r.1 ≤ 2 * rest c := by
  obtain ⟨n, hn⟩ := Option.isSome_iff_exists.1 hs
  have := h n hn
  rw [hn]
  exact this
section
variable {rec : K → K × Option N} (ih : ∀ c, SzO c (rec c))
include ih
theorem qx5 (c : K) : SzO c (qbl rec c) := by
  intro n h
  unfold qbl at h ⊢
  split at h
  · rename_i h1
    rw [if_pos h1]
    have := qbo (ql2 h1)
    have := q7z h
    simp only; omega
  · rename_i h1
    rw [if_neg h1]
    split at h
    · rename_i h2
      rw [if_pos h2]
      split at h
      · rename_i h3
        rw [if_pos h3]
        have hp := qbo (c := (qj c).1) (by rw [qeo h3]; exact qdo h2)
        have h0 := (qx c).2.1
        split at h
        · rename_i h4
          rw [if_pos h4]
          split at h
          · rename_i h5
            rw [if_pos h5]
            have h6 := ih _ _ h
            have h7 := (qq (rec (q9 (qj c).1)).1 [41]).2.1
            have h8 := (qbw (qv (rec (q9 (qj c).1)).1 [41]).1).2.1
            simp only at h6 ⊢; omega
          · cases h
        · cases h
      · cases h
    · cases h
theorem qxb : ∀ (f : Nat) (c d : K) (n : N), sz n + 1 + 2 * rest d ≤ 2 * rest c → SzB c (qfj rec f d n)
  | 0, c, d, n => fun h0 h => by cases h
  | f + 1, c, d, n => fun h0 h => by
    rw [qfj] at h ⊢
    split at h
    · rename_i h1
      rw [if_pos h1]
      split at h
      · rename_i h2
        rw [if_pos h2]
        have h3 := qhp (qx5 ih d) h2
        refine qxb f c _ _ ?_ h
        rw [appN, qt2]
        simp only [szs]; omega
      · cases h
    · rename_i h1
      rw [if_neg h1]
      exact h0
theorem qbqr (c : K) : SzB c (qg7 rec c) := by
  intro h
  unfold qg7 at h ⊢
  split at h
  · rename_i h1
    rw [if_pos h1]
    exact qxb ih _ _ _ _ (qhp (qx5 ih c) h1) h
  · cases h
theorem qrk (x : List UInt8) : ∀ (f : Nat) (c : K), SzB c (qcj rec x f c)
  | 0, c => fun h => by cases h
  | f + 1, c => fun h => by
    rw [qcj] at h ⊢
    split at h
    · rename_i h1
      rw [if_pos h1]
      have h2 := qrk x f (q9 c) h
      have h3 := qbo (c := c) (by omega)
      simp only
      rw [lamN, qt2]
      simp only [szs]; omega
    · rename_i h1
      rw [if_neg h1]
      split at h
      · rename_i h2
        rw [if_pos h2]
        have h3 := qhp (ih (qv c x).1) h
        have h4 := (qq c x).2.1
        simp only [ofO]; omega
      · cases h
theorem q5v (c : K) : SzO c (qcd rec c) := by
  intro n h
  unfold qcd at h ⊢
  split at h
  · rename_i h1
    rw [if_pos h1]
    have h2 := quc h1
    split at h
    · rename_i h3
      rw [if_pos h3]
      obtain ⟨m, hm, rfl⟩ := Option.map_eq_some_iff.1 h
      have h4 := qz5 hm
      have h5 := qem h3
      have h6 := (qki (rest (qt (qbp c 1).1 [58, 58]).1 + 2) (qt (qbp c 1).1 [58, 58]).1).2.1
      rw [qm4, qt2]
      simp only [szs]; omega
    · rename_i h3
      rw [if_neg h3]
      obtain ⟨m, hm, rfl⟩ := Option.map_eq_some_iff.1 h
      unfold toO at hm
      simp only at hm
      split at hm
      · rename_i h4
        cases hm
        have h5 := qrk ih _ _ _ h4
        rw [qm4, qt2]
        simp only [szs]; omega
      · cases hm
  · cases h
omit ih in
theorem qt5 {rd : K → R3} (hd : ∀ c, SzB c (rd c)) : ∀ (f : Nat) (c d : K) (acc : List N), szs acc + 2 * rest d ≤ 2 * rest c → (qb7 rd f d acc).2.2 = true → szs (qb7 rd f d acc).2.1 + 2 * rest (qb7 rd f d acc).1 ≤ 2 * rest c
  | 0, c, d, acc => fun h0 h => by cases h
  | f + 1, c, d, acc => fun h0 h => by
    rw [qb7] at h ⊢
    split at h
    · rename_i h1
      rw [if_pos h1]
      have h2 := hd d h1
      have h3 := (q8 (rd d).1 [59]).2.1
      split at h
      · rename_i h4
        rw [if_pos h4]
        refine qt5 hd f c _ _ ?_ h
        rw [qhs]
        simp only [szs]; omega
      · rename_i h4
        rw [if_neg h4]
        have h5 := (qq (qt (rd d).1 [59]).1 [125]).2.1
        simp only
        rw [qhs]
        simp only [szs]; omega
    · cases h
omit ih in
theorem qxd {rd : K → R3} (hd : ∀ c, SzB c (rd c)) (c : K) (h : (qbr rd c).2.2 = true) : szs (qbr rd c).2.1 + 2 * rest (qbr rd c).1 ≤ 2 * rest c := by
  unfold qbr at h ⊢
  split at h
  · rename_i h1
    rw [if_pos h1]
    have h2 := (qq c [123]).2.1
    exact qt5 hd _ _ _ _ (by simp only [szs]; omega) h
  · cases h
theorem qbfd (p : Int) (c : K) : SzB c (qhz rec p c) := by
  intro h
  unfold qhz letB letC at h ⊢
  have hl := qxd (rd := fun c => ofO (qcd rec c)) (fun c hs => qhp (q5v ih c) hs) c
  generalize qbr (fun c => ofO (qcd rec c)) c = L at *
  split at h
  · rename_i h1
    rw [if_pos h1]
    have hl := hl h1
    split at h
    · rename_i h2
      rw [if_pos h2]
      have h3 := qhp (ih (qv L.1 [105, 110]).1) h
      have h4 := qg0 h2
      simp only
      rw [qt2, qhs]
      simp only [szs]; omega
    · cases h
  · cases h
theorem qbki (c : K) : SzB c (qeu rec c) := by
  intro h
  unfold qeu altB altC at h ⊢
  have hp := qbnr (rest c + 2) c
  generalize qcu (rest c + 2) c = r at *
  split at h
  · rename_i h1
    rw [if_pos h1]
    obtain ⟨n, hn⟩ := Option.isSome_iff_exists.1 h1
    have hp := hp n hn
    split at h
    · rename_i h2
      rw [if_pos h2]
      have h3 := qhp (ih (qv r.1 [45, 62]).1) h
      have h4 := qg0 h2
      simp only
      rw [altN, qt2, hn]
      simp only [szs, Option.getD_some]; omega
    · cases h
  · cases h
theorem q8y (p : Int) (c : K) : SzB c (qf0 rec p c) := by
  intro h
  unfold qf0 qzx qy5 at h ⊢
  split at h
  · rename_i h1
    rw [if_pos h1]
    have h2 := qhp (ih c) h1
    split at h
    · rename_i h3
      rw [if_pos h3]
      have h4 := qxd (qbki ih) _ h
      have h5 := qg0 h3
      simp only
      rw [qt2]
      simp only [szs]; omega
    · cases h
  · cases h
theorem q3n (p : Int) : ∀ (l : List (List UInt8)) (c d : K) (acc : List N), szs acc + 2 * rest d ≤ 2 * rest c → (qea rec p l d acc).2.2 = true → sz (qea rec p l d acc).2.1 + 2 * rest (qea rec p l d acc).1 ≤ 2 * rest c + 1
  | [], c, d, acc => fun h0 h => by rw [qea, qt2]; simp only; omega
  | w :: r, c, d, acc => fun h0 h => by
    rw [qea] at h ⊢
    split at h
    · rename_i h1
      rw [if_pos h1]
      have h2 := (qjx d w).2.1
      split at h
      · rename_i h3
        rw [if_pos h3]
        have h4 := qhp (ih (ifsK d w).1) h3
        refine q3n p r c _ _ ?_ h
        rw [qhs]
        simp only [szs]; omega
      · cases h
    · cases h
theorem q70 (c : K) : SzB c (qeg rec c) := by
  intro h
  unfold qeg at h ⊢
  split at h
  · rename_i h1
    rw [if_pos h1]
    have h0 := qem h1
    split at h
    · rename_i h2
      rw [if_pos h2]
      have := qrk ih _ _ _ h
      omega
    · cases h
  · rename_i h1
    rw [if_neg h1]
    split at h
    · rename_i h2
      rw [if_pos h2]
      have h0 := qem h2
      have := qbfd ih _ _ h
      omega
    · rename_i h2
      rw [if_neg h2]
      split at h
      · rename_i h3
        rw [if_pos h3]
        have h0 := qem h3
        have := q8y ih _ _ h
        omega
      · rename_i h3
        rw [if_neg h3]
        split at h
        · rename_i h4
          rw [if_pos h4]
          have h0 := qem h4
          have := q3n ih _ _ _ _ _ (by simp only [szs]; exact Nat.le_of_eq (Nat.zero_add _)) h
          omega
        · rename_i h4
          rw [if_neg h4]
          exact qbqr ih c h
end
theorem q4n : ∀ (f : Nat) (c : K), SzO c (qgf f c)
  | 0, c => fun n h => by cases h
  | f + 1, c => fun n h => by
    rw [qgf] at h ⊢
    split at h
    · rename_i h1
      rw [if_pos h1]
      unfold toO at h
      simp only at h
      split at h
      · rename_i h2
        cases h
        have h3 := q70 (q4n f) _ h2
        have h4 := (qx c).2.1
        have h5 := (qbw (qeg (qgf f) (qj c).1).1).2.1
        simp only; omega
      · cases h
    · cases h

def expV (s : List UInt8) : N × Int × Int := qba8 (fun c => qgf (rest c + 2) c) s
theorem qha (s : List UInt8) (hs : s.length ≤ 400000) : qbf Tryz.prog 17 [.str s] (resV (expV s)) := by
  have g := qu6 (qk0 s).1
  have g2 : (qgf (rest (newK (lexV s).1) + 2) (newK (lexV s).1)).1.good := (qjk _ _).1 g
  have hsz : sz ((qgf (rest (newK (lexV s).1) + 2) (newK (lexV s).1)).2.getD N0) ≤ 1000000 := by
    cases ho : (qgf (rest (newK (lexV s).1) + 2) (newK (lexV s).1)).2 with
    | none => rw [Option.getD_none, qi1]; simp [N0, N.kids, szs]
    | some n =>
      have h1 := q4n _ _ _ ho
      have h2 := qjz (lexV s).1
      have h3 := (qk0 s).2
      have h4 : rest (newK (lexV s).1) = (qgj (lexV s).1).length := rfl
      simp only [Option.getD_some]
      omega
  have hdp := qz6 hsz
  refine qu c0p (by simp) (by simp only [go_sem]) (by simp only [go_sem]) fun hw => ?_
  repeat' (first | refine ql ?_ | ((first | refine qn ?_ | refine qbc (by rfl) ?_ | refine qy ?_ | refine qm ?_ | refine qi ?_ | refine qh ?_ | refine qc (qu1 s) fun _ => ?_ | refine q9k (qbau _ (qk0 s).1) (qbm _ _) (by simp only [go_sem]) ?_ | refine qxn 1 (qb1x (rest (newK (lexV s).1) + 2) _ g (by omega)) (by rfl) (qbm _ _) (qbm _ _) (by rfl) (q3j _ _) (by rfl) fun _ => ?_ | refine qxn 1 (qw8 _ g2.ok) (by rfl) (qbm _ _) (qbm _ _) (by rfl) (by rfl) (by rfl) fun _ => ?_ | refine qc (qvn (q4y _) (by rw [hdp])) fun _ => ?_ | refine qd  (qu1 s) ?_ | refine qd  (qvn (q4y _) (by rw [hdp])) ?_); simp only [go_sem, ↓reduceIte, Nat.reduceEqDiff, Nat.reduceAdd, Nat.reduceSub, Nat.reduceMul, Nat.reduceLT, Nat.reduceLeDiff, reduceCtorEq, Int.reduceToNat]) | ((first | refine qf ?_ ?_ | refine qe ?_ ?_) <;> intro hc <;> simp only [hc, go_sem, ↓reduceIte, Nat.reduceEqDiff, Nat.reduceAdd, Nat.reduceSub, Nat.reduceMul, Nat.reduceLT, Nat.reduceLeDiff, reduceCtorEq, Int.reduceToNat] <;> (try simp only [qb, qa, decide_eq_true_eq, decide_eq_false_iff_not, Bool.and_eq_true] at hc)) | refine And.intro (by first | assumption | omega | (have := qg (by assumption); omega) | (unfold qp; omega)) ?_ | fail)
  all_goals (try rw [qd3])
  all_goals unfold expV qba8 qmx
  all_goals (repeat' split)
  all_goals first | omega | rfl | (exfalso; omega) | simp_all [go_sem]
set_option maxRecDepth 4000

theorem q71 {c : K} (h : begE c = true) : c.err = 0 := (qgw (qu4 h)).1
theorem qrp {c : K} (h : c.err ≠ 0) : begE c = false := by
  cases hb : begE c with
  | false => rfl
  | true => exact absurd (q71 hb) h
def qdf (rec : K → K × N) (c : K) : K × N :=
  if begE c = true then
    if isK c [40] = true then (qch (qv (rec (qv (qj c).1 [40]).1).1 [41]).1, (rec (qv (qj c).1 [40]).1).2)
    else (q9 c, (qiu c).getD N0)
  else (qe6 c 5, N0)
def qfl (rec : K → K × N) : Nat → K → N → K × N
  | 0, c, n => (c, n)
  | f + 1, c, n => if begE c = true then qfl rec f (qdf rec c).1 (appN n (qdf rec c).2) else (c, n)
def ql7 (rec : K → K × N) (c : K) : K × N := qfl rec (em (qdf rec c).1 + 1) (qdf rec c).1 (qdf rec c).2
def qwt (l : List T) (n : N) : N := l.foldr lamN n
def qdm : Nat → K → List T → K × List T
  | 0, c, acc => (c, acc)
  | f + 1, c, acc => if (qbd c).kind = 1 then qdm f (q9 c) (acc ++ [qbd c]) else (c, acc)
def qdk (c : K) : K × List T := qdm (em c + 1) c []
def qu2 (rec : K → K × N) (x : List UInt8) (v : K × List T) : K × N := ((rec (qv v.1 x).1).1, qwt v.2 (rec (qv v.1 x).1).2)
def qgk (rec : K → K × N) (x : List UInt8) (c : K) : K × N := qu2 rec x (qdk c)
def qkh (rec : K → K × N) (c : K) : K × N := if (qbd c).kind = 1 then qgk rec [45, 62] c else (qe6 c 5, N0)
def qdy (rec : K → K × N) (c : K) : K × N :=
  if (qt (qbp c 1).1 [58, 58]).2 = true then
    ((qja (rest (qt (qbp c 1).1 [58, 58]).1 + 2) (qt (qbp c 1).1 [58, 58]).1).1, qm4 32 (qis c 1) (qja (rest (qt (qbp c 1).1 [58, 58]).1 + 2) (qt (qbp c 1).1 [58, 58]).1).2)
  else ((qgk rec [61] (qbp c 1).1).1, qm4 31 (qis c 1) (qgk rec [61] (qbp c 1).1).2)
def qdn (c : K) : K × Bool := ((qt c [59]).1, (qt c [59]).2 && !isK (qt c [59]).1 [125])
def qcv (rd : K → K × N) : Nat → K → List N → K × List N
  | 0, c, acc => (c, acc)
  | f + 1, c, acc => if (qdn (rd c).1).2 = true then qcv rd f (qdn (rd c).1).1 (acc ++ [(rd c).2]) else ((qdn (rd c).1).1, acc ++ [(rd c).2])
def qf6 (rd : K → K × N) (c : K) : K × List N := qcv rd (em c + 2) c []
def qwo (rec : K → K × N) (p : Int) (L : K × List N) : K × N :=
  ((rec (qv (qv L.1 [125]).1 [105, 110]).1).1, .mk 26 p 0 [] (L.2 ++ [(rec (qv (qv L.1 [125]).1 [105, 110]).1).2]))
def qkg (rec : K → K × N) (p : Int) (c : K) : K × N := qwo rec p (qf6 (qdy rec) (qv c [123]).1)
def qry (rec : K → K × N) (p : K × N) : K × N := ((rec (qv p.1 [45, 62]).1).1, altN p.2 (rec (qv p.1 [45, 62]).1).2)
def qfy (rec : K → K × N) (c : K) : K × N := qry rec (qd9 (rest c + 2) c)
def qrx (p : Int) (x : N) (L : K × List N) : K × N := ((qv L.1 [125]).1, .mk 27 p 0 [] (x :: L.2))
def qim (rec : K → K × N) (p : Int) (c : K) : K × N := qrx p (rec c).2 (qf6 (qfy rec) (qv (qv (rec c).1 [111, 102]).1 [123]).1)
def qx1 (p : Int) (a b d : K × N) : K × N := (d.1, .mk 28 p 0 [] [a.2, b.2, d.2])
def qp5 (rec : K → K × N) (p : Int) (a b : K × N) : K × N := qx1 p a b (rec (qv b.1 [101, 108, 115, 101]).1)
def q4m (rec : K → K × N) (p : Int) (a : K × N) : K × N := qp5 rec p a (rec (qv a.1 [116, 104, 101, 110]).1)
def qku (rec : K → K × N) (p : Int) (c : K) : K × N := q4m rec p (rec c)
def qey (rec : K → K × N) (c : K) : K × N :=
  if (qt c [92]).2 = true then qkh rec (qt c [92]).1
  else if (qt c [108, 101, 116]).2 = true then qkg rec (qbd c).pos (qt c [108, 101, 116]).1
  else if (qt c [99, 97, 115, 101]).2 = true then qim rec (qbd c).pos (qt c [99, 97, 115, 101]).1
  else if (qt c [105, 102]).2 = true then qku rec (qbd c).pos (qt c [105, 102]).1
  else ql7 rec c
def qgi : Nat → K → K × N
  | 0, c => (c, N0)
  | f + 1, c => (qch (qey (qgi f) (qj c).1).1, (qey (qgi f) (qj c).1).2)

theorem qkj : ∀ (f : Nat) (c : K) (acc : List T), Mon c (qdm f c acc).1
  | 0, c, acc => Mon.refl c
  | f + 1, c, acc => by
    rw [qdm]
    split
    · exact (qbs c).trans (qkj f _ _)
    · exact Mon.refl c
theorem qjt (c : K) : Mon c (qdn c).1 := q8 c _
section
variable {rec : K → K × N} (hm : ∀ c, Mon c (rec c).1)
include hm
theorem qef (c : K) : Mon c (qdf rec c).1 := by
  unfold qdf
  split
  · split
    · exact ((qx c).trans (qq _ _)).trans (qnf hm c)
    · exact qbs c
  · exact qfk c 5
theorem qlo {c : K} (h : begE c = true) : em (qdf rec c).1 < em c := by
  unfold qdf
  rw [if_pos h]
  split
  · have h1 := qez (c := c) (by assumption)
    have h2 := (qnf hm c).em
    simp only; omega
  · exact qiy (qu4 h)
theorem qmj : ∀ (f : Nat) (c : K) (n : N), Mon c (qfl rec f c n).1
  | 0, c, n => Mon.refl c
  | f + 1, c, n => by
    rw [qfl]
    split
    · exact (qef hm c).trans (qmj f _ _)
    · exact Mon.refl c
theorem qvi (c : K) : Mon c (ql7 rec c).1 := (qef hm c).trans (qmj hm _ _ _)
theorem qmh (x : List UInt8) (c : K) : Mon c (qgk rec x c).1 := ((qkj _ _ _).trans (qq _ x)).trans (hm _)
theorem qva (c : K) : Mon c (qkh rec c).1 := by
  unfold qkh
  split
  · exact qmh hm _ c
  · exact qfk c 5
theorem qjh (c : K) : Mon c (qdy rec c).1 := by
  unfold qdy
  split
  · exact ((qcx c 1).trans (q8 _ _)).trans ((qhm (qd7 _) _).trans (qd7 _ _))
  · exact (qcx c 1).trans (qmh hm _ _)
omit hm in
theorem qfg {rd : K → K × N} (hd : ∀ c, Mon c (rd c).1) : ∀ (f : Nat) (c : K) (acc : List N), Mon c (qcv rd f c acc).1
  | 0, c, acc => Mon.refl c
  | f + 1, c, acc => by
    rw [qcv]
    split
    · exact ((hd c).trans (qjt _)).trans (qfg hd f _ _)
    · exact (hd c).trans (qjt _)
theorem qvh (p : Int) (c : K) : Mon c (qkg rec p c).1 := ((((qq c _).trans (qfg (qjh hm) _ _ _)).trans (qq _ _)).trans (qq _ _)).trans (hm _)
theorem qkm (c : K) : Mon c (qfy rec c).1 := ((qg1 _ c).trans (qq _ _)).trans (hm _)
theorem qsv (p : Int) (c : K) : Mon c (qim rec p c).1 := ((((hm c).trans (qq _ _)).trans (qq _ _)).trans (qfg (qkm hm) _ _ _)).trans (qq _ _)
theorem qwe (p : Int) (c : K) : Mon c (qku rec p c).1 := ((((hm c).trans (qq _ _)).trans (hm _)).trans (qq _ _)).trans (hm _)
theorem qmq (c : K) : Mon c (qey rec c).1 := by
  unfold qey
  split
  · exact (q8 c _).trans (qva hm _)
  · split
    · exact (q8 c _).trans (qvh hm _ _)
    · split
      · exact (q8 c _).trans (qsv hm _ _)
      · split
        · exact (q8 c _).trans (qwe hm _ _)
        · exact qvi hm c
end
theorem ql5 : ∀ (f : Nat) (c : K), Mon c (qgi f c).1
  | 0, c => Mon.refl c
  | f + 1, c => ((qx c).trans (qmq (ql5 f) _)).trans (qbw _)

/-! The program. -/
def zEC : Ent := .blk [.nils, .int .i64 0, .int .i64 0, .int .i64 0, .str [], .int .i64 0, .int .i64 0, .int .i64 0]
def zEN : Ent := .blk [.int .i64 0, .int .i64 0, .int .i64 0, .str [], .nils]
theorem qfc (c : K) : qbf Tryz.prog 64 [refC c] (.bool (begE c)) := by
  refine qu c0l (by simp) (by simp only [go_sem]) rfl fun hw => ?_
  repeat' (first | refine ql ?_ | ((first | refine qn ?_ | refine qm ?_ | refine qc (qw c) fun _ => ?_ | refine qc (qc4 c _) fun _ => ?_ | refine qd  (qw c) ?_ | refine qd  (qc4 c _) ?_); simp only [go_sem, ↓reduceIte, Nat.reduceEqDiff, Nat.reduceAdd, Nat.reduceSub, Nat.reduceMul, Nat.reduceLT, Nat.reduceLeDiff, reduceCtorEq, Int.reduceToNat]) | ((first | refine qf ?_ ?_ | refine qe ?_ ?_) <;> intro hc <;> simp only [hc, go_sem, ↓reduceIte, Nat.reduceEqDiff, Nat.reduceAdd, Nat.reduceSub, Nat.reduceMul, Nat.reduceLT, Nat.reduceLeDiff, reduceCtorEq, Int.reduceToNat] <;> (try simp only [qb, qa, decide_eq_true_eq, decide_eq_false_iff_not, Bool.and_eq_true] at hc)) | refine And.intro (by first | assumption | omega | (have := qg (by assumption); omega) | (unfold qp; omega)) ?_ | fail)
  all_goals (have := @qrp c; unfold begE qiu at *; simp_all)
theorem qfd (c : K) : qbf Tryz.prog 94 [refC c] (.tup [refC (qdn c).1, .bool (qdn c).2]) := by
  refine qu c0m (by simp) (by simp only [go_sem]) (by simp only [go_sem]) fun hw => ?_
  repeat' (first | refine ql ?_ | ((first | refine qn ?_ | refine qbc (by rfl) ?_ | refine qy ?_ | refine qm ?_ | refine qc (qbk c _) fun _ => ?_ | refine qc (qc4 _ _) fun _ => ?_ | refine qd  (qbk c _) ?_ | refine qd  (qc4 _ _) ?_); simp only [go_sem, ↓reduceIte, Nat.reduceEqDiff, Nat.reduceAdd, Nat.reduceSub, Nat.reduceMul, Nat.reduceLT, Nat.reduceLeDiff, reduceCtorEq, Int.reduceToNat]) | ((first | refine qf ?_ ?_ | refine qe ?_ ?_) <;> intro hc <;> simp only [hc, go_sem, ↓reduceIte, Nat.reduceEqDiff, Nat.reduceAdd, Nat.reduceSub, Nat.reduceMul, Nat.reduceLT, Nat.reduceLeDiff, reduceCtorEq, Int.reduceToNat] <;> (try simp only [qb, qa, decide_eq_true_eq, decide_eq_false_iff_not, Bool.and_eq_true] at hc)) | refine And.intro (by first | assumption | omega | (have := qg (by assumption); omega) | (unfold qp; omega)) ?_ | fail)
  all_goals (unfold qdn; simp_all [go_sem])
def quw (x : Nat × K × List T) : AF × List Ent :=
  (⟨[(1, .ptr 0 0), (2, .ptr 1 0), (4, accV 2 (qcr x.2.2))], []⟩, .blk (refC x.2.1).cells :: zEC :: accE 4 (qcr x.2.2))
theorem qqu (c : K) (hg : c.good) : qbf Tryz.prog 27 [refC c] (.tup [refC (qdk c).1, .sl 4 (qcr (qdk c).2)]) := by
  refine qu c0n (by simp) (by simp only [go_sem]) (by simp only [go_sem]) fun hw => ?_
  unfold qdk
  generalize htg : qdm (em c + 1) c [] = tg
  repeat' (first | refine ql ?_ | refine qk ?_ | ((first | refine qn ?_ | refine qm ?_ | refine qs ?_ | refine qi ?_ | refine qh ?_); simp only [go_sem, ↓reduceIte, Nat.reduceEqDiff, Nat.reduceAdd, Nat.reduceSub, Nat.reduceMul, Nat.reduceLT, Nat.reduceLeDiff, reduceCtorEq, Int.reduceToNat]) | ((first | refine qf ?_ ?_ | refine qe ?_ ?_) <;> intro hc <;> simp only [hc, go_sem, ↓reduceIte, Nat.reduceEqDiff, Nat.reduceAdd, Nat.reduceSub, Nat.reduceMul, Nat.reduceLT, Nat.reduceLeDiff, reduceCtorEq, Int.reduceToNat] <;> (try simp only [qb, qa, decide_eq_true_eq, decide_eq_false_iff_not, Bool.and_eq_true] at hc)) | refine And.intro (by first | assumption | omega | (have := qg (by assumption); omega) | (unfold qp; omega)) ?_ | fail)
  refine qby (S := Nat × K × List T) (fun x => x.2.1.good ∧ qdm x.1 x.2.1 x.2.2 = tg ∧ em x.2.1 < x.1 ∧ x.2.2.length + em x.2.1 ≤ 1048578) quw (fun x => em x.2.1) ?_ ?_
  · refine qbn (em c + 1, c, []) [0, 1] ⟨hg, htg, Nat.lt_succ_self _, ?_⟩ rfl (by simp) ?_ ?_ ?_
    · have h9 := hg.rest
      have h8 := qji c
      unfold rest at h8
      simp only [List.length_nil]; omega
    all_goals simp only [quw, zEC, qg6, qbu, qbv]
    all_goals simp only [go_sem, ↓reduceIte, Nat.reduceEqDiff, Nat.reduceAdd, Nat.reduceSub, Nat.reduceMul, Nat.reduceLT, Nat.reduceLeDiff, reduceCtorEq, Int.reduceToNat]
  · rintro ⟨fu, d, acc⟩ ⟨i1, i2, i3, i4⟩
    simp only at i1 i2 i3 i4
    unfold quw zEC
    obtain ⟨fu, rfl⟩ : ∃ k, fu = k + 1 := ⟨fu - 1, by omega⟩
    rw [qdm] at i2
    have hcap : qp (acc.length + 1) 40 := capT (by omega)
    have g1 : (q9 d).good := (qbs d).1 i1
    have hke : d.err ≠ 0 → (qbd d).kind ≠ 1 := fun h => by rw [qfo h]; decide
    by_cases hk : (qbd d).kind = 1
    · have he : (d.err = 0) = True := eq_true (Classical.byContradiction fun h => hke h hk)
      have hkT : ((qbd d).kind = 1) = True := eq_true hk
      rw [if_pos hk] at i2
      have hlt := qiy (c := d) (by omega)
      by_cases h0 : acc = []
      · subst h0
        simp only [qg6, qbu, qbv]
        repeat' (first | refine ql ?_ | refine qk ?_ | ((first | refine qn ?_ | refine qm ?_ | refine qs ?_ | refine qi ?_ | refine qh ?_); simp (disch := first | omega | (simp only [List.length_set, List.length_append, List.length_cons, List.length_nil]; done) | (simp only [List.length_set, List.length_append, List.length_cons, List.length_nil]; omega)) only [hkT, he, decide_true, go_sem, ↓reduceIte, Nat.reduceEqDiff, Nat.reduceAdd, Nat.reduceSub, Nat.reduceMul, Nat.reduceLT, Nat.reduceLeDiff, reduceCtorEq, Int.reduceToNat]) | ((first | refine qf ?_ ?_ | refine qe ?_ ?_) <;> intro hc <;> simp only [hc, go_sem, ↓reduceIte, Nat.reduceEqDiff, Nat.reduceAdd, Nat.reduceSub, Nat.reduceMul, Nat.reduceLT, Nat.reduceLeDiff, reduceCtorEq, Int.reduceToNat] <;> (try simp only [qb, qa, decide_eq_true_eq, decide_eq_false_iff_not, Bool.and_eq_true] at hc)) | refine And.intro (by first | assumption | omega | (have := qg (by assumption); omega) | (unfold qp; omega)) ?_ | fail | ((first | refine qc (qw d) fun _ => ?_ | refine qc (qcf d) fun _ => ?_ | refine qd  (qw d) ?_ | refine qd  (qcf d) ?_); simp only [go_sem, ↓reduceIte, Nat.reduceEqDiff, Nat.reduceAdd, Nat.reduceSub, Nat.reduceMul, Nat.reduceLT, Nat.reduceLeDiff, reduceCtorEq, Int.reduceToNat]))
        refine qbn (fu, q9 d, [] ++ [qbd d]) [0, 1, 4] ⟨⟨g1, i2, by simp only; omega, by simp only [List.length_append, List.length_cons, List.length_nil]; omega⟩, by simp only; omega⟩ rfl (by simp) ?_ ?_ ?_
        all_goals simp only [quw, zEC, show qcr [qbd d] = [encT (qbd d)] from rfl, ← qff, qct, qcs, List.nil_append, qg6, qdg, qdh, qfp]
        all_goals simp only [go_sem, ↓reduceIte, Nat.reduceEqDiff, Nat.reduceAdd, Nat.reduceSub, Nat.reduceMul, Nat.reduceLT, Nat.reduceLeDiff, reduceCtorEq, Int.reduceToNat]
        all_goals (try (rw [qff, qhk, qjb]; exact ⟨rfl, rfl⟩))
      · have hne := qk4 h0
        simp only [qb4 hne, qb3 hne, qfp]
        repeat' (first | refine ql ?_ | refine qk ?_ | ((first | refine qn ?_ | refine qm ?_ | refine qs ?_ | refine qi ?_ | refine qh ?_); simp (disch := first | omega | (simp only [List.length_set, List.length_append, List.length_cons, List.length_nil]; done) | (simp only [List.length_set, List.length_append, List.length_cons, List.length_nil]; omega)) only [hkT, he, decide_true, go_sem, ↓reduceIte, Nat.reduceEqDiff, Nat.reduceAdd, Nat.reduceSub, Nat.reduceMul, Nat.reduceLT, Nat.reduceLeDiff, reduceCtorEq, Int.reduceToNat]) | ((first | refine qf ?_ ?_ | refine qe ?_ ?_) <;> intro hc <;> simp only [hc, go_sem, ↓reduceIte, Nat.reduceEqDiff, Nat.reduceAdd, Nat.reduceSub, Nat.reduceMul, Nat.reduceLT, Nat.reduceLeDiff, reduceCtorEq, Int.reduceToNat] <;> (try simp only [qb, qa, decide_eq_true_eq, decide_eq_false_iff_not, Bool.and_eq_true] at hc)) | refine And.intro (by first | assumption | omega | (have := qg (by assumption); omega) | (unfold qp; omega)) ?_ | fail | ((first | refine qc (qw d) fun _ => ?_ | refine qc (qcf d) fun _ => ?_ | refine qd  (qw d) ?_ | refine qd  (qcf d) ?_); simp only [go_sem, ↓reduceIte, Nat.reduceEqDiff, Nat.reduceAdd, Nat.reduceSub, Nat.reduceMul, Nat.reduceLT, Nat.reduceLeDiff, reduceCtorEq, Int.reduceToNat]))
        refine qbn (fu, q9 d, acc ++ [qbd d]) [0, 1, 5] ⟨⟨g1, i2, by simp only; omega, by simp only [List.length_append, List.length_cons, List.length_nil]; omega⟩, by simp only; omega⟩ rfl (by simp) ?_ ?_ ?_
        all_goals simp only [quw, zEC, show qcr [qbd d] = [encT (qbd d)] from rfl, ← qff, qct, qcs, List.nil_append, qg6, qdg, qdh, qfp]
        all_goals simp only [go_sem, ↓reduceIte, Nat.reduceEqDiff, Nat.reduceAdd, Nat.reduceSub, Nat.reduceMul, Nat.reduceLT, Nat.reduceLeDiff, reduceCtorEq, Int.reduceToNat]
        all_goals (try (rw [qff, qhk, qjb]; exact ⟨rfl, rfl⟩))
    · rw [if_neg hk] at i2
      subst i2
      by_cases h0 : acc = []
      · subst h0
        simp only [qg6, qbu, qbv]
        repeat' (first | refine ql ?_ | refine qk ?_ | ((first | refine qn ?_ | refine qm ?_ | refine qs ?_ | refine qi ?_ | refine qh ?_); simp (disch := first | omega | (simp only [List.length_set, List.length_append, List.length_cons, List.length_nil]; done) | (simp only [List.length_set, List.length_append, List.length_cons, List.length_nil]; omega)) only [hk, decide_true, go_sem, ↓reduceIte, Nat.reduceEqDiff, Nat.reduceAdd, Nat.reduceSub, Nat.reduceMul, Nat.reduceLT, Nat.reduceLeDiff, reduceCtorEq, Int.reduceToNat]) | ((first | refine qf ?_ ?_ | refine qe ?_ ?_) <;> intro hc <;> simp only [hc, go_sem, ↓reduceIte, Nat.reduceEqDiff, Nat.reduceAdd, Nat.reduceSub, Nat.reduceMul, Nat.reduceLT, Nat.reduceLeDiff, reduceCtorEq, Int.reduceToNat] <;> (try simp only [qb, qa, decide_eq_true_eq, decide_eq_false_iff_not, Bool.and_eq_true] at hc)) | refine And.intro (by first | assumption | omega | (have := qg (by assumption); omega) | (unfold qp; omega)) ?_ | fail | ((first | refine qc (qw d) fun _ => ?_ | refine qd  (qw d) ?_); simp only [go_sem, ↓reduceIte, Nat.reduceEqDiff, Nat.reduceAdd, Nat.reduceSub, Nat.reduceMul, Nat.reduceLT, Nat.reduceLeDiff, reduceCtorEq, Int.reduceToNat]))
        all_goals (try rfl)
      · have hne := qk4 h0
        simp only [qb4 hne, qb3 hne, qfp]
        repeat' (first | refine ql ?_ | refine qk ?_ | ((first | refine qn ?_ | refine qm ?_ | refine qs ?_ | refine qi ?_ | refine qh ?_); simp (disch := first | omega | (simp only [List.length_set, List.length_append, List.length_cons, List.length_nil]; done) | (simp only [List.length_set, List.length_append, List.length_cons, List.length_nil]; omega)) only [hk, decide_true, go_sem, ↓reduceIte, Nat.reduceEqDiff, Nat.reduceAdd, Nat.reduceSub, Nat.reduceMul, Nat.reduceLT, Nat.reduceLeDiff, reduceCtorEq, Int.reduceToNat]) | ((first | refine qf ?_ ?_ | refine qe ?_ ?_) <;> intro hc <;> simp only [hc, go_sem, ↓reduceIte, Nat.reduceEqDiff, Nat.reduceAdd, Nat.reduceSub, Nat.reduceMul, Nat.reduceLT, Nat.reduceLeDiff, reduceCtorEq, Int.reduceToNat] <;> (try simp only [qb, qa, decide_eq_true_eq, decide_eq_false_iff_not, Bool.and_eq_true] at hc)) | refine And.intro (by first | assumption | omega | (have := qg (by assumption); omega) | (unfold qp; omega)) ?_ | fail | ((first | refine qc (qw d) fun _ => ?_ | refine qd  (qw d) ?_); simp only [go_sem, ↓reduceIte, Nat.reduceEqDiff, Nat.reduceAdd, Nat.reduceSub, Nat.reduceMul, Nat.reduceLT, Nat.reduceLeDiff, reduceCtorEq, Int.reduceToNat]))
        all_goals (try rfl)
set_option maxRecDepth 4000

theorem q0k {l : List T} {j : Nat} (n : N) (h : j < l.length) : qwt (l.drop j) n = lamN (l.getD j T0) (qwt (l.drop (j + 1)) n) := by
  rw [qbaw h]; rfl
/-- A variable that holds a tree, the first one. -/
theorem q2x {P : Program} {fr : Option Nat} {k m : Nat} {a : IC} {Q : VE → AF → List Ent → Prop} {af : AF} {L : List Ent} {fl : Bool} {n : N} (h : VI P fr k m a Q af (.blk (enc n).cells :: L)) : VI P fr k m a Q af (qmb fl n :: L) := by
  cases n
  cases fl with
  | false => exact h
  | true =>
    refine qra 0 4 (.sl 5) (by rfl) ?_
    simp only [List.getD_cons_succ, List.getD_cons_zero, if_true, qla, List.set_cons_succ, List.set_cons_zero]
    exact h
def qxo (l : List T) (n : N) (x : Bool × Nat) : AF × List Ent :=
  (⟨[(0, .sl 4 (qcr l)), (3, .ptr 0 0), (4, .ptr 1 0), (5, .int .i64 ((x.2 : Int) - 1))], []⟩, [qmb x.1 (qwt (l.drop x.2) n), zEN])
theorem qql (l : List T) (n : N) (hl : l.length ≤ 1048600) : qbf Tryz.prog 29 [.sl 4 (qcr l), enc n] (enc (qwt l n)) := by
  refine qu c0h (by simp) (by simp only [go_sem]) (by simp only [go_sem]) fun hw => ?_
  repeat' (first | refine ql ?_ | refine qk ?_ | ((first | refine qn ?_ | refine qbc (by rfl) ?_ | refine qy ?_ | refine qm ?_ | refine qs ?_ | refine qi ?_ | refine qh ?_); simp only [go_sem, ↓reduceIte, Nat.reduceEqDiff, Nat.reduceAdd, Nat.reduceSub, Nat.reduceMul, Nat.reduceLT, Nat.reduceLeDiff, reduceCtorEq, Int.reduceToNat]) | ((first | simp (disch := omega) only [qbbb]); (try simp only [go_sem, ↓reduceIte, Nat.reduceEqDiff, Nat.reduceAdd, Nat.reduceSub, Nat.reduceMul, Nat.reduceLT, Nat.reduceLeDiff, reduceCtorEq, Int.reduceToNat])) | ((first | refine qf ?_ ?_ | refine qe ?_ ?_) <;> intro hc <;> simp only [hc, go_sem, ↓reduceIte, Nat.reduceEqDiff, Nat.reduceAdd, Nat.reduceSub, Nat.reduceMul, Nat.reduceLT, Nat.reduceLeDiff, reduceCtorEq, Int.reduceToNat] <;> (try simp only [qb, qa, decide_eq_true_eq, decide_eq_false_iff_not, Bool.and_eq_true] at hc)) | refine And.intro (by first | assumption | omega | (have := qg (by assumption); omega) | (unfold qp; omega)) ?_ | ((first | simp (disch := omega) only [qr] | simp (disch := omega) only [qbb]); (try simp only [go_sem, ↓reduceIte, Nat.reduceEqDiff, Nat.reduceAdd, Nat.reduceSub, Nat.reduceMul, Nat.reduceLT, Nat.reduceLeDiff, reduceCtorEq, Int.reduceToNat])))
  refine qby (S := Bool × Nat) (fun x => x.2 ≤ l.length) (qxo l n) (fun x => x.2) ?_ ?_
  · refine qbn (false, l.length) [0, 1] (Nat.le_refl _) rfl (by simp) ?_ ?_ ?_
    all_goals simp only [qxo, qmb, zEN, List.drop_length, qwt, List.foldr_nil]
    all_goals simp only [go_sem, ↓reduceIte, Nat.reduceEqDiff, Nat.reduceAdd, Nat.reduceSub, Nat.reduceMul, Nat.reduceLT, Nat.reduceLeDiff, reduceCtorEq, Int.reduceToNat]
  · rintro ⟨fl, j⟩ i1
    simp only at i1
    unfold qxo
    refine q2x ?_
    unfold zEN
    cases j with
    | zero =>
      have h0 : ¬ (0 : Int) ≤ 0 - 1 := by omega
      repeat' (first | refine ql ?_ | refine qk ?_ | ((first | refine qn ?_ | refine qbc (by rfl) ?_ | refine qy ?_ | refine qm ?_ | refine qs ?_ | refine qi ?_ | refine qh ?_); simp (disch := first | omega | (simp only [List.length_set, List.length_append, List.length_cons, List.length_nil]; done) | (simp only [List.length_set, List.length_append, List.length_cons, List.length_nil]; omega)) only [h0, go_sem, ↓reduceIte, Nat.reduceEqDiff, Nat.reduceAdd, Nat.reduceSub, Nat.reduceMul, Nat.reduceLT, Nat.reduceLeDiff, reduceCtorEq, Int.reduceToNat]) | ((first | refine qf ?_ ?_ | refine qe ?_ ?_) <;> intro hc <;> simp only [hc, go_sem, ↓reduceIte, Nat.reduceEqDiff, Nat.reduceAdd, Nat.reduceSub, Nat.reduceMul, Nat.reduceLT, Nat.reduceLeDiff, reduceCtorEq, Int.reduceToNat] <;> (try simp only [qb, qa, decide_eq_true_eq, decide_eq_false_iff_not, Bool.and_eq_true] at hc)) | refine And.intro (by first | assumption | omega | (have := qg (by assumption); omega) | (unfold qp; omega)) ?_ | ((first | simp (disch := omega) only [qr] | simp (disch := omega) only [qbb]); (try simp only [go_sem, ↓reduceIte, Nat.reduceEqDiff, Nat.reduceAdd, Nat.reduceSub, Nat.reduceMul, Nat.reduceLT, Nat.reduceLeDiff, reduceCtorEq, Int.reduceToNat])))
      all_goals (try rfl)
    | succ j =>
      have h0 : (0 : Int) ≤ ((j + 1 : Nat) : Int) - 1 := by omega
      have h1 : (((j + 1 : Nat) : Int) - 1).toNat = j := by omega
      have h2 : ((j + 1 : Nat) : Int) - 1 - 1 = (j : Int) - 1 := by omega
      repeat' (first | refine ql ?_ | refine qk ?_ | ((first | refine qn ?_ | refine qbc (by rfl) ?_ | refine qy ?_ | refine qm ?_ | refine qs ?_ | refine qi ?_ | refine qh ?_); simp (disch := first | omega | (simp only [List.length_set, List.length_append, List.length_cons, List.length_nil]; done) | (simp only [List.length_set, List.length_append, List.length_cons, List.length_nil]; omega)) only [h0, h1, h2, go_sem, ↓reduceIte, Nat.reduceEqDiff, Nat.reduceAdd, Nat.reduceSub, Nat.reduceMul, Nat.reduceLT, Nat.reduceLeDiff, reduceCtorEq, Int.reduceToNat]) | ((first | simp (disch := omega) only [qds] | simp (disch := omega) only [qbbb]); (try simp only [go_sem, ↓reduceIte, Nat.reduceEqDiff, Nat.reduceAdd, Nat.reduceSub, Nat.reduceMul, Nat.reduceLT, Nat.reduceLeDiff, reduceCtorEq, Int.reduceToNat])) | ((first | refine qf ?_ ?_ | refine qe ?_ ?_) <;> intro hc <;> simp only [hc, go_sem, ↓reduceIte, Nat.reduceEqDiff, Nat.reduceAdd, Nat.reduceSub, Nat.reduceMul, Nat.reduceLT, Nat.reduceLeDiff, reduceCtorEq, Int.reduceToNat] <;> (try simp only [qb, qa, decide_eq_true_eq, decide_eq_false_iff_not, Bool.and_eq_true] at hc)) | refine And.intro (by first | assumption | omega | (have := qg (by assumption); omega) | (unfold qp; omega)) ?_ | ((first | simp (disch := omega) only [qr] | simp (disch := omega) only [qbb]); (try simp only [go_sem, ↓reduceIte, Nat.reduceEqDiff, Nat.reduceAdd, Nat.reduceSub, Nat.reduceMul, Nat.reduceLT, Nat.reduceLeDiff, reduceCtorEq, Int.reduceToNat])))
      all_goals (
        refine qbn (true, j) [0, 1] ⟨by simp only; omega, by simp only; omega⟩ rfl (by simp) ?_ ?_ ?_
        all_goals simp only [qxo, qmb, zEN, q0k n (show j < l.length by omega), lamN, encs, N.kind, N.pos, N.num, N.text, N.kids]
        all_goals simp only [go_sem, ↓reduceIte, Nat.reduceEqDiff, Nat.reduceAdd, Nat.reduceSub, Nat.reduceMul, Nat.reduceLT, Nat.reduceLeDiff, reduceCtorEq, Int.reduceToNat]
        all_goals (try rfl))
section
variable {rec : K → K × N} {b : Nat} (hm : ∀ c, Mon c (rec c).1) (ih : ∀ c, c.good → em c < b → qbf Tryz.prog 11 [refC c] (.tup [refC (rec c).1, enc (rec c).2]))
include hm ih
theorem qqw (c : K) (hg : c.good) (hr : em c ≤ b) : qbf Tryz.prog 63 [refC c] (.tup [refC (qdf rec c).1, enc (qdf rec c).2]) := by
  have g1 : (qv (qj c).1 [40]).1.good := ((qx c).trans (qq _ _)).1 hg
  have g2 : (qv (rec (qv (qj c).1 [40]).1).1 [41]).1.good := ((hm _).trans (qq _ _)).1 g1
  refine qu c0i (by simp) (by simp only [go_sem]) (by simp only [go_sem]) fun hw => ?_
  repeat' (first | refine ql ?_ | refine qk ?_ | ((first | refine qn ?_ | refine qbc (by rfl) ?_ | refine qy ?_ | refine qm ?_ | refine qi ?_ | refine qh ?_ | refine qc (qw c) fun _ => ?_ | refine qc (qc4 c _) fun _ => ?_ | refine qc (qfc c) fun _ => ?_ | refine qc (qc3 c _) fun _ => ?_ | refine qc (qco c) fun _ => ?_ | refine qc (qbg _ _) fun _ => ?_ | refine qc (ih _ g1 (Nat.lt_of_lt_of_le (qez (by assumption)) hr)) fun _ => ?_ | refine qc (qb1 _ g2.2.2) fun _ => ?_ | refine qc (qcf c) fun _ => ?_ | refine qd  (qw c) ?_ | refine qd  (qc4 c _) ?_ | refine qd  (qfc c) ?_ | refine qd  (qc3 c _) ?_ | refine qd  (qco c) ?_ | refine qd  (qbg _ _) ?_ | refine qd  (ih _ g1 (Nat.lt_of_lt_of_le (qez (by assumption)) hr)) ?_ | refine qd  (qb1 _ g2.2.2) ?_ | refine qd  (qcf c) ?_); simp only [go_sem, ↓reduceIte, Nat.reduceEqDiff, Nat.reduceAdd, Nat.reduceSub, Nat.reduceMul, Nat.reduceLT, Nat.reduceLeDiff, reduceCtorEq, Int.reduceToNat]) | ((first | refine qf ?_ ?_ | refine qe ?_ ?_) <;> intro hc <;> simp only [hc, go_sem, ↓reduceIte, Nat.reduceEqDiff, Nat.reduceAdd, Nat.reduceSub, Nat.reduceMul, Nat.reduceLT, Nat.reduceLeDiff, reduceCtorEq, Int.reduceToNat] <;> (try simp only [qb, qa, decide_eq_true_eq, decide_eq_false_iff_not, Bool.and_eq_true] at hc)) | refine And.intro (by first | assumption | omega | (have := qg (by assumption); omega) | (unfold qp; omega)) ?_ | fail)
  all_goals (unfold qdf; simp only [*, qd3, Int.reduceEq, if_true, if_false, reduceIte, Bool.false_eq_true, Option.getD_none, Option.getD_some, Option.isSome_none, Option.isSome_some, and_self, true_and, and_true]; try rfl)
  all_goals
    have hb : begE c = true := by assumption
    have hk : isK c [40] = false := by assumption
    simp only [begE, hk, Bool.or_false] at hb
    unfold qiu qh1 at hb ⊢
    clear ih
    simp_all [enc, encs]
omit hm in
theorem qq2 (x : List UInt8) (c : K) (hg : c.good) (hr : em c < b) : qbf Tryz.prog 11 [refC (qv (qdk c).1 x).1] (.tup [refC (qgk rec x c).1, enc (rec (qv (qdk c).1 x).1).2]) := by
  have hv := qkj (em c + 1) c []
  have h1 := (hv.trans (qq _ x)).em
  exact ih _ ((hv.trans (qq _ x)).1 hg) (by unfold qdk; omega)
omit hm ih in
theorem qmn (c : K) (hg : c.good) : (qdk c).2.length ≤ 1048600 := by
  have key : ∀ (f : Nat) (c : K) (acc : List T), (qdm f c acc).2.length ≤ acc.length + em c := by
    intro f
    induction f with
    | zero => intro c acc; simp [qdm]
    | succ f ih =>
      intro c acc
      rw [qdm]
      split
      · have h1 := ih (q9 c) (acc ++ [qbd c])
        have h2 := qiy (c := c) (by omega)
        simp only [List.length_append, List.length_cons, List.length_nil] at h1
        omega
      · simp
  have h1 := key (em c + 1) c []
  have h2 := qji c
  have h3 := hg.rest
  unfold rest at h2
  simp only [List.length_nil] at h1
  unfold qdk
  omega
omit hm in
theorem q4i (c : K) (hg : c.good) (hr : em c < b) : qbf Tryz.prog 59 [refC c] (.tup [refC (qkh rec c).1, enc (qkh rec c).2]) := by
  refine qu c0j (by simp) (by simp only [go_sem]) (by simp only [go_sem]) fun hw => ?_
  unfold qkh
  by_cases hk : (qbd c).kind = 1
  · rw [if_pos hk]
    have hl := qq2 ih [45, 62] c hg hr
    have hwp := qql (qdk c).2 (rec (qv (qdk c).1 [45, 62]).1).2 (qmn c hg)
    unfold qgk qu2 at hl ⊢
    have hvv := qqu c hg
    generalize qdk c = v at *
    repeat' (first | refine ql ?_ | ((first | refine qn ?_ | refine qbc (by rfl) ?_ | refine qy ?_ | refine qm ?_ | refine qi ?_ | refine qh ?_); simp (disch := first | omega | (simp only [List.length_set, List.length_append, List.length_cons, List.length_nil]; done) | (simp only [List.length_set, List.length_append, List.length_cons, List.length_nil]; omega)) only [hk, ne_eq, not_true_eq_false, decide_false, go_sem, ↓reduceIte, Nat.reduceEqDiff, Nat.reduceAdd, Nat.reduceSub, Nat.reduceMul, Nat.reduceLT, Nat.reduceLeDiff, reduceCtorEq, Int.reduceToNat]) | ((first | refine qf ?_ ?_ | refine qe ?_ ?_) <;> intro hc <;> simp only [hc, go_sem, ↓reduceIte, Nat.reduceEqDiff, Nat.reduceAdd, Nat.reduceSub, Nat.reduceMul, Nat.reduceLT, Nat.reduceLeDiff, reduceCtorEq, Int.reduceToNat] <;> (try simp only [qb, qa, decide_eq_true_eq, decide_eq_false_iff_not, Bool.and_eq_true] at hc)) | refine And.intro (by first | assumption | omega | (have := qg (by assumption); omega) | (unfold qp; omega)) ?_ | fail | ((first | refine qc (qw c) fun _ => ?_ | refine qc hvv fun _ => ?_ | refine qc (qbg v.1 _) fun _ => ?_ | refine qc hl fun _ => ?_ | refine qc hwp fun _ => ?_ | refine qd  (qw c) ?_ | refine qd  hvv ?_ | refine qd  (qbg v.1 _) ?_ | refine qd  hl ?_ | refine qd  hwp ?_); simp only [go_sem, ↓reduceIte, Nat.reduceEqDiff, Nat.reduceAdd, Nat.reduceSub, Nat.reduceMul, Nat.reduceLT, Nat.reduceLeDiff, reduceCtorEq, Int.reduceToNat]))
  · rw [if_neg hk]
    repeat' (first | refine ql ?_ | ((first | refine qn ?_ | refine qbc (by rfl) ?_ | refine qy ?_ | refine qm ?_ | refine qi ?_ | refine qh ?_); simp (disch := first | omega | (simp only [List.length_set, List.length_append, List.length_cons, List.length_nil]; done) | (simp only [List.length_set, List.length_append, List.length_cons, List.length_nil]; omega)) only [hk, ne_eq, not_false_eq_true, decide_true, go_sem, ↓reduceIte, Nat.reduceEqDiff, Nat.reduceAdd, Nat.reduceSub, Nat.reduceMul, Nat.reduceLT, Nat.reduceLeDiff, reduceCtorEq, Int.reduceToNat]) | ((first | refine qf ?_ ?_ | refine qe ?_ ?_) <;> intro hc <;> simp only [hc, go_sem, ↓reduceIte, Nat.reduceEqDiff, Nat.reduceAdd, Nat.reduceSub, Nat.reduceMul, Nat.reduceLT, Nat.reduceLeDiff, reduceCtorEq, Int.reduceToNat] <;> (try simp only [qb, qa, decide_eq_true_eq, decide_eq_false_iff_not, Bool.and_eq_true] at hc)) | refine And.intro (by first | assumption | omega | (have := qg (by assumption); omega) | (unfold qp; omega)) ?_ | fail | ((first | refine qc (qw c) fun _ => ?_ | refine qc (qc3 c _) fun _ => ?_ | refine qd  (qw c) ?_ | refine qd  (qc3 c _) ?_); simp only [go_sem, ↓reduceIte, Nat.reduceEqDiff, Nat.reduceAdd, Nat.reduceSub, Nat.reduceMul, Nat.reduceLT, Nat.reduceLeDiff, reduceCtorEq, Int.reduceToNat]))
    all_goals first | (rw [qd3]; done) | (rw [qd3]; rfl)
omit hm in
theorem qyp (c : K) (hg : c.good) (hr : em c < b) : qbf Tryz.prog 9 [refC c] (.tup [refC (qdy rec c).1, enc (qdy rec c).2]) := by
  have g1 : (qbp c 1).1.good := (qcx c 1).1 hg
  have g2 : (qt (qbp c 1).1 [58, 58]).1.good := (q8 _ _).1 g1
  have e1 := (qcx c 1).em
  have e2 := qji (qt (qbp c 1).1 [58, 58]).1
  refine qu c0k (by simp) (by simp only [go_sem]) (by simp only [go_sem]) fun hw => ?_
  unfold qdy
  by_cases ht : (qt (qbp c 1).1 [58, 58]).2 = true
  · rw [if_pos ht]
    have hq := q0n (rest (qt (qbp c 1).1 [58, 58]).1 + 2) (qt (qbp c 1).1 [58, 58]).1 g2 (by omega)
    generalize qja (rest (qt (qbp c 1).1 [58, 58]).1 + 2) (qt (qbp c 1).1 [58, 58]).1 = q at *
    repeat' (first | refine ql ?_ | ((first | refine qn ?_ | refine qbc (by rfl) ?_ | refine qy ?_ | refine qm ?_ | refine qi ?_ | refine qh ?_); simp (disch := first | omega | (simp only [List.length_set, List.length_append, List.length_cons, List.length_nil]; done) | (simp only [List.length_set, List.length_append, List.length_cons, List.length_nil]; omega)) only [ht, go_sem, ↓reduceIte, Nat.reduceEqDiff, Nat.reduceAdd, Nat.reduceSub, Nat.reduceMul, Nat.reduceLT, Nat.reduceLeDiff, reduceCtorEq, Int.reduceToNat]) | ((first | refine qf ?_ ?_ | refine qe ?_ ?_) <;> intro hc <;> simp only [hc, go_sem, ↓reduceIte, Nat.reduceEqDiff, Nat.reduceAdd, Nat.reduceSub, Nat.reduceMul, Nat.reduceLT, Nat.reduceLeDiff, reduceCtorEq, Int.reduceToNat] <;> (try simp only [qb, qa, decide_eq_true_eq, decide_eq_false_iff_not, Bool.and_eq_true] at hc)) | refine And.intro (by first | assumption | omega | (have := qg (by assumption); omega) | (unfold qp; omega)) ?_ | fail | ((first | refine qc (qgu c 1) fun _ => ?_ | refine qc (qbk _ _) fun _ => ?_ | refine qc hq fun _ => ?_ | refine qd  (qgu c 1) ?_ | refine qd  (qbk _ _) ?_ | refine qd  hq ?_); simp only [go_sem, ↓reduceIte, Nat.reduceEqDiff, Nat.reduceAdd, Nat.reduceSub, Nat.reduceMul, Nat.reduceLT, Nat.reduceLeDiff, reduceCtorEq, Int.reduceToNat]))
    all_goals first | (rw [qf5]; done) | (rw [qf5]; rfl)
  · rw [if_neg ht]
    have hl := qq2 ih [61] (qbp c 1).1 g1 (by omega)
    have hwp := qql (qdk (qbp c 1).1).2 (rec (qv (qdk (qbp c 1).1).1 [61]).1).2 (qmn _ g1)
    unfold qgk qu2 at hl ⊢
    have hvv := qqu (qbp c 1).1 g1
    generalize qdk (qbp c 1).1 = v at *
    repeat' (first | refine ql ?_ | ((first | refine qn ?_ | refine qbc (by rfl) ?_ | refine qy ?_ | refine qm ?_ | refine qi ?_ | refine qh ?_); simp (disch := first | omega | (simp only [List.length_set, List.length_append, List.length_cons, List.length_nil]; done) | (simp only [List.length_set, List.length_append, List.length_cons, List.length_nil]; omega)) only [ht, go_sem, ↓reduceIte, Nat.reduceEqDiff, Nat.reduceAdd, Nat.reduceSub, Nat.reduceMul, Nat.reduceLT, Nat.reduceLeDiff, reduceCtorEq, Int.reduceToNat]) | ((first | refine qf ?_ ?_ | refine qe ?_ ?_) <;> intro hc <;> simp only [hc, go_sem, ↓reduceIte, Nat.reduceEqDiff, Nat.reduceAdd, Nat.reduceSub, Nat.reduceMul, Nat.reduceLT, Nat.reduceLeDiff, reduceCtorEq, Int.reduceToNat] <;> (try simp only [qb, qa, decide_eq_true_eq, decide_eq_false_iff_not, Bool.and_eq_true] at hc)) | refine And.intro (by first | assumption | omega | (have := qg (by assumption); omega) | (unfold qp; omega)) ?_ | fail | ((first | refine qc (qgu c 1) fun _ => ?_ | refine qc (qbk _ _) fun _ => ?_ | refine qc hvv fun _ => ?_ | refine qc (qbg v.1 _) fun _ => ?_ | refine qc hl fun _ => ?_ | refine qc hwp fun _ => ?_ | refine qd  (qgu c 1) ?_ | refine qd  (qbk _ _) ?_ | refine qd  hvv ?_ | refine qd  (qbg v.1 _) ?_ | refine qd  hl ?_ | refine qd  hwp ?_); simp only [go_sem, ↓reduceIte, Nat.reduceEqDiff, Nat.reduceAdd, Nat.reduceSub, Nat.reduceMul, Nat.reduceLT, Nat.reduceLeDiff, reduceCtorEq, Int.reduceToNat]))
    all_goals first | (rw [qf5]; done) | (rw [qf5]; rfl)
end
set_option maxRecDepth 4000

theorem qow {c : K} (h : (qdn c).2 = true) : em (qdn c).1 < em c := by
  unfold qdn at h ⊢
  simp only [Bool.and_eq_true] at h
  exact qee h.1
def qta (p : Int) (x : Bool × Nat × K × List N) : AF × List Ent :=
  (⟨[(2, .ptr 0 0), (4, .ptr 1 0), (5, .ptr 2 0), (6, .ptr 3 0), (7, .bool x.1)], []⟩,
    .blk (refC x.2.2.1).cells :: zEC :: zEN :: .blk [.int .i64 26, .int .i64 p, .int .i64 0, .str [], accV 4 (encs x.2.2.2)] :: accE 5 (encs x.2.2.2))
def qog (p : Int) (k : N) (x : Bool × Nat × K × List N) : AF × List Ent :=
  (⟨[(2, .ptr 0 0), (4, .ptr 1 0), (5, .ptr 2 0), (7, .ptr 4 0), (8, .bool x.1)], []⟩,
    .blk (refC x.2.2.1).cells :: zEC :: zEN :: .blk (enc k).cells :: .blk [.int .i64 27, .int .i64 p, .int .i64 0, .str [], if x.2.2.2 = [] then .lit 5 [enc k] else .row 5 (x.2.2.2.length + 1)] ::
      (if x.2.2.2 = [] then [] else [.app 5 (enc k :: encs x.2.2.2)]))
section
variable {rec : K → K × N} {b : Nat} (hm : ∀ c, Mon c (rec c).1) (ih : ∀ c, c.good → em c < b → qbf Tryz.prog 11 [refC c] (.tup [refC (rec c).1, enc (rec c).2]))
include hm ih
theorem q3v (p : Int) (c : K) (hg : c.good) (hr : em c < b) : qbf Tryz.prog 60 [refC c, .int .i64 p] (.tup [refC (qkg rec p c).1, enc (qkg rec p c).2]) := by
  have hd := qjh hm
  have g1 : (qv c [123]).1.good := (qq _ _).1 hg
  have e1 := (qq c [123]).em
  refine qu c0g (by simp) (by simp only [go_sem]) (by simp only [go_sem]) fun hw => ?_
  unfold qkg qf6
  have gt := (qfg hd (em (qv c [123]).1 + 2) (qv c [123]).1 []).1 g1
  have et := (qfg hd (em (qv c [123]).1 + 2) (qv c [123]).1 []).em
  generalize htg : qcv (qdy rec) (em (qv c [123]).1 + 2) (qv c [123]).1 [] = tg at *
  repeat' (first | refine ql ?_ | refine qk ?_ | ((first | refine qn ?_ | refine qbc (by rfl) ?_ | refine qy ?_ | refine qm ?_ | refine qs ?_ | refine qi ?_ | refine qh ?_ | refine qc (qbg c _) fun _ => ?_ | refine qd  (qbg c _) ?_); simp only [go_sem, ↓reduceIte, Nat.reduceEqDiff, Nat.reduceAdd, Nat.reduceSub, Nat.reduceMul, Nat.reduceLT, Nat.reduceLeDiff, reduceCtorEq, Int.reduceToNat]) | ((first | refine qf ?_ ?_ | refine qe ?_ ?_) <;> intro hc <;> simp only [hc, go_sem, ↓reduceIte, Nat.reduceEqDiff, Nat.reduceAdd, Nat.reduceSub, Nat.reduceMul, Nat.reduceLT, Nat.reduceLeDiff, reduceCtorEq, Int.reduceToNat] <;> (try simp only [qb, qa, decide_eq_true_eq, decide_eq_false_iff_not, Bool.and_eq_true] at hc)) | refine And.intro (by first | assumption | omega | (have := qg (by assumption); omega) | (unfold qp; omega)) ?_ | fail)
  refine qby (S := Bool × Nat × K × List N) (fun x => x.2.2.1.good ∧ em x.2.2.1 < b ∧ (x.1 = true → qcv (qdy rec) x.2.1 x.2.2.1 x.2.2.2 = tg ∧ em x.2.2.1 < x.2.1) ∧ (x.1 = false → tg = (x.2.2.1, x.2.2.2) ∧ x.2.2.2 ≠ []) ∧ x.2.2.2.length + (if x.1 = true then em x.2.2.1 + 1 else 0) ≤ 1048579)
    (qta p) (fun x => if x.1 = true then em x.2.2.1 + 1 else 0) ?_ ?_
  · refine qbn (true, em (qv c [123]).1 + 2, (qv c [123]).1, []) [0, 1, 2, 3] ⟨g1, by simp only; omega, fun _ => ⟨htg, by simp only; omega⟩, (by intro h; cases h), ?_⟩ rfl (by simp) ?_ ?_ ?_
    · have h9 := g1.rest
      have h8 := qji (qv c [123]).1
      unfold rest at h8
      simp only [List.length_nil, if_true]; omega
    all_goals simp only [qta, zEC, zEN, encs, qbu, qbv]
    all_goals simp only [go_sem, ↓reduceIte, Nat.reduceEqDiff, Nat.reduceAdd, Nat.reduceSub, Nat.reduceMul, Nat.reduceLT, Nat.reduceLeDiff, reduceCtorEq, Int.reduceToNat]
  · rintro ⟨on, fu, d, acc⟩ ⟨i1, i2, i3, i4, i5⟩
    simp only at i1 i2 i3 i4 i5
    unfold qta zEC zEN
    have hcap : qp (acc.length + 1) 64 := capN (by split at i5 <;> omega)
    cases on with
    | false =>
      obtain ⟨i4, h0⟩ := i4 rfl
      subst i4
      have hne := qci h0
      have g2 : (qv (qv d [125]).1 [105, 110]).1.good := ((qq _ _).trans (qq _ _)).1 i1
      have e2 := ((qq d [125]).trans (qq _ [105, 110])).em
      have hx := ih _ g2 (by omega)
      unfold qwo
      simp only [qb4 hne, qb3 hne, qbz]
      repeat' (first | refine ql ?_ | refine qk ?_ | ((first | refine qn ?_ | refine qbc (by rfl) ?_ | refine qy ?_ | refine qm ?_ | refine qs ?_ | refine qi ?_ | refine qh ?_ | refine qc (qbg _ _) fun _ => ?_ | refine qc hx fun _ => ?_ | refine qd  (qbg _ _) ?_ | refine qd  hx ?_); simp only [go_sem, ↓reduceIte, Nat.reduceEqDiff, Nat.reduceAdd, Nat.reduceSub, Nat.reduceMul, Nat.reduceLT, Nat.reduceLeDiff, reduceCtorEq, Int.reduceToNat]) | ((first | refine qf ?_ ?_ | refine qe ?_ ?_) <;> intro hc <;> simp only [hc, go_sem, ↓reduceIte, Nat.reduceEqDiff, Nat.reduceAdd, Nat.reduceSub, Nat.reduceMul, Nat.reduceLT, Nat.reduceLeDiff, reduceCtorEq, Int.reduceToNat] <;> (try simp only [qb, qa, decide_eq_true_eq, decide_eq_false_iff_not, Bool.and_eq_true] at hc)) | refine And.intro (by first | assumption | omega | (have := qg (by assumption); omega) | (unfold qp; omega)) ?_ | fail)
      exact ⟨by rw [qz, qcb], by simp only [enc, qz]⟩
    | true =>
      obtain ⟨i3, i6⟩ := i3 rfl
      obtain ⟨fu, rfl⟩ : ∃ k, fu = k + 1 := ⟨fu - 1, by omega⟩
      rw [qcv] at i3
      have hx := qyp ih d i1 i2
      have j1 := (hd d).1 i1
      have j2 := (hd d).em
      generalize qdy rec d = r at *
      obtain ⟨d', n⟩ := r
      simp only at hx j1 j2 i3
      have j3 : (qdn d').1.good := (qjt d').1 j1
      have j4 := (qjt d').em
      have k3 : (qdn d').2 = true → qcv (qdy rec) fu (qdn d').1 (acc ++ [n]) = tg ∧ em (qdn d').1 < fu := fun h => by
        rw [if_pos h] at i3
        have := qow h
        exact ⟨i3, by omega⟩
      have k4 : (qdn d').2 = false → tg = ((qdn d').1, acc ++ [n]) ∧ acc ++ [n] ≠ [] := fun h => by
        rw [if_neg (by rw [h]; simp)] at i3
        exact ⟨i3.symm, by simp⟩
      have k5 : (if (qdn d').2 = true then em (qdn d').1 + 1 else 0) < em d + 1 := by
        split
        · rename_i h; have := qow h; omega
        · omega
      have k6 : (acc ++ [n]).length + (if (qdn d').2 = true then em (qdn d').1 + 1 else 0) ≤ 1048579 := by
        simp only [if_true] at i5
        simp only [List.length_append, List.length_cons, List.length_nil]
        omega
      by_cases h0 : acc = []
      · subst h0
        simp only [encs, qbu, qbv]
        repeat' (first | refine ql ?_ | refine qk ?_ | ((first | refine qn ?_ | refine qbc (by rfl) ?_ | refine qy ?_ | refine qm ?_ | refine qs ?_ | refine qi ?_ | refine qh ?_ | refine qc hx fun _ => ?_ | refine qc (qfd d') fun _ => ?_ | refine qd  hx ?_ | refine qd  (qfd d') ?_); simp only [go_sem, ↓reduceIte, Nat.reduceEqDiff, Nat.reduceAdd, Nat.reduceSub, Nat.reduceMul, Nat.reduceLT, Nat.reduceLeDiff, reduceCtorEq, Int.reduceToNat]) | ((first | refine qf ?_ ?_ | refine qe ?_ ?_) <;> intro hc <;> simp only [hc, go_sem, ↓reduceIte, Nat.reduceEqDiff, Nat.reduceAdd, Nat.reduceSub, Nat.reduceMul, Nat.reduceLT, Nat.reduceLeDiff, reduceCtorEq, Int.reduceToNat] <;> (try simp only [qb, qa, decide_eq_true_eq, decide_eq_false_iff_not, Bool.and_eq_true] at hc)) | refine And.intro (by first | assumption | omega | (have := qg (by assumption); omega) | (unfold qp; omega)) ?_ | fail)
        all_goals (
          refine qbn ((qdn d').2, fu, (qdn d').1, [] ++ [n]) [0, 1, 2, 3, 6] ⟨⟨j3, by simp only; omega, k3, k4, k6⟩, by simpa using k5⟩ rfl (by simp) ?_ ?_ ?_
          all_goals simp only [qta, zEC, zEN, ← qz, qct, qcs, List.nil_append, encs, qdg, qdh]
          all_goals simp only [go_sem, ↓reduceIte, Nat.reduceEqDiff, Nat.reduceAdd, Nat.reduceSub, Nat.reduceMul, Nat.reduceLT, Nat.reduceLeDiff, reduceCtorEq, Int.reduceToNat]
          all_goals (try (rw [qz, qcb, qc5]; exact ⟨rfl, rfl⟩)))
      · have hne := qci h0
        simp only [qb4 hne, qb3 hne, qbz]
        repeat' (first | refine ql ?_ | refine qk ?_ | ((first | refine qn ?_ | refine qbc (by rfl) ?_ | refine qy ?_ | refine qm ?_ | refine qs ?_ | refine qi ?_ | refine qh ?_ | refine qc hx fun _ => ?_ | refine qc (qfd d') fun _ => ?_ | refine qd  hx ?_ | refine qd  (qfd d') ?_); simp only [go_sem, ↓reduceIte, Nat.reduceEqDiff, Nat.reduceAdd, Nat.reduceSub, Nat.reduceMul, Nat.reduceLT, Nat.reduceLeDiff, reduceCtorEq, Int.reduceToNat]) | ((first | refine qf ?_ ?_ | refine qe ?_ ?_) <;> intro hc <;> simp only [hc, go_sem, ↓reduceIte, Nat.reduceEqDiff, Nat.reduceAdd, Nat.reduceSub, Nat.reduceMul, Nat.reduceLT, Nat.reduceLeDiff, reduceCtorEq, Int.reduceToNat] <;> (try simp only [qb, qa, decide_eq_true_eq, decide_eq_false_iff_not, Bool.and_eq_true] at hc)) | refine And.intro (by first | assumption | omega | (have := qg (by assumption); omega) | (unfold qp; omega)) ?_ | fail)
        all_goals (
          refine qbn ((qdn d').2, fu, (qdn d').1, acc ++ [n]) [0, 1, 2, 3, 7] ⟨⟨j3, by simp only; omega, k3, k4, k6⟩, by simpa using k5⟩ rfl (by simp) ?_ ?_ ?_
          all_goals simp only [qta, zEC, zEN, ← qz, qct, qcs, List.nil_append, encs, qdg, qdh]
          all_goals simp only [go_sem, ↓reduceIte, Nat.reduceEqDiff, Nat.reduceAdd, Nat.reduceSub, Nat.reduceMul, Nat.reduceLT, Nat.reduceLeDiff, reduceCtorEq, Int.reduceToNat]
          all_goals (try (rw [qz, qcb, qc5]; exact ⟨rfl, rfl⟩)))
end
set_option maxRecDepth 4000

section
variable {rec : K → K × N} {b : Nat} (hm : ∀ c, Mon c (rec c).1) (ih : ∀ c, c.good → em c < b → qbf Tryz.prog 11 [refC c] (.tup [refC (rec c).1, enc (rec c).2]))
include hm ih
theorem qwi (p : Int) (c : K) (hg : c.good) (hr : em c < b) : qbf Tryz.prog 61 [refC c, .int .i64 p] (.tup [refC (qim rec p c).1, enc (qim rec p c).2]) := by
  have hd := qkm hm
  have hx := ih c hg hr
  have g0 := (hm c).1 hg
  have e0 := (hm c).em
  refine qu c0e (by simp) (by simp only [go_sem]) (by simp only [go_sem]) fun hw => ?_
  unfold qim qf6
  generalize rec c = r0 at *
  obtain ⟨d0, k⟩ := r0
  simp only at hx g0 e0 ⊢
  have g1 : (qv (qv d0 [111, 102]).1 [123]).1.good := ((qq _ _).trans (qq _ _)).1 g0
  have e1 := ((qq d0 [111, 102]).trans (qq _ [123])).em
  generalize htg : qcv (qfy rec) (em (qv (qv d0 [111, 102]).1 [123]).1 + 2) (qv (qv d0 [111, 102]).1 [123]).1 [] = tg at *
  repeat' (first | refine ql ?_ | refine qk ?_ | ((first | refine qn ?_ | refine qbc (by rfl) ?_ | refine qy ?_ | refine qm ?_ | refine qs ?_ | refine qi ?_ | refine qh ?_ | refine qc hx fun _ => ?_ | refine qc (qbg _ _) fun _ => ?_ | refine qd  hx ?_ | refine qd  (qbg _ _) ?_); simp only [go_sem, ↓reduceIte, Nat.reduceEqDiff, Nat.reduceAdd, Nat.reduceSub, Nat.reduceMul, Nat.reduceLT, Nat.reduceLeDiff, reduceCtorEq, Int.reduceToNat]) | ((first | refine qf ?_ ?_ | refine qe ?_ ?_) <;> intro hc <;> simp only [hc, go_sem, ↓reduceIte, Nat.reduceEqDiff, Nat.reduceAdd, Nat.reduceSub, Nat.reduceMul, Nat.reduceLT, Nat.reduceLeDiff, reduceCtorEq, Int.reduceToNat] <;> (try simp only [qb, qa, decide_eq_true_eq, decide_eq_false_iff_not, Bool.and_eq_true] at hc)) | refine And.intro (by first | assumption | omega | (have := qg (by assumption); omega) | (unfold qp; omega)) ?_ | fail)
  refine qby (S := Bool × Nat × K × List N) (fun x => x.2.2.1.good ∧ em x.2.2.1 < b ∧ (x.1 = true → qcv (qfy rec) x.2.1 x.2.2.1 x.2.2.2 = tg ∧ em x.2.2.1 < x.2.1) ∧ (x.1 = false → tg = (x.2.2.1, x.2.2.2) ∧ x.2.2.2 ≠ []) ∧ x.2.2.2.length + (if x.1 = true then em x.2.2.1 + 1 else 0) ≤ 1048579)
    (qog p k) (fun x => if x.1 = true then em x.2.2.1 + 1 else 0) ?_ ?_
  · refine qbn (true, em (qv (qv d0 [111, 102]).1 [123]).1 + 2, (qv (qv d0 [111, 102]).1 [123]).1, []) [0, 1, 2, 3, 4] ⟨g1, by simp only; omega, fun _ => ⟨htg, by simp only; omega⟩, (by intro h; cases h), ?_⟩ rfl (by simp) ?_ ?_ ?_
    · have h9 := g1.rest
      have h8 := qji (qv (qv d0 [111, 102]).1 [123]).1
      unfold rest at h8
      simp only [List.length_nil, if_true]; omega
    all_goals simp only [qog, zEC, zEN, if_true]
    all_goals simp only [go_sem, ↓reduceIte, Nat.reduceEqDiff, Nat.reduceAdd, Nat.reduceSub, Nat.reduceMul, Nat.reduceLT, Nat.reduceLeDiff, reduceCtorEq, Int.reduceToNat]
  · rintro ⟨on, fu, d, acc⟩ ⟨i1, i2, i3, i4, i5⟩
    simp only at i1 i2 i3 i4 i5
    unfold qog zEC zEN
    cases on with
    | false =>
      obtain ⟨i4, h0⟩ := i4 rfl
      subst i4
      unfold qrx
      simp only [if_neg h0]
      repeat' (first | refine ql ?_ | refine qk ?_ | ((first | refine qn ?_ | refine qbc (by rfl) ?_ | refine qy ?_ | refine qm ?_ | refine qs ?_ | refine qi ?_ | refine qh ?_ | refine qc (qbg _ _) fun _ => ?_ | refine qd  (qbg _ _) ?_); simp only [go_sem, ↓reduceIte, Nat.reduceEqDiff, Nat.reduceAdd, Nat.reduceSub, Nat.reduceMul, Nat.reduceLT, Nat.reduceLeDiff, reduceCtorEq, Int.reduceToNat]) | ((first | refine qf ?_ ?_ | refine qe ?_ ?_) <;> intro hc <;> simp only [hc, go_sem, ↓reduceIte, Nat.reduceEqDiff, Nat.reduceAdd, Nat.reduceSub, Nat.reduceMul, Nat.reduceLT, Nat.reduceLeDiff, reduceCtorEq, Int.reduceToNat] <;> (try simp only [qb, qa, decide_eq_true_eq, decide_eq_false_iff_not, Bool.and_eq_true] at hc)) | refine And.intro (by first | assumption | omega | (have := qg (by assumption); omega) | (unfold qp; omega)) ?_ | fail)
      simp only [enc, encs]
    | true =>
      have hcap : qp (acc.length + 1 + 1) 64 := capN (by simp only [if_true] at i5; omega)
      obtain ⟨i3, i6⟩ := i3 rfl
      obtain ⟨fu, rfl⟩ : ∃ k, fu = k + 1 := ⟨fu - 1, by omega⟩
      rw [qcv] at i3
      have hp := qba2 (rest d + 2) d i1 (by have := qji d; omega)
      have q1 := (qg1 (rest d + 2) d).1 i1
      have q2 := (qg1 (rest d + 2) d).em
      have j1 := (hd d).1 i1
      have j2 := (hd d).em
      unfold qfy qry at i3 j1 j2
      generalize qd9 (rest d + 2) d = pr at *
      obtain ⟨d1, pt⟩ := pr
      simp only at hp q1 q2 i3 j1 j2
      have q3 : (qv d1 [45, 62]).1.good := (qq _ _).1 q1
      have hx := ih (qv d1 [45, 62]).1 q3 (by have := (qq d1 [45, 62]).em; omega)
      generalize rec (qv d1 [45, 62]).1 = r at *
      obtain ⟨d', e⟩ := r
      simp only at hx j1 j2 i3
      have j3 : (qdn d').1.good := (qjt d').1 j1
      have j4 := (qjt d').em
      have k3 : (qdn d').2 = true → qcv (qfy rec) fu (qdn d').1 (acc ++ [altN pt e]) = tg ∧ em (qdn d').1 < fu := fun h => by
        rw [if_pos h] at i3
        have := qow h
        exact ⟨i3, by omega⟩
      have k4 : (qdn d').2 = false → tg = ((qdn d').1, acc ++ [altN pt e]) ∧ acc ++ [altN pt e] ≠ [] := fun h => by
        rw [if_neg (by rw [h]; simp)] at i3
        exact ⟨i3.symm, by simp⟩
      have k5 : (if (qdn d').2 = true then em (qdn d').1 + 1 else 0) < em d + 1 := by
        split
        · rename_i h; have := qow h; omega
        · omega
      have k6 : (acc ++ [altN pt e]).length + (if (qdn d').2 = true then em (qdn d').1 + 1 else 0) ≤ 1048579 := by
        simp only [if_true] at i5
        simp only [List.length_append, List.length_cons, List.length_nil]
        omega
      by_cases h0 : acc = []
      · subst h0
        have hcap2 : qp 2 64 := capN (by omega)
        clear hcap
        simp only [if_true]
        repeat' (first | refine ql ?_ | refine qk ?_ | ((first | refine qn ?_ | refine qbc (by rfl) ?_ | refine qy ?_ | refine qm ?_ | refine qs ?_ | refine qi ?_ | refine qh ?_); simp (disch := first | omega | (simp only [List.length_set, List.length_append, List.length_cons, List.length_nil]; done) | (simp only [List.length_set, List.length_append, List.length_cons, List.length_nil]; omega)) only [hcap2, go_sem, ↓reduceIte, Nat.reduceEqDiff, Nat.reduceAdd, Nat.reduceSub, Nat.reduceMul, Nat.reduceLT, Nat.reduceLeDiff, reduceCtorEq, Int.reduceToNat]) | ((first | refine qf ?_ ?_ | refine qe ?_ ?_) <;> intro hc <;> simp only [hc, go_sem, ↓reduceIte, Nat.reduceEqDiff, Nat.reduceAdd, Nat.reduceSub, Nat.reduceMul, Nat.reduceLT, Nat.reduceLeDiff, reduceCtorEq, Int.reduceToNat] <;> (try simp only [qb, qa, decide_eq_true_eq, decide_eq_false_iff_not, Bool.and_eq_true] at hc)) | refine And.intro (by first | assumption | omega | (have := qg (by assumption); omega) | (unfold qp; omega)) ?_ | fail | ((first | refine qc hp fun _ => ?_ | refine qc (qbg _ _) fun _ => ?_ | refine qc hx fun _ => ?_ | refine qc (qfd d') fun _ => ?_ | refine qd  hp ?_ | refine qd  (qbg _ _) ?_ | refine qd  hx ?_ | refine qd  (qfd d') ?_); simp only [go_sem, ↓reduceIte, Nat.reduceEqDiff, Nat.reduceAdd, Nat.reduceSub, Nat.reduceMul, Nat.reduceLT, Nat.reduceLeDiff, reduceCtorEq, Int.reduceToNat]))
        all_goals (
          have hne : ¬ [] ++ [altN pt e] = [] := by simp
          refine qbn ((qdn d').2, fu, (qdn d').1, [] ++ [altN pt e]) [0, 1, 2, 3, 4, 8] ⟨⟨j3, by simp only; omega, k3, k4, k6⟩, by simpa using k5⟩ rfl (by simp) ?_ ?_ ?_
          all_goals simp only [qog, zEC, zEN, if_neg hne, List.length_append, List.length_cons, List.length_nil]
          all_goals (try simp only [← qz, List.nil_append, encs, altN, enc])
          all_goals simp only [go_sem, ↓reduceIte, Nat.reduceEqDiff, Nat.reduceAdd, Nat.reduceSub, Nat.reduceMul, Nat.reduceLT, Nat.reduceLeDiff, reduceCtorEq, Int.reduceToNat]
          all_goals (try (rw [qn4, qz, qcb, qc5]; exact ⟨rfl, rfl⟩)))
      · simp only [if_neg h0]
        have hlen : (enc k :: encs acc).length = acc.length + 1 := by simp [qbz]
        repeat' (first | refine ql ?_ | refine qk ?_ | ((first | refine qn ?_ | refine qbc (by rfl) ?_ | refine qy ?_ | refine qm ?_ | refine qs ?_ | refine qi ?_ | refine qh ?_); simp (disch := first | omega | (simp only [List.length_set, List.length_append, List.length_cons, List.length_nil]; done) | (simp only [List.length_set, List.length_append, List.length_cons, List.length_nil]; omega)) only [hlen, hcap, go_sem, ↓reduceIte, Nat.reduceEqDiff, Nat.reduceAdd, Nat.reduceSub, Nat.reduceMul, Nat.reduceLT, Nat.reduceLeDiff, reduceCtorEq, Int.reduceToNat]) | ((first | refine qf ?_ ?_ | refine qe ?_ ?_) <;> intro hc <;> simp only [hc, go_sem, ↓reduceIte, Nat.reduceEqDiff, Nat.reduceAdd, Nat.reduceSub, Nat.reduceMul, Nat.reduceLT, Nat.reduceLeDiff, reduceCtorEq, Int.reduceToNat] <;> (try simp only [qb, qa, decide_eq_true_eq, decide_eq_false_iff_not, Bool.and_eq_true] at hc)) | refine And.intro (by first | assumption | omega | (have := qg (by assumption); omega) | (unfold qp; omega)) ?_ | fail | ((first | refine qc hp fun _ => ?_ | refine qc (qbg _ _) fun _ => ?_ | refine qc hx fun _ => ?_ | refine qc (qfd d') fun _ => ?_ | refine qd  hp ?_ | refine qd  (qbg _ _) ?_ | refine qd  hx ?_ | refine qd  (qfd d') ?_); simp only [go_sem, ↓reduceIte, Nat.reduceEqDiff, Nat.reduceAdd, Nat.reduceSub, Nat.reduceMul, Nat.reduceLT, Nat.reduceLeDiff, reduceCtorEq, Int.reduceToNat]))
        all_goals (
          have hne : ¬ acc ++ [altN pt e] = [] := by simp
          refine qbn ((qdn d').2, fu, (qdn d').1, acc ++ [altN pt e]) [0, 1, 2, 3, 4, 9] ⟨⟨j3, by simp only; omega, k3, k4, k6⟩, by simpa using k5⟩ rfl (by simp) ?_ ?_ ?_
          all_goals simp only [qog, zEC, zEN, if_neg hne, List.length_append, List.length_cons, List.length_nil]
          all_goals (try simp only [← qz, List.nil_append, encs, altN, enc])
          all_goals simp only [go_sem, ↓reduceIte, Nat.reduceEqDiff, Nat.reduceAdd, Nat.reduceSub, Nat.reduceMul, Nat.reduceLT, Nat.reduceLeDiff, reduceCtorEq, Int.reduceToNat]
          all_goals (try (rw [qn4, qz, qcb, qc5]; exact ⟨rfl, rfl⟩)))
theorem q3g (p : Int) (c : K) (hg : c.good) (hr : em c < b) : qbf Tryz.prog 62 [refC c, .int .i64 p] (.tup [refC (qku rec p c).1, enc (qku rec p c).2]) := by
  have h1 := ih c hg hr
  have g1 := (hm c).1 hg
  have e1 := (hm c).em
  refine qu c0f (by simp) (by simp only [go_sem]) (by simp only [go_sem]) fun hw => ?_
  unfold qku q4m
  generalize rec c = r1 at *
  obtain ⟨d1, n1⟩ := r1
  simp only at h1 g1 e1 ⊢
  have g2 : (qv d1 [116, 104, 101, 110]).1.good := (qq _ _).1 g1
  have e2 := (qq d1 [116, 104, 101, 110]).em
  have h2 := ih _ g2 (by omega)
  have g3 := (hm (qv d1 [116, 104, 101, 110]).1).1 g2
  have e3 := (hm (qv d1 [116, 104, 101, 110]).1).em
  unfold qp5
  generalize rec (qv d1 [116, 104, 101, 110]).1 = r2 at *
  obtain ⟨d2, n2⟩ := r2
  simp only at h2 g3 e3 ⊢
  have g4 : (qv d2 [101, 108, 115, 101]).1.good := (qq _ _).1 g3
  have e4 := (qq d2 [101, 108, 115, 101]).em
  have h3 := ih _ g4 (by omega)
  unfold qx1
  generalize rec (qv d2 [101, 108, 115, 101]).1 = r3 at *
  obtain ⟨d3, n3⟩ := r3
  simp only at h3 ⊢
  repeat' (first | refine ql ?_ | ((first | refine qn ?_ | refine qbc (by rfl) ?_ | refine qy ?_ | refine qm ?_ | refine qc h1 fun _ => ?_ | refine qc h2 fun _ => ?_ | refine qc h3 fun _ => ?_ | refine qc (qbg _ _) fun _ => ?_ | refine qd  h1 ?_ | refine qd  h2 ?_ | refine qd  h3 ?_ | refine qd  (qbg _ _) ?_); simp only [go_sem, ↓reduceIte, Nat.reduceEqDiff, Nat.reduceAdd, Nat.reduceSub, Nat.reduceMul, Nat.reduceLT, Nat.reduceLeDiff, reduceCtorEq, Int.reduceToNat]) | ((first | refine qf ?_ ?_ | refine qe ?_ ?_) <;> intro hc <;> simp only [hc, go_sem, ↓reduceIte, Nat.reduceEqDiff, Nat.reduceAdd, Nat.reduceSub, Nat.reduceMul, Nat.reduceLT, Nat.reduceLeDiff, reduceCtorEq, Int.reduceToNat] <;> (try simp only [qb, qa, decide_eq_true_eq, decide_eq_false_iff_not, Bool.and_eq_true] at hc)) | refine And.intro (by first | assumption | omega | (have := qg (by assumption); omega) | (unfold qp; omega)) ?_ | fail)
  all_goals (simp only [enc, encs])
end
set_option maxRecDepth 4000

theorem q21 {P : Program} {fr : Option Nat} {k m : Nat} {a : IC} {Q : VE → AF → List Ent → Prop} {af : AF} {A B C : Ent} {L : List Ent} {fl : Bool} {n : N} (h : VI P fr k m a Q af (A :: B :: C :: .blk (enc n).cells :: L)) : VI P fr k m a Q af (A :: B :: C :: qmb fl n :: L) := by
  cases n
  cases fl with
  | false => exact h
  | true =>
    refine qra 3 4 (.sl 5) (by rfl) ?_
    simp only [List.getD_cons_succ, List.getD_cons_zero, if_true, qla, List.set_cons_succ, List.set_cons_zero]
    exact h
def qst (x : Bool × Nat × K × N) : AF × List Ent :=
  (⟨[(1, .ptr 0 0), (2, .ptr 1 0), (3, .ptr 2 0), (13, .ptr 3 0)], []⟩, [.blk (refC x.2.2.1).cells, zEC, zEN, qmb x.1 x.2.2.2])
section
variable {rec : K → K × N} {b : Nat} (hm : ∀ c, Mon c (rec c).1) (ih : ∀ c, c.good → em c < b → qbf Tryz.prog 11 [refC c] (.tup [refC (rec c).1, enc (rec c).2]))
include hm ih
theorem qz8 (c : K) (hg : c.good) (hr : em c ≤ b) : qbf Tryz.prog 34 [refC c] (.tup [refC (qey rec c).1, enc (qey rec c).2]) := by
  have g1 : (qt c [92]).1.good := (q8 _ _).1 hg
  have g2 : (qt c [108, 101, 116]).1.good := (q8 _ _).1 hg
  have g3 : (qt c [99, 97, 115, 101]).1.good := (q8 _ _).1 hg
  have g4 : (qt c [105, 102]).1.good := (q8 _ _).1 hg
  have hb : (UInt8.ofNat 92) = 92 := rfl
  refine qu c0c (by simp) (by simp only [go_sem]) (by simp only [go_sem]) fun hw => ?_
  unfold qey
  by_cases t1 : (qt c [92]).2 = true
  · rw [if_pos t1]
    have hl := q4i ih _ g1 (Nat.lt_of_lt_of_le (qee t1) hr)
    repeat' (first | refine ql ?_ | refine qk ?_ | ((first | refine qn ?_ | refine qbc (by rfl) ?_ | refine qy ?_ | refine qm ?_ | refine qs ?_ | refine qi ?_ | refine qh ?_); simp (disch := first | omega | (simp only [List.length_set, List.length_append, List.length_cons, List.length_nil]; done) | (simp only [List.length_set, List.length_append, List.length_cons, List.length_nil]; omega)) only [hb, t1, go_sem, ↓reduceIte, Nat.reduceEqDiff, Nat.reduceAdd, Nat.reduceSub, Nat.reduceMul, Nat.reduceLT, Nat.reduceLeDiff, reduceCtorEq, Int.reduceToNat]) | ((first | refine qf ?_ ?_ | refine qe ?_ ?_) <;> intro hc <;> simp only [hc, go_sem, ↓reduceIte, Nat.reduceEqDiff, Nat.reduceAdd, Nat.reduceSub, Nat.reduceMul, Nat.reduceLT, Nat.reduceLeDiff, reduceCtorEq, Int.reduceToNat] <;> (try simp only [qb, qa, decide_eq_true_eq, decide_eq_false_iff_not, Bool.and_eq_true] at hc)) | refine And.intro (by first | assumption | omega | (have := qg (by assumption); omega) | (unfold qp; omega)) ?_ | fail | ((first | refine qc (qw c) fun _ => ?_ | refine qc (qbk c _) fun _ => ?_ | refine qc hl fun _ => ?_ | refine qd  (qw c) ?_ | refine qd  (qbk c _) ?_ | refine qd  hl ?_); simp only [go_sem, ↓reduceIte, Nat.reduceEqDiff, Nat.reduceAdd, Nat.reduceSub, Nat.reduceMul, Nat.reduceLT, Nat.reduceLeDiff, reduceCtorEq, Int.reduceToNat]))
  · have t1f : (qt c [92]).2 = false := by simpa using t1
    rw [if_neg t1]
    by_cases t2 : (qt c [108, 101, 116]).2 = true
    · rw [if_pos t2]
      have hl := q3v hm ih (qbd c).pos _ g2 (Nat.lt_of_lt_of_le (qee t2) hr)
      repeat' (first | refine ql ?_ | refine qk ?_ | ((first | refine qn ?_ | refine qbc (by rfl) ?_ | refine qy ?_ | refine qm ?_ | refine qs ?_ | refine qi ?_ | refine qh ?_); simp (disch := first | omega | (simp only [List.length_set, List.length_append, List.length_cons, List.length_nil]; done) | (simp only [List.length_set, List.length_append, List.length_cons, List.length_nil]; omega)) only [hb, t1f, t2, go_sem, ↓reduceIte, Nat.reduceEqDiff, Nat.reduceAdd, Nat.reduceSub, Nat.reduceMul, Nat.reduceLT, Nat.reduceLeDiff, reduceCtorEq, Int.reduceToNat]) | ((first | refine qf ?_ ?_ | refine qe ?_ ?_) <;> intro hc <;> simp only [hc, go_sem, ↓reduceIte, Nat.reduceEqDiff, Nat.reduceAdd, Nat.reduceSub, Nat.reduceMul, Nat.reduceLT, Nat.reduceLeDiff, reduceCtorEq, Int.reduceToNat] <;> (try simp only [qb, qa, decide_eq_true_eq, decide_eq_false_iff_not, Bool.and_eq_true] at hc)) | refine And.intro (by first | assumption | omega | (have := qg (by assumption); omega) | (unfold qp; omega)) ?_ | fail | ((first | refine qc (qw c) fun _ => ?_ | refine qc (qbk c _) fun _ => ?_ | refine qc hl fun _ => ?_ | refine qd  (qw c) ?_ | refine qd  (qbk c _) ?_ | refine qd  hl ?_); simp only [go_sem, ↓reduceIte, Nat.reduceEqDiff, Nat.reduceAdd, Nat.reduceSub, Nat.reduceMul, Nat.reduceLT, Nat.reduceLeDiff, reduceCtorEq, Int.reduceToNat]))
    · have t2f : (qt c [108, 101, 116]).2 = false := by simpa using t2
      rw [if_neg t2]
      by_cases t3 : (qt c [99, 97, 115, 101]).2 = true
      · rw [if_pos t3]
        have hl := qwi hm ih (qbd c).pos _ g3 (Nat.lt_of_lt_of_le (qee t3) hr)
        repeat' (first | refine ql ?_ | refine qk ?_ | ((first | refine qn ?_ | refine qbc (by rfl) ?_ | refine qy ?_ | refine qm ?_ | refine qs ?_ | refine qi ?_ | refine qh ?_); simp (disch := first | omega | (simp only [List.length_set, List.length_append, List.length_cons, List.length_nil]; done) | (simp only [List.length_set, List.length_append, List.length_cons, List.length_nil]; omega)) only [hb, t1f, t2f, t3, go_sem, ↓reduceIte, Nat.reduceEqDiff, Nat.reduceAdd, Nat.reduceSub, Nat.reduceMul, Nat.reduceLT, Nat.reduceLeDiff, reduceCtorEq, Int.reduceToNat]) | ((first | refine qf ?_ ?_ | refine qe ?_ ?_) <;> intro hc <;> simp only [hc, go_sem, ↓reduceIte, Nat.reduceEqDiff, Nat.reduceAdd, Nat.reduceSub, Nat.reduceMul, Nat.reduceLT, Nat.reduceLeDiff, reduceCtorEq, Int.reduceToNat] <;> (try simp only [qb, qa, decide_eq_true_eq, decide_eq_false_iff_not, Bool.and_eq_true] at hc)) | refine And.intro (by first | assumption | omega | (have := qg (by assumption); omega) | (unfold qp; omega)) ?_ | fail | ((first | refine qc (qw c) fun _ => ?_ | refine qc (qbk c _) fun _ => ?_ | refine qc hl fun _ => ?_ | refine qd  (qw c) ?_ | refine qd  (qbk c _) ?_ | refine qd  hl ?_); simp only [go_sem, ↓reduceIte, Nat.reduceEqDiff, Nat.reduceAdd, Nat.reduceSub, Nat.reduceMul, Nat.reduceLT, Nat.reduceLeDiff, reduceCtorEq, Int.reduceToNat]))
      · have t3f : (qt c [99, 97, 115, 101]).2 = false := by simpa using t3
        rw [if_neg t3]
        by_cases t4 : (qt c [105, 102]).2 = true
        · rw [if_pos t4]
          have hl := q3g hm ih (qbd c).pos _ g4 (Nat.lt_of_lt_of_le (qee t4) hr)
          repeat' (first | refine ql ?_ | refine qk ?_ | ((first | refine qn ?_ | refine qbc (by rfl) ?_ | refine qy ?_ | refine qm ?_ | refine qs ?_ | refine qi ?_ | refine qh ?_); simp (disch := first | omega | (simp only [List.length_set, List.length_append, List.length_cons, List.length_nil]; done) | (simp only [List.length_set, List.length_append, List.length_cons, List.length_nil]; omega)) only [hb, t1f, t2f, t3f, t4, go_sem, ↓reduceIte, Nat.reduceEqDiff, Nat.reduceAdd, Nat.reduceSub, Nat.reduceMul, Nat.reduceLT, Nat.reduceLeDiff, reduceCtorEq, Int.reduceToNat]) | ((first | refine qf ?_ ?_ | refine qe ?_ ?_) <;> intro hc <;> simp only [hc, go_sem, ↓reduceIte, Nat.reduceEqDiff, Nat.reduceAdd, Nat.reduceSub, Nat.reduceMul, Nat.reduceLT, Nat.reduceLeDiff, reduceCtorEq, Int.reduceToNat] <;> (try simp only [qb, qa, decide_eq_true_eq, decide_eq_false_iff_not, Bool.and_eq_true] at hc)) | refine And.intro (by first | assumption | omega | (have := qg (by assumption); omega) | (unfold qp; omega)) ?_ | fail | ((first | refine qc (qw c) fun _ => ?_ | refine qc (qbk c _) fun _ => ?_ | refine qc hl fun _ => ?_ | refine qd  (qw c) ?_ | refine qd  (qbk c _) ?_ | refine qd  hl ?_); simp only [go_sem, ↓reduceIte, Nat.reduceEqDiff, Nat.reduceAdd, Nat.reduceSub, Nat.reduceMul, Nat.reduceLT, Nat.reduceLeDiff, reduceCtorEq, Int.reduceToNat]))
        · have t4f : (qt c [105, 102]).2 = false := by simpa using t4
          rw [if_neg t4]
          have ha := qqw hm ih c hg hr
          have j0 := (qef hm c).1 hg
          have e0 := (qef hm c).em
          unfold ql7
          generalize qdf rec c = r0 at *
          obtain ⟨d0, n0⟩ := r0
          simp only at ha j0 e0
          generalize htg : qfl rec (em (d0, n0).1 + 1) (d0, n0).1 (d0, n0).2 = tg
          simp only at htg
          repeat' (first | refine ql ?_ | refine qk ?_ | ((first | refine qn ?_ | refine qbc (by rfl) ?_ | refine qy ?_ | refine qm ?_ | refine qs ?_ | refine qi ?_ | refine qh ?_); simp (disch := first | omega | (simp only [List.length_set, List.length_append, List.length_cons, List.length_nil]; done) | (simp only [List.length_set, List.length_append, List.length_cons, List.length_nil]; omega)) only [hb, t1f, t2f, t3f, t4f, go_sem, ↓reduceIte, Nat.reduceEqDiff, Nat.reduceAdd, Nat.reduceSub, Nat.reduceMul, Nat.reduceLT, Nat.reduceLeDiff, reduceCtorEq, Int.reduceToNat]) | ((first | refine qf ?_ ?_ | refine qe ?_ ?_) <;> intro hc <;> simp only [hc, go_sem, ↓reduceIte, Nat.reduceEqDiff, Nat.reduceAdd, Nat.reduceSub, Nat.reduceMul, Nat.reduceLT, Nat.reduceLeDiff, reduceCtorEq, Int.reduceToNat] <;> (try simp only [qb, qa, decide_eq_true_eq, decide_eq_false_iff_not, Bool.and_eq_true] at hc)) | refine And.intro (by first | assumption | omega | (have := qg (by assumption); omega) | (unfold qp; omega)) ?_ | fail | ((first | refine qc (qw c) fun _ => ?_ | refine qc (qbk c _) fun _ => ?_ | refine qc ha fun _ => ?_ | refine qd  (qw c) ?_ | refine qd  (qbk c _) ?_ | refine qd  ha ?_); simp only [go_sem, ↓reduceIte, Nat.reduceEqDiff, Nat.reduceAdd, Nat.reduceSub, Nat.reduceMul, Nat.reduceLT, Nat.reduceLeDiff, reduceCtorEq, Int.reduceToNat]))
          refine qby (S := Bool × Nat × K × N) (fun x => x.2.2.1.good ∧ em x.2.2.1 ≤ b ∧ qfl rec x.2.1 x.2.2.1 x.2.2.2 = tg ∧ em x.2.2.1 < x.2.1) qst (fun x => em x.2.2.1) ?_ ?_
          · refine qbn (false, em d0 + 1, d0, n0) [0, 1, 2, 7] ⟨j0, by simp only; omega, htg, Nat.lt_succ_self _⟩ rfl (by simp) ?_ ?_ ?_
            all_goals simp only [qst, qmb, zEC, zEN]
            all_goals simp only [go_sem, ↓reduceIte, Nat.reduceEqDiff, Nat.reduceAdd, Nat.reduceSub, Nat.reduceMul, Nat.reduceLT, Nat.reduceLeDiff, reduceCtorEq, Int.reduceToNat]
          · rintro ⟨fl, fu, d, n⟩ ⟨i1, i2, i3, i4⟩
            simp only at i1 i2 i3 i4
            unfold qst zEC zEN
            refine q21 ?_
            obtain ⟨fu, rfl⟩ : ∃ k, fu = k + 1 := ⟨fu - 1, by omega⟩
            rw [qfl] at i3
            have ha2 := qqw hm ih d i1 i2
            have j1 := (qef hm d).1 i1
            have e1 := (qef hm d).em
            have hlt := qlo hm (c := d)
            generalize qdf rec d = r at *
            obtain ⟨d', k⟩ := r
            simp only at ha2 j1 e1 hlt i3
            by_cases hbg : begE d = true
            · rw [if_pos hbg] at i3
              have hlt := hlt hbg
              repeat' (first | refine ql ?_ | refine qk ?_ | ((first | refine qn ?_ | refine qbc (by rfl) ?_ | refine qy ?_ | refine qm ?_ | refine qs ?_ | refine qi ?_ | refine qh ?_); simp (disch := first | omega | (simp only [List.length_set, List.length_append, List.length_cons, List.length_nil]; done) | (simp only [List.length_set, List.length_append, List.length_cons, List.length_nil]; omega)) only [hbg, go_sem, ↓reduceIte, Nat.reduceEqDiff, Nat.reduceAdd, Nat.reduceSub, Nat.reduceMul, Nat.reduceLT, Nat.reduceLeDiff, reduceCtorEq, Int.reduceToNat]) | ((first | refine qf ?_ ?_ | refine qe ?_ ?_) <;> intro hc <;> simp only [hc, go_sem, ↓reduceIte, Nat.reduceEqDiff, Nat.reduceAdd, Nat.reduceSub, Nat.reduceMul, Nat.reduceLT, Nat.reduceLeDiff, reduceCtorEq, Int.reduceToNat] <;> (try simp only [qb, qa, decide_eq_true_eq, decide_eq_false_iff_not, Bool.and_eq_true] at hc)) | refine And.intro (by first | assumption | omega | (have := qg (by assumption); omega) | (unfold qp; omega)) ?_ | fail | ((first | refine qc (qfc d) fun _ => ?_ | refine qc ha2 fun _ => ?_ | refine qd  (qfc d) ?_ | refine qd  ha2 ?_); simp only [go_sem, ↓reduceIte, Nat.reduceEqDiff, Nat.reduceAdd, Nat.reduceSub, Nat.reduceMul, Nat.reduceLT, Nat.reduceLeDiff, reduceCtorEq, Int.reduceToNat]))
              refine qbn (true, fu, d', appN n k) [0, 1, 2, 3] ⟨⟨j1, by simp only; omega, i3, by simp only; omega⟩, by simp only; omega⟩ rfl (by simp) ?_ ?_ ?_
              all_goals simp only [qst, zEC, zEN, qmb, appN, encs, N.kind, N.pos, N.num, N.text, N.kids]
              all_goals simp only [go_sem, ↓reduceIte, Nat.reduceEqDiff, Nat.reduceAdd, Nat.reduceSub, Nat.reduceMul, Nat.reduceLT, Nat.reduceLeDiff, reduceCtorEq, Int.reduceToNat]
            · rw [if_neg hbg] at i3
              subst i3
              repeat' (first | refine ql ?_ | refine qk ?_ | ((first | refine qn ?_ | refine qbc (by rfl) ?_ | refine qy ?_ | refine qm ?_ | refine qs ?_ | refine qi ?_ | refine qh ?_); simp (disch := first | omega | (simp only [List.length_set, List.length_append, List.length_cons, List.length_nil]; done) | (simp only [List.length_set, List.length_append, List.length_cons, List.length_nil]; omega)) only [hbg, go_sem, ↓reduceIte, Nat.reduceEqDiff, Nat.reduceAdd, Nat.reduceSub, Nat.reduceMul, Nat.reduceLT, Nat.reduceLeDiff, reduceCtorEq, Int.reduceToNat]) | ((first | refine qf ?_ ?_ | refine qe ?_ ?_) <;> intro hc <;> simp only [hc, go_sem, ↓reduceIte, Nat.reduceEqDiff, Nat.reduceAdd, Nat.reduceSub, Nat.reduceMul, Nat.reduceLT, Nat.reduceLeDiff, reduceCtorEq, Int.reduceToNat] <;> (try simp only [qb, qa, decide_eq_true_eq, decide_eq_false_iff_not, Bool.and_eq_true] at hc)) | refine And.intro (by first | assumption | omega | (have := qg (by assumption); omega) | (unfold qp; omega)) ?_ | fail | ((first | refine qc (qfc d) fun _ => ?_ | refine qd  (qfc d) ?_); simp only [go_sem, ↓reduceIte, Nat.reduceEqDiff, Nat.reduceAdd, Nat.reduceSub, Nat.reduceMul, Nat.reduceLT, Nat.reduceLeDiff, reduceCtorEq, Int.reduceToNat]))
              all_goals (try rfl)
end
theorem qrv {f : Nat} (ih : ∀ c, c.good → em c < f → qbf Tryz.prog 11 [refC c] (.tup [refC (qgi f c).1, enc (qgi f c).2])) (c : K) (hg : c.good) (hr : em c < f + 1) :
    qbf Tryz.prog 11 [refC c] (.tup [refC (qgi (f + 1) c).1, enc (qgi (f + 1) c).2]) := by
  have hm := ql5 f
  have g1 : (qj c).1.good := (qx c).1 hg
  have hr1 : em (qj c).1 ≤ f := by have := (qx c).em; omega
  have ho := qz8 hm ih _ g1 hr1
  have g2 := (qmq hm (qj c).1).1 g1
  refine qu c0d (by simp) (by simp only [go_sem]) (by simp only [go_sem]) fun hw => ?_
  rw [qgi]
  generalize qey (qgi f) (qj c).1 = r at *
  repeat' (first | refine ql ?_ | ((first | refine qn ?_ | refine qbc (by rfl) ?_ | refine qy ?_ | refine qm ?_ | refine qc (qco c) fun _ => ?_ | refine qc ho fun _ => ?_ | refine qc (qb1 _ g2.2.2) fun _ => ?_ | refine qd  (qco c) ?_ | refine qd  ho ?_ | refine qd  (qb1 _ g2.2.2) ?_); simp only [go_sem, ↓reduceIte, Nat.reduceEqDiff, Nat.reduceAdd, Nat.reduceSub, Nat.reduceMul, Nat.reduceLT, Nat.reduceLeDiff, reduceCtorEq, Int.reduceToNat]) | ((first | refine qf ?_ ?_ | refine qe ?_ ?_) <;> intro hc <;> simp only [hc, go_sem, ↓reduceIte, Nat.reduceEqDiff, Nat.reduceAdd, Nat.reduceSub, Nat.reduceMul, Nat.reduceLT, Nat.reduceLeDiff, reduceCtorEq, Int.reduceToNat] <;> (try simp only [qb, qa, decide_eq_true_eq, decide_eq_false_iff_not, Bool.and_eq_true] at hc)) | refine And.intro (by first | assumption | omega | (have := qg (by assumption); omega) | (unfold qp; omega)) ?_ | fail)
theorem qxc (f : Nat) : ∀ c : K, c.good → em c < f → qbf Tryz.prog 11 [refC c] (.tup [refC (qgi f c).1, enc (qgi f c).2]) := by
  induction f with
  | zero => exact fun c _ h => absurd h (by omega)
  | succ f ih => exact qrv ih

def NoEnd (c : K) : Prop := ∀ t ∈ c.l, t.kind ≠ 0
theorem NoEnd.mon {c c' : K} (h : NoEnd c) (m : Mon c c') : NoEnd c' := by unfold NoEnd; rw [m.2.2.2]; exact h
theorem qbdi (r : K × Option N) : toO (ofO r) = r := by
  obtain ⟨c, o⟩ := r
  cases o <;> rfl
theorem qev {p : R3} {r : K × N} (h1 : p.1 = r.1) (h2 : p.2.2 = true → p.2.1 = r.2) (h3 : p.2.2 = false → p.1.err ≠ 0) : qed (toO p) r := by
  obtain ⟨d, n, ok⟩ := p
  cases ok with
  | false => exact ⟨h1, (fun n h => by cases h), fun _ => h3 rfl⟩
  | true => exact ⟨h1, (fun n h => by cases h; exact h2 rfl), (fun h => by cases h)⟩
theorem qnn {p : R3} {r : K × N} (h : qed (toO p) r) : p.1 = r.1 := h.1
theorem qxu {p : R3} {r : K × N} (h : qed (toO p) r) (hs : p.2.2 = true) : p.2.1 = r.2 := h.2.1 _ (by unfold toO; simp only; rw [if_pos hs])
theorem qxh {p : R3} {r : K × N} (h : qed (toO p) r) (hs : p.2.2 = false) : p.1.err ≠ 0 := h.2.2 (by unfold toO; simp only; rw [if_neg (by rw [hs]; simp)])
theorem qh8 {p : K × Option N} {r : K × N} (h : qed p r) (hs : ¬ p.2.isSome = true) : p.1.err ≠ 0 := h.2.2 (by
  cases ho : p.2 with
  | none => rfl
  | some n => rw [ho] at hs; exact absurd rfl hs)
theorem qin {p : K × Option N} {r : K × N} (h : qed p r) (hs : p.2.isSome = true) : p.2.getD N0 = r.2 := by
  obtain ⟨n, hn⟩ := Option.isSome_iff_exists.1 hs
  rw [hn]
  exact h.2.1 n hn
theorem qsw {rec : K → K × N} {c : K} (h : c.err ≠ 0) : qdf rec c = (c, N0) := by
  rw [qdf, if_neg (by rw [qrp h]; simp), qf8 h]
theorem qjq {rec : K → K × N} {c : K} (h : c.err ≠ 0) (f : Nat) (n : N) : qfl rec f c n = (c, n) := by
  cases f with
  | zero => rfl
  | succ f => rw [qfl, if_neg (by rw [qrp h]; simp)]
theorem qol {c : K} (h : c.err ≠ 0) (f : Nat) (acc : List T) : qdm f c acc = (c, acc) := by
  cases f with
  | zero => rfl
  | succ f => rw [qdm, qfo h, if_neg (by decide)]
theorem q4h {c : K} {k : Int} (h : c.err ≠ 0) : qbp c k = (c, false) := by rw [qre h, qf8 h]
theorem qkt : ∀ (f : Nat) (c : K) (acc : List T), qdm f c acc = ((qdm f c []).1, acc ++ (qdm f c []).2)
  | 0, c, acc => by simp [qdm]
  | f + 1, c, acc => by
    rw [qdm, qdm]
    split
    · rw [qkt f _ (acc ++ [qbd c]), qkt f _ ([] ++ [qbd c])]
      simp
    · simp
section
variable {rp : K → K × Option N} {rr : K → K × N} {b : Nat} (hx : ∀ c : K, c.err ≠ 0 → (rr c).1 = c) (ih : ∀ c, NoEnd c → em c < b → qed (rp c) (rr c))
include hx ih
theorem qoq {c : K} (hn : NoEnd c) (hr : em c ≤ b) : qed (qbl rp c) (qdf rr c) := by
  unfold qbl qdf
  by_cases hl : (qiu c).isSome = true
  · have hk : ¬ isK c [40] = true := by
      intro h
      obtain ⟨n, hn⟩ := Option.isSome_iff_exists.1 hl
      simp only [isK, qiv, Bool.and_eq_true, Bool.or_eq_true, decide_eq_true_eq] at h
      unfold qiu at hn
      rw [if_neg (by omega), if_neg (by omega), if_neg (by omega)] at hn
      cases hn
    rw [if_pos hl, if_pos (show begE c = true by simp [begE, hl]), if_neg hk]
    exact ⟨rfl, fun n h => by simp only at h ⊢; rw [h]; rfl, fun h => by simp only at h; rw [h] at hl; cases hl⟩
  · rw [if_neg hl]
    by_cases hk : isK c [40] = true
    · rw [if_pos hk, if_pos (show begE c = true by simp [begE, hk]), if_pos hk]
      have hem := qez hk
      by_cases he : (qj c).2 = true
      · rw [if_pos he]
        have hk' : isK (qj c).1 [40] = true := by rw [qm5 he]; exact hk
        rw [qnm hk'] at hem ⊢
        simp only at hem ⊢
        obtain ⟨a1, a2, a3⟩ := ih (q9 (qj c).1) (hn.mon ((qx c).trans (qbs _))) (by omega)
        rw [← a1]
        generalize rp (q9 (qj c).1) = r at *
        obtain ⟨d, o⟩ := r
        simp only at a1 a2 a3 ⊢
        cases o with
        | none =>
          have h3 := a3 rfl
          rw [if_neg (by simp), qb8 h3, qcl h3]
          exact ⟨rfl, (fun n h => by cases h), fun _ => h3⟩
        | some n =>
          rw [if_pos (by rfl)]
          by_cases hw : (qv d [41]).2 = true
          · rw [if_pos hw]
            exact ⟨rfl, fun m h => a2 m h, (fun h => by cases h)⟩
          · rw [if_neg hw]
            have h3 := qec (by simpa using hw)
            exact ⟨(qcl h3).symm, (fun n h => by cases h), fun _ => h3⟩
      · have he' : (qj c).2 = false := by simpa using he
        have h1 := qf9 he'
        rw [if_neg he]
        rw [qb8 h1] at hem ⊢
        simp only at hem ⊢
        rw [hx _ h1, qb8 h1, qcl h1]
        exact ⟨rfl, (fun n h => by cases h), fun _ => h1⟩
    · rw [if_neg hk, if_neg (show ¬ begE c = true by simp [begE, hl, hk])]
      exact ⟨rfl, (fun n h => by cases h), fun _ => qhf c⟩
theorem qo6 (hp : ∀ c, Mon c (rp c).1) (hm : ∀ c, Mon c (rr c).1) : ∀ (f g : Nat) (c : K) (n : N), NoEnd c → rest c < f → em c < g → em c ≤ b → qed (toO (qfj rp f c n)) (qfl rr g c n)
  | 0, _, _, _ => fun _ h _ _ => by omega
  | _, 0, _, _ => fun _ _ h _ => by omega
  | f + 1, g + 1, c, n => fun hn hf hg hb => by
    rw [qfj, qfl]
    by_cases hk : begE c = true
    · rw [if_pos hk, if_pos hk]
      have ha := qoq hx ih hn hb
      have hl := qlo hm hk
      have hml := qc7 hp c
      by_cases hs : (qbl rp c).2.isSome = true
      · rw [if_pos hs, qin ha hs, ← ha.1]
        have hlt := qi6 hp hs
        rw [← ha.1] at hl
        exact qo6 hp hm f g _ _ (hn.mon hml) (by omega) (by omega) (by omega)
      · rw [if_neg hs]
        have h3 := qh8 ha hs
        rw [qjq (by rw [← ha.1]; exact h3)]
        exact qev ha.1 (fun h => by cases h) (fun _ => h3)
    · rw [if_neg hk, if_neg hk]
      exact qev rfl (fun _ => rfl) (fun h => by cases h)
theorem qzm (hp : ∀ c, Mon c (rp c).1) (hm : ∀ c, Mon c (rr c).1) {c : K} (hn : NoEnd c) (hr : em c ≤ b) : qed (toO (qg7 rp c)) (ql7 rr c) := by
  unfold qg7 ql7
  have ha := qoq hx ih hn hr
  have hml := qc7 hp c
  have hme := (qef hm c).em
  by_cases hs : (qbl rp c).2.isSome = true
  · rw [if_pos hs, qin ha hs, ← ha.1]
    rw [← ha.1] at hme
    exact qo6 hx ih hp hm _ _ _ _ (hn.mon hml) (Nat.lt_succ_self _) (Nat.lt_succ_self _) (by omega)
  · rw [if_neg hs]
    have h3 := qh8 ha hs
    rw [qjq (by rw [← ha.1]; exact h3)]
    exact qev ha.1 (fun h => by cases h) (fun _ => h3)
theorem qkk (x : List UInt8) : ∀ (f g : Nat) (c : K), NoEnd c → rest c < f → em c < g → em c < b → qed (toO (qcj rp x f c)) (qu2 rr x (qdm g c []))
  | 0, _, _ => fun _ h _ _ => by omega
  | _, 0, _ => fun _ _ h _ => by omega
  | f + 1, g + 1, c => fun hn hf hg hb => by
    rw [qcj, qdm]
    by_cases hk : (qbd c).kind = 1
    · rw [if_pos hk, if_pos hk, qkt]
      have h1 := qbo (c := c) (by omega)
      have h2 := qiy (c := c) (by omega)
      have ha := qkk x f g (q9 c) (hn.mon (qbs c)) (by omega) (by omega) (by omega)
      refine qev (show (qcj rp x f (q9 c)).1 = (qu2 rr x (qdm g (q9 c) [])).1 from qnn ha) (fun h => ?_) (fun h => qxh (p := qcj rp x f (q9 c)) ha h)
      simp only
      rw [qxu (p := qcj rp x f (q9 c)) ha h]
      rfl
    · rw [if_neg hk, if_neg hk]
      have hw := (qq c x).em
      unfold qu2
      simp only [qwt, List.foldr_nil]
      by_cases hs : (qv c x).2 = true
      · rw [if_pos hs, qbdi]
        exact ih _ (hn.mon (qq c x)) (by omega)
      · rw [if_neg hs]
        have h3 := qec (c := c) (x := x) (by simpa using hs)
        exact qev (hx _ h3).symm (fun h => by cases h) (fun _ => h3)
theorem qwz {c : K} (hn : NoEnd c) (hr : em c < b) : qed (qcd rp c) (qdy rr c) := by
  have hk1 := qcx c 1
  have e1 := hk1.em
  unfold qcd qdy
  by_cases hk : (qbp c 1).2 = true
  · rw [if_pos hk]
    by_cases ht : (qt (qbp c 1).1 [58, 58]).2 = true
    · rw [if_pos ht, if_pos ht]
      have hem := qji (qt (qbp c 1).1 [58, 58]).1
      have ha := qy0 (rest (qt (qbp c 1).1 [58, 58]).1 + 2) (qt (qbp c 1).1 [58, 58]).1 (hn.mon (hk1.trans (q8 _ _))) (by omega)
      refine ⟨ha.1, fun n h => ?_, fun h => ha.2.2 (by simpa using h)⟩
      obtain ⟨q, hq, rfl⟩ := Option.map_eq_some_iff.1 h
      rw [ha.2.1 q hq]
    · rw [if_neg ht, if_neg ht]
      have ha := qkk hx ih [61] (rest (qbp c 1).1 + 1) (em (qbp c 1).1 + 1) (qbp c 1).1 (hn.mon hk1) (Nat.lt_succ_self _) (Nat.lt_succ_self _) (by omega)
      refine ⟨ha.1, fun n h => ?_, fun h => ha.2.2 (by simpa using h)⟩
      obtain ⟨q, hq, rfl⟩ := Option.map_eq_some_iff.1 h
      exact congrArg _ (ha.2.1 q hq)
  · rw [if_neg hk]
    have h3 := qyf (c := c) (k := 1) (by simpa using hk)
    rw [qft h3, if_neg (by simp)]
    unfold qgk qdk qu2
    rw [qol h3]
    simp only
    rw [qb8 h3, hx _ h3]
    exact ⟨rfl, (fun n h => by cases h), fun _ => h3⟩
omit ih in
theorem quk {c : K} (h : c.err ≠ 0) : (qdy rr c).1 = c := by
  unfold qdy qgk qdk qu2
  rw [q4h h, qft h, if_neg (by simp), qol h]
  simp only
  rw [qb8 h, hx _ h]
end
/-- Rows in braces. -/
theorem qo9 {rp : K → R3} {rr : K → K × N} {b : Nat} (hp : ∀ c, Mon c (rp c).1) (hm : ∀ c, Mon c (rr c).1) (hl : ∀ c, (rp c).2.2 = true → rest (rp c).1 < rest c) (ih : ∀ c, NoEnd c → em c < b → qed (toO (rp c)) (rr c)) :
    ∀ (f g : Nat) (c : K) (acc : List N), NoEnd c → rest c < f → em c < g → em c < b →
      (qb7 rp f c acc).1 = (qv (qcv rr g c acc).1 [125]).1 ∧ ((qb7 rp f c acc).2.2 = true → (qb7 rp f c acc).2.1 = (qcv rr g c acc).2) ∧ ((qb7 rp f c acc).2.2 = false → (qb7 rp f c acc).1.err ≠ 0)
  | 0, _, _, _ => fun _ h _ _ => by omega
  | _, 0, _, _ => fun _ _ h _ => by omega
  | f + 1, g + 1, c, acc => fun hn hf hg hb => by
    rw [qb7, qcv]
    have ha := ih c hn hb
    have e1 := (hm c).em
    have hmo : qdn (rp c).1 = ((qt (rp c).1 [59]).1, (qt (rp c).1 [59]).2 && !isK (qt (rp c).1 [59]).1 [125]) := rfl
    by_cases hs : (rp c).2.2 = true
    · rw [if_pos hs, qxu ha hs, ← qnn ha, hmo]
      by_cases ht : ((qt (rp c).1 [59]).2 && !isK (qt (rp c).1 [59]).1 [125]) = true
      · rw [if_pos ht, if_pos ht]
        have h1 := hl c hs
        have h2 := (q8 (rp c).1 [59]).2.1
        have h3 : em (qt (rp c).1 [59]).1 < em (rp c).1 := qow (c := (rp c).1) ht
        have h4 := (hp c).em
        exact qo9 hp hm hl ih f g _ _ (hn.mon ((hp c).trans (q8 _ _))) (by omega) (by omega) (by omega)
      · rw [if_neg ht, if_neg ht]
        refine ⟨rfl, fun _ => rfl, fun h => qec h⟩
    · rw [if_neg hs]
      have h3 := qxh ha (by simpa using hs)
      rw [← qnn ha]
      unfold qdn
      rw [qft h3, Bool.false_and, if_neg (by simp)]
      simp only
      rw [qb8 h3]
      exact ⟨rfl, (fun h => by cases h), fun _ => h3⟩
theorem qqq {rp : K → R3} {rr : K → K × N} {b : Nat} (hp : ∀ c, Mon c (rp c).1) (hm : ∀ c, Mon c (rr c).1) (hl : ∀ c, (rp c).2.2 = true → rest (rp c).1 < rest c) (hx : ∀ c : K, c.err ≠ 0 → (rr c).1 = c) (ih : ∀ c, NoEnd c → em c < b → qed (toO (rp c)) (rr c))
    {c : K} (hn : NoEnd c) (hr : em c < b) : (qbr rp c).1 = (qv (qf6 rr (qv c [123]).1).1 [125]).1 ∧ ((qbr rp c).2.2 = true → (qbr rp c).2.1 = (qf6 rr (qv c [123]).1).2) ∧ ((qbr rp c).2.2 = false → (qbr rp c).1.err ≠ 0) := by
  unfold qbr qf6
  have e1 := (qq c [123]).em
  by_cases hs : (qv c [123]).2 = true
  · rw [if_pos hs]
    exact qo9 hp hm hl ih _ _ _ _ (hn.mon (qq c _)) (Nat.lt_succ_self _) (by omega) (by omega)
  · rw [if_neg hs]
    have h3 := qec (c := c) (x := [123]) (by simpa using hs)
    have h4 : (qcv rr (em (qv c [123]).1 + 2) (qv c [123]).1 []).1 = (qv c [123]).1 := by
      rw [qcv]
      unfold qdn
      rw [hx _ h3, qft h3, Bool.false_and, if_neg (by simp)]
    rw [h4, qb8 h3]
    exact ⟨rfl, (fun h => by cases h), fun _ => h3⟩
section
variable {rp : K → K × Option N} {rr : K → K × N} {b : Nat} (hx : ∀ c : K, c.err ≠ 0 → (rr c).1 = c) (ih : ∀ c, NoEnd c → em c < b → qed (rp c) (rr c)) (hp : ∀ c, Mon c (rp c).1) (hm : ∀ c, Mon c (rr c).1)
include hx ih hp hm
theorem q0m (p : Int) {c : K} (hn : NoEnd c) (hr : em c < b) : qed (toO (qhz rp p c)) (qkg rr p c) := by
  have hl := qqq (b := b) (rp := fun c => ofO (qcd rp c)) (rr := qdy rr) (fun c => qfu hp c) (qjh hm) (fun c h => qmg hp h) (fun c h => quk hx h) (fun c h1 h2 => by rw [qbdi]; exact qwz hx ih h1 h2) hn hr
  have hml := qf2 (rd := fun c => ofO (qcd rp c)) (fun c => qfu hp c) c
  unfold qhz qkg letB letC qwo
  generalize qbr (fun c => ofO (qcd rp c)) c = L at *
  obtain ⟨d, l, ok⟩ := L
  simp only at hl hml ⊢
  rw [← hl.1]
  have e1 := hml.em
  have e2 := (qq d [105, 110]).em
  cases ok with
  | false =>
    have h3 := hl.2.2 rfl
    rw [if_neg (by simp), qb8 h3, hx _ h3]
    exact qev rfl (fun h => by cases h) (fun _ => h3)
  | true =>
    rw [if_pos rfl, hl.2.1 rfl]
    by_cases hw : (qv d [105, 110]).2 = true
    · rw [if_pos hw]
      have ha := ih (qv d [105, 110]).1 (hn.mon (hml.trans (qq _ _))) (by omega)
      refine qev ha.1 (fun h => ?_) (fun h => qh8 ha (by simpa using h))
      simp only
      rw [qin ha h]
    · rw [if_neg hw]
      have h3 := qec (c := d) (x := [105, 110]) (by simpa using hw)
      exact qev (hx _ h3).symm (fun h => by cases h) (fun _ => h3)
omit hp hm in
theorem qyq {c : K} (hn : NoEnd c) (hr : em c < b) : qed (toO (qeu rp c)) (qfy rr c) := by
  have hpa := qxe (rest c + 2) c (by have := qji c; omega)
  have hmp := qek (rest c + 2) c
  unfold qeu qfy altB altC qry
  generalize qcu (rest c + 2) c = q at *
  have e1 := hmp.em
  have e2 := (qq q.1 [45, 62]).em
  rw [← hpa.1]
  by_cases hs : q.2.isSome = true
  · rw [if_pos hs, qin hpa hs]
    by_cases hw : (qv q.1 [45, 62]).2 = true
    · rw [if_pos hw]
      have ha := ih (qv q.1 [45, 62]).1 (hn.mon (hmp.trans (qq _ _))) (by omega)
      refine qev ha.1 (fun h => ?_) (fun h => qh8 ha (by simpa using h))
      simp only
      rw [qin ha h]
    · rw [if_neg hw]
      have h3 := qec (c := q.1) (x := [45, 62]) (by simpa using hw)
      exact qev (hx _ h3).symm (fun h => by cases h) (fun _ => h3)
  · rw [if_neg hs]
    have h3 := qh8 hpa hs
    rw [qb8 h3, hx _ h3]
    exact qev rfl (fun h => by cases h) (fun _ => h3)
omit ih hp hm in
theorem qpa {c : K} (h : c.err ≠ 0) : (qfy rr c).1 = c := by
  unfold qfy qry
  rw [qua _ h]
  simp only
  rw [qb8 h, hx _ h]
theorem qvt (p : Int) {c : K} (hn : NoEnd c) (hr : em c < b) : qed (toO (qf0 rp p c)) (qim rr p c) := by
  have hc := ih c hn hr
  have hmc := hp c
  unfold qf0 qim qzx qy5 qrx
  generalize rp c = q at *
  have e1 := hmc.em
  have e2 := (qq q.1 [111, 102]).em
  rw [← hc.1]
  have herr : ∀ d : K, d.err ≠ 0 → (qv (qf6 (qfy rr) (qv (qv d [111, 102]).1 [123]).1).1 [125]).1 = d := fun d h3 => by
    have h4 : (qf6 (qfy rr) d).1 = d := by
      unfold qf6
      rw [qcv]
      unfold qdn
      rw [qpa hx h3, qft h3, Bool.false_and, if_neg (by simp)]
    rw [qb8 h3, qb8 h3, h4, qb8 h3]
  by_cases hs : q.2.isSome = true
  · rw [if_pos hs, qin hc hs]
    by_cases hw : (qv q.1 [111, 102]).2 = true
    · rw [if_pos hw]
      have hl := qqq (b := b) (rp := qeu rp) (rr := qfy rr) (fun c => qj1 hp c) (qkm hm) (fun c h => qof hp h) (fun c h => qpa hx h) (fun c h1 h2 => qyq hx ih h1 h2) (hn.mon (hmc.trans (qq q.1 [111, 102]))) (by omega)
      exact qev hl.1 (fun h => by simp only; rw [hl.2.1 h]) (fun h => hl.2.2 h)
    · rw [if_neg hw]
      have h3 := qec (c := q.1) (x := [111, 102]) (by simpa using hw)
      refine qev ?_ (fun h => by cases h) (fun _ => h3)
      have := herr _ h3
      rw [qb8 h3] at this
      exact this.symm
  · rw [if_neg hs]
    have h3 := qh8 hc hs
    exact qev (herr _ h3).symm (fun h => by cases h) (fun _ => h3)
omit hm in
theorem q0g (p : Int) {c : K} (hn : NoEnd c) (hr : em c < b) : qed (toO (qea rp p ifsW c [])) (qku rr p c) := by
  have h1 := ih c hn hr
  have m1 := hp c
  unfold ifsW qku q4m
  rw [qea, show ifsK c [] = (c, true) from rfl, if_pos rfl]
  simp only
  generalize rp c = q1 at *
  have e1 := m1.em
  have e2 := (qq q1.1 [116, 104, 101, 110]).em
  rw [← h1.1]
  have herr2 : ∀ (d : K) (a bb : K × N), d.err ≠ 0 → bb.1 = d → (qp5 rr p a bb).1 = d := fun d a bb h3 hb => by
    unfold qp5 qx1
    simp only
    rw [hb, qb8 h3, hx _ h3]
  have herr1 : ∀ (d : K) (a : K × N), d.err ≠ 0 → (qp5 rr p a (rr (qv d [116, 104, 101, 110]).1)).1 = d := fun d a h3 => herr2 d a _ h3 (by rw [qb8 h3, hx _ h3])
  by_cases s1 : q1.2.isSome = true
  · rw [if_pos s1, qin h1 s1]
    rw [qea, show ifsK q1.1 [116, 104, 101, 110] = qv q1.1 [116, 104, 101, 110] from if_neg (by simp)]
    by_cases w2 : (qv q1.1 [116, 104, 101, 110]).2 = true
    · rw [if_pos w2]
      have h2 := ih (qv q1.1 [116, 104, 101, 110]).1 (hn.mon (m1.trans (qq _ _))) (by omega)
      have m2 := hp (qv q1.1 [116, 104, 101, 110]).1
      generalize rp (qv q1.1 [116, 104, 101, 110]).1 = q2 at *
      have e3 := m2.em
      have e4 := (qq q2.1 [101, 108, 115, 101]).em
      by_cases s2 : q2.2.isSome = true
      · rw [if_pos s2, qin h2 s2]
        rw [qea, show ifsK q2.1 [101, 108, 115, 101] = qv q2.1 [101, 108, 115, 101] from if_neg (by simp)]
        unfold qp5 qx1
        rw [← h2.1]
        by_cases w3 : (qv q2.1 [101, 108, 115, 101]).2 = true
        · rw [if_pos w3]
          have h4 := ih (qv q2.1 [101, 108, 115, 101]).1 (hn.mon (((m1.trans (qq _ _)).trans m2).trans (qq _ _))) (by omega)
          generalize rp (qv q2.1 [101, 108, 115, 101]).1 = q3 at *
          by_cases s3 : q3.2.isSome = true
          · rw [if_pos s3, qin h4 s3, qea]
            exact qev h4.1 (fun _ => rfl) (fun h => by cases h)
          · rw [if_neg s3]
            exact qev h4.1 (fun h => by cases h) (fun _ => qh8 h4 s3)
        · rw [if_neg w3]
          have h3 := qec (c := q2.1) (x := [101, 108, 115, 101]) (by simpa using w3)
          exact qev (hx _ h3).symm (fun h => by cases h) (fun _ => h3)
      · rw [if_neg s2]
        have h3 := qh8 h2 s2
        exact qev (herr2 _ _ _ h3 h2.1.symm).symm (fun h => by cases h) (fun _ => h3)
    · rw [if_neg w2]
      have h3 := qec (c := q1.1) (x := [116, 104, 101, 110]) (by simpa using w2)
      exact qev (herr2 _ _ _ h3 (hx _ h3)).symm (fun h => by cases h) (fun _ => h3)
  · rw [if_neg s1]
    have h3 := qh8 h1 s1
    exact qev (herr1 _ _ h3).symm (fun h => by cases h) (fun _ => h3)
theorem qv1 {c : K} (hn : NoEnd c) (hr : em c ≤ b) : qed (toO (qeg rp c)) (qey rr c) := by
  unfold qeg qey
  by_cases t1 : (qt c [92]).2 = true
  · rw [if_pos t1, if_pos t1]
    have e1 := qee t1
    unfold qkh
    by_cases hk : (qbd (qt c [92]).1).kind = 1
    · rw [if_pos hk, if_pos hk]
      exact qkk hx ih _ _ _ _ (hn.mon (q8 _ _)) (Nat.lt_succ_self _) (Nat.lt_succ_self _) (by omega)
    · rw [if_neg hk, if_neg hk]
      exact qev rfl (fun h => by cases h) (fun _ => qhf _)
  · rw [if_neg t1, if_neg t1]
    by_cases t2 : (qt c [108, 101, 116]).2 = true
    · rw [if_pos t2, if_pos t2]
      have e1 := qee t2
      exact q0m hx ih hp hm _ (hn.mon (q8 _ _)) (by omega)
    · rw [if_neg t2, if_neg t2]
      by_cases t3 : (qt c [99, 97, 115, 101]).2 = true
      · rw [if_pos t3, if_pos t3]
        have e1 := qee t3
        exact qvt hx ih hp hm _ (hn.mon (q8 _ _)) (by omega)
      · rw [if_neg t3, if_neg t3]
        by_cases t4 : (qt c [105, 102]).2 = true
        · rw [if_pos t4, if_pos t4]
          have e1 := qee t4
          exact q0g hx ih hp _ (hn.mon (q8 _ _)) (by omega)
        · rw [if_neg t4, if_neg t4]
          exact qzm hx ih hp hm hn hr
end
theorem qmu {rr : K → K × N} {c : K} (h : c.err ≠ 0) : (qey rr c).1 = c := by
  unfold qey
  rw [qft h, qft h, qft h, qft h]
  simp only [Bool.false_eq_true, if_false]
  unfold ql7
  rw [qsw h, qjq h]
theorem qy6 (f : Nat) {c : K} (h : c.err ≠ 0) : (qgi f c).1 = c := by
  cases f with
  | zero => rfl
  | succ f =>
    rw [qgi, qh0 h]
    simp only
    rw [qmu h, qcl h]
theorem qoe : ∀ (f : Nat) (c : K), NoEnd c → em c < f → qed (qgf f c) (qgi f c)
  | 0, _ => fun _ h => by omega
  | f + 1, c => fun hn hf => by
    have hx : ∀ c : K, c.err ≠ 0 → (qgi f c).1 = c := fun c h => qy6 f h
    have e1 := (qx c).em
    rw [qgf, qgi]
    by_cases he : (qj c).2 = true
    · rw [if_pos he]
      have ha := qv1 hx (qoe f) (qjk f) (ql5 f) (c := (qj c).1) (hn.mon (qx c)) (by omega)
      refine ⟨?_, ha.2.1, fun h => ?_⟩
      · simp only
        rw [← qnn ha]
      · have h3 : (qeg (qgf f) (qj c).1).1.err ≠ 0 := ha.2.2 h
        simp only
        rw [qcl h3]
        exact h3
    · rw [if_neg he]
      have h3 := qf9 (c := c) (by simpa using he)
      refine ⟨?_, (fun n h => by cases h), fun _ => h3⟩
      simp only
      rw [qmu h3, qcl h3]
end Go.Proofs.YtmekebfgmjaenaaGreat
