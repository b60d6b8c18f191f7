/- Texts of this proof, joined. -/
import Derived.Test.YtmekebfgmjaenaaGreatAbe
import Derived.Test.YtmekebfgmjaenaaGreatAbf

/- expressions: the program: of a text -/
set_option maxRecDepth 4000
namespace Go.Proofs.YtmekebfgmjaenaaGreat
open Go Go.RowKit Go.V
set_option linter.unusedVariables false
set_option linter.unusedSimpArgs false

theorem qud {f : Nat} (ih : ∀ c, c.good → rest c < f → qco Tryz.prog 10 (curE c) (curE (qfx f c).1) [.ptr 0 0] (resP (qfx f c).2)) (c : K) (hg : c.good) (hr : rest c < f + 1) :
    qco Tryz.prog 10 (curE c) (curE (qfx (f + 1) c).1) [.ptr 0 0] (resP (qfx (f + 1) c).2) := by
  have hm := qhi f
  have g1 : (qh c).1.good := (qy c).1 hg
  have hr1 : rest (qh c).1 ≤ f := by have := (qy c).2.1; omega
  have ho := q6t hm ih _ g1 hr1
  have g2 := (qmn hm (qh c).1).1 g1
  refine qbd c0o 1 (by simp) (by simp) ?_
  rw [qfx]
  generalize qej (qfx f) (qh c).1 = r at *
  obtain ⟨d, n, ok⟩ := r
  simp only [toO] at ho g2 ⊢
  by_cases hk : (qh c).2 = true
  · rw [if_pos hk]
    cases ok with
    | false =>
      repeat' (first | refine ql ?_ | ((first | refine qn ?_ | refine qm ?_ | refine qj ?_ | refine qi ?_); simp (disch := first | omega | (simp only [List.length_set, List.length_append, List.length_cons, List.length_nil]; done) | (simp only [List.length_set, List.length_append, List.length_cons, List.length_nil]; omega)) only [hk, go_sem, ↓reduceIte, Nat.reduceEqDiff, Nat.reduceAdd, Nat.reduceSub, Nat.reduceMul, Nat.reduceLT, Nat.reduceLeDiff, reduceCtorEq, Int.reduceToNat]) | ((first | refine qf ?_ ?_ | refine qd ?_ ?_) <;> intro hc <;> simp only [hc, go_sem, ↓reduceIte, Nat.reduceEqDiff, Nat.reduceAdd, Nat.reduceSub, Nat.reduceMul, Nat.reduceLT, Nat.reduceLeDiff, reduceCtorEq, Int.reduceToNat] <;> (try simp only [qb, qa, decide_eq_true_eq, decide_eq_false_iff_not, Bool.and_eq_true] at hc)) | refine And.intro (by first | assumption | omega | (have := qg (by assumption); omega) | (unfold qq; omega)) ?_ | fail | ((first | refine qg9 ?_ | refine qn7 ho rfl ?_ | refine qfs g2.2.2 ?_); simp only [go_sem, ↓reduceIte, Nat.reduceEqDiff, Nat.reduceAdd, Nat.reduceSub, Nat.reduceMul, Nat.reduceLT, Nat.reduceLeDiff, reduceCtorEq, Int.reduceToNat]))
      all_goals first | (rw [qd7]; done) | (rw [qd7]; rfl) | (rw [qd7]; exact ⟨rfl, rfl⟩)
    | true =>
      repeat' (first | refine ql ?_ | ((first | refine qn ?_ | refine qm ?_ | refine qj ?_ | refine qi ?_); simp (disch := first | omega | (simp only [List.length_set, List.length_append, List.length_cons, List.length_nil]; done) | (simp only [List.length_set, List.length_append, List.length_cons, List.length_nil]; omega)) only [hk, go_sem, ↓reduceIte, Nat.reduceEqDiff, Nat.reduceAdd, Nat.reduceSub, Nat.reduceMul, Nat.reduceLT, Nat.reduceLeDiff, reduceCtorEq, Int.reduceToNat]) | ((first | refine qf ?_ ?_ | refine qd ?_ ?_) <;> intro hc <;> simp only [hc, go_sem, ↓reduceIte, Nat.reduceEqDiff, Nat.reduceAdd, Nat.reduceSub, Nat.reduceMul, Nat.reduceLT, Nat.reduceLeDiff, reduceCtorEq, Int.reduceToNat] <;> (try simp only [qb, qa, decide_eq_true_eq, decide_eq_false_iff_not, Bool.and_eq_true] at hc)) | refine And.intro (by first | assumption | omega | (have := qg (by assumption); omega) | (unfold qq; omega)) ?_ | fail | ((first | refine qg9 ?_ | refine qn7 ho rfl ?_ | refine qfs g2.2.2 ?_); simp only [go_sem, ↓reduceIte, Nat.reduceEqDiff, Nat.reduceAdd, Nat.reduceSub, Nat.reduceMul, Nat.reduceLT, Nat.reduceLeDiff, reduceCtorEq, Int.reduceToNat]))
      all_goals first | rfl | exact ⟨rfl, rfl⟩
  · rw [if_neg hk]
    repeat' (first | refine ql ?_ | ((first | refine qn ?_ | refine qm ?_ | refine qj ?_ | refine qi ?_); simp (disch := first | omega | (simp only [List.length_set, List.length_append, List.length_cons, List.length_nil]; done) | (simp only [List.length_set, List.length_append, List.length_cons, List.length_nil]; omega)) only [hk, go_sem, ↓reduceIte, Nat.reduceEqDiff, Nat.reduceAdd, Nat.reduceSub, Nat.reduceMul, Nat.reduceLT, Nat.reduceLeDiff, reduceCtorEq, Int.reduceToNat]) | ((first | refine qf ?_ ?_ | refine qd ?_ ?_) <;> intro hc <;> simp only [hc, go_sem, ↓reduceIte, Nat.reduceEqDiff, Nat.reduceAdd, Nat.reduceSub, Nat.reduceMul, Nat.reduceLT, Nat.reduceLeDiff, reduceCtorEq, Int.reduceToNat] <;> (try simp only [qb, qa, decide_eq_true_eq, decide_eq_false_iff_not, Bool.and_eq_true] at hc)) | refine And.intro (by first | assumption | omega | (have := qg (by assumption); omega) | (unfold qq; omega)) ?_ | fail | ((first | refine qg9 ?_); simp only [go_sem, ↓reduceIte, Nat.reduceEqDiff, Nat.reduceAdd, Nat.reduceSub, Nat.reduceMul, Nat.reduceLT, Nat.reduceLeDiff, reduceCtorEq, Int.reduceToNat]))
    all_goals first | (rw [qd7]; done) | (rw [qd7]; rfl) | (rw [qd7]; exact ⟨rfl, rfl⟩)
theorem qz8 (f : Nat) : ∀ c : K, c.good → rest c < f → qco Tryz.prog 10 (curE c) (curE (qfx f c).1) [.ptr 0 0] (resP (qfx f c).2) := by
  induction f with
  | zero => exact fun c _ h => absurd h (by omega)
  | succ f ih => exact qud ih

/-! The size of what is read. -/
theorem qs2 {k p m : Int} {t : List UInt8} {l : List N} : sz (.mk k p m t l) = szs l + 1 := by rw [qjc]; rfl
theorem q58 {c : K} {n : N} (h : qjd c = some n) : sz n = 1 := by
  unfold qjd qh4 at h
  repeat' split at h
  all_goals first | (cases h; rw [qjc]; rfl) | cases h
def SzO (c : K) (r : K × Option N) : Prop := ∀ n, r.2 = some n → sz n + 1 + 2 * rest r.1 ≤ 2 * rest c
def SzB (c : K) (r : R3) : Prop := r.2.2 = true → sz r.2.1 + 1 + 2 * rest r.1 ≤ 2 * rest c
theorem qg4 {c : K} {r : K × Option N} (h : SzO c r) (hs : r.2.isSome = true) : sz (r.2.getD N0) + 1 + 2 * rest r.1 ≤ 2 * rest c := by
  obtain ⟨n, hn⟩ := Option.isSome_iff_exists.1 hs
  have := h n hn
  rw [hn]
  exact this
section
variable {rec : K → K × Option N} (ih : ∀ c, SzO c (rec c))
include ih
theorem qvh (c : K) : SzO c (qbl rec c) := by
  intro n h
  unfold qbl at h ⊢
  split at h
  · rename_i h1
    rw [if_pos h1]
    have := qbj (qi4 h1)
    have := q58 h
    simp only; omega
  · rename_i h1
    rw [if_neg h1]
    split at h
    · rename_i h2
      rw [if_pos h2]
      split at h
      · rename_i h3
        rw [if_pos h3]
        have hp := qbj (c := (qh c).1) (by rw [qeg h3]; exact qdn h2)
        have h0 := (qy c).2.1
        split at h
        · rename_i h4
          rw [if_pos h4]
          split at h
          · rename_i h5
            rw [if_pos h5]
            have h6 := ih _ _ h
            have h7 := (qp (rec (q8 (qh c).1)).1 [41]).2.1
            have h8 := (qbv (qu (rec (q8 (qh c).1)).1 [41]).1).2.1
            simp only at h6 ⊢; omega
          · cases h
        · cases h
      · cases h
    · cases h
theorem qwa : ∀ (f : Nat) (c d : K) (n : N), sz n + 1 + 2 * rest d ≤ 2 * rest c → SzB c (qfm rec f d n)
  | 0, c, d, n => fun h0 h => by cases h
  | f + 1, c, d, n => fun h0 h => by
    rw [qfm] at h ⊢
    split at h
    · rename_i h1
      rw [if_pos h1]
      split at h
      · rename_i h2
        rw [if_pos h2]
        have h3 := qg4 (qvh ih d) h2
        refine qwa f c _ _ ?_ h
        rw [appN, qs2]
        simp only [szs]; omega
      · cases h
    · rename_i h1
      rw [if_neg h1]
      exact h0
theorem qbfc (c : K) : SzB c (qg2 rec c) := by
  intro h
  unfold qg2 at h ⊢
  split at h
  · rename_i h1
    rw [if_pos h1]
    exact qwa ih _ _ _ _ (qg4 (qvh ih c) h1) h
  · cases h
theorem qre (x : List UInt8) : ∀ (f : Nat) (c : K), SzB c (qci rec x f c)
  | 0, c => fun h => by cases h
  | f + 1, c => fun h => by
    rw [qci] at h ⊢
    split at h
    · rename_i h1
      rw [if_pos h1]
      have h2 := qre x f (q8 c) h
      have h3 := qbj (c := c) (by omega)
      simp only
      rw [lamN, qs2]
      simp only [szs]; omega
    · rename_i h1
      rw [if_neg h1]
      split at h
      · rename_i h2
        rw [if_pos h2]
        have h3 := qg4 (ih (qu c x).1) h
        have h4 := (qp c x).2.1
        simp only [ofO]; omega
      · cases h
theorem q9k (c : K) : SzO c (qcj rec c) := by
  intro n h
  unfold qcj at h ⊢
  split at h
  · rename_i h1
    rw [if_pos h1]
    have h2 := qsc h1
    split at h
    · rename_i h3
      rw [if_pos h3]
      obtain ⟨m, hm, rfl⟩ := Option.map_eq_some_iff.1 h
      have h4 := qwy hm
      have h5 := qea h3
      have h6 := (qjm (rest (qr (qbk c 1).1 [58, 58]).1 + 2) (qr (qbk c 1).1 [58, 58]).1).2.1
      rw [qro, qs2]
      simp only [szs]; omega
    · rename_i h3
      rw [if_neg h3]
      obtain ⟨m, hm, rfl⟩ := Option.map_eq_some_iff.1 h
      unfold toO at hm
      simp only at hm
      split at hm
      · rename_i h4
        cases hm
        have h5 := qre ih _ _ _ h4
        rw [qro, qs2]
        simp only [szs]; omega
      · cases hm
  · cases h
omit ih in
theorem qs6 {rd : K → R3} (hd : ∀ c, SzB c (rd c)) : ∀ (f : Nat) (c d : K) (acc : List N), szs acc + 2 * rest d ≤ 2 * rest c → (qb4 rd f d acc).2.2 = true → szs (qb4 rd f d acc).2.1 + 2 * rest (qb4 rd f d acc).1 ≤ 2 * rest c
  | 0, c, d, acc => fun h0 h => by cases h
  | f + 1, c, d, acc => fun h0 h => by
    rw [qb4] at h ⊢
    split at h
    · rename_i h1
      rw [if_pos h1]
      have h2 := hd d h1
      have h3 := (qbb (rd d).1 [59]).2.1
      split at h
      · rename_i h4
        rw [if_pos h4]
        refine qs6 hd f c _ _ ?_ h
        rw [qhc]
        simp only [szs]; omega
      · rename_i h4
        rw [if_neg h4]
        have h5 := (qp (qr (rd d).1 [59]).1 [125]).2.1
        simp only
        rw [qhc]
        simp only [szs]; omega
    · cases h
omit ih in
theorem qwh {rd : K → R3} (hd : ∀ c, SzB c (rd c)) (c : K) (h : (qbn rd c).2.2 = true) : szs (qbn rd c).2.1 + 2 * rest (qbn rd c).1 ≤ 2 * rest c := by
  unfold qbn at h ⊢
  split at h
  · rename_i h1
    rw [if_pos h1]
    have h2 := (qp c [123]).2.1
    exact qs6 hd _ _ _ _ (by simp only [szs]; omega) h
  · cases h
theorem qbdf (p : Int) (c : K) : SzB c (qh2 rec p c) := by
  intro h
  unfold qh2 letB letC at h ⊢
  have hl := qwh (rd := fun c => ofO (qcj rec c)) (fun c hs => qg4 (q9k ih c) hs) c
  generalize qbn (fun c => ofO (qcj rec c)) c = L at *
  split at h
  · rename_i h1
    rw [if_pos h1]
    have hl := hl h1
    split at h
    · rename_i h2
      rw [if_pos h2]
      have h3 := qg4 (ih (qu L.1 [105, 110]).1) h
      have h4 := qgk h2
      simp only
      rw [qs2, qhc]
      simp only [szs]; omega
    · cases h
  · cases h
theorem qbhw (c : K) : SzB c (qfi rec c) := by
  intro h
  unfold qfi altB altC at h ⊢
  have hp := qbjc (rest c + 2) c
  generalize qcv (rest c + 2) c = r at *
  split at h
  · rename_i h1
    rw [if_pos h1]
    obtain ⟨n, hn⟩ := Option.isSome_iff_exists.1 h1
    have hp := hp n hn
    split at h
    · rename_i h2
      rw [if_pos h2]
      have h3 := qg4 (ih (qu r.1 [45, 62]).1) h
      have h4 := qgk h2
      simp only
      rw [altN, qs2, hn]
      simp only [szs, Option.getD_some]; omega
    · cases h
  · cases h
theorem q3k (p : Int) (c : K) : SzB c (qf2 rec p c) := by
  intro h
  unfold qf2 qyh qym at h ⊢
  split at h
  · rename_i h1
    rw [if_pos h1]
    have h2 := qg4 (ih c) h1
    split at h
    · rename_i h3
      rw [if_pos h3]
      have h4 := qwh (qbhw ih) _ h
      have h5 := qgk h3
      simp only
      rw [qs2]
      simp only [szs]; omega
    · cases h
  · cases h
theorem q28 (p : Int) : ∀ (l : List (List UInt8)) (c d : K) (acc : List N), szs acc + 2 * rest d ≤ 2 * rest c → (qeh rec p l d acc).2.2 = true → sz (qeh rec p l d acc).2.1 + 2 * rest (qeh rec p l d acc).1 ≤ 2 * rest c + 1
  | [], c, d, acc => fun h0 h => by rw [qeh, qs2]; simp only; omega
  | w :: r, c, d, acc => fun h0 h => by
    rw [qeh] at h ⊢
    split at h
    · rename_i h1
      rw [if_pos h1]
      have h2 := (ql8 d w).2.1
      split at h
      · rename_i h3
        rw [if_pos h3]
        have h4 := qg4 (ih (ifsK d w).1) h3
        refine q28 p r c _ _ ?_ h
        rw [qhc]
        simp only [szs]; omega
      · cases h
    · cases h
theorem q6e (c : K) : SzB c (qej rec c) := by
  intro h
  unfold qej at h ⊢
  split at h
  · rename_i h1
    rw [if_pos h1]
    have h0 := qea h1
    split at h
    · rename_i h2
      rw [if_pos h2]
      have := qre ih _ _ _ h
      omega
    · cases h
  · rename_i h1
    rw [if_neg h1]
    split at h
    · rename_i h2
      rw [if_pos h2]
      have h0 := qea h2
      have := qbdf ih _ _ h
      omega
    · rename_i h2
      rw [if_neg h2]
      split at h
      · rename_i h3
        rw [if_pos h3]
        have h0 := qea h3
        have := q3k ih _ _ h
        omega
      · rename_i h3
        rw [if_neg h3]
        split at h
        · rename_i h4
          rw [if_pos h4]
          have h0 := qea h4
          have := q28 ih _ _ _ _ _ (by simp only [szs]; exact Nat.le_of_eq (Nat.zero_add _)) h
          omega
        · rename_i h4
          rw [if_neg h4]
          exact qbfc ih c h
end
theorem q90 : ∀ (f : Nat) (c : K), SzO c (qfx f c)
  | 0, c => fun n h => by cases h
  | f + 1, c => fun n h => by
    rw [qfx] at h ⊢
    split at h
    · rename_i h1
      rw [if_pos h1]
      unfold toO at h
      simp only at h
      split at h
      · rename_i h2
        cases h
        have h3 := q6e (q90 f) _ h2
        have h4 := (qy c).2.1
        have h5 := (qbv (qej (qfx f) (qh c).1).1).2.1
        simp only; omega
      · cases h
    · cases h

def expV (s : List UInt8) : N × Int × Int := qbts (fun c => qfx (rest c + 2) c) s
theorem qm0 (s : List UInt8) (hs : s.length ≤ 400000) : qbp Tryz.prog 17 [.str s] (resV (expV s)) := by
  have g := qm5 (qrh s).1
  have g2 : (qfx (rest (newK (lexV s).1) + 2) (newK (lexV s).1)).1.good := (qhi _ _).1 g
  have hsz : sz ((qfx (rest (newK (lexV s).1) + 2) (newK (lexV s).1)).2.getD N0) ≤ 1000000 := by
    cases ho : (qfx (rest (newK (lexV s).1) + 2) (newK (lexV s).1)).2 with
    | none => rw [Option.getD_none, qjc]; simp [N0, N.kids, szs]
    | some n =>
      have h1 := q90 _ _ _ ho
      have h2 := qlc (lexV s).1
      have h3 := (qrh s).2
      have h4 : rest (newK (lexV s).1) = (qhg (lexV s).1).length := rfl
      simp only [Option.getD_some]
      omega
  have hdp := qx9 hsz
  refine qba c0p (by simp) (by simp only [go_sem]) (by simp only [go_sem]) fun hw => ?_
  repeat' (first | refine ql ?_ | ((first | refine qn ?_ | refine qx (by rfl) ?_ | refine qw ?_ | refine qm ?_ | refine qj ?_ | refine qi ?_ | refine qc (qtk s) fun _ => ?_ | refine qj1 (qqf _ (qrh s).1) (qbh _ _) (by simp only [go_sem]) ?_ | refine qvk 1 (qz8 (rest (newK (lexV s).1) + 2) _ g (by omega)) (by rfl) (qbh _ _) (qbh _ _) (by rfl) (qzm _ _) (by rfl) fun _ => ?_ | refine qvk 1 (qvz _ g2.ok) (by rfl) (qbh _ _) (qbh _ _) (by rfl) (by rfl) (by rfl) fun _ => ?_ | refine qc (quh (qzz _) (by rw [hdp])) fun _ => ?_ | refine qe  (qtk s) ?_ | refine qe  (quh (qzz _) (by rw [hdp])) ?_); simp only [go_sem, ↓reduceIte, Nat.reduceEqDiff, Nat.reduceAdd, Nat.reduceSub, Nat.reduceMul, Nat.reduceLT, Nat.reduceLeDiff, reduceCtorEq, Int.reduceToNat]) | ((first | refine qf ?_ ?_ | refine qd ?_ ?_) <;> intro hc <;> simp only [hc, go_sem, ↓reduceIte, Nat.reduceEqDiff, Nat.reduceAdd, Nat.reduceSub, Nat.reduceMul, Nat.reduceLT, Nat.reduceLeDiff, reduceCtorEq, Int.reduceToNat] <;> (try simp only [qb, qa, decide_eq_true_eq, decide_eq_false_iff_not, Bool.and_eq_true] at hc)) | refine And.intro (by first | assumption | omega | (have := qg (by assumption); omega) | (unfold qq; omega)) ?_ | fail)
  all_goals (try rw [qd7])
  all_goals unfold expV qbts q9z
  all_goals (repeat' split)
  all_goals first | omega | rfl | (exfalso; omega) | simp_all [go_sem]
set_option maxRecDepth 4000

theorem q5a {c : K} (h : begE c = true) : c.err = 0 := (qd0 (qs5 h)).1
theorem qqu {c : K} (h : c.err ≠ 0) : begE c = false := by
  cases hb : begE c with
  | false => rfl
  | true => exact absurd (q5a hb) h
def qdb (rec : K → K × N) (c : K) : K × N :=
  if begE c = true then
    if isK c [40] = true then (qcg (qu (rec (qu (qh c).1 [40]).1).1 [41]).1, (rec (qu (qh c).1 [40]).1).2)
    else (q8 c, (qjd c).getD N0)
  else (qfc c 5, N0)
def qfb (rec : K → K × N) : Nat → K → N → K × N
  | 0, c, n => (c, n)
  | f + 1, c, n => if begE c = true then qfb rec f (qdb rec c).1 (appN n (qdb rec c).2) else (c, n)
def qk9 (rec : K → K × N) (c : K) : K × N := qfb rec (em (qdb rec c).1 + 1) (qdb rec c).1 (qdb rec c).2
def qul (l : List T) (n : N) : N := l.foldr lamN n
def qdk : Nat → K → List T → K × List T
  | 0, c, acc => (c, acc)
  | f + 1, c, acc => if (qbc c).kind = 1 then qdk f (q8 c) (acc ++ [qbc c]) else (c, acc)
def qdg (c : K) : K × List T := qdk (em c + 1) c []
def qse (rec : K → K × N) (x : List UInt8) (v : K × List T) : K × N := ((rec (qu v.1 x).1).1, qul v.2 (rec (qu v.1 x).1).2)
def qgb (rec : K → K × N) (x : List UInt8) (c : K) : K × N := qse rec x (qdg c)
def qju (rec : K → K × N) (c : K) : K × N := if (qbc c).kind = 1 then qgb rec [45, 62] c else (qfc c 5, N0)
def qdm (rec : K → K × N) (c : K) : K × N :=
  if (qr (qbk c 1).1 [58, 58]).2 = true then
    ((qis (rest (qr (qbk c 1).1 [58, 58]).1 + 2) (qr (qbk c 1).1 [58, 58]).1).1, qro 32 (qh9 c 1) (qis (rest (qr (qbk c 1).1 [58, 58]).1 + 2) (qr (qbk c 1).1 [58, 58]).1).2)
  else ((qgb rec [61] (qbk c 1).1).1, qro 31 (qh9 c 1) (qgb rec [61] (qbk c 1).1).2)
def qdl (c : K) : K × Bool := ((qr c [59]).1, (qr c [59]).2 && !isK (qr c [59]).1 [125])
def qcq (rd : K → K × N) : Nat → K → List N → K × List N
  | 0, c, acc => (c, acc)
  | f + 1, c, acc => if (qdl (rd c).1).2 = true then qcq rd f (qdl (rd c).1).1 (acc ++ [(rd c).2]) else ((qdl (rd c).1).1, acc ++ [(rd c).2])
def qft (rd : K → K × N) (c : K) : K × List N := qcq rd (em c + 2) c []
def qu8 (rec : K → K × N) (p : Int) (L : K × List N) : K × N :=
  ((rec (qu (qu L.1 [125]).1 [105, 110]).1).1, .mk 26 p 0 [] (L.2 ++ [(rec (qu (qu L.1 [125]).1 [105, 110]).1).2]))
def qji (rec : K → K × N) (p : Int) (c : K) : K × N := qu8 rec p (qft (qdm rec) (qu c [123]).1)
def qp8 (rec : K → K × N) (p : K × N) : K × N := ((rec (qu p.1 [45, 62]).1).1, altN p.2 (rec (qu p.1 [45, 62]).1).2)
def qfo (rec : K → K × N) (c : K) : K × N := qp8 rec (qd3 (rest c + 2) c)
def qqa (p : Int) (x : N) (L : K × List N) : K × N := ((qu L.1 [125]).1, .mk 27 p 0 [] (x :: L.2))
def qhn (rec : K → K × N) (p : Int) (c : K) : K × N := qqa p (rec c).2 (qft (qfo rec) (qu (qu (rec c).1 [111, 102]).1 [123]).1)
def qvv (p : Int) (a b d : K × N) : K × N := (d.1, .mk 28 p 0 [] [a.2, b.2, d.2])
def qpf (rec : K → K × N) (p : Int) (a b : K × N) : K × N := qvv p a b (rec (qu b.1 [101, 108, 115, 101]).1)
def q2k (rec : K → K × N) (p : Int) (a : K × N) : K × N := qpf rec p a (rec (qu a.1 [116, 104, 101, 110]).1)
def qjl (rec : K → K × N) (p : Int) (c : K) : K × N := q2k rec p (rec c)
def qen (rec : K → K × N) (c : K) : K × N :=
  if (qr c [92]).2 = true then qju rec (qr c [92]).1
  else if (qr c [108, 101, 116]).2 = true then qji rec (qbc c).pos (qr c [108, 101, 116]).1
  else if (qr c [99, 97, 115, 101]).2 = true then qhn rec (qbc c).pos (qr c [99, 97, 115, 101]).1
  else if (qr c [105, 102]).2 = true then qjl rec (qbc c).pos (qr c [105, 102]).1
  else qk9 rec c
def qez : Nat → K → K × N
  | 0, c => (c, N0)
  | f + 1, c => (qcg (qen (qez f) (qh c).1).1, (qen (qez f) (qh c).1).2)

theorem qjz : ∀ (f : Nat) (c : K) (acc : List T), Mon c (qdk f c acc).1
  | 0, c, acc => Mon.refl c
  | f + 1, c, acc => by
    rw [qdk]
    split
    · exact (qbt c).trans (qjz f _ _)
    · exact Mon.refl c
theorem qi1 (c : K) : Mon c (qdl c).1 := qbb c _
section
variable {rec : K → K × N} (hm : ∀ c, Mon c (rec c).1)
include hm
theorem qec (c : K) : Mon c (qdb rec c).1 := by
  unfold qdb
  split
  · split
    · exact ((qy c).trans (qp _ _)).trans (ql9 hm c)
    · exact qbt c
  · exact qfa c 5
theorem qj2 {c : K} (h : begE c = true) : em (qdb rec c).1 < em c := by
  unfold qdb
  rw [if_pos h]
  split
  · have h1 := qem (c := c) (by assumption)
    have h2 := (ql9 hm c).em
    simp only; omega
  · exact qh6 (qs5 h)
theorem qlk : ∀ (f : Nat) (c : K) (n : N), Mon c (qfb rec f c n).1
  | 0, c, n => Mon.refl c
  | f + 1, c, n => by
    rw [qfb]
    split
    · exact (qec hm c).trans (qlk f _ _)
    · exact Mon.refl c
theorem qur (c : K) : Mon c (qk9 rec c).1 := (qec hm c).trans (qlk hm _ _ _)
theorem qls (x : List UInt8) (c : K) : Mon c (qgb rec x c).1 := ((qjz _ _ _).trans (qp _ x)).trans (hm _)
theorem qt6 (c : K) : Mon c (qju rec c).1 := by
  unfold qju
  split
  · exact qls hm _ c
  · exact qfa c 5
theorem qih (c : K) : Mon c (qdm rec c).1 := by
  unfold qdm
  split
  · exact ((qc8 c 1).trans (qbb _ _)).trans ((qgz (qd1 _) _).trans (qd1 _ _))
  · exact (qc8 c 1).trans (qls hm _ _)
omit hm in
theorem qfe {rd : K → K × N} (hd : ∀ c, Mon c (rd c).1) : ∀ (f : Nat) (c : K) (acc : List N), Mon c (qcq rd f c acc).1
  | 0, c, acc => Mon.refl c
  | f + 1, c, acc => by
    rw [qcq]
    split
    · exact ((hd c).trans (qi1 _)).trans (qfe hd f _ _)
    · exact (hd c).trans (qi1 _)
theorem qus (p : Int) (c : K) : Mon c (qji rec p c).1 := ((((qp c _).trans (qfe (qih hm) _ _ _)).trans (qp _ _)).trans (qp _ _)).trans (hm _)
theorem qj0 (c : K) : Mon c (qfo rec c).1 := ((qgl _ c).trans (qp _ _)).trans (hm _)
theorem qs0 (p : Int) (c : K) : Mon c (qhn rec p c).1 := ((((hm c).trans (qp _ _)).trans (qp _ _)).trans (qfe (qj0 hm) _ _ _)).trans (qp _ _)
theorem qt1 (p : Int) (c : K) : Mon c (qjl rec p c).1 := ((((hm c).trans (qp _ _)).trans (hm _)).trans (qp _ _)).trans (hm _)
theorem qlq (c : K) : Mon c (qen rec c).1 := by
  unfold qen
  split
  · exact (qbb c _).trans (qt6 hm _)
  · split
    · exact (qbb c _).trans (qus hm _ _)
    · split
      · exact (qbb c _).trans (qs0 hm _ _)
      · split
        · exact (qbb c _).trans (qt1 hm _ _)
        · exact qur hm c
end
theorem qk5 : ∀ (f : Nat) (c : K), Mon c (qez f c).1
  | 0, c => Mon.refl c
  | f + 1, c => ((qy c).trans (qlq (qk5 f) _)).trans (qbv _)

/-! The program. -/
def zEC : Ent := .blk [.nils, .int .i64 0, .int .i64 0, .int .i64 0, .str [], .int .i64 0, .int .i64 0, .int .i64 0]
def zEN : Ent := .blk [.int .i64 0, .int .i64 0, .int .i64 0, .str [], .nils]
theorem qe1 (c : K) : qbp Tryz.prog 64 [refC c] (.bool (begE c)) := by
  refine qba c0l (by simp) (by simp only [go_sem]) rfl fun hw => ?_
  repeat' (first | refine ql ?_ | ((first | refine qn ?_ | refine qm ?_ | refine qc (qt c) fun _ => ?_ | refine qc (qc0 c _) fun _ => ?_ | refine qe  (qt c) ?_ | refine qe  (qc0 c _) ?_); simp only [go_sem, ↓reduceIte, Nat.reduceEqDiff, Nat.reduceAdd, Nat.reduceSub, Nat.reduceMul, Nat.reduceLT, Nat.reduceLeDiff, reduceCtorEq, Int.reduceToNat]) | ((first | refine qf ?_ ?_ | refine qd ?_ ?_) <;> intro hc <;> simp only [hc, go_sem, ↓reduceIte, Nat.reduceEqDiff, Nat.reduceAdd, Nat.reduceSub, Nat.reduceMul, Nat.reduceLT, Nat.reduceLeDiff, reduceCtorEq, Int.reduceToNat] <;> (try simp only [qb, qa, decide_eq_true_eq, decide_eq_false_iff_not, Bool.and_eq_true] at hc)) | refine And.intro (by first | assumption | omega | (have := qg (by assumption); omega) | (unfold qq; omega)) ?_ | fail)
  all_goals (have := @qqu c; unfold begE qjd at *; simp_all)
theorem qew (c : K) : qbp Tryz.prog 94 [refC c] (.tup [refC (qdl c).1, .bool (qdl c).2]) := by
  refine qba c0m (by simp) (by simp only [go_sem]) (by simp only [go_sem]) fun hw => ?_
  repeat' (first | refine ql ?_ | ((first | refine qn ?_ | refine qx (by rfl) ?_ | refine qw ?_ | refine qm ?_ | refine qc (qbi c _) fun _ => ?_ | refine qc (qc0 _ _) fun _ => ?_ | refine qe  (qbi c _) ?_ | refine qe  (qc0 _ _) ?_); simp only [go_sem, ↓reduceIte, Nat.reduceEqDiff, Nat.reduceAdd, Nat.reduceSub, Nat.reduceMul, Nat.reduceLT, Nat.reduceLeDiff, reduceCtorEq, Int.reduceToNat]) | ((first | refine qf ?_ ?_ | refine qd ?_ ?_) <;> intro hc <;> simp only [hc, go_sem, ↓reduceIte, Nat.reduceEqDiff, Nat.reduceAdd, Nat.reduceSub, Nat.reduceMul, Nat.reduceLT, Nat.reduceLeDiff, reduceCtorEq, Int.reduceToNat] <;> (try simp only [qb, qa, decide_eq_true_eq, decide_eq_false_iff_not, Bool.and_eq_true] at hc)) | refine And.intro (by first | assumption | omega | (have := qg (by assumption); omega) | (unfold qq; omega)) ?_ | fail)
  all_goals (unfold qdl; simp_all [go_sem])
def qrm (x : Nat × K × List T) : AF × List Ent :=
  (⟨[(1, .ptr 0 0), (2, .ptr 1 0), (4, accV 2 (qcy x.2.2))], []⟩, .blk (refC x.2.1).cells :: zEC :: accE 4 (qcy x.2.2))
theorem qo9 (c : K) (hg : c.good) : qbp Tryz.prog 27 [refC c] (.tup [refC (qdg c).1, .sl 4 (qcy (qdg c).2)]) := by
  refine qba c0n (by simp) (by simp only [go_sem]) (by simp only [go_sem]) fun hw => ?_
  unfold qdg
  generalize htg : qdk (em c + 1) c [] = tg
  repeat' (first | refine ql ?_ | refine qk ?_ | ((first | refine qn ?_ | refine qm ?_ | refine qs ?_ | refine qj ?_ | refine qi ?_); simp only [go_sem, ↓reduceIte, Nat.reduceEqDiff, Nat.reduceAdd, Nat.reduceSub, Nat.reduceMul, Nat.reduceLT, Nat.reduceLeDiff, reduceCtorEq, Int.reduceToNat]) | ((first | refine qf ?_ ?_ | refine qd ?_ ?_) <;> intro hc <;> simp only [hc, go_sem, ↓reduceIte, Nat.reduceEqDiff, Nat.reduceAdd, Nat.reduceSub, Nat.reduceMul, Nat.reduceLT, Nat.reduceLeDiff, reduceCtorEq, Int.reduceToNat] <;> (try simp only [qb, qa, decide_eq_true_eq, decide_eq_false_iff_not, Bool.and_eq_true] at hc)) | refine And.intro (by first | assumption | omega | (have := qg (by assumption); omega) | (unfold qq; omega)) ?_ | fail)
  refine qca (S := Nat × K × List T) (fun x => x.2.1.good ∧ qdk x.1 x.2.1 x.2.2 = tg ∧ em x.2.1 < x.1 ∧ x.2.2.length + em x.2.1 ≤ 1048578) qrm (fun x => em x.2.1) ?_ ?_
  · refine qbq (em c + 1, c, []) [0, 1] ⟨hg, htg, Nat.lt_succ_self _, ?_⟩ rfl (by simp) ?_ ?_ ?_
    · have h9 := hg.rest
      have h8 := qid c
      unfold rest at h8
      simp only [List.length_nil]; omega
    all_goals simp only [qrm, zEC, qgu, qbs, qbu]
    all_goals simp only [go_sem, ↓reduceIte, Nat.reduceEqDiff, Nat.reduceAdd, Nat.reduceSub, Nat.reduceMul, Nat.reduceLT, Nat.reduceLeDiff, reduceCtorEq, Int.reduceToNat]
  · rintro ⟨fu, d, acc⟩ ⟨i1, i2, i3, i4⟩
    simp only at i1 i2 i3 i4
    unfold qrm zEC
    obtain ⟨fu, rfl⟩ : ∃ k, fu = k + 1 := ⟨fu - 1, by omega⟩
    rw [qdk] at i2
    have hcap : qq (acc.length + 1) 40 := capT (by omega)
    have g1 : (q8 d).good := (qbt d).1 i1
    have hke : d.err ≠ 0 → (qbc d).kind ≠ 1 := fun h => by rw [qe7 h]; decide
    by_cases hk : (qbc d).kind = 1
    · have he : (d.err = 0) = True := eq_true (Classical.byContradiction fun h => hke h hk)
      have hkT : ((qbc d).kind = 1) = True := eq_true hk
      rw [if_pos hk] at i2
      have hlt := qh6 (c := d) (by omega)
      by_cases h0 : acc = []
      · subst h0
        simp only [qgu, qbs, qbu]
        repeat' (first | refine ql ?_ | refine qk ?_ | ((first | refine qn ?_ | refine qm ?_ | refine qs ?_ | refine qj ?_ | refine qi ?_); simp (disch := first | omega | (simp only [List.length_set, List.length_append, List.length_cons, List.length_nil]; done) | (simp only [List.length_set, List.length_append, List.length_cons, List.length_nil]; omega)) only [hkT, he, decide_true, go_sem, ↓reduceIte, Nat.reduceEqDiff, Nat.reduceAdd, Nat.reduceSub, Nat.reduceMul, Nat.reduceLT, Nat.reduceLeDiff, reduceCtorEq, Int.reduceToNat]) | ((first | refine qf ?_ ?_ | refine qd ?_ ?_) <;> intro hc <;> simp only [hc, go_sem, ↓reduceIte, Nat.reduceEqDiff, Nat.reduceAdd, Nat.reduceSub, Nat.reduceMul, Nat.reduceLT, Nat.reduceLeDiff, reduceCtorEq, Int.reduceToNat] <;> (try simp only [qb, qa, decide_eq_true_eq, decide_eq_false_iff_not, Bool.and_eq_true] at hc)) | refine And.intro (by first | assumption | omega | (have := qg (by assumption); omega) | (unfold qq; omega)) ?_ | fail | ((first | refine qc (qt d) fun _ => ?_ | refine qc (qcc d) fun _ => ?_ | refine qe  (qt d) ?_ | refine qe  (qcc d) ?_); simp only [go_sem, ↓reduceIte, Nat.reduceEqDiff, Nat.reduceAdd, Nat.reduceSub, Nat.reduceMul, Nat.reduceLT, Nat.reduceLeDiff, reduceCtorEq, Int.reduceToNat]))
        refine qbq (fu, q8 d, [] ++ [qbc d]) [0, 1, 4] ⟨⟨g1, i2, by simp only; omega, by simp only [List.length_append, List.length_cons, List.length_nil]; omega⟩, by simp only; omega⟩ rfl (by simp) ?_ ?_ ?_
        all_goals simp only [qrm, zEC, show qcy [qbc d] = [encT (qbc d)] from rfl, ← qgi, qcr, qcs, List.nil_append, qgu, qdc, qdd, qe8]
        all_goals simp only [go_sem, ↓reduceIte, Nat.reduceEqDiff, Nat.reduceAdd, Nat.reduceSub, Nat.reduceMul, Nat.reduceLT, Nat.reduceLeDiff, reduceCtorEq, Int.reduceToNat]
        all_goals (try (rw [qgi, qhs, qiu]; exact ⟨rfl, rfl⟩))
      · have hne := qj5 h0
        simp only [qb9 hne, qb7 hne, qe8]
        repeat' (first | refine ql ?_ | refine qk ?_ | ((first | refine qn ?_ | refine qm ?_ | refine qs ?_ | refine qj ?_ | refine qi ?_); simp (disch := first | omega | (simp only [List.length_set, List.length_append, List.length_cons, List.length_nil]; done) | (simp only [List.length_set, List.length_append, List.length_cons, List.length_nil]; omega)) only [hkT, he, decide_true, go_sem, ↓reduceIte, Nat.reduceEqDiff, Nat.reduceAdd, Nat.reduceSub, Nat.reduceMul, Nat.reduceLT, Nat.reduceLeDiff, reduceCtorEq, Int.reduceToNat]) | ((first | refine qf ?_ ?_ | refine qd ?_ ?_) <;> intro hc <;> simp only [hc, go_sem, ↓reduceIte, Nat.reduceEqDiff, Nat.reduceAdd, Nat.reduceSub, Nat.reduceMul, Nat.reduceLT, Nat.reduceLeDiff, reduceCtorEq, Int.reduceToNat] <;> (try simp only [qb, qa, decide_eq_true_eq, decide_eq_false_iff_not, Bool.and_eq_true] at hc)) | refine And.intro (by first | assumption | omega | (have := qg (by assumption); omega) | (unfold qq; omega)) ?_ | fail | ((first | refine qc (qt d) fun _ => ?_ | refine qc (qcc d) fun _ => ?_ | refine qe  (qt d) ?_ | refine qe  (qcc d) ?_); simp only [go_sem, ↓reduceIte, Nat.reduceEqDiff, Nat.reduceAdd, Nat.reduceSub, Nat.reduceMul, Nat.reduceLT, Nat.reduceLeDiff, reduceCtorEq, Int.reduceToNat]))
        refine qbq (fu, q8 d, acc ++ [qbc d]) [0, 1, 5] ⟨⟨g1, i2, by simp only; omega, by simp only [List.length_append, List.length_cons, List.length_nil]; omega⟩, by simp only; omega⟩ rfl (by simp) ?_ ?_ ?_
        all_goals simp only [qrm, zEC, show qcy [qbc d] = [encT (qbc d)] from rfl, ← qgi, qcr, qcs, List.nil_append, qgu, qdc, qdd, qe8]
        all_goals simp only [go_sem, ↓reduceIte, Nat.reduceEqDiff, Nat.reduceAdd, Nat.reduceSub, Nat.reduceMul, Nat.reduceLT, Nat.reduceLeDiff, reduceCtorEq, Int.reduceToNat]
        all_goals (try (rw [qgi, qhs, qiu]; exact ⟨rfl, rfl⟩))
    · rw [if_neg hk] at i2
      subst i2
      by_cases h0 : acc = []
      · subst h0
        simp only [qgu, qbs, qbu]
        repeat' (first | refine ql ?_ | refine qk ?_ | ((first | refine qn ?_ | refine qm ?_ | refine qs ?_ | refine qj ?_ | refine qi ?_); simp (disch := first | omega | (simp only [List.length_set, List.length_append, List.length_cons, List.length_nil]; done) | (simp only [List.length_set, List.length_append, List.length_cons, List.length_nil]; omega)) only [hk, decide_true, go_sem, ↓reduceIte, Nat.reduceEqDiff, Nat.reduceAdd, Nat.reduceSub, Nat.reduceMul, Nat.reduceLT, Nat.reduceLeDiff, reduceCtorEq, Int.reduceToNat]) | ((first | refine qf ?_ ?_ | refine qd ?_ ?_) <;> intro hc <;> simp only [hc, go_sem, ↓reduceIte, Nat.reduceEqDiff, Nat.reduceAdd, Nat.reduceSub, Nat.reduceMul, Nat.reduceLT, Nat.reduceLeDiff, reduceCtorEq, Int.reduceToNat] <;> (try simp only [qb, qa, decide_eq_true_eq, decide_eq_false_iff_not, Bool.and_eq_true] at hc)) | refine And.intro (by first | assumption | omega | (have := qg (by assumption); omega) | (unfold qq; omega)) ?_ | fail | ((first | refine qc (qt d) fun _ => ?_ | refine qe  (qt d) ?_); simp only [go_sem, ↓reduceIte, Nat.reduceEqDiff, Nat.reduceAdd, Nat.reduceSub, Nat.reduceMul, Nat.reduceLT, Nat.reduceLeDiff, reduceCtorEq, Int.reduceToNat]))
        all_goals (try rfl)
      · have hne := qj5 h0
        simp only [qb9 hne, qb7 hne, qe8]
        repeat' (first | refine ql ?_ | refine qk ?_ | ((first | refine qn ?_ | refine qm ?_ | refine qs ?_ | refine qj ?_ | refine qi ?_); simp (disch := first | omega | (simp only [List.length_set, List.length_append, List.length_cons, List.length_nil]; done) | (simp only [List.length_set, List.length_append, List.length_cons, List.length_nil]; omega)) only [hk, decide_true, go_sem, ↓reduceIte, Nat.reduceEqDiff, Nat.reduceAdd, Nat.reduceSub, Nat.reduceMul, Nat.reduceLT, Nat.reduceLeDiff, reduceCtorEq, Int.reduceToNat]) | ((first | refine qf ?_ ?_ | refine qd ?_ ?_) <;> intro hc <;> simp only [hc, go_sem, ↓reduceIte, Nat.reduceEqDiff, Nat.reduceAdd, Nat.reduceSub, Nat.reduceMul, Nat.reduceLT, Nat.reduceLeDiff, reduceCtorEq, Int.reduceToNat] <;> (try simp only [qb, qa, decide_eq_true_eq, decide_eq_false_iff_not, Bool.and_eq_true] at hc)) | refine And.intro (by first | assumption | omega | (have := qg (by assumption); omega) | (unfold qq; omega)) ?_ | fail | ((first | refine qc (qt d) fun _ => ?_ | refine qe  (qt d) ?_); simp only [go_sem, ↓reduceIte, Nat.reduceEqDiff, Nat.reduceAdd, Nat.reduceSub, Nat.reduceMul, Nat.reduceLT, Nat.reduceLeDiff, reduceCtorEq, Int.reduceToNat]))
        all_goals (try rfl)
set_option maxRecDepth 4000

theorem qxi {l : List T} {j : Nat} (n : N) (h : j < l.length) : qul (l.drop j) n = lamN (l.getD j T0) (qul (l.drop (j + 1)) n) := by
  rw [q6v h]; rfl
/-- A variable that holds a tree, the first one. -/
theorem q0r {P : Program} {fr : Option Nat} {k m : Nat} {a : IC} {Q : VE → AF → List Ent → Prop} {af : AF} {L : List Ent} {fl : Bool} {n : N} (h : VI P fr k m a Q af (.blk (enc n).cells :: L)) : VI P fr k m a Q af (qld fl n :: L) := by
  cases n
  cases fl with
  | false => exact h
  | true =>
    refine qpy 0 4 (.sl 5) (by rfl) ?_
    simp only [List.getD_cons_succ, List.getD_cons_zero, if_true, qj4, List.set_cons_succ, List.set_cons_zero]
    exact h
def qvp (l : List T) (n : N) (x : Bool × Nat) : AF × List Ent :=
  (⟨[(0, .sl 4 (qcy l)), (3, .ptr 0 0), (4, .ptr 1 0), (5, .int .i64 ((x.2 : Int) - 1))], []⟩, [qld x.1 (qul (l.drop x.2) n), zEN])
theorem qol (l : List T) (n : N) (hl : l.length ≤ 1048600) : qbp Tryz.prog 29 [.sl 4 (qcy l), enc n] (enc (qul l n)) := by
  refine qba c0h (by simp) (by simp only [go_sem]) (by simp only [go_sem]) fun hw => ?_
  repeat' (first | refine ql ?_ | refine qk ?_ | ((first | refine qn ?_ | refine qx (by rfl) ?_ | refine qw ?_ | refine qm ?_ | refine qs ?_ | refine qj ?_ | refine qi ?_); simp only [go_sem, ↓reduceIte, Nat.reduceEqDiff, Nat.reduceAdd, Nat.reduceSub, Nat.reduceMul, Nat.reduceLT, Nat.reduceLeDiff, reduceCtorEq, Int.reduceToNat]) | ((first | simp (disch := omega) only [q4g]); (try simp only [go_sem, ↓reduceIte, Nat.reduceEqDiff, Nat.reduceAdd, Nat.reduceSub, Nat.reduceMul, Nat.reduceLT, Nat.reduceLeDiff, reduceCtorEq, Int.reduceToNat])) | ((first | refine qf ?_ ?_ | refine qd ?_ ?_) <;> intro hc <;> simp only [hc, go_sem, ↓reduceIte, Nat.reduceEqDiff, Nat.reduceAdd, Nat.reduceSub, Nat.reduceMul, Nat.reduceLT, Nat.reduceLeDiff, reduceCtorEq, Int.reduceToNat] <;> (try simp only [qb, qa, decide_eq_true_eq, decide_eq_false_iff_not, Bool.and_eq_true] at hc)) | refine And.intro (by first | assumption | omega | (have := qg (by assumption); omega) | (unfold qq; omega)) ?_ | ((first | simp (disch := omega) only [qv] | simp (disch := omega) only [qbe]); (try simp only [go_sem, ↓reduceIte, Nat.reduceEqDiff, Nat.reduceAdd, Nat.reduceSub, Nat.reduceMul, Nat.reduceLT, Nat.reduceLeDiff, reduceCtorEq, Int.reduceToNat])))
  refine qca (S := Bool × Nat) (fun x => x.2 ≤ l.length) (qvp l n) (fun x => x.2) ?_ ?_
  · refine qbq (false, l.length) [0, 1] (Nat.le_refl _) rfl (by simp) ?_ ?_ ?_
    all_goals simp only [qvp, qld, zEN, List.drop_length, qul, List.foldr_nil]
    all_goals simp only [go_sem, ↓reduceIte, Nat.reduceEqDiff, Nat.reduceAdd, Nat.reduceSub, Nat.reduceMul, Nat.reduceLT, Nat.reduceLeDiff, reduceCtorEq, Int.reduceToNat]
  · rintro ⟨fl, j⟩ i1
    simp only at i1
    unfold qvp
    refine q0r ?_
    unfold zEN
    cases j with
    | zero =>
      have h0 : ¬ (0 : Int) ≤ 0 - 1 := by omega
      repeat' (first | refine ql ?_ | refine qk ?_ | ((first | refine qn ?_ | refine qx (by rfl) ?_ | refine qw ?_ | refine qm ?_ | refine qs ?_ | refine qj ?_ | refine qi ?_); simp (disch := first | omega | (simp only [List.length_set, List.length_append, List.length_cons, List.length_nil]; done) | (simp only [List.length_set, List.length_append, List.length_cons, List.length_nil]; omega)) only [h0, go_sem, ↓reduceIte, Nat.reduceEqDiff, Nat.reduceAdd, Nat.reduceSub, Nat.reduceMul, Nat.reduceLT, Nat.reduceLeDiff, reduceCtorEq, Int.reduceToNat]) | ((first | refine qf ?_ ?_ | refine qd ?_ ?_) <;> intro hc <;> simp only [hc, go_sem, ↓reduceIte, Nat.reduceEqDiff, Nat.reduceAdd, Nat.reduceSub, Nat.reduceMul, Nat.reduceLT, Nat.reduceLeDiff, reduceCtorEq, Int.reduceToNat] <;> (try simp only [qb, qa, decide_eq_true_eq, decide_eq_false_iff_not, Bool.and_eq_true] at hc)) | refine And.intro (by first | assumption | omega | (have := qg (by assumption); omega) | (unfold qq; omega)) ?_ | ((first | simp (disch := omega) only [qv] | simp (disch := omega) only [qbe]); (try simp only [go_sem, ↓reduceIte, Nat.reduceEqDiff, Nat.reduceAdd, Nat.reduceSub, Nat.reduceMul, Nat.reduceLT, Nat.reduceLeDiff, reduceCtorEq, Int.reduceToNat])))
      all_goals (try rfl)
    | succ j =>
      have h0 : (0 : Int) ≤ ((j + 1 : Nat) : Int) - 1 := by omega
      have h1 : (((j + 1 : Nat) : Int) - 1).toNat = j := by omega
      have h2 : ((j + 1 : Nat) : Int) - 1 - 1 = (j : Int) - 1 := by omega
      repeat' (first | refine ql ?_ | refine qk ?_ | ((first | refine qn ?_ | refine qx (by rfl) ?_ | refine qw ?_ | refine qm ?_ | refine qs ?_ | refine qj ?_ | refine qi ?_); simp (disch := first | omega | (simp only [List.length_set, List.length_append, List.length_cons, List.length_nil]; done) | (simp only [List.length_set, List.length_append, List.length_cons, List.length_nil]; omega)) only [h0, h1, h2, go_sem, ↓reduceIte, Nat.reduceEqDiff, Nat.reduceAdd, Nat.reduceSub, Nat.reduceMul, Nat.reduceLT, Nat.reduceLeDiff, reduceCtorEq, Int.reduceToNat]) | ((first | simp (disch := omega) only [qdr] | simp (disch := omega) only [q4g]); (try simp only [go_sem, ↓reduceIte, Nat.reduceEqDiff, Nat.reduceAdd, Nat.reduceSub, Nat.reduceMul, Nat.reduceLT, Nat.reduceLeDiff, reduceCtorEq, Int.reduceToNat])) | ((first | refine qf ?_ ?_ | refine qd ?_ ?_) <;> intro hc <;> simp only [hc, go_sem, ↓reduceIte, Nat.reduceEqDiff, Nat.reduceAdd, Nat.reduceSub, Nat.reduceMul, Nat.reduceLT, Nat.reduceLeDiff, reduceCtorEq, Int.reduceToNat] <;> (try simp only [qb, qa, decide_eq_true_eq, decide_eq_false_iff_not, Bool.and_eq_true] at hc)) | refine And.intro (by first | assumption | omega | (have := qg (by assumption); omega) | (unfold qq; omega)) ?_ | ((first | simp (disch := omega) only [qv] | simp (disch := omega) only [qbe]); (try simp only [go_sem, ↓reduceIte, Nat.reduceEqDiff, Nat.reduceAdd, Nat.reduceSub, Nat.reduceMul, Nat.reduceLT, Nat.reduceLeDiff, reduceCtorEq, Int.reduceToNat])))
      all_goals (
        refine qbq (true, j) [0, 1] ⟨by simp only; omega, by simp only; omega⟩ rfl (by simp) ?_ ?_ ?_
        all_goals simp only [qvp, qld, zEN, qxi n (show j < l.length by omega), lamN, encs, N.kind, N.pos, N.num, N.text, N.kids]
        all_goals simp only [go_sem, ↓reduceIte, Nat.reduceEqDiff, Nat.reduceAdd, Nat.reduceSub, Nat.reduceMul, Nat.reduceLT, Nat.reduceLeDiff, reduceCtorEq, Int.reduceToNat]
        all_goals (try rfl))
section
variable {rec : K → K × N} {b : Nat} (hm : ∀ c, Mon c (rec c).1) (ih : ∀ c, c.good → em c < b → qbp Tryz.prog 11 [refC c] (.tup [refC (rec c).1, enc (rec c).2]))
include hm ih
theorem qpp (c : K) (hg : c.good) (hr : em c ≤ b) : qbp Tryz.prog 63 [refC c] (.tup [refC (qdb rec c).1, enc (qdb rec c).2]) := by
  have g1 : (qu (qh c).1 [40]).1.good := ((qy c).trans (qp _ _)).1 hg
  have g2 : (qu (rec (qu (qh c).1 [40]).1).1 [41]).1.good := ((hm _).trans (qp _ _)).1 g1
  refine qba c0i (by simp) (by simp only [go_sem]) (by simp only [go_sem]) fun hw => ?_
  repeat' (first | refine ql ?_ | refine qk ?_ | ((first | refine qn ?_ | refine qx (by rfl) ?_ | refine qw ?_ | refine qm ?_ | refine qj ?_ | refine qi ?_ | refine qc (qt c) fun _ => ?_ | refine qc (qc0 c _) fun _ => ?_ | refine qc (qe1 c) fun _ => ?_ | refine qc (qcz c _) fun _ => ?_ | refine qc (qcn c) fun _ => ?_ | refine qc (qbf _ _) fun _ => ?_ | refine qc (ih _ g1 (Nat.lt_of_lt_of_le (qem (by assumption)) hr)) fun _ => ?_ | refine qc (qby _ g2.2.2) fun _ => ?_ | refine qc (qcc c) fun _ => ?_ | refine qe  (qt c) ?_ | refine qe  (qc0 c _) ?_ | refine qe  (qe1 c) ?_ | refine qe  (qcz c _) ?_ | refine qe  (qcn c) ?_ | refine qe  (qbf _ _) ?_ | refine qe  (ih _ g1 (Nat.lt_of_lt_of_le (qem (by assumption)) hr)) ?_ | refine qe  (qby _ g2.2.2) ?_ | refine qe  (qcc c) ?_); simp only [go_sem, ↓reduceIte, Nat.reduceEqDiff, Nat.reduceAdd, Nat.reduceSub, Nat.reduceMul, Nat.reduceLT, Nat.reduceLeDiff, reduceCtorEq, Int.reduceToNat]) | ((first | refine qf ?_ ?_ | refine qd ?_ ?_) <;> intro hc <;> simp only [hc, go_sem, ↓reduceIte, Nat.reduceEqDiff, Nat.reduceAdd, Nat.reduceSub, Nat.reduceMul, Nat.reduceLT, Nat.reduceLeDiff, reduceCtorEq, Int.reduceToNat] <;> (try simp only [qb, qa, decide_eq_true_eq, decide_eq_false_iff_not, Bool.and_eq_true] at hc)) | refine And.intro (by first | assumption | omega | (have := qg (by assumption); omega) | (unfold qq; omega)) ?_ | fail)
  all_goals (unfold qdb; simp only [*, qd7, Int.reduceEq, if_true, if_false, reduceIte, Bool.false_eq_true, Option.getD_none, Option.getD_some, Option.isSome_none, Option.isSome_some, and_self, true_and, and_true]; try rfl)
  all_goals
    have hb : begE c = true := by assumption
    have hk : isK c [40] = false := by assumption
    simp only [begE, hk, Bool.or_false] at hb
    unfold qjd qh4 at hb ⊢
    clear ih
    simp_all [enc, encs]
omit hm in
theorem qpn (x : List UInt8) (c : K) (hg : c.good) (hr : em c < b) : qbp Tryz.prog 11 [refC (qu (qdg c).1 x).1] (.tup [refC (qgb rec x c).1, enc (rec (qu (qdg c).1 x).1).2]) := by
  have hv := qjz (em c + 1) c []
  have h1 := (hv.trans (qp _ x)).em
  exact ih _ ((hv.trans (qp _ x)).1 hg) (by unfold qdg; omega)
omit hm ih in
theorem qlo (c : K) (hg : c.good) : (qdg c).2.length ≤ 1048600 := by
  have key : ∀ (f : Nat) (c : K) (acc : List T), (qdk f c acc).2.length ≤ acc.length + em c := by
    intro f
    induction f with
    | zero => intro c acc; simp [qdk]
    | succ f ih =>
      intro c acc
      rw [qdk]
      split
      · have h1 := ih (q8 c) (acc ++ [qbc c])
        have h2 := qh6 (c := c) (by omega)
        simp only [List.length_append, List.length_cons, List.length_nil] at h1
        omega
      · simp
  have h1 := key (em c + 1) c []
  have h2 := qid c
  have h3 := hg.rest
  unfold rest at h2
  simp only [List.length_nil] at h1
  unfold qdg
  omega
omit hm in
theorem q09 (c : K) (hg : c.good) (hr : em c < b) : qbp Tryz.prog 59 [refC c] (.tup [refC (qju rec c).1, enc (qju rec c).2]) := by
  refine qba c0j (by simp) (by simp only [go_sem]) (by simp only [go_sem]) fun hw => ?_
  unfold qju
  by_cases hk : (qbc c).kind = 1
  · rw [if_pos hk]
    have hl := qpn ih [45, 62] c hg hr
    have hwp := qol (qdg c).2 (rec (qu (qdg c).1 [45, 62]).1).2 (qlo c hg)
    unfold qgb qse at hl ⊢
    have hvv := qo9 c hg
    generalize qdg c = v at *
    repeat' (first | refine ql ?_ | ((first | refine qn ?_ | refine qx (by rfl) ?_ | refine qw ?_ | refine qm ?_ | refine qj ?_ | refine qi ?_); simp (disch := first | omega | (simp only [List.length_set, List.length_append, List.length_cons, List.length_nil]; done) | (simp only [List.length_set, List.length_append, List.length_cons, List.length_nil]; omega)) only [hk, ne_eq, not_true_eq_false, decide_false, go_sem, ↓reduceIte, Nat.reduceEqDiff, Nat.reduceAdd, Nat.reduceSub, Nat.reduceMul, Nat.reduceLT, Nat.reduceLeDiff, reduceCtorEq, Int.reduceToNat]) | ((first | refine qf ?_ ?_ | refine qd ?_ ?_) <;> intro hc <;> simp only [hc, go_sem, ↓reduceIte, Nat.reduceEqDiff, Nat.reduceAdd, Nat.reduceSub, Nat.reduceMul, Nat.reduceLT, Nat.reduceLeDiff, reduceCtorEq, Int.reduceToNat] <;> (try simp only [qb, qa, decide_eq_true_eq, decide_eq_false_iff_not, Bool.and_eq_true] at hc)) | refine And.intro (by first | assumption | omega | (have := qg (by assumption); omega) | (unfold qq; omega)) ?_ | fail | ((first | refine qc (qt c) fun _ => ?_ | refine qc hvv fun _ => ?_ | refine qc (qbf v.1 _) fun _ => ?_ | refine qc hl fun _ => ?_ | refine qc hwp fun _ => ?_ | refine qe  (qt c) ?_ | refine qe  hvv ?_ | refine qe  (qbf v.1 _) ?_ | refine qe  hl ?_ | refine qe  hwp ?_); simp only [go_sem, ↓reduceIte, Nat.reduceEqDiff, Nat.reduceAdd, Nat.reduceSub, Nat.reduceMul, Nat.reduceLT, Nat.reduceLeDiff, reduceCtorEq, Int.reduceToNat]))
  · rw [if_neg hk]
    repeat' (first | refine ql ?_ | ((first | refine qn ?_ | refine qx (by rfl) ?_ | refine qw ?_ | refine qm ?_ | refine qj ?_ | refine qi ?_); simp (disch := first | omega | (simp only [List.length_set, List.length_append, List.length_cons, List.length_nil]; done) | (simp only [List.length_set, List.length_append, List.length_cons, List.length_nil]; omega)) only [hk, ne_eq, not_false_eq_true, decide_true, go_sem, ↓reduceIte, Nat.reduceEqDiff, Nat.reduceAdd, Nat.reduceSub, Nat.reduceMul, Nat.reduceLT, Nat.reduceLeDiff, reduceCtorEq, Int.reduceToNat]) | ((first | refine qf ?_ ?_ | refine qd ?_ ?_) <;> intro hc <;> simp only [hc, go_sem, ↓reduceIte, Nat.reduceEqDiff, Nat.reduceAdd, Nat.reduceSub, Nat.reduceMul, Nat.reduceLT, Nat.reduceLeDiff, reduceCtorEq, Int.reduceToNat] <;> (try simp only [qb, qa, decide_eq_true_eq, decide_eq_false_iff_not, Bool.and_eq_true] at hc)) | refine And.intro (by first | assumption | omega | (have := qg (by assumption); omega) | (unfold qq; omega)) ?_ | fail | ((first | refine qc (qt c) fun _ => ?_ | refine qc (qcz c _) fun _ => ?_ | refine qe  (qt c) ?_ | refine qe  (qcz c _) ?_); simp only [go_sem, ↓reduceIte, Nat.reduceEqDiff, Nat.reduceAdd, Nat.reduceSub, Nat.reduceMul, Nat.reduceLT, Nat.reduceLeDiff, reduceCtorEq, Int.reduceToNat]))
    all_goals first | (rw [qd7]; done) | (rw [qd7]; rfl)
omit hm in
theorem qos (c : K) (hg : c.good) (hr : em c < b) : qbp Tryz.prog 9 [refC c] (.tup [refC (qdm rec c).1, enc (qdm rec c).2]) := by
  have g1 : (qbk c 1).1.good := (qc8 c 1).1 hg
  have g2 : (qr (qbk c 1).1 [58, 58]).1.good := (qbb _ _).1 g1
  have e1 := (qc8 c 1).em
  have e2 := qid (qr (qbk c 1).1 [58, 58]).1
  refine qba c0k (by simp) (by simp only [go_sem]) (by simp only [go_sem]) fun hw => ?_
  unfold qdm
  by_cases ht : (qr (qbk c 1).1 [58, 58]).2 = true
  · rw [if_pos ht]
    have hq := qxf (rest (qr (qbk c 1).1 [58, 58]).1 + 2) (qr (qbk c 1).1 [58, 58]).1 g2 (by omega)
    generalize qis (rest (qr (qbk c 1).1 [58, 58]).1 + 2) (qr (qbk c 1).1 [58, 58]).1 = q at *
    repeat' (first | refine ql ?_ | ((first | refine qn ?_ | refine qx (by rfl) ?_ | refine qw ?_ | refine qm ?_ | refine qj ?_ | refine qi ?_); simp (disch := first | omega | (simp only [List.length_set, List.length_append, List.length_cons, List.length_nil]; done) | (simp only [List.length_set, List.length_append, List.length_cons, List.length_nil]; omega)) only [ht, go_sem, ↓reduceIte, Nat.reduceEqDiff, Nat.reduceAdd, Nat.reduceSub, Nat.reduceMul, Nat.reduceLT, Nat.reduceLeDiff, reduceCtorEq, Int.reduceToNat]) | ((first | refine qf ?_ ?_ | refine qd ?_ ?_) <;> intro hc <;> simp only [hc, go_sem, ↓reduceIte, Nat.reduceEqDiff, Nat.reduceAdd, Nat.reduceSub, Nat.reduceMul, Nat.reduceLT, Nat.reduceLeDiff, reduceCtorEq, Int.reduceToNat] <;> (try simp only [qb, qa, decide_eq_true_eq, decide_eq_false_iff_not, Bool.and_eq_true] at hc)) | refine And.intro (by first | assumption | omega | (have := qg (by assumption); omega) | (unfold qq; omega)) ?_ | fail | ((first | refine qc (qgd c 1) fun _ => ?_ | refine qc (qbi _ _) fun _ => ?_ | refine qc hq fun _ => ?_ | refine qe  (qgd c 1) ?_ | refine qe  (qbi _ _) ?_ | refine qe  hq ?_); simp only [go_sem, ↓reduceIte, Nat.reduceEqDiff, Nat.reduceAdd, Nat.reduceSub, Nat.reduceMul, Nat.reduceLT, Nat.reduceLeDiff, reduceCtorEq, Int.reduceToNat]))
    all_goals first | (rw [qfu]; done) | (rw [qfu]; rfl)
  · rw [if_neg ht]
    have hl := qpn ih [61] (qbk c 1).1 g1 (by omega)
    have hwp := qol (qdg (qbk c 1).1).2 (rec (qu (qdg (qbk c 1).1).1 [61]).1).2 (qlo _ g1)
    unfold qgb qse at hl ⊢
    have hvv := qo9 (qbk c 1).1 g1
    generalize qdg (qbk c 1).1 = v at *
    repeat' (first | refine ql ?_ | ((first | refine qn ?_ | refine qx (by rfl) ?_ | refine qw ?_ | refine qm ?_ | refine qj ?_ | refine qi ?_); simp (disch := first | omega | (simp only [List.length_set, List.length_append, List.length_cons, List.length_nil]; done) | (simp only [List.length_set, List.length_append, List.length_cons, List.length_nil]; omega)) only [ht, go_sem, ↓reduceIte, Nat.reduceEqDiff, Nat.reduceAdd, Nat.reduceSub, Nat.reduceMul, Nat.reduceLT, Nat.reduceLeDiff, reduceCtorEq, Int.reduceToNat]) | ((first | refine qf ?_ ?_ | refine qd ?_ ?_) <;> intro hc <;> simp only [hc, go_sem, ↓reduceIte, Nat.reduceEqDiff, Nat.reduceAdd, Nat.reduceSub, Nat.reduceMul, Nat.reduceLT, Nat.reduceLeDiff, reduceCtorEq, Int.reduceToNat] <;> (try simp only [qb, qa, decide_eq_true_eq, decide_eq_false_iff_not, Bool.and_eq_true] at hc)) | refine And.intro (by first | assumption | omega | (have := qg (by assumption); omega) | (unfold qq; omega)) ?_ | fail | ((first | refine qc (qgd c 1) fun _ => ?_ | refine qc (qbi _ _) fun _ => ?_ | refine qc hvv fun _ => ?_ | refine qc (qbf v.1 _) fun _ => ?_ | refine qc hl fun _ => ?_ | refine qc hwp fun _ => ?_ | refine qe  (qgd c 1) ?_ | refine qe  (qbi _ _) ?_ | refine qe  hvv ?_ | refine qe  (qbf v.1 _) ?_ | refine qe  hl ?_ | refine qe  hwp ?_); simp only [go_sem, ↓reduceIte, Nat.reduceEqDiff, Nat.reduceAdd, Nat.reduceSub, Nat.reduceMul, Nat.reduceLT, Nat.reduceLeDiff, reduceCtorEq, Int.reduceToNat]))
    all_goals first | (rw [qfu]; done) | (rw [qfu]; rfl)
end
set_option maxRecDepth 4000

theorem qm1 {c : K} (h : (qdl c).2 = true) : em (qdl c).1 < em c := by
  unfold qdl at h ⊢
  simp only [Bool.and_eq_true] at h
  exact qd8 h.1
def qrv (p : Int) (x : Bool × Nat × K × List N) : AF × List Ent :=
  (⟨[(2, .ptr 0 0), (4, .ptr 1 0), (5, .ptr 2 0), (6, .ptr 3 0), (7, .bool x.1)], []⟩,
    .blk (refC x.2.2.1).cells :: zEC :: zEN :: .blk [.int .i64 26, .int .i64 p, .int .i64 0, .str [], accV 4 (encs x.2.2.2)] :: accE 5 (encs x.2.2.2))
def qna (p : Int) (k : N) (x : Bool × Nat × K × List N) : AF × List Ent :=
  (⟨[(2, .ptr 0 0), (4, .ptr 1 0), (5, .ptr 2 0), (7, .ptr 4 0), (8, .bool x.1)], []⟩,
    .blk (refC x.2.2.1).cells :: zEC :: zEN :: .blk (enc k).cells :: .blk [.int .i64 27, .int .i64 p, .int .i64 0, .str [], if x.2.2.2 = [] then .lit 5 [enc k] else .row 5 (x.2.2.2.length + 1)] ::
      (if x.2.2.2 = [] then [] else [.app 5 (enc k :: encs x.2.2.2)]))
section
variable {rec : K → K × N} {b : Nat} (hm : ∀ c, Mon c (rec c).1) (ih : ∀ c, c.good → em c < b → qbp Tryz.prog 11 [refC c] (.tup [refC (rec c).1, enc (rec c).2]))
include hm ih
theorem q0p (p : Int) (c : K) (hg : c.good) (hr : em c < b) : qbp Tryz.prog 60 [refC c, .int .i64 p] (.tup [refC (qji rec p c).1, enc (qji rec p c).2]) := by
  have hd := qih hm
  have g1 : (qu c [123]).1.good := (qp _ _).1 hg
  have e1 := (qp c [123]).em
  refine qba c0g (by simp) (by simp only [go_sem]) (by simp only [go_sem]) fun hw => ?_
  unfold qji qft
  have gt := (qfe hd (em (qu c [123]).1 + 2) (qu c [123]).1 []).1 g1
  have et := (qfe hd (em (qu c [123]).1 + 2) (qu c [123]).1 []).em
  generalize htg : qcq (qdm rec) (em (qu c [123]).1 + 2) (qu c [123]).1 [] = tg at *
  repeat' (first | refine ql ?_ | refine qk ?_ | ((first | refine qn ?_ | refine qx (by rfl) ?_ | refine qw ?_ | refine qm ?_ | refine qs ?_ | refine qj ?_ | refine qi ?_ | refine qc (qbf c _) fun _ => ?_ | refine qe  (qbf c _) ?_); simp only [go_sem, ↓reduceIte, Nat.reduceEqDiff, Nat.reduceAdd, Nat.reduceSub, Nat.reduceMul, Nat.reduceLT, Nat.reduceLeDiff, reduceCtorEq, Int.reduceToNat]) | ((first | refine qf ?_ ?_ | refine qd ?_ ?_) <;> intro hc <;> simp only [hc, go_sem, ↓reduceIte, Nat.reduceEqDiff, Nat.reduceAdd, Nat.reduceSub, Nat.reduceMul, Nat.reduceLT, Nat.reduceLeDiff, reduceCtorEq, Int.reduceToNat] <;> (try simp only [qb, qa, decide_eq_true_eq, decide_eq_false_iff_not, Bool.and_eq_true] at hc)) | refine And.intro (by first | assumption | omega | (have := qg (by assumption); omega) | (unfold qq; omega)) ?_ | fail)
  refine qca (S := Bool × Nat × K × List N) (fun x => x.2.2.1.good ∧ em x.2.2.1 < b ∧ (x.1 = true → qcq (qdm rec) x.2.1 x.2.2.1 x.2.2.2 = tg ∧ em x.2.2.1 < x.2.1) ∧ (x.1 = false → tg = (x.2.2.1, x.2.2.2) ∧ x.2.2.2 ≠ []) ∧ x.2.2.2.length + (if x.1 = true then em x.2.2.1 + 1 else 0) ≤ 1048579)
    (qrv p) (fun x => if x.1 = true then em x.2.2.1 + 1 else 0) ?_ ?_
  · refine qbq (true, em (qu c [123]).1 + 2, (qu c [123]).1, []) [0, 1, 2, 3] ⟨g1, by simp only; omega, fun _ => ⟨htg, by simp only; omega⟩, (by intro h; cases h), ?_⟩ rfl (by simp) ?_ ?_ ?_
    · have h9 := g1.rest
      have h8 := qid (qu c [123]).1
      unfold rest at h8
      simp only [List.length_nil, if_true]; omega
    all_goals simp only [qrv, zEC, zEN, encs, qbs, qbu]
    all_goals simp only [go_sem, ↓reduceIte, Nat.reduceEqDiff, Nat.reduceAdd, Nat.reduceSub, Nat.reduceMul, Nat.reduceLT, Nat.reduceLeDiff, reduceCtorEq, Int.reduceToNat]
  · rintro ⟨on, fu, d, acc⟩ ⟨i1, i2, i3, i4, i5⟩
    simp only at i1 i2 i3 i4 i5
    unfold qrv zEC zEN
    have hcap : qq (acc.length + 1) 64 := capN (by split at i5 <;> omega)
    cases on with
    | false =>
      obtain ⟨i4, h0⟩ := i4 rfl
      subst i4
      have hne := qch h0
      have g2 : (qu (qu d [125]).1 [105, 110]).1.good := ((qp _ _).trans (qp _ _)).1 i1
      have e2 := ((qp d [125]).trans (qp _ [105, 110])).em
      have hx := ih _ g2 (by omega)
      unfold qu8
      simp only [qb9 hne, qb7 hne, qb0]
      repeat' (first | refine ql ?_ | refine qk ?_ | ((first | refine qn ?_ | refine qx (by rfl) ?_ | refine qw ?_ | refine qm ?_ | refine qs ?_ | refine qj ?_ | refine qi ?_ | refine qc (qbf _ _) fun _ => ?_ | refine qc hx fun _ => ?_ | refine qe  (qbf _ _) ?_ | refine qe  hx ?_); simp only [go_sem, ↓reduceIte, Nat.reduceEqDiff, Nat.reduceAdd, Nat.reduceSub, Nat.reduceMul, Nat.reduceLT, Nat.reduceLeDiff, reduceCtorEq, Int.reduceToNat]) | ((first | refine qf ?_ ?_ | refine qd ?_ ?_) <;> intro hc <;> simp only [hc, go_sem, ↓reduceIte, Nat.reduceEqDiff, Nat.reduceAdd, Nat.reduceSub, Nat.reduceMul, Nat.reduceLT, Nat.reduceLeDiff, reduceCtorEq, Int.reduceToNat] <;> (try simp only [qb, qa, decide_eq_true_eq, decide_eq_false_iff_not, Bool.and_eq_true] at hc)) | refine And.intro (by first | assumption | omega | (have := qg (by assumption); omega) | (unfold qq; omega)) ?_ | fail)
      exact ⟨by rw [qz, qb8], by simp only [enc, qz]⟩
    | true =>
      obtain ⟨i3, i6⟩ := i3 rfl
      obtain ⟨fu, rfl⟩ : ∃ k, fu = k + 1 := ⟨fu - 1, by omega⟩
      rw [qcq] at i3
      have hx := qos ih d i1 i2
      have j1 := (hd d).1 i1
      have j2 := (hd d).em
      generalize qdm rec d = r at *
      obtain ⟨d', n⟩ := r
      simp only at hx j1 j2 i3
      have j3 : (qdl d').1.good := (qi1 d').1 j1
      have j4 := (qi1 d').em
      have k3 : (qdl d').2 = true → qcq (qdm rec) fu (qdl d').1 (acc ++ [n]) = tg ∧ em (qdl d').1 < fu := fun h => by
        rw [if_pos h] at i3
        have := qm1 h
        exact ⟨i3, by omega⟩
      have k4 : (qdl d').2 = false → tg = ((qdl d').1, acc ++ [n]) ∧ acc ++ [n] ≠ [] := fun h => by
        rw [if_neg (by rw [h]; simp)] at i3
        exact ⟨i3.symm, by simp⟩
      have k5 : (if (qdl d').2 = true then em (qdl d').1 + 1 else 0) < em d + 1 := by
        split
        · rename_i h; have := qm1 h; omega
        · omega
      have k6 : (acc ++ [n]).length + (if (qdl d').2 = true then em (qdl d').1 + 1 else 0) ≤ 1048579 := by
        simp only [if_true] at i5
        simp only [List.length_append, List.length_cons, List.length_nil]
        omega
      by_cases h0 : acc = []
      · subst h0
        simp only [encs, qbs, qbu]
        repeat' (first | refine ql ?_ | refine qk ?_ | ((first | refine qn ?_ | refine qx (by rfl) ?_ | refine qw ?_ | refine qm ?_ | refine qs ?_ | refine qj ?_ | refine qi ?_ | refine qc hx fun _ => ?_ | refine qc (qew d') fun _ => ?_ | refine qe  hx ?_ | refine qe  (qew d') ?_); simp only [go_sem, ↓reduceIte, Nat.reduceEqDiff, Nat.reduceAdd, Nat.reduceSub, Nat.reduceMul, Nat.reduceLT, Nat.reduceLeDiff, reduceCtorEq, Int.reduceToNat]) | ((first | refine qf ?_ ?_ | refine qd ?_ ?_) <;> intro hc <;> simp only [hc, go_sem, ↓reduceIte, Nat.reduceEqDiff, Nat.reduceAdd, Nat.reduceSub, Nat.reduceMul, Nat.reduceLT, Nat.reduceLeDiff, reduceCtorEq, Int.reduceToNat] <;> (try simp only [qb, qa, decide_eq_true_eq, decide_eq_false_iff_not, Bool.and_eq_true] at hc)) | refine And.intro (by first | assumption | omega | (have := qg (by assumption); omega) | (unfold qq; omega)) ?_ | fail)
        all_goals (
          refine qbq ((qdl d').2, fu, (qdl d').1, [] ++ [n]) [0, 1, 2, 3, 6] ⟨⟨j3, by simp only; omega, k3, k4, k6⟩, by simpa using k5⟩ rfl (by simp) ?_ ?_ ?_
          all_goals simp only [qrv, zEC, zEN, ← qz, qcr, qcs, List.nil_append, encs, qdc, qdd]
          all_goals simp only [go_sem, ↓reduceIte, Nat.reduceEqDiff, Nat.reduceAdd, Nat.reduceSub, Nat.reduceMul, Nat.reduceLT, Nat.reduceLeDiff, reduceCtorEq, Int.reduceToNat]
          all_goals (try (rw [qz, qb8, qc1]; exact ⟨rfl, rfl⟩)))
      · have hne := qch h0
        simp only [qb9 hne, qb7 hne, qb0]
        repeat' (first | refine ql ?_ | refine qk ?_ | ((first | refine qn ?_ | refine qx (by rfl) ?_ | refine qw ?_ | refine qm ?_ | refine qs ?_ | refine qj ?_ | refine qi ?_ | refine qc hx fun _ => ?_ | refine qc (qew d') fun _ => ?_ | refine qe  hx ?_ | refine qe  (qew d') ?_); simp only [go_sem, ↓reduceIte, Nat.reduceEqDiff, Nat.reduceAdd, Nat.reduceSub, Nat.reduceMul, Nat.reduceLT, Nat.reduceLeDiff, reduceCtorEq, Int.reduceToNat]) | ((first | refine qf ?_ ?_ | refine qd ?_ ?_) <;> intro hc <;> simp only [hc, go_sem, ↓reduceIte, Nat.reduceEqDiff, Nat.reduceAdd, Nat.reduceSub, Nat.reduceMul, Nat.reduceLT, Nat.reduceLeDiff, reduceCtorEq, Int.reduceToNat] <;> (try simp only [qb, qa, decide_eq_true_eq, decide_eq_false_iff_not, Bool.and_eq_true] at hc)) | refine And.intro (by first | assumption | omega | (have := qg (by assumption); omega) | (unfold qq; omega)) ?_ | fail)
        all_goals (
          refine qbq ((qdl d').2, fu, (qdl d').1, acc ++ [n]) [0, 1, 2, 3, 7] ⟨⟨j3, by simp only; omega, k3, k4, k6⟩, by simpa using k5⟩ rfl (by simp) ?_ ?_ ?_
          all_goals simp only [qrv, zEC, zEN, ← qz, qcr, qcs, List.nil_append, encs, qdc, qdd]
          all_goals simp only [go_sem, ↓reduceIte, Nat.reduceEqDiff, Nat.reduceAdd, Nat.reduceSub, Nat.reduceMul, Nat.reduceLT, Nat.reduceLeDiff, reduceCtorEq, Int.reduceToNat]
          all_goals (try (rw [qz, qb8, qc1]; exact ⟨rfl, rfl⟩)))
end
set_option maxRecDepth 4000

section
variable {rec : K → K × N} {b : Nat} (hm : ∀ c, Mon c (rec c).1) (ih : ∀ c, c.good → em c < b → qbp Tryz.prog 11 [refC c] (.tup [refC (rec c).1, enc (rec c).2]))
include hm ih
theorem qum (p : Int) (c : K) (hg : c.good) (hr : em c < b) : qbp Tryz.prog 61 [refC c, .int .i64 p] (.tup [refC (qhn rec p c).1, enc (qhn rec p c).2]) := by
  have hd := qj0 hm
  have hx := ih c hg hr
  have g0 := (hm c).1 hg
  have e0 := (hm c).em
  refine qba c0e (by simp) (by simp only [go_sem]) (by simp only [go_sem]) fun hw => ?_
  unfold qhn qft
  generalize rec c = r0 at *
  obtain ⟨d0, k⟩ := r0
  simp only at hx g0 e0 ⊢
  have g1 : (qu (qu d0 [111, 102]).1 [123]).1.good := ((qp _ _).trans (qp _ _)).1 g0
  have e1 := ((qp d0 [111, 102]).trans (qp _ [123])).em
  generalize htg : qcq (qfo rec) (em (qu (qu d0 [111, 102]).1 [123]).1 + 2) (qu (qu d0 [111, 102]).1 [123]).1 [] = tg at *
  repeat' (first | refine ql ?_ | refine qk ?_ | ((first | refine qn ?_ | refine qx (by rfl) ?_ | refine qw ?_ | refine qm ?_ | refine qs ?_ | refine qj ?_ | refine qi ?_ | refine qc hx fun _ => ?_ | refine qc (qbf _ _) fun _ => ?_ | refine qe  hx ?_ | refine qe  (qbf _ _) ?_); simp only [go_sem, ↓reduceIte, Nat.reduceEqDiff, Nat.reduceAdd, Nat.reduceSub, Nat.reduceMul, Nat.reduceLT, Nat.reduceLeDiff, reduceCtorEq, Int.reduceToNat]) | ((first | refine qf ?_ ?_ | refine qd ?_ ?_) <;> intro hc <;> simp only [hc, go_sem, ↓reduceIte, Nat.reduceEqDiff, Nat.reduceAdd, Nat.reduceSub, Nat.reduceMul, Nat.reduceLT, Nat.reduceLeDiff, reduceCtorEq, Int.reduceToNat] <;> (try simp only [qb, qa, decide_eq_true_eq, decide_eq_false_iff_not, Bool.and_eq_true] at hc)) | refine And.intro (by first | assumption | omega | (have := qg (by assumption); omega) | (unfold qq; omega)) ?_ | fail)
  refine qca (S := Bool × Nat × K × List N) (fun x => x.2.2.1.good ∧ em x.2.2.1 < b ∧ (x.1 = true → qcq (qfo rec) x.2.1 x.2.2.1 x.2.2.2 = tg ∧ em x.2.2.1 < x.2.1) ∧ (x.1 = false → tg = (x.2.2.1, x.2.2.2) ∧ x.2.2.2 ≠ []) ∧ x.2.2.2.length + (if x.1 = true then em x.2.2.1 + 1 else 0) ≤ 1048579)
    (qna p k) (fun x => if x.1 = true then em x.2.2.1 + 1 else 0) ?_ ?_
  · refine qbq (true, em (qu (qu d0 [111, 102]).1 [123]).1 + 2, (qu (qu d0 [111, 102]).1 [123]).1, []) [0, 1, 2, 3, 4] ⟨g1, by simp only; omega, fun _ => ⟨htg, by simp only; omega⟩, (by intro h; cases h), ?_⟩ rfl (by simp) ?_ ?_ ?_
    · have h9 := g1.rest
      have h8 := qid (qu (qu d0 [111, 102]).1 [123]).1
      unfold rest at h8
      simp only [List.length_nil, if_true]; omega
    all_goals simp only [qna, zEC, zEN, if_true]
    all_goals simp only [go_sem, ↓reduceIte, Nat.reduceEqDiff, Nat.reduceAdd, Nat.reduceSub, Nat.reduceMul, Nat.reduceLT, Nat.reduceLeDiff, reduceCtorEq, Int.reduceToNat]
  · rintro ⟨on, fu, d, acc⟩ ⟨i1, i2, i3, i4, i5⟩
    simp only at i1 i2 i3 i4 i5
    unfold qna zEC zEN
    cases on with
    | false =>
      obtain ⟨i4, h0⟩ := i4 rfl
      subst i4
      unfold qqa
      simp only [if_neg h0]
      repeat' (first | refine ql ?_ | refine qk ?_ | ((first | refine qn ?_ | refine qx (by rfl) ?_ | refine qw ?_ | refine qm ?_ | refine qs ?_ | refine qj ?_ | refine qi ?_ | refine qc (qbf _ _) fun _ => ?_ | refine qe  (qbf _ _) ?_); simp only [go_sem, ↓reduceIte, Nat.reduceEqDiff, Nat.reduceAdd, Nat.reduceSub, Nat.reduceMul, Nat.reduceLT, Nat.reduceLeDiff, reduceCtorEq, Int.reduceToNat]) | ((first | refine qf ?_ ?_ | refine qd ?_ ?_) <;> intro hc <;> simp only [hc, go_sem, ↓reduceIte, Nat.reduceEqDiff, Nat.reduceAdd, Nat.reduceSub, Nat.reduceMul, Nat.reduceLT, Nat.reduceLeDiff, reduceCtorEq, Int.reduceToNat] <;> (try simp only [qb, qa, decide_eq_true_eq, decide_eq_false_iff_not, Bool.and_eq_true] at hc)) | refine And.intro (by first | assumption | omega | (have := qg (by assumption); omega) | (unfold qq; omega)) ?_ | fail)
      simp only [enc, encs]
    | true =>
      have hcap : qq (acc.length + 1 + 1) 64 := capN (by simp only [if_true] at i5; omega)
      obtain ⟨i3, i6⟩ := i3 rfl
      obtain ⟨fu, rfl⟩ : ∃ k, fu = k + 1 := ⟨fu - 1, by omega⟩
      rw [qcq] at i3
      have hp := q3g (rest d + 2) d i1 (by have := qid d; omega)
      have q1 := (qgl (rest d + 2) d).1 i1
      have q2 := (qgl (rest d + 2) d).em
      have j1 := (hd d).1 i1
      have j2 := (hd d).em
      unfold qfo qp8 at i3 j1 j2
      generalize qd3 (rest d + 2) d = pr at *
      obtain ⟨d1, pt⟩ := pr
      simp only at hp q1 q2 i3 j1 j2
      have q3 : (qu d1 [45, 62]).1.good := (qp _ _).1 q1
      have hx := ih (qu d1 [45, 62]).1 q3 (by have := (qp d1 [45, 62]).em; omega)
      generalize rec (qu d1 [45, 62]).1 = r at *
      obtain ⟨d', e⟩ := r
      simp only at hx j1 j2 i3
      have j3 : (qdl d').1.good := (qi1 d').1 j1
      have j4 := (qi1 d').em
      have k3 : (qdl d').2 = true → qcq (qfo rec) fu (qdl d').1 (acc ++ [altN pt e]) = tg ∧ em (qdl d').1 < fu := fun h => by
        rw [if_pos h] at i3
        have := qm1 h
        exact ⟨i3, by omega⟩
      have k4 : (qdl d').2 = false → tg = ((qdl d').1, acc ++ [altN pt e]) ∧ acc ++ [altN pt e] ≠ [] := fun h => by
        rw [if_neg (by rw [h]; simp)] at i3
        exact ⟨i3.symm, by simp⟩
      have k5 : (if (qdl d').2 = true then em (qdl d').1 + 1 else 0) < em d + 1 := by
        split
        · rename_i h; have := qm1 h; omega
        · omega
      have k6 : (acc ++ [altN pt e]).length + (if (qdl d').2 = true then em (qdl d').1 + 1 else 0) ≤ 1048579 := by
        simp only [if_true] at i5
        simp only [List.length_append, List.length_cons, List.length_nil]
        omega
      by_cases h0 : acc = []
      · subst h0
        have hcap2 : qq 2 64 := capN (by omega)
        clear hcap
        simp only [if_true]
        repeat' (first | refine ql ?_ | refine qk ?_ | ((first | refine qn ?_ | refine qx (by rfl) ?_ | refine qw ?_ | refine qm ?_ | refine qs ?_ | refine qj ?_ | refine qi ?_); simp (disch := first | omega | (simp only [List.length_set, List.length_append, List.length_cons, List.length_nil]; done) | (simp only [List.length_set, List.length_append, List.length_cons, List.length_nil]; omega)) only [hcap2, go_sem, ↓reduceIte, Nat.reduceEqDiff, Nat.reduceAdd, Nat.reduceSub, Nat.reduceMul, Nat.reduceLT, Nat.reduceLeDiff, reduceCtorEq, Int.reduceToNat]) | ((first | refine qf ?_ ?_ | refine qd ?_ ?_) <;> intro hc <;> simp only [hc, go_sem, ↓reduceIte, Nat.reduceEqDiff, Nat.reduceAdd, Nat.reduceSub, Nat.reduceMul, Nat.reduceLT, Nat.reduceLeDiff, reduceCtorEq, Int.reduceToNat] <;> (try simp only [qb, qa, decide_eq_true_eq, decide_eq_false_iff_not, Bool.and_eq_true] at hc)) | refine And.intro (by first | assumption | omega | (have := qg (by assumption); omega) | (unfold qq; omega)) ?_ | fail | ((first | refine qc hp fun _ => ?_ | refine qc (qbf _ _) fun _ => ?_ | refine qc hx fun _ => ?_ | refine qc (qew d') fun _ => ?_ | refine qe  hp ?_ | refine qe  (qbf _ _) ?_ | refine qe  hx ?_ | refine qe  (qew d') ?_); simp only [go_sem, ↓reduceIte, Nat.reduceEqDiff, Nat.reduceAdd, Nat.reduceSub, Nat.reduceMul, Nat.reduceLT, Nat.reduceLeDiff, reduceCtorEq, Int.reduceToNat]))
        all_goals (
          have hne : ¬ [] ++ [altN pt e] = [] := by simp
          refine qbq ((qdl d').2, fu, (qdl d').1, [] ++ [altN pt e]) [0, 1, 2, 3, 4, 8] ⟨⟨j3, by simp only; omega, k3, k4, k6⟩, by simpa using k5⟩ rfl (by simp) ?_ ?_ ?_
          all_goals simp only [qna, zEC, zEN, if_neg hne, List.length_append, List.length_cons, List.length_nil]
          all_goals (try simp only [← qz, List.nil_append, encs, altN, enc])
          all_goals simp only [go_sem, ↓reduceIte, Nat.reduceEqDiff, Nat.reduceAdd, Nat.reduceSub, Nat.reduceMul, Nat.reduceLT, Nat.reduceLeDiff, reduceCtorEq, Int.reduceToNat]
          all_goals (try (rw [qn3, qz, qb8, qc1]; exact ⟨rfl, rfl⟩)))
      · simp only [if_neg h0]
        have hlen : (enc k :: encs acc).length = acc.length + 1 := by simp [qb0]
        repeat' (first | refine ql ?_ | refine qk ?_ | ((first | refine qn ?_ | refine qx (by rfl) ?_ | refine qw ?_ | refine qm ?_ | refine qs ?_ | refine qj ?_ | refine qi ?_); simp (disch := first | omega | (simp only [List.length_set, List.length_append, List.length_cons, List.length_nil]; done) | (simp only [List.length_set, List.length_append, List.length_cons, List.length_nil]; omega)) only [hlen, hcap, go_sem, ↓reduceIte, Nat.reduceEqDiff, Nat.reduceAdd, Nat.reduceSub, Nat.reduceMul, Nat.reduceLT, Nat.reduceLeDiff, reduceCtorEq, Int.reduceToNat]) | ((first | refine qf ?_ ?_ | refine qd ?_ ?_) <;> intro hc <;> simp only [hc, go_sem, ↓reduceIte, Nat.reduceEqDiff, Nat.reduceAdd, Nat.reduceSub, Nat.reduceMul, Nat.reduceLT, Nat.reduceLeDiff, reduceCtorEq, Int.reduceToNat] <;> (try simp only [qb, qa, decide_eq_true_eq, decide_eq_false_iff_not, Bool.and_eq_true] at hc)) | refine And.intro (by first | assumption | omega | (have := qg (by assumption); omega) | (unfold qq; omega)) ?_ | fail | ((first | refine qc hp fun _ => ?_ | refine qc (qbf _ _) fun _ => ?_ | refine qc hx fun _ => ?_ | refine qc (qew d') fun _ => ?_ | refine qe  hp ?_ | refine qe  (qbf _ _) ?_ | refine qe  hx ?_ | refine qe  (qew d') ?_); simp only [go_sem, ↓reduceIte, Nat.reduceEqDiff, Nat.reduceAdd, Nat.reduceSub, Nat.reduceMul, Nat.reduceLT, Nat.reduceLeDiff, reduceCtorEq, Int.reduceToNat]))
        all_goals (
          have hne : ¬ acc ++ [altN pt e] = [] := by simp
          refine qbq ((qdl d').2, fu, (qdl d').1, acc ++ [altN pt e]) [0, 1, 2, 3, 4, 9] ⟨⟨j3, by simp only; omega, k3, k4, k6⟩, by simpa using k5⟩ rfl (by simp) ?_ ?_ ?_
          all_goals simp only [qna, zEC, zEN, if_neg hne, List.length_append, List.length_cons, List.length_nil]
          all_goals (try simp only [← qz, List.nil_append, encs, altN, enc])
          all_goals simp only [go_sem, ↓reduceIte, Nat.reduceEqDiff, Nat.reduceAdd, Nat.reduceSub, Nat.reduceMul, Nat.reduceLT, Nat.reduceLeDiff, reduceCtorEq, Int.reduceToNat]
          all_goals (try (rw [qn3, qz, qb8, qc1]; exact ⟨rfl, rfl⟩)))
theorem q2l (p : Int) (c : K) (hg : c.good) (hr : em c < b) : qbp Tryz.prog 62 [refC c, .int .i64 p] (.tup [refC (qjl rec p c).1, enc (qjl rec p c).2]) := by
  have h1 := ih c hg hr
  have g1 := (hm c).1 hg
  have e1 := (hm c).em
  refine qba c0f (by simp) (by simp only [go_sem]) (by simp only [go_sem]) fun hw => ?_
  unfold qjl q2k
  generalize rec c = r1 at *
  obtain ⟨d1, n1⟩ := r1
  simp only at h1 g1 e1 ⊢
  have g2 : (qu d1 [116, 104, 101, 110]).1.good := (qp _ _).1 g1
  have e2 := (qp d1 [116, 104, 101, 110]).em
  have h2 := ih _ g2 (by omega)
  have g3 := (hm (qu d1 [116, 104, 101, 110]).1).1 g2
  have e3 := (hm (qu d1 [116, 104, 101, 110]).1).em
  unfold qpf
  generalize rec (qu d1 [116, 104, 101, 110]).1 = r2 at *
  obtain ⟨d2, n2⟩ := r2
  simp only at h2 g3 e3 ⊢
  have g4 : (qu d2 [101, 108, 115, 101]).1.good := (qp _ _).1 g3
  have e4 := (qp d2 [101, 108, 115, 101]).em
  have h3 := ih _ g4 (by omega)
  unfold qvv
  generalize rec (qu d2 [101, 108, 115, 101]).1 = r3 at *
  obtain ⟨d3, n3⟩ := r3
  simp only at h3 ⊢
  repeat' (first | refine ql ?_ | ((first | refine qn ?_ | refine qx (by rfl) ?_ | refine qw ?_ | refine qm ?_ | refine qc h1 fun _ => ?_ | refine qc h2 fun _ => ?_ | refine qc h3 fun _ => ?_ | refine qc (qbf _ _) fun _ => ?_ | refine qe  h1 ?_ | refine qe  h2 ?_ | refine qe  h3 ?_ | refine qe  (qbf _ _) ?_); simp only [go_sem, ↓reduceIte, Nat.reduceEqDiff, Nat.reduceAdd, Nat.reduceSub, Nat.reduceMul, Nat.reduceLT, Nat.reduceLeDiff, reduceCtorEq, Int.reduceToNat]) | ((first | refine qf ?_ ?_ | refine qd ?_ ?_) <;> intro hc <;> simp only [hc, go_sem, ↓reduceIte, Nat.reduceEqDiff, Nat.reduceAdd, Nat.reduceSub, Nat.reduceMul, Nat.reduceLT, Nat.reduceLeDiff, reduceCtorEq, Int.reduceToNat] <;> (try simp only [qb, qa, decide_eq_true_eq, decide_eq_false_iff_not, Bool.and_eq_true] at hc)) | refine And.intro (by first | assumption | omega | (have := qg (by assumption); omega) | (unfold qq; omega)) ?_ | fail)
  all_goals (simp only [enc, encs])
end
set_option maxRecDepth 4000

theorem qy4 {P : Program} {fr : Option Nat} {k m : Nat} {a : IC} {Q : VE → AF → List Ent → Prop} {af : AF} {A B C : Ent} {L : List Ent} {fl : Bool} {n : N} (h : VI P fr k m a Q af (A :: B :: C :: .blk (enc n).cells :: L)) : VI P fr k m a Q af (A :: B :: C :: qld fl n :: L) := by
  cases n
  cases fl with
  | false => exact h
  | true =>
    refine qpy 3 4 (.sl 5) (by rfl) ?_
    simp only [List.getD_cons_succ, List.getD_cons_zero, if_true, qj4, List.set_cons_succ, List.set_cons_zero]
    exact h
def qp2 (x : Bool × Nat × K × N) : AF × List Ent :=
  (⟨[(1, .ptr 0 0), (2, .ptr 1 0), (3, .ptr 2 0), (13, .ptr 3 0)], []⟩, [.blk (refC x.2.2.1).cells, zEC, zEN, qld x.1 x.2.2.2])
section
variable {rec : K → K × N} {b : Nat} (hm : ∀ c, Mon c (rec c).1) (ih : ∀ c, c.good → em c < b → qbp Tryz.prog 11 [refC c] (.tup [refC (rec c).1, enc (rec c).2]))
include hm ih
theorem qxx (c : K) (hg : c.good) (hr : em c ≤ b) : qbp Tryz.prog 34 [refC c] (.tup [refC (qen rec c).1, enc (qen rec c).2]) := by
  have g1 : (qr c [92]).1.good := (qbb _ _).1 hg
  have g2 : (qr c [108, 101, 116]).1.good := (qbb _ _).1 hg
  have g3 : (qr c [99, 97, 115, 101]).1.good := (qbb _ _).1 hg
  have g4 : (qr c [105, 102]).1.good := (qbb _ _).1 hg
  have hb : (UInt8.ofNat 92) = 92 := rfl
  refine qba c0c (by simp) (by simp only [go_sem]) (by simp only [go_sem]) fun hw => ?_
  unfold qen
  by_cases t1 : (qr c [92]).2 = true
  · rw [if_pos t1]
    have hl := q09 ih _ g1 (Nat.lt_of_lt_of_le (qd8 t1) hr)
    repeat' (first | refine ql ?_ | refine qk ?_ | ((first | refine qn ?_ | refine qx (by rfl) ?_ | refine qw ?_ | refine qm ?_ | refine qs ?_ | refine qj ?_ | refine qi ?_); simp (disch := first | omega | (simp only [List.length_set, List.length_append, List.length_cons, List.length_nil]; done) | (simp only [List.length_set, List.length_append, List.length_cons, List.length_nil]; omega)) only [hb, t1, go_sem, ↓reduceIte, Nat.reduceEqDiff, Nat.reduceAdd, Nat.reduceSub, Nat.reduceMul, Nat.reduceLT, Nat.reduceLeDiff, reduceCtorEq, Int.reduceToNat]) | ((first | refine qf ?_ ?_ | refine qd ?_ ?_) <;> intro hc <;> simp only [hc, go_sem, ↓reduceIte, Nat.reduceEqDiff, Nat.reduceAdd, Nat.reduceSub, Nat.reduceMul, Nat.reduceLT, Nat.reduceLeDiff, reduceCtorEq, Int.reduceToNat] <;> (try simp only [qb, qa, decide_eq_true_eq, decide_eq_false_iff_not, Bool.and_eq_true] at hc)) | refine And.intro (by first | assumption | omega | (have := qg (by assumption); omega) | (unfold qq; omega)) ?_ | fail | ((first | refine qc (qt c) fun _ => ?_ | refine qc (qbi c _) fun _ => ?_ | refine qc hl fun _ => ?_ | refine qe  (qt c) ?_ | refine qe  (qbi c _) ?_ | refine qe  hl ?_); simp only [go_sem, ↓reduceIte, Nat.reduceEqDiff, Nat.reduceAdd, Nat.reduceSub, Nat.reduceMul, Nat.reduceLT, Nat.reduceLeDiff, reduceCtorEq, Int.reduceToNat]))
  · have t1f : (qr c [92]).2 = false := by simpa using t1
    rw [if_neg t1]
    by_cases t2 : (qr c [108, 101, 116]).2 = true
    · rw [if_pos t2]
      have hl := q0p hm ih (qbc c).pos _ g2 (Nat.lt_of_lt_of_le (qd8 t2) hr)
      repeat' (first | refine ql ?_ | refine qk ?_ | ((first | refine qn ?_ | refine qx (by rfl) ?_ | refine qw ?_ | refine qm ?_ | refine qs ?_ | refine qj ?_ | refine qi ?_); simp (disch := first | omega | (simp only [List.length_set, List.length_append, List.length_cons, List.length_nil]; done) | (simp only [List.length_set, List.length_append, List.length_cons, List.length_nil]; omega)) only [hb, t1f, t2, go_sem, ↓reduceIte, Nat.reduceEqDiff, Nat.reduceAdd, Nat.reduceSub, Nat.reduceMul, Nat.reduceLT, Nat.reduceLeDiff, reduceCtorEq, Int.reduceToNat]) | ((first | refine qf ?_ ?_ | refine qd ?_ ?_) <;> intro hc <;> simp only [hc, go_sem, ↓reduceIte, Nat.reduceEqDiff, Nat.reduceAdd, Nat.reduceSub, Nat.reduceMul, Nat.reduceLT, Nat.reduceLeDiff, reduceCtorEq, Int.reduceToNat] <;> (try simp only [qb, qa, decide_eq_true_eq, decide_eq_false_iff_not, Bool.and_eq_true] at hc)) | refine And.intro (by first | assumption | omega | (have := qg (by assumption); omega) | (unfold qq; omega)) ?_ | fail | ((first | refine qc (qt c) fun _ => ?_ | refine qc (qbi c _) fun _ => ?_ | refine qc hl fun _ => ?_ | refine qe  (qt c) ?_ | refine qe  (qbi c _) ?_ | refine qe  hl ?_); simp only [go_sem, ↓reduceIte, Nat.reduceEqDiff, Nat.reduceAdd, Nat.reduceSub, Nat.reduceMul, Nat.reduceLT, Nat.reduceLeDiff, reduceCtorEq, Int.reduceToNat]))
    · have t2f : (qr c [108, 101, 116]).2 = false := by simpa using t2
      rw [if_neg t2]
      by_cases t3 : (qr c [99, 97, 115, 101]).2 = true
      · rw [if_pos t3]
        have hl := qum hm ih (qbc c).pos _ g3 (Nat.lt_of_lt_of_le (qd8 t3) hr)
        repeat' (first | refine ql ?_ | refine qk ?_ | ((first | refine qn ?_ | refine qx (by rfl) ?_ | refine qw ?_ | refine qm ?_ | refine qs ?_ | refine qj ?_ | refine qi ?_); simp (disch := first | omega | (simp only [List.length_set, List.length_append, List.length_cons, List.length_nil]; done) | (simp only [List.length_set, List.length_append, List.length_cons, List.length_nil]; omega)) only [hb, t1f, t2f, t3, go_sem, ↓reduceIte, Nat.reduceEqDiff, Nat.reduceAdd, Nat.reduceSub, Nat.reduceMul, Nat.reduceLT, Nat.reduceLeDiff, reduceCtorEq, Int.reduceToNat]) | ((first | refine qf ?_ ?_ | refine qd ?_ ?_) <;> intro hc <;> simp only [hc, go_sem, ↓reduceIte, Nat.reduceEqDiff, Nat.reduceAdd, Nat.reduceSub, Nat.reduceMul, Nat.reduceLT, Nat.reduceLeDiff, reduceCtorEq, Int.reduceToNat] <;> (try simp only [qb, qa, decide_eq_true_eq, decide_eq_false_iff_not, Bool.and_eq_true] at hc)) | refine And.intro (by first | assumption | omega | (have := qg (by assumption); omega) | (unfold qq; omega)) ?_ | fail | ((first | refine qc (qt c) fun _ => ?_ | refine qc (qbi c _) fun _ => ?_ | refine qc hl fun _ => ?_ | refine qe  (qt c) ?_ | refine qe  (qbi c _) ?_ | refine qe  hl ?_); simp only [go_sem, ↓reduceIte, Nat.reduceEqDiff, Nat.reduceAdd, Nat.reduceSub, Nat.reduceMul, Nat.reduceLT, Nat.reduceLeDiff, reduceCtorEq, Int.reduceToNat]))
      · have t3f : (qr c [99, 97, 115, 101]).2 = false := by simpa using t3
        rw [if_neg t3]
        by_cases t4 : (qr c [105, 102]).2 = true
        · rw [if_pos t4]
          have hl := q2l hm ih (qbc c).pos _ g4 (Nat.lt_of_lt_of_le (qd8 t4) hr)
          repeat' (first | refine ql ?_ | refine qk ?_ | ((first | refine qn ?_ | refine qx (by rfl) ?_ | refine qw ?_ | refine qm ?_ | refine qs ?_ | refine qj ?_ | refine qi ?_); simp (disch := first | omega | (simp only [List.length_set, List.length_append, List.length_cons, List.length_nil]; done) | (simp only [List.length_set, List.length_append, List.length_cons, List.length_nil]; omega)) only [hb, t1f, t2f, t3f, t4, go_sem, ↓reduceIte, Nat.reduceEqDiff, Nat.reduceAdd, Nat.reduceSub, Nat.reduceMul, Nat.reduceLT, Nat.reduceLeDiff, reduceCtorEq, Int.reduceToNat]) | ((first | refine qf ?_ ?_ | refine qd ?_ ?_) <;> intro hc <;> simp only [hc, go_sem, ↓reduceIte, Nat.reduceEqDiff, Nat.reduceAdd, Nat.reduceSub, Nat.reduceMul, Nat.reduceLT, Nat.reduceLeDiff, reduceCtorEq, Int.reduceToNat] <;> (try simp only [qb, qa, decide_eq_true_eq, decide_eq_false_iff_not, Bool.and_eq_true] at hc)) | refine And.intro (by first | assumption | omega | (have := qg (by assumption); omega) | (unfold qq; omega)) ?_ | fail | ((first | refine qc (qt c) fun _ => ?_ | refine qc (qbi c _) fun _ => ?_ | refine qc hl fun _ => ?_ | refine qe  (qt c) ?_ | refine qe  (qbi c _) ?_ | refine qe  hl ?_); simp only [go_sem, ↓reduceIte, Nat.reduceEqDiff, Nat.reduceAdd, Nat.reduceSub, Nat.reduceMul, Nat.reduceLT, Nat.reduceLeDiff, reduceCtorEq, Int.reduceToNat]))
        · have t4f : (qr c [105, 102]).2 = false := by simpa using t4
          rw [if_neg t4]
          have ha := qpp hm ih c hg hr
          have j0 := (qec hm c).1 hg
          have e0 := (qec hm c).em
          unfold qk9
          generalize qdb rec c = r0 at *
          obtain ⟨d0, n0⟩ := r0
          simp only at ha j0 e0
          generalize htg : qfb rec (em (d0, n0).1 + 1) (d0, n0).1 (d0, n0).2 = tg
          simp only at htg
          repeat' (first | refine ql ?_ | refine qk ?_ | ((first | refine qn ?_ | refine qx (by rfl) ?_ | refine qw ?_ | refine qm ?_ | refine qs ?_ | refine qj ?_ | refine qi ?_); simp (disch := first | omega | (simp only [List.length_set, List.length_append, List.length_cons, List.length_nil]; done) | (simp only [List.length_set, List.length_append, List.length_cons, List.length_nil]; omega)) only [hb, t1f, t2f, t3f, t4f, go_sem, ↓reduceIte, Nat.reduceEqDiff, Nat.reduceAdd, Nat.reduceSub, Nat.reduceMul, Nat.reduceLT, Nat.reduceLeDiff, reduceCtorEq, Int.reduceToNat]) | ((first | refine qf ?_ ?_ | refine qd ?_ ?_) <;> intro hc <;> simp only [hc, go_sem, ↓reduceIte, Nat.reduceEqDiff, Nat.reduceAdd, Nat.reduceSub, Nat.reduceMul, Nat.reduceLT, Nat.reduceLeDiff, reduceCtorEq, Int.reduceToNat] <;> (try simp only [qb, qa, decide_eq_true_eq, decide_eq_false_iff_not, Bool.and_eq_true] at hc)) | refine And.intro (by first | assumption | omega | (have := qg (by assumption); omega) | (unfold qq; omega)) ?_ | fail | ((first | refine qc (qt c) fun _ => ?_ | refine qc (qbi c _) fun _ => ?_ | refine qc ha fun _ => ?_ | refine qe  (qt c) ?_ | refine qe  (qbi c _) ?_ | refine qe  ha ?_); simp only [go_sem, ↓reduceIte, Nat.reduceEqDiff, Nat.reduceAdd, Nat.reduceSub, Nat.reduceMul, Nat.reduceLT, Nat.reduceLeDiff, reduceCtorEq, Int.reduceToNat]))
          refine qca (S := Bool × Nat × K × N) (fun x => x.2.2.1.good ∧ em x.2.2.1 ≤ b ∧ qfb rec x.2.1 x.2.2.1 x.2.2.2 = tg ∧ em x.2.2.1 < x.2.1) qp2 (fun x => em x.2.2.1) ?_ ?_
          · refine qbq (false, em d0 + 1, d0, n0) [0, 1, 2, 7] ⟨j0, by simp only; omega, htg, Nat.lt_succ_self _⟩ rfl (by simp) ?_ ?_ ?_
            all_goals simp only [qp2, qld, zEC, zEN]
            all_goals simp only [go_sem, ↓reduceIte, Nat.reduceEqDiff, Nat.reduceAdd, Nat.reduceSub, Nat.reduceMul, Nat.reduceLT, Nat.reduceLeDiff, reduceCtorEq, Int.reduceToNat]
          · rintro ⟨fl, fu, d, n⟩ ⟨i1, i2, i3, i4⟩
            simp only at i1 i2 i3 i4
            unfold qp2 zEC zEN
            refine qy4 ?_
            obtain ⟨fu, rfl⟩ : ∃ k, fu = k + 1 := ⟨fu - 1, by omega⟩
            rw [qfb] at i3
            have ha2 := qpp hm ih d i1 i2
            have j1 := (qec hm d).1 i1
            have e1 := (qec hm d).em
            have hlt := qj2 hm (c := d)
            generalize qdb rec d = r at *
            obtain ⟨d', k⟩ := r
            simp only at ha2 j1 e1 hlt i3
            by_cases hbg : begE d = true
            · rw [if_pos hbg] at i3
              have hlt := hlt hbg
              repeat' (first | refine ql ?_ | refine qk ?_ | ((first | refine qn ?_ | refine qx (by rfl) ?_ | refine qw ?_ | refine qm ?_ | refine qs ?_ | refine qj ?_ | refine qi ?_); simp (disch := first | omega | (simp only [List.length_set, List.length_append, List.length_cons, List.length_nil]; done) | (simp only [List.length_set, List.length_append, List.length_cons, List.length_nil]; omega)) only [hbg, go_sem, ↓reduceIte, Nat.reduceEqDiff, Nat.reduceAdd, Nat.reduceSub, Nat.reduceMul, Nat.reduceLT, Nat.reduceLeDiff, reduceCtorEq, Int.reduceToNat]) | ((first | refine qf ?_ ?_ | refine qd ?_ ?_) <;> intro hc <;> simp only [hc, go_sem, ↓reduceIte, Nat.reduceEqDiff, Nat.reduceAdd, Nat.reduceSub, Nat.reduceMul, Nat.reduceLT, Nat.reduceLeDiff, reduceCtorEq, Int.reduceToNat] <;> (try simp only [qb, qa, decide_eq_true_eq, decide_eq_false_iff_not, Bool.and_eq_true] at hc)) | refine And.intro (by first | assumption | omega | (have := qg (by assumption); omega) | (unfold qq; omega)) ?_ | fail | ((first | refine qc (qe1 d) fun _ => ?_ | refine qc ha2 fun _ => ?_ | refine qe  (qe1 d) ?_ | refine qe  ha2 ?_); simp only [go_sem, ↓reduceIte, Nat.reduceEqDiff, Nat.reduceAdd, Nat.reduceSub, Nat.reduceMul, Nat.reduceLT, Nat.reduceLeDiff, reduceCtorEq, Int.reduceToNat]))
              refine qbq (true, fu, d', appN n k) [0, 1, 2, 3] ⟨⟨j1, by simp only; omega, i3, by simp only; omega⟩, by simp only; omega⟩ rfl (by simp) ?_ ?_ ?_
              all_goals simp only [qp2, zEC, zEN, qld, appN, encs, N.kind, N.pos, N.num, N.text, N.kids]
              all_goals simp only [go_sem, ↓reduceIte, Nat.reduceEqDiff, Nat.reduceAdd, Nat.reduceSub, Nat.reduceMul, Nat.reduceLT, Nat.reduceLeDiff, reduceCtorEq, Int.reduceToNat]
            · rw [if_neg hbg] at i3
              subst i3
              repeat' (first | refine ql ?_ | refine qk ?_ | ((first | refine qn ?_ | refine qx (by rfl) ?_ | refine qw ?_ | refine qm ?_ | refine qs ?_ | refine qj ?_ | refine qi ?_); simp (disch := first | omega | (simp only [List.length_set, List.length_append, List.length_cons, List.length_nil]; done) | (simp only [List.length_set, List.length_append, List.length_cons, List.length_nil]; omega)) only [hbg, go_sem, ↓reduceIte, Nat.reduceEqDiff, Nat.reduceAdd, Nat.reduceSub, Nat.reduceMul, Nat.reduceLT, Nat.reduceLeDiff, reduceCtorEq, Int.reduceToNat]) | ((first | refine qf ?_ ?_ | refine qd ?_ ?_) <;> intro hc <;> simp only [hc, go_sem, ↓reduceIte, Nat.reduceEqDiff, Nat.reduceAdd, Nat.reduceSub, Nat.reduceMul, Nat.reduceLT, Nat.reduceLeDiff, reduceCtorEq, Int.reduceToNat] <;> (try simp only [qb, qa, decide_eq_true_eq, decide_eq_false_iff_not, Bool.and_eq_true] at hc)) | refine And.intro (by first | assumption | omega | (have := qg (by assumption); omega) | (unfold qq; omega)) ?_ | fail | ((first | refine qc (qe1 d) fun _ => ?_ | refine qe  (qe1 d) ?_); simp only [go_sem, ↓reduceIte, Nat.reduceEqDiff, Nat.reduceAdd, Nat.reduceSub, Nat.reduceMul, Nat.reduceLT, Nat.reduceLeDiff, reduceCtorEq, Int.reduceToNat]))
              all_goals (try rfl)
end
theorem qqm {f : Nat} (ih : ∀ c, c.good → em c < f → qbp Tryz.prog 11 [refC c] (.tup [refC (qez f c).1, enc (qez f c).2])) (c : K) (hg : c.good) (hr : em c < f + 1) :
    qbp Tryz.prog 11 [refC c] (.tup [refC (qez (f + 1) c).1, enc (qez (f + 1) c).2]) := by
  have hm := qk5 f
  have g1 : (qh c).1.good := (qy c).1 hg
  have hr1 : em (qh c).1 ≤ f := by have := (qy c).em; omega
  have ho := qxx hm ih _ g1 hr1
  have g2 := (qlq hm (qh c).1).1 g1
  refine qba c0d (by simp) (by simp only [go_sem]) (by simp only [go_sem]) fun hw => ?_
  rw [qez]
  generalize qen (qez f) (qh c).1 = r at *
  repeat' (first | refine ql ?_ | ((first | refine qn ?_ | refine qx (by rfl) ?_ | refine qw ?_ | refine qm ?_ | refine qc (qcn c) fun _ => ?_ | refine qc ho fun _ => ?_ | refine qc (qby _ g2.2.2) fun _ => ?_ | refine qe  (qcn c) ?_ | refine qe  ho ?_ | refine qe  (qby _ g2.2.2) ?_); simp only [go_sem, ↓reduceIte, Nat.reduceEqDiff, Nat.reduceAdd, Nat.reduceSub, Nat.reduceMul, Nat.reduceLT, Nat.reduceLeDiff, reduceCtorEq, Int.reduceToNat]) | ((first | refine qf ?_ ?_ | refine qd ?_ ?_) <;> intro hc <;> simp only [hc, go_sem, ↓reduceIte, Nat.reduceEqDiff, Nat.reduceAdd, Nat.reduceSub, Nat.reduceMul, Nat.reduceLT, Nat.reduceLeDiff, reduceCtorEq, Int.reduceToNat] <;> (try simp only [qb, qa, decide_eq_true_eq, decide_eq_false_iff_not, Bool.and_eq_true] at hc)) | refine And.intro (by first | assumption | omega | (have := qg (by assumption); omega) | (unfold qq; omega)) ?_ | fail)
theorem qvn (f : Nat) : ∀ c : K, c.good → em c < f → qbp Tryz.prog 11 [refC c] (.tup [refC (qez f c).1, enc (qez f c).2]) := by
  induction f with
  | zero => exact fun c _ h => absurd h (by omega)
  | succ f ih => exact qqm ih

def NoEnd (c : K) : Prop := ∀ t ∈ c.l, t.kind ≠ 0
theorem NoEnd.mon {c c' : K} (h : NoEnd c) (m : Mon c c') : NoEnd c' := by unfold NoEnd; rw [m.2.2.2]; exact h
theorem q9s (r : K × Option N) : toO (ofO r) = r := by
  obtain ⟨c, o⟩ := r
  cases o <;> rfl
theorem qek {p : R3} {r : K × N} (h1 : p.1 = r.1) (h2 : p.2.2 = true → p.2.1 = r.2) (h3 : p.2.2 = false → p.1.err ≠ 0) : qee (toO p) r := by
  obtain ⟨d, n, ok⟩ := p
  cases ok with
  | false => exact ⟨h1, (fun n h => by cases h), fun _ => h3 rfl⟩
  | true => exact ⟨h1, (fun n h => by cases h; exact h2 rfl), (fun h => by cases h)⟩
theorem ql7 {p : R3} {r : K × N} (h : qee (toO p) r) : p.1 = r.1 := h.1
theorem qwj {p : R3} {r : K × N} (h : qee (toO p) r) (hs : p.2.2 = true) : p.2.1 = r.2 := h.2.1 _ (by unfold toO; simp only; rw [if_pos hs])
theorem qv3 {p : R3} {r : K × N} (h : qee (toO p) r) (hs : p.2.2 = false) : p.1.err ≠ 0 := h.2.2 (by unfold toO; simp only; rw [if_neg (by rw [hs]; simp)])
theorem qhr {p : K × Option N} {r : K × N} (h : qee p r) (hs : ¬ p.2.isSome = true) : p.1.err ≠ 0 := h.2.2 (by
  cases ho : p.2 with
  | none => rfl
  | some n => rw [ho] at hs; exact absurd rfl hs)
theorem qhm {p : K × Option N} {r : K × N} (h : qee p r) (hs : p.2.isSome = true) : p.2.getD N0 = r.2 := by
  obtain ⟨n, hn⟩ := Option.isSome_iff_exists.1 hs
  rw [hn]
  exact h.2.1 n hn
theorem qsj {rec : K → K × N} {c : K} (h : c.err ≠ 0) : qdb rec c = (c, N0) := by
  rw [qdb, if_neg (by rw [qqu h]; simp), qfv h]
theorem qik {rec : K → K × N} {c : K} (h : c.err ≠ 0) (f : Nat) (n : N) : qfb rec f c n = (c, n) := by
  cases f with
  | zero => rfl
  | succ f => rw [qfb, if_neg (by rw [qqu h]; simp)]
theorem qmg {c : K} (h : c.err ≠ 0) (f : Nat) (acc : List T) : qdk f c acc = (c, acc) := by
  cases f with
  | zero => rfl
  | succ f => rw [qdk, qe7 h, if_neg (by decide)]
theorem q0y {c : K} {k : Int} (h : c.err ≠ 0) : qbk c k = (c, false) := by rw [qp4 h, qfv h]
theorem qjo : ∀ (f : Nat) (c : K) (acc : List T), qdk f c acc = ((qdk f c []).1, acc ++ (qdk f c []).2)
  | 0, c, acc => by simp [qdk]
  | f + 1, c, acc => by
    rw [qdk, qdk]
    split
    · rw [qjo f _ (acc ++ [qbc c]), qjo f _ ([] ++ [qbc c])]
      simp
    · simp
section
variable {rp : K → K × Option N} {rr : K → K × N} {b : Nat} (hx : ∀ c : K, c.err ≠ 0 → (rr c).1 = c) (ih : ∀ c, NoEnd c → em c < b → qee (rp c) (rr c))
include hx ih
theorem qm9 {c : K} (hn : NoEnd c) (hr : em c ≤ b) : qee (qbl rp c) (qdb rr c) := by
  unfold qbl qdb
  by_cases hl : (qjd c).isSome = true
  · have hk : ¬ isK c [40] = true := by
      intro h
      obtain ⟨n, hn⟩ := Option.isSome_iff_exists.1 hl
      simp only [isK, qh3, Bool.and_eq_true, Bool.or_eq_true, decide_eq_true_eq] at h
      unfold qjd at hn
      rw [if_neg (by omega), if_neg (by omega), if_neg (by omega)] at hn
      cases hn
    rw [if_pos hl, if_pos (show begE c = true by simp [begE, hl]), if_neg hk]
    exact ⟨rfl, fun n h => by simp only at h ⊢; rw [h]; rfl, fun h => by simp only at h; rw [h] at hl; cases hl⟩
  · rw [if_neg hl]
    by_cases hk : isK c [40] = true
    · rw [if_pos hk, if_pos (show begE c = true by simp [begE, hk]), if_pos hk]
      have hem := qem hk
      by_cases he : (qh c).2 = true
      · rw [if_pos he]
        have hk' : isK (qh c).1 [40] = true := by rw [qly he]; exact hk
        rw [qlz hk'] at hem ⊢
        simp only at hem ⊢
        obtain ⟨a1, a2, a3⟩ := ih (q8 (qh c).1) (hn.mon ((qy c).trans (qbt _))) (by omega)
        rw [← a1]
        generalize rp (q8 (qh c).1) = r at *
        obtain ⟨d, o⟩ := r
        simp only at a1 a2 a3 ⊢
        cases o with
        | none =>
          have h3 := a3 rfl
          rw [if_neg (by simp), qb6 h3, qcl h3]
          exact ⟨rfl, (fun n h => by cases h), fun _ => h3⟩
        | some n =>
          rw [if_pos (by rfl)]
          by_cases hw : (qu d [41]).2 = true
          · rw [if_pos hw]
            exact ⟨rfl, fun m h => a2 m h, (fun h => by cases h)⟩
          · rw [if_neg hw]
            have h3 := qd4 (by simpa using hw)
            exact ⟨(qcl h3).symm, (fun n h => by cases h), fun _ => h3⟩
      · have he' : (qh c).2 = false := by simpa using he
        have h1 := qf1 he'
        rw [if_neg he]
        rw [qb6 h1] at hem ⊢
        simp only at hem ⊢
        rw [hx _ h1, qb6 h1, qcl h1]
        exact ⟨rfl, (fun n h => by cases h), fun _ => h1⟩
    · rw [if_neg hk, if_neg (show ¬ begE c = true by simp [begE, hl, hk])]
      exact ⟨rfl, (fun n h => by cases h), fun _ => qg5 c⟩
theorem qn5 (hp : ∀ c, Mon c (rp c).1) (hm : ∀ c, Mon c (rr c).1) : ∀ (f g : Nat) (c : K) (n : N), NoEnd c → rest c < f → em c < g → em c ≤ b → qee (toO (qfm rp f c n)) (qfb rr g c n)
  | 0, _, _, _ => fun _ h _ _ => by omega
  | _, 0, _, _ => fun _ _ h _ => by omega
  | f + 1, g + 1, c, n => fun hn hf hg hb => by
    rw [qfm, qfb]
    by_cases hk : begE c = true
    · rw [if_pos hk, if_pos hk]
      have ha := qm9 hx ih hn hb
      have hl := qj2 hm hk
      have hml := qdi hp c
      by_cases hs : (qbl rp c).2.isSome = true
      · rw [if_pos hs, qhm ha hs, ← ha.1]
        have hlt := qiv hp hs
        rw [← ha.1] at hl
        exact qn5 hp hm f g _ _ (hn.mon hml) (by omega) (by omega) (by omega)
      · rw [if_neg hs]
        have h3 := qhr ha hs
        rw [qik (by rw [← ha.1]; exact h3)]
        exact qek ha.1 (fun h => by cases h) (fun _ => h3)
    · rw [if_neg hk, if_neg hk]
      exact qek rfl (fun _ => rfl) (fun h => by cases h)
theorem qyn (hp : ∀ c, Mon c (rp c).1) (hm : ∀ c, Mon c (rr c).1) {c : K} (hn : NoEnd c) (hr : em c ≤ b) : qee (toO (qg2 rp c)) (qk9 rr c) := by
  unfold qg2 qk9
  have ha := qm9 hx ih hn hr
  have hml := qdi hp c
  have hme := (qec hm c).em
  by_cases hs : (qbl rp c).2.isSome = true
  · rw [if_pos hs, qhm ha hs, ← ha.1]
    rw [← ha.1] at hme
    exact qn5 hx ih hp hm _ _ _ _ (hn.mon hml) (Nat.lt_succ_self _) (Nat.lt_succ_self _) (by omega)
  · rw [if_neg hs]
    have h3 := qhr ha hs
    rw [qik (by rw [← ha.1]; exact h3)]
    exact qek ha.1 (fun h => by cases h) (fun _ => h3)
theorem qjs (x : List UInt8) : ∀ (f g : Nat) (c : K), NoEnd c → rest c < f → em c < g → em c < b → qee (toO (qci rp x f c)) (qse rr x (qdk g c []))
  | 0, _, _ => fun _ h _ _ => by omega
  | _, 0, _ => fun _ _ h _ => by omega
  | f + 1, g + 1, c => fun hn hf hg hb => by
    rw [qci, qdk]
    by_cases hk : (qbc c).kind = 1
    · rw [if_pos hk, if_pos hk, qjo]
      have h1 := qbj (c := c) (by omega)
      have h2 := qh6 (c := c) (by omega)
      have ha := qjs x f g (q8 c) (hn.mon (qbt c)) (by omega) (by omega) (by omega)
      refine qek (show (qci rp x f (q8 c)).1 = (qse rr x (qdk g (q8 c) [])).1 from ql7 ha) (fun h => ?_) (fun h => qv3 (p := qci rp x f (q8 c)) ha h)
      simp only
      rw [qwj (p := qci rp x f (q8 c)) ha h]
      rfl
    · rw [if_neg hk, if_neg hk]
      have hw := (qp c x).em
      unfold qse
      simp only [qul, List.foldr_nil]
      by_cases hs : (qu c x).2 = true
      · rw [if_pos hs, q9s]
        exact ih _ (hn.mon (qp c x)) (by omega)
      · rw [if_neg hs]
        have h3 := qd4 (c := c) (x := x) (by simpa using hs)
        exact qek (hx _ h3).symm (fun h => by cases h) (fun _ => h3)
theorem qmj {c : K} (hn : NoEnd c) (hr : em c < b) : qee (qcj rp c) (qdm rr c) := by
  have hk1 := qc8 c 1
  have e1 := hk1.em
  unfold qcj qdm
  by_cases hk : (qbk c 1).2 = true
  · rw [if_pos hk]
    by_cases ht : (qr (qbk c 1).1 [58, 58]).2 = true
    · rw [if_pos ht, if_pos ht]
      have hem := qid (qr (qbk c 1).1 [58, 58]).1
      have ha := qxz (rest (qr (qbk c 1).1 [58, 58]).1 + 2) (qr (qbk c 1).1 [58, 58]).1 (hn.mon (hk1.trans (qbb _ _))) (by omega)
      refine ⟨ha.1, fun n h => ?_, fun h => ha.2.2 (by simpa using h)⟩
      obtain ⟨q, hq, rfl⟩ := Option.map_eq_some_iff.1 h
      rw [ha.2.1 q hq]
    · rw [if_neg ht, if_neg ht]
      have ha := qjs hx ih [61] (rest (qbk c 1).1 + 1) (em (qbk c 1).1 + 1) (qbk c 1).1 (hn.mon hk1) (Nat.lt_succ_self _) (Nat.lt_succ_self _) (by omega)
      refine ⟨ha.1, fun n h => ?_, fun h => ha.2.2 (by simpa using h)⟩
      obtain ⟨q, hq, rfl⟩ := Option.map_eq_some_iff.1 h
      exact congrArg _ (ha.2.1 q hq)
  · rw [if_neg hk]
    have h3 := qwu (c := c) (k := 1) (by simpa using hk)
    rw [qfp h3, if_neg (by simp)]
    unfold qgb qdg qse
    rw [qmg h3]
    simp only
    rw [qb6 h3, hx _ h3]
    exact ⟨rfl, (fun n h => by cases h), fun _ => h3⟩
omit ih in
theorem qs8 {c : K} (h : c.err ≠ 0) : (qdm rr c).1 = c := by
  unfold qdm qgb qdg qse
  rw [q0y h, qfp h, if_neg (by simp), qmg h]
  simp only
  rw [qb6 h, hx _ h]
end
/-- Rows in braces. -/
theorem qn2 {rp : K → R3} {rr : K → K × N} {b : Nat} (hp : ∀ c, Mon c (rp c).1) (hm : ∀ c, Mon c (rr c).1) (hl : ∀ c, (rp c).2.2 = true → rest (rp c).1 < rest c) (ih : ∀ c, NoEnd c → em c < b → qee (toO (rp c)) (rr c)) :
    ∀ (f g : Nat) (c : K) (acc : List N), NoEnd c → rest c < f → em c < g → em c < b →
      (qb4 rp f c acc).1 = (qu (qcq rr g c acc).1 [125]).1 ∧ ((qb4 rp f c acc).2.2 = true → (qb4 rp f c acc).2.1 = (qcq rr g c acc).2) ∧ ((qb4 rp f c acc).2.2 = false → (qb4 rp f c acc).1.err ≠ 0)
  | 0, _, _, _ => fun _ h _ _ => by omega
  | _, 0, _, _ => fun _ _ h _ => by omega
  | f + 1, g + 1, c, acc => fun hn hf hg hb => by
    rw [qb4, qcq]
    have ha := ih c hn hb
    have e1 := (hm c).em
    have hmo : qdl (rp c).1 = ((qr (rp c).1 [59]).1, (qr (rp c).1 [59]).2 && !isK (qr (rp c).1 [59]).1 [125]) := rfl
    by_cases hs : (rp c).2.2 = true
    · rw [if_pos hs, qwj ha hs, ← ql7 ha, hmo]
      by_cases ht : ((qr (rp c).1 [59]).2 && !isK (qr (rp c).1 [59]).1 [125]) = true
      · rw [if_pos ht, if_pos ht]
        have h1 := hl c hs
        have h2 := (qbb (rp c).1 [59]).2.1
        have h3 : em (qr (rp c).1 [59]).1 < em (rp c).1 := qm1 (c := (rp c).1) ht
        have h4 := (hp c).em
        exact qn2 hp hm hl ih f g _ _ (hn.mon ((hp c).trans (qbb _ _))) (by omega) (by omega) (by omega)
      · rw [if_neg ht, if_neg ht]
        refine ⟨rfl, fun _ => rfl, fun h => qd4 h⟩
    · rw [if_neg hs]
      have h3 := qv3 ha (by simpa using hs)
      rw [← ql7 ha]
      unfold qdl
      rw [qfp h3, Bool.false_and, if_neg (by simp)]
      simp only
      rw [qb6 h3]
      exact ⟨rfl, (fun h => by cases h), fun _ => h3⟩
theorem qoq {rp : K → R3} {rr : K → K × N} {b : Nat} (hp : ∀ c, Mon c (rp c).1) (hm : ∀ c, Mon c (rr c).1) (hl : ∀ c, (rp c).2.2 = true → rest (rp c).1 < rest c) (hx : ∀ c : K, c.err ≠ 0 → (rr c).1 = c) (ih : ∀ c, NoEnd c → em c < b → qee (toO (rp c)) (rr c))
    {c : K} (hn : NoEnd c) (hr : em c < b) : (qbn rp c).1 = (qu (qft rr (qu c [123]).1).1 [125]).1 ∧ ((qbn rp c).2.2 = true → (qbn rp c).2.1 = (qft rr (qu c [123]).1).2) ∧ ((qbn rp c).2.2 = false → (qbn rp c).1.err ≠ 0) := by
  unfold qbn qft
  have e1 := (qp c [123]).em
  by_cases hs : (qu c [123]).2 = true
  · rw [if_pos hs]
    exact qn2 hp hm hl ih _ _ _ _ (hn.mon (qp c _)) (Nat.lt_succ_self _) (by omega) (by omega)
  · rw [if_neg hs]
    have h3 := qd4 (c := c) (x := [123]) (by simpa using hs)
    have h4 : (qcq rr (em (qu c [123]).1 + 2) (qu c [123]).1 []).1 = (qu c [123]).1 := by
      rw [qcq]
      unfold qdl
      rw [hx _ h3, qfp h3, Bool.false_and, if_neg (by simp)]
    rw [h4, qb6 h3]
    exact ⟨rfl, (fun h => by cases h), fun _ => h3⟩
section
variable {rp : K → K × Option N} {rr : K → K × N} {b : Nat} (hx : ∀ c : K, c.err ≠ 0 → (rr c).1 = c) (ih : ∀ c, NoEnd c → em c < b → qee (rp c) (rr c)) (hp : ∀ c, Mon c (rp c).1) (hm : ∀ c, Mon c (rr c).1)
include hx ih hp hm
theorem qx4 (p : Int) {c : K} (hn : NoEnd c) (hr : em c < b) : qee (toO (qh2 rp p c)) (qji rr p c) := by
  have hl := qoq (b := b) (rp := fun c => ofO (qcj rp c)) (rr := qdm rr) (fun c => qgm hp c) (qih hm) (fun c h => qlf hp h) (fun c h => qs8 hx h) (fun c h1 h2 => by rw [q9s]; exact qmj hx ih h1 h2) hn hr
  have hml := qgp (rd := fun c => ofO (qcj rp c)) (fun c => qgm hp c) c
  unfold qh2 qji letB letC qu8
  generalize qbn (fun c => ofO (qcj rp c)) c = L at *
  obtain ⟨d, l, ok⟩ := L
  simp only at hl hml ⊢
  rw [← hl.1]
  have e1 := hml.em
  have e2 := (qp d [105, 110]).em
  cases ok with
  | false =>
    have h3 := hl.2.2 rfl
    rw [if_neg (by simp), qb6 h3, hx _ h3]
    exact qek rfl (fun h => by cases h) (fun _ => h3)
  | true =>
    rw [if_pos rfl, hl.2.1 rfl]
    by_cases hw : (qu d [105, 110]).2 = true
    · rw [if_pos hw]
      have ha := ih (qu d [105, 110]).1 (hn.mon (hml.trans (qp _ _))) (by omega)
      refine qek ha.1 (fun h => ?_) (fun h => qhr ha (by simpa using h))
      simp only
      rw [qhm ha h]
    · rw [if_neg hw]
      have h3 := qd4 (c := d) (x := [105, 110]) (by simpa using hw)
      exact qek (hx _ h3).symm (fun h => by cases h) (fun _ => h3)
omit hp hm in
theorem qxu {c : K} (hn : NoEnd c) (hr : em c < b) : qee (toO (qfi rp c)) (qfo rr c) := by
  have hpa := qwg (rest c + 2) c (by have := qid c; omega)
  have hmp := qfh (rest c + 2) c
  unfold qfi qfo altB altC qp8
  generalize qcv (rest c + 2) c = q at *
  have e1 := hmp.em
  have e2 := (qp q.1 [45, 62]).em
  rw [← hpa.1]
  by_cases hs : q.2.isSome = true
  · rw [if_pos hs, qhm hpa hs]
    by_cases hw : (qu q.1 [45, 62]).2 = true
    · rw [if_pos hw]
      have ha := ih (qu q.1 [45, 62]).1 (hn.mon (hmp.trans (qp _ _))) (by omega)
      refine qek ha.1 (fun h => ?_) (fun h => qhr ha (by simpa using h))
      simp only
      rw [qhm ha h]
    · rw [if_neg hw]
      have h3 := qd4 (c := q.1) (x := [45, 62]) (by simpa using hw)
      exact qek (hx _ h3).symm (fun h => by cases h) (fun _ => h3)
  · rw [if_neg hs]
    have h3 := qhr hpa hs
    rw [qb6 h3, hx _ h3]
    exact qek rfl (fun h => by cases h) (fun _ => h3)
omit ih hp hm in
theorem qnj {c : K} (h : c.err ≠ 0) : (qfo rr c).1 = c := by
  unfold qfo qp8
  rw [qr5 _ h]
  simp only
  rw [qb6 h, hx _ h]
theorem quj (p : Int) {c : K} (hn : NoEnd c) (hr : em c < b) : qee (toO (qf2 rp p c)) (qhn rr p c) := by
  have hc := ih c hn hr
  have hmc := hp c
  unfold qf2 qhn qyh qym qqa
  generalize rp c = q at *
  have e1 := hmc.em
  have e2 := (qp q.1 [111, 102]).em
  rw [← hc.1]
  have herr : ∀ d : K, d.err ≠ 0 → (qu (qft (qfo rr) (qu (qu d [111, 102]).1 [123]).1).1 [125]).1 = d := fun d h3 => by
    have h4 : (qft (qfo rr) d).1 = d := by
      unfold qft
      rw [qcq]
      unfold qdl
      rw [qnj hx h3, qfp h3, Bool.false_and, if_neg (by simp)]
    rw [qb6 h3, qb6 h3, h4, qb6 h3]
  by_cases hs : q.2.isSome = true
  · rw [if_pos hs, qhm hc hs]
    by_cases hw : (qu q.1 [111, 102]).2 = true
    · rw [if_pos hw]
      have hl := qoq (b := b) (rp := qfi rp) (rr := qfo rr) (fun c => qkx hp c) (qj0 hm) (fun c h => qn4 hp h) (fun c h => qnj hx h) (fun c h1 h2 => qxu hx ih h1 h2) (hn.mon (hmc.trans (qp q.1 [111, 102]))) (by omega)
      exact qek hl.1 (fun h => by simp only; rw [hl.2.1 h]) (fun h => hl.2.2 h)
    · rw [if_neg hw]
      have h3 := qd4 (c := q.1) (x := [111, 102]) (by simpa using hw)
      refine qek ?_ (fun h => by cases h) (fun _ => h3)
      have := herr _ h3
      rw [qb6 h3] at this
      exact this.symm
  · rw [if_neg hs]
    have h3 := qhr hc hs
    exact qek (herr _ h3).symm (fun h => by cases h) (fun _ => h3)
omit hm in
theorem qxe (p : Int) {c : K} (hn : NoEnd c) (hr : em c < b) : qee (toO (qeh rp p ifsW c [])) (qjl rr p c) := by
  have h1 := ih c hn hr
  have m1 := hp c
  unfold ifsW qjl q2k
  rw [qeh, show ifsK c [] = (c, true) from rfl, if_pos rfl]
  simp only
  generalize rp c = q1 at *
  have e1 := m1.em
  have e2 := (qp q1.1 [116, 104, 101, 110]).em
  rw [← h1.1]
  have herr2 : ∀ (d : K) (a bb : K × N), d.err ≠ 0 → bb.1 = d → (qpf rr p a bb).1 = d := fun d a bb h3 hb => by
    unfold qpf qvv
    simp only
    rw [hb, qb6 h3, hx _ h3]
  have herr1 : ∀ (d : K) (a : K × N), d.err ≠ 0 → (qpf rr p a (rr (qu d [116, 104, 101, 110]).1)).1 = d := fun d a h3 => herr2 d a _ h3 (by rw [qb6 h3, hx _ h3])
  by_cases s1 : q1.2.isSome = true
  · rw [if_pos s1, qhm h1 s1]
    rw [qeh, show ifsK q1.1 [116, 104, 101, 110] = qu q1.1 [116, 104, 101, 110] from if_neg (by simp)]
    by_cases w2 : (qu q1.1 [116, 104, 101, 110]).2 = true
    · rw [if_pos w2]
      have h2 := ih (qu q1.1 [116, 104, 101, 110]).1 (hn.mon (m1.trans (qp _ _))) (by omega)
      have m2 := hp (qu q1.1 [116, 104, 101, 110]).1
      generalize rp (qu q1.1 [116, 104, 101, 110]).1 = q2 at *
      have e3 := m2.em
      have e4 := (qp q2.1 [101, 108, 115, 101]).em
      by_cases s2 : q2.2.isSome = true
      · rw [if_pos s2, qhm h2 s2]
        rw [qeh, show ifsK q2.1 [101, 108, 115, 101] = qu q2.1 [101, 108, 115, 101] from if_neg (by simp)]
        unfold qpf qvv
        rw [← h2.1]
        by_cases w3 : (qu q2.1 [101, 108, 115, 101]).2 = true
        · rw [if_pos w3]
          have h4 := ih (qu q2.1 [101, 108, 115, 101]).1 (hn.mon (((m1.trans (qp _ _)).trans m2).trans (qp _ _))) (by omega)
          generalize rp (qu q2.1 [101, 108, 115, 101]).1 = q3 at *
          by_cases s3 : q3.2.isSome = true
          · rw [if_pos s3, qhm h4 s3, qeh]
            exact qek h4.1 (fun _ => rfl) (fun h => by cases h)
          · rw [if_neg s3]
            exact qek h4.1 (fun h => by cases h) (fun _ => qhr h4 s3)
        · rw [if_neg w3]
          have h3 := qd4 (c := q2.1) (x := [101, 108, 115, 101]) (by simpa using w3)
          exact qek (hx _ h3).symm (fun h => by cases h) (fun _ => h3)
      · rw [if_neg s2]
        have h3 := qhr h2 s2
        exact qek (herr2 _ _ _ h3 h2.1.symm).symm (fun h => by cases h) (fun _ => h3)
    · rw [if_neg w2]
      have h3 := qd4 (c := q1.1) (x := [116, 104, 101, 110]) (by simpa using w2)
      exact qek (herr2 _ _ _ h3 (hx _ h3)).symm (fun h => by cases h) (fun _ => h3)
  · rw [if_neg s1]
    have h3 := qhr h1 s1
    exact qek (herr1 _ _ h3).symm (fun h => by cases h) (fun _ => h3)
theorem qua {c : K} (hn : NoEnd c) (hr : em c ≤ b) : qee (toO (qej rp c)) (qen rr c) := by
  unfold qej qen
  by_cases t1 : (qr c [92]).2 = true
  · rw [if_pos t1, if_pos t1]
    have e1 := qd8 t1
    unfold qju
    by_cases hk : (qbc (qr c [92]).1).kind = 1
    · rw [if_pos hk, if_pos hk]
      exact qjs hx ih _ _ _ _ (hn.mon (qbb _ _)) (Nat.lt_succ_self _) (Nat.lt_succ_self _) (by omega)
    · rw [if_neg hk, if_neg hk]
      exact qek rfl (fun h => by cases h) (fun _ => qg5 _)
  · rw [if_neg t1, if_neg t1]
    by_cases t2 : (qr c [108, 101, 116]).2 = true
    · rw [if_pos t2, if_pos t2]
      have e1 := qd8 t2
      exact qx4 hx ih hp hm _ (hn.mon (qbb _ _)) (by omega)
    · rw [if_neg t2, if_neg t2]
      by_cases t3 : (qr c [99, 97, 115, 101]).2 = true
      · rw [if_pos t3, if_pos t3]
        have e1 := qd8 t3
        exact quj hx ih hp hm _ (hn.mon (qbb _ _)) (by omega)
      · rw [if_neg t3, if_neg t3]
        by_cases t4 : (qr c [105, 102]).2 = true
        · rw [if_pos t4, if_pos t4]
          have e1 := qd8 t4
          exact qxe hx ih hp _ (hn.mon (qbb _ _)) (by omega)
        · rw [if_neg t4, if_neg t4]
          exact qyn hx ih hp hm hn hr
end
theorem qlj {rr : K → K × N} {c : K} (h : c.err ≠ 0) : (qen rr c).1 = c := by
  unfold qen
  rw [qfp h, qfp h, qfp h, qfp h]
  simp only [Bool.false_eq_true, if_false]
  unfold qk9
  rw [qsj h, qik h]
theorem qkp (f : Nat) {c : K} (h : c.err ≠ 0) : (qez f c).1 = c := by
  cases f with
  | zero => rfl
  | succ f =>
    rw [qez, qhh h]
    simp only
    rw [qlj h, qcl h]
theorem qm4 : ∀ (f : Nat) (c : K), NoEnd c → em c < f → qee (qfx f c) (qez f c)
  | 0, _ => fun _ h => by omega
  | f + 1, c => fun hn hf => by
    have hx : ∀ c : K, c.err ≠ 0 → (qez f c).1 = c := fun c h => qkp f h
    have e1 := (qy c).em
    rw [qfx, qez]
    by_cases he : (qh c).2 = true
    · rw [if_pos he]
      have ha := qua hx (qm4 f) (qhi f) (qk5 f) (c := (qh c).1) (hn.mon (qy c)) (by omega)
      refine ⟨?_, ha.2.1, fun h => ?_⟩
      · simp only
        rw [← ql7 ha]
      · have h3 : (qej (qfx f) (qh c).1).1.err ≠ 0 := ha.2.2 h
        simp only
        rw [qcl h3]
        exact h3
    · rw [if_neg he]
      have h3 := qf1 (c := c) (by simpa using he)
      refine ⟨?_, (fun n h => by cases h), fun _ => h3⟩
      simp only
      rw [qlj h3, qcl h3]
end Go.Proofs.YtmekebfgmjaenaaGreat
