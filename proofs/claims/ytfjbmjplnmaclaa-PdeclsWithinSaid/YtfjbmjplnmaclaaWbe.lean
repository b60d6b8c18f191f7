/- Texts of this proof, joined. -/
import Derived.Test.YtfjbmjplnmaclaaWbc
import Derived.Test.YtfjbmjplnmaclaaWbd

/- expressions: the program: of a text -/
set_option maxRecDepth 4000
namespace Go.Proofs.Ytfjbmjplnmaclaa
open Go Go.RowKit Go.V
set_option linter.unusedVariables false
set_option linter.unusedSimpArgs false

theorem qqw {f : Nat} (ih : ∀ c, c.good → rest c < f → qbz Try.prog 66 (curE c) (curE (qhd f c).1) [.ptr 0 0] (resP (qhd f c).2)) (c : K) (hg : c.good) (hr : rest c < f + 1) :
    qbz Try.prog 66 (curE c) (curE (qhd (f + 1) c).1) [.ptr 0 0] (resP (qhd (f + 1) c).2) := by
  have hm := qh7 f
  have g1 : (qp c).1.good := (qbb c).1 hg
  have hr1 : rest (qp c).1 ≤ f := by have := (qbb c).2.1; omega
  have ho := q35 hm ih _ g1 hr1
  have g2 := (qk7 hm (qp c).1).1 g1
  refine qs c0ba 1 (by simp) (by simp) ?_
  rw [qhd]
  generalize qfb (qhd f) (qp c).1 = r at *
  obtain ⟨d, n, ok⟩ := r
  simp only [toO] at ho g2 ⊢
  by_cases hk : (qp c).2 = true
  · rw [if_pos hk]
    cases ok with
    | false =>
      repeat' (first | refine qi ?_ | ((first | refine qm ?_ | refine qj ?_ | refine qh ?_ | refine qg ?_) <;> (try simp (disch := first | omega | (simp only [List.length_set, List.length_append, List.length_cons, List.length_nil]; done) | (simp only [List.length_set, List.length_append, List.length_cons, List.length_nil]; omega)) only [hk, go_sem, ↓reduceIte, Nat.reduceEqDiff, Nat.reduceAdd, Nat.reduceSub, Nat.reduceMul, Nat.reduceLT, Nat.reduceLeDiff, reduceCtorEq, Int.reduceToNat])) | ((first | ((first | refine qe ?_ ?_ | refine qc ?_ ?_) <;> intro hc <;> (try simp only [hc]) <;> (try simp only [qb, qa, decide_eq_true_eq, decide_eq_false_iff_not, Bool.and_eq_true] at hc)) | refine And.intro (by first | assumption | omega | (have := qf (by assumption); omega) | (unfold qo; omega)) ?_ | simp (disch := omega) only [qd] | simp (disch := omega) only [qn] | refine qfp ?_ | refine qhb ho rfl ?_ | refine qd3 g2.2.2 ?_) <;> (try simp only [go_sem, ↓reduceIte, Nat.reduceEqDiff, Nat.reduceAdd, Nat.reduceSub, Nat.reduceMul, Nat.reduceLT, Nat.reduceLeDiff, reduceCtorEq, Int.reduceToNat])))
      all_goals first | (rw [qdf]; done) | (rw [qdf]; rfl) | (rw [qdf]; exact ⟨rfl, rfl⟩)
    | true =>
      repeat' (first | refine qi ?_ | ((first | refine qm ?_ | refine qj ?_ | refine qh ?_ | refine qg ?_) <;> (try simp (disch := first | omega | (simp only [List.length_set, List.length_append, List.length_cons, List.length_nil]; done) | (simp only [List.length_set, List.length_append, List.length_cons, List.length_nil]; omega)) only [hk, go_sem, ↓reduceIte, Nat.reduceEqDiff, Nat.reduceAdd, Nat.reduceSub, Nat.reduceMul, Nat.reduceLT, Nat.reduceLeDiff, reduceCtorEq, Int.reduceToNat])) | ((first | ((first | refine qe ?_ ?_ | refine qc ?_ ?_) <;> intro hc <;> (try simp only [hc]) <;> (try simp only [qb, qa, decide_eq_true_eq, decide_eq_false_iff_not, Bool.and_eq_true] at hc)) | refine And.intro (by first | assumption | omega | (have := qf (by assumption); omega) | (unfold qo; omega)) ?_ | simp (disch := omega) only [qd] | simp (disch := omega) only [qn] | refine qfp ?_ | refine qhb ho rfl ?_ | refine qd3 g2.2.2 ?_) <;> (try simp only [go_sem, ↓reduceIte, Nat.reduceEqDiff, Nat.reduceAdd, Nat.reduceSub, Nat.reduceMul, Nat.reduceLT, Nat.reduceLeDiff, reduceCtorEq, Int.reduceToNat])))
      all_goals first | rfl | exact ⟨rfl, rfl⟩
  · rw [if_neg hk]
    repeat' (first | refine qi ?_ | ((first | refine qm ?_ | refine qj ?_ | refine qh ?_ | refine qg ?_) <;> (try simp (disch := first | omega | (simp only [List.length_set, List.length_append, List.length_cons, List.length_nil]; done) | (simp only [List.length_set, List.length_append, List.length_cons, List.length_nil]; omega)) only [hk, go_sem, ↓reduceIte, Nat.reduceEqDiff, Nat.reduceAdd, Nat.reduceSub, Nat.reduceMul, Nat.reduceLT, Nat.reduceLeDiff, reduceCtorEq, Int.reduceToNat])) | ((first | ((first | refine qe ?_ ?_ | refine qc ?_ ?_) <;> intro hc <;> (try simp only [hc]) <;> (try simp only [qb, qa, decide_eq_true_eq, decide_eq_false_iff_not, Bool.and_eq_true] at hc)) | refine And.intro (by first | assumption | omega | (have := qf (by assumption); omega) | (unfold qo; omega)) ?_ | simp (disch := omega) only [qd] | simp (disch := omega) only [qn] | refine qfp ?_) <;> (try simp only [go_sem, ↓reduceIte, Nat.reduceEqDiff, Nat.reduceAdd, Nat.reduceSub, Nat.reduceMul, Nat.reduceLT, Nat.reduceLeDiff, reduceCtorEq, Int.reduceToNat])))
    all_goals first | (rw [qdf]; done) | (rw [qdf]; rfl) | (rw [qdf]; exact ⟨rfl, rfl⟩)
theorem qbmi (f : Nat) : ∀ c : K, c.good → rest c < f → qbz Try.prog 66 (curE c) (curE (qhd f c).1) [.ptr 0 0] (resP (qhd f c).2) := by
  induction f with
  | zero => exact fun c _ h => absurd h (by omega)
  | succ f ih => exact qqw ih

/-! The size of what is read. -/
theorem qge {k p m : Int} {t : List UInt8} {l : List N} : sz (.mk k p m t l) = szs l + 1 := by rw [qgw]; rfl
theorem q0a {c : K} {n : N} (h : qkb c = some n) : sz n = 1 := by
  unfold qkb qjk at h
  repeat' split at h
  all_goals first | (cases h; rw [qgw]; rfl) | cases h
def SzO (c : K) (r : K × Option N) : Prop := ∀ n, r.2 = some n → sz n + 1 + 2 * rest r.1 ≤ 2 * rest c
def SzB (c : K) (r : R3) : Prop := r.2.2 = true → sz r.2.1 + 1 + 2 * rest r.1 ≤ 2 * rest c
theorem qec {c : K} {r : K × Option N} (h : SzO c r) (hs : r.2.isSome = true) : sz (r.2.getD N0) + 1 + 2 * rest r.1 ≤ 2 * rest c := by
  obtain ⟨n, hn⟩ := Option.isSome_iff_exists.1 hs
  have := h n hn
  rw [hn]
  exact this
section
variable {rec : K → K × Option N} (ih : ∀ c, SzO c (rec c))
include ih
theorem qru (c : K) : SzO c (qbl rec c) := by
  intro n h
  unfold qbl at h ⊢
  split at h
  · rename_i h1
    rw [if_pos h1]
    have := qbm (qm1 h1)
    have := q0a h
    simp only; omega
  · rename_i h1
    rw [if_neg h1]
    split at h
    · rename_i h2
      rw [if_pos h2]
      split at h
      · rename_i h3
        rw [if_pos h3]
        have hp := qbm (c := (qp c).1) (by rw [qdo h3]; exact qdm h2)
        have h0 := (qbb c).2.1
        split at h
        · rename_i h4
          rw [if_pos h4]
          split at h
          · rename_i h5
            rw [if_pos h5]
            have h6 := ih _ _ h
            have h7 := (qt (rec (qbg (qp c).1)).1 [41]).2.1
            have h8 := (qb1 (qx (rec (qbg (qp c).1)).1 [41]).1).2.1
            simp only at h6 ⊢; omega
          · cases h
        · cases h
      · cases h
    · cases h
theorem qs4 : ∀ (f : Nat) (c d : K) (n : N), sz n + 1 + 2 * rest d ≤ 2 * rest c → SzB c (qf6 rec f d n)
  | 0, c, d, n => fun h0 h => by cases h
  | f + 1, c, d, n => fun h0 h => by
    rw [qf6] at h ⊢
    split at h
    · rename_i h1
      rw [if_pos h1]
      split at h
      · rename_i h2
        rw [if_pos h2]
        have h3 := qec (qru ih d) h2
        refine qs4 f c _ _ ?_ h
        rw [appN, qge]
        simp only [szs]; omega
      · cases h
    · rename_i h1
      rw [if_neg h1]
      exact h0
theorem qbb0 (c : K) : SzB c (qhf rec c) := by
  intro h
  unfold qhf at h ⊢
  split at h
  · rename_i h1
    rw [if_pos h1]
    exact qs4 ih _ _ _ _ (qec (qru ih c) h1) h
  · cases h
theorem qnw (x : List UInt8) : ∀ (f : Nat) (c : K), SzB c (qcw rec x f c)
  | 0, c => fun h => by cases h
  | f + 1, c => fun h => by
    rw [qcw] at h ⊢
    split at h
    · rename_i h1
      rw [if_pos h1]
      have h2 := qnw x f (qbg c) h
      have h3 := qbm (c := c) (by omega)
      simp only
      rw [lamN, qge]
      simp only [szs]; omega
    · rename_i h1
      rw [if_neg h1]
      split at h
      · rename_i h2
        rw [if_pos h2]
        have h3 := qec (ih (qx c x).1) h
        have h4 := (qt c x).2.1
        simp only [ofO]; omega
      · cases h
theorem qsq (c : K) : SzO c (qcp rec c) := by
  intro n h
  unfold qcp at h ⊢
  split at h
  · rename_i h1
    rw [if_pos h1]
    have h2 := qof h1
    split at h
    · rename_i h3
      rw [if_pos h3]
      obtain ⟨m, hm, rfl⟩ := Option.map_eq_some_iff.1 h
      have h4 := quc hm
      have h5 := qcg h3
      have h6 := (qhq (rest (qw (qbe c 1).1 [58, 58]).1 + 2) (qw (qbe c 1).1 [58, 58]).1).2.1
      rw [quq, qge]
      simp only [szs]; omega
    · rename_i h3
      rw [if_neg h3]
      obtain ⟨m, hm, rfl⟩ := Option.map_eq_some_iff.1 h
      unfold toO at hm
      simp only at hm
      split at hm
      · rename_i h4
        cases hm
        have h5 := qnw ih _ _ _ h4
        rw [quq, qge]
        simp only [szs]; omega
      · cases hm
  · cases h
omit ih in
theorem qpb {rd : K → R3} (hd : ∀ c, SzB c (rd c)) : ∀ (f : Nat) (c d : K) (acc : List N), szs acc + 2 * rest d ≤ 2 * rest c → (qcy rd f d acc).2.2 = true → szs (qcy rd f d acc).2.1 + 2 * rest (qcy rd f d acc).1 ≤ 2 * rest c
  | 0, c, d, acc => fun h0 h => by cases h
  | f + 1, c, d, acc => fun h0 h => by
    rw [qcy] at h ⊢
    split at h
    · rename_i h1
      rw [if_pos h1]
      have h2 := hd d h1
      have h3 := (q8 (rd d).1 [59]).2.1
      split at h
      · rename_i h4
        rw [if_pos h4]
        refine qpb hd f c _ _ ?_ h
        rw [qej]
        simp only [szs]; omega
      · rename_i h4
        rw [if_neg h4]
        have h5 := (qt (qw (rd d).1 [59]).1 [125]).2.1
        simp only
        rw [qej]
        simp only [szs]; omega
    · cases h
omit ih in
theorem qsr {rd : K → R3} (hd : ∀ c, SzB c (rd c)) (c : K) (h : (qbr rd c).2.2 = true) : szs (qbr rd c).2.1 + 2 * rest (qbr rd c).1 ≤ 2 * rest c := by
  unfold qbr at h ⊢
  split at h
  · rename_i h1
    rw [if_pos h1]
    have h2 := (qt c [123]).2.1
    exact qpb hd _ _ _ _ (by simp only [szs]; omega) h
  · cases h
theorem qbgv (p : Int) (c : K) : SzB c (qjb rec p c) := by
  intro h
  unfold qjb letB letC at h ⊢
  have hl := qsr (rd := fun c => ofO (qcp rec c)) (fun c hs => qec (qsq ih c) hs) c
  generalize qbr (fun c => ofO (qcp rec c)) c = L at *
  split at h
  · rename_i h1
    rw [if_pos h1]
    have hl := hl h1
    split at h
    · rename_i h2
      rw [if_pos h2]
      have h3 := qec (ih (qx L.1 [105, 110]).1) h
      have h4 := qe2 h2
      simp only
      rw [qge, qej]
      simp only [szs]; omega
    · cases h
  · cases h
theorem qbev (c : K) : SzB c (qe4 rec c) := by
  intro h
  unfold qe4 altB altC at h ⊢
  have hp := q93 (rest c + 2) c
  generalize qcq (rest c + 2) c = r at *
  split at h
  · rename_i h1
    rw [if_pos h1]
    obtain ⟨n, hn⟩ := Option.isSome_iff_exists.1 h1
    have hp := hp n hn
    split at h
    · rename_i h2
      rw [if_pos h2]
      have h3 := qec (ih (qx r.1 [45, 62]).1) h
      have h4 := qe2 h2
      simp only
      rw [altN, qge, hn]
      simp only [szs, Option.getD_some]; omega
    · cases h
  · cases h
theorem q2a (p : Int) (c : K) : SzB c (qgk rec p c) := by
  intro h
  unfold qgk q1x q0c at h ⊢
  split at h
  · rename_i h1
    rw [if_pos h1]
    have h2 := qec (ih c) h1
    split at h
    · rename_i h3
      rw [if_pos h3]
      have h4 := qsr (qbev ih) _ h
      have h5 := qe2 h3
      simp only
      rw [qge]
      simp only [szs]; omega
    · cases h
  · cases h
theorem qv1 (p : Int) : ∀ (l : List (List UInt8)) (c d : K) (acc : List N), szs acc + 2 * rest d ≤ 2 * rest c → (qex rec p l d acc).2.2 = true → sz (qex rec p l d acc).2.1 + 2 * rest (qex rec p l d acc).1 ≤ 2 * rest c + 1
  | [], c, d, acc => fun h0 h => by rw [qex, qge]; simp only; omega
  | w :: r, c, d, acc => fun h0 h => by
    rw [qex] at h ⊢
    split at h
    · rename_i h1
      rw [if_pos h1]
      have h2 := (qj0 d w).2.1
      split at h
      · rename_i h3
        rw [if_pos h3]
        have h4 := qec (ih (ifsK d w).1) h3
        refine qv1 p r c _ _ ?_ h
        rw [qej]
        simp only [szs]; omega
      · cases h
    · cases h
theorem q3n (c : K) : SzB c (qfb rec c) := by
  intro h
  unfold qfb at h ⊢
  split at h
  · rename_i h1
    rw [if_pos h1]
    have h0 := qcg h1
    split at h
    · rename_i h2
      rw [if_pos h2]
      have := qnw ih _ _ _ h
      omega
    · cases h
  · rename_i h1
    rw [if_neg h1]
    split at h
    · rename_i h2
      rw [if_pos h2]
      have h0 := qcg h2
      have := qbgv ih _ _ h
      omega
    · rename_i h2
      rw [if_neg h2]
      split at h
      · rename_i h3
        rw [if_pos h3]
        have h0 := qcg h3
        have := q2a ih _ _ h
        omega
      · rename_i h3
        rw [if_neg h3]
        split at h
        · rename_i h4
          rw [if_pos h4]
          have h0 := qcg h4
          have := qv1 ih _ _ _ _ _ (by simp only [szs]; exact Nat.le_of_eq (Nat.zero_add _)) h
          omega
        · rename_i h4
          rw [if_neg h4]
          exact qbb0 ih c h
end
theorem q5x : ∀ (f : Nat) (c : K), SzO c (qhd f c)
  | 0, c => fun n h => by cases h
  | f + 1, c => fun n h => by
    rw [qhd] at h ⊢
    split at h
    · rename_i h1
      rw [if_pos h1]
      unfold toO at h
      simp only at h
      split at h
      · rename_i h2
        cases h
        have h3 := q3n (q5x f) _ h2
        have h4 := (qbb c).2.1
        have h5 := (qb1 (qfb (qhd f) (qp c).1).1).2.1
        simp only; omega
      · cases h
    · cases h

end Go.Proofs.Ytfjbmjplnmaclaa

/- declarations: what is read (plain) -/
namespace Go.Proofs.Ytfjbmjplnmaclaa
open Go Go.RowKit Go.V
set_option linter.unusedVariables false
set_option linter.unusedSimpArgs false
set_option linter.unusedSectionVars false

/-- What tells whether one more comes: the flag, the cursor, the answer. -/
abbrev MF := Bool → K → Bool × K × Bool
def rowF (one : K → R3) (more : MF) : Nat → Bool → K → List N → Bool × RL
  | 0, b, c, _ => (b, c, [], false)
  | f + 1, b, c, acc =>
    if (more b c).2.2 = true then
      if (one (more b c).2.1).2.2 = true then rowF one more f (more b c).1 (one (more b c).2.1).1 (acc ++ [(one (more b c).2.1).2.1])
      else ((more b c).1, (one (more b c).2.1).1, acc, false)
    else ((more b c).1, (more b c).2.1, acc, true)
def rowS (one : K → R3) (more : MF) (b : Bool) (c : K) (acc : List N) : Bool × RL := rowF one more (rest c + 1) b c acc
def qlz (p : K → Bool) : MF := fun b c => (b, c, p c)
def qch (x : List UInt8) : MF := fun b c => if b = true then (b, (qw c x).1, (qw c x).2) else (true, c, true)
def qgb : MF := fun b c => if isK c [125] = true then (b, c, false) else ((qch [59] b c).1, (qch [59] b c).2.1, (qch [59] b c).2.2 && !isK (qch [59] b c).2.1 [125])
def qjh : MF := fun b c => if (qba c).kind = 0 then (b, c, false) else ((qch [59] b c).1, (qch [59] b c).2.1, (qch [59] b c).2.2 && !decide ((qba (qch [59] b c).2.1).kind = 0))
def ql0 (c : K) : Bool := decide ((qba c).kind = 1)
def qir (c : K) : K × Option N := qb6 (qb2 (rest c + 2)) c
def qij (c : K) : K × Option N := qcp (qhd (rest c + 2)) c
def qff (c : K) : K × Option (List N) := qbf (qb2 (rest c + 2)) c
def qg9 (c : K) : R3 := ofO (qir c)
def conN (t : T) (l : List N) : N := .mk 34 t.pos 0 t.text l
def conK (c : K) : R3 :=
  if (qbe c 2).2 = true then ((rowS qg9 (qlz begT) false (qbe c 2).1 []).2.1, conN (qhc c 2) (rowS qg9 (qlz begT) false (qbe c 2).1 []).2.2.1, (rowS qg9 (qlz begT) false (qbe c 2).1 []).2.2.2)
  else ((qbe c 2).1, N0, false)
def qun (p : Int) (t : T) (v l : List N) : N := .mk 33 p v.length t.text l
def qvy (p : Int) (t : T) (v : List N) (w : K × Bool) : R3 :=
  if w.2 = true then ((rowS conK (qch [124]) false w.1 v).2.1, qun p t v (rowS conK (qch [124]) false w.1 v).2.2.1, (rowS conK (qch [124]) false w.1 v).2.2.2)
  else (w.1, posN p, false)
def q2g (p : Int) (t : T) (r : RL) : R3 := qvy p t r.2.1 (qx r.1 [61])
def qnn (p : Int) (c : K) : R3 :=
  if (qbe c 2).2 = true then q2g p (qhc c 2) (rowS qg9 (qlz ql0) false (qbe c 2).1 []).2
  else ((qbe c 2).1, posN p, false)
def qco (kind : Int) (c : K) : R3 :=
  if (qij c).2.isSome = true ∧ ((qij c).2.getD N0).kind ≠ kind then (qea (qij c).1 5, (qij c).2.getD N0, false) else ofO (qij c)
def qlv (r : RL) : RL := if r.2.2 = true then ((qx r.1 [125]).1, r.2.1, (qx r.1 [125]).2) else r
def qda (kind : Int) (c : K) (out : List N) : RL :=
  if (qx c [119, 104, 101, 114, 101]).2 = true then
    if (qx (qx c [119, 104, 101, 114, 101]).1 [123]).2 = true then qlv (rowS (qco kind) qgb false (qx (qx c [119, 104, 101, 114, 101]).1 [123]).1 out).2
    else ((qx (qx c [119, 104, 101, 114, 101]).1 [123]).1, out, false)
  else ((qx c [119, 104, 101, 114, 101]).1, out, false)
def qtp (k p : Int) : N := .mk k p 0 [] []
def qk6 (k p : Int) (t : T) (v l : List N) : N := .mk k p v.length t.text l
def q1z (k p : Int) (t : T) (v : List N) (a : K × Option N) : R3 :=
  if a.2.isSome = true then ((qda (if k = 35 then 32 else 31) a.1 (v ++ [a.2.getD N0])).1, qk6 k p t v (qda (if k = 35 then 32 else 31) a.1 (v ++ [a.2.getD N0])).2.1, (qda (if k = 35 then 32 else 31) a.1 (v ++ [a.2.getD N0])).2.2)
  else (a.1, qk6 k p t v [], false)
def qwa (k p : Int) (t : T) (v : List N) (c : K) : R3 :=
  if k = 35 ∧ (qba c).kind ≠ 1 then (qea c 5, qk6 k p t v [], false) else q1z k p t v (qir c)
def q3r (k p : Int) (c : K) (v : List N) : R3 :=
  if (qbe c 2).2 = true then qwa k p (qhc c 2) v (qbe c 2).1 else ((qbe c 2).1, qtp k p, false)
def qlt (k p : Int) (c : K) : R3 :=
  if (qff c).2.isSome = true then q3r k p (qff c).1 ((qff c).2.getD []) else ((qff c).1, qtp k p, false)
def qo0 : List UInt8 := [100, 97, 116, 97]
def qi3 : List UInt8 := [99, 108, 97, 115, 115]
def qqb : List UInt8 := [105, 110, 115, 116, 97, 110, 99, 101]
def qe8 (c : K) : R3 :=
  if (qw c qo0).2 = true then qnn (qba c).pos (qw c qo0).1
  else if (qw c qi3).2 = true then qlt 35 (qba c).pos (qw c qi3).1
  else if (qw c qqb).2 = true then qlt 36 (qba c).pos (qw c qqb).1
  else ofO (qij c)
def quj (l : List N) : N := .mk 37 0 0 [] l
def qm5 (c : K) : K × Option N := ((rowS qe8 qjh false c []).2.1, some (quj (rowS qe8 qjh false c []).2.2.1))
def decK (c : K) : K × Option N := ((qe8 c).1, some (qe8 c).2.1)

theorem qiw {c : K} {k : Int} (hk : k ≠ 0) (h : (qbe c k).2 = true) : rest (qbe c k).1 < rest c := by
  obtain ⟨h1, h2⟩ := qjv h
  rw [(qqs h).1]
  have := qbm (c := c) (by rw [h2]; exact hk)
  simp only; omega
/-- What goes on, and is less where it has read. -/
structure Goes (one : K → R3) : Prop where
  m : ∀ c, Mon c (one c).1
  l : ∀ c, (one c).2.2 = true → rest (one c).1 < rest c
def MonM (more : MF) : Prop := ∀ b c, Mon c (more b c).2.1
theorem monA (p : K → Bool) : MonM (qlz p) := fun b c => Mon.refl c
theorem monF (x : List UInt8) : MonM (qch x) := fun b c => by
  unfold qch
  split
  · exact q8 c x
  · exact Mon.refl c
theorem monB : MonM qgb := fun b c => by
  unfold qgb
  split
  · exact Mon.refl c
  · exact monF [59] b c
theorem monP : MonM qjh := fun b c => by
  unfold qjh
  split
  · exact Mon.refl c
  · exact monF [59] b c
section
variable {one : K → R3} {more : MF} (ho : Goes one) (hm : MonM more)
include ho hm
theorem qsj : ∀ (f : Nat) (b : Bool) (c : K) (acc : List N), Mon c (rowF one more f b c acc).2.1
  | 0, b, c, acc => Mon.refl c
  | f + 1, b, c, acc => by
    rw [rowF]
    split
    · split
      · exact ((hm b c).trans (ho.m _)).trans (qsj f _ _ _)
      · exact (hm b c).trans (ho.m _)
    · exact hm b c
theorem qsd : ∀ (f : Nat) (b : Bool) (c : K) (acc : List N), (rowF one more f b c acc).2.2.1.length + rest (rowF one more f b c acc).2.1 ≤ acc.length + rest c
  | 0, b, c, acc => by simp [rowF]
  | f + 1, b, c, acc => by
    have h3 := (hm b c).2.1
    have h4 := (ho.m (more b c).2.1).2.1
    rw [rowF]
    split
    · split
      · rename_i h
        have h1 := ho.l _ h
        have h2 := qsd f (more b c).1 (one (more b c).2.1).1 (acc ++ [(one (more b c).2.1).2.1])
        simp only [List.length_append, List.length_cons, List.length_nil] at h2
        omega
      · simp only; omega
    · simp only; omega
/-- The size of what is read. -/
theorem qy1 (hz : ∀ c, SzB c (one c)) : ∀ (f : Nat) (b : Bool) (c : K) (acc : List N), rest c < f → szs (rowF one more f b c acc).2.2.1 + 2 * rest (rowF one more f b c acc).2.1 ≤ szs acc + 2 * rest c
  | 0, b, c, acc => fun h => absurd h (by omega)
  | f + 1, b, c, acc => fun hf => by
    have h3 := (hm b c).2.1
    have h4 := (ho.m (more b c).2.1).2.1
    rw [rowF]
    split
    · split
      · rename_i h
        have h1 := ho.l _ h
        have h5 := hz _ h
        have h2 := qy1 hz f (more b c).1 (one (more b c).2.1).1 (acc ++ [(one (more b c).2.1).2.1]) (by omega)
        rw [qej] at h2
        simp only [szs] at h2
        omega
      · simp only; omega
    · simp only; omega
theorem qes (b : Bool) (c : K) (acc : List N) : Mon c (rowS one more b c acc).2.1 := qsj ho hm _ b c acc
theorem q31 (b : Bool) (c : K) (acc : List N) : (rowS one more b c acc).2.2.1.length + rest (rowS one more b c acc).2.1 ≤ acc.length + rest c := qsd ho hm _ b c acc
theorem qj9 (hz : ∀ c, SzB c (one c)) (b : Bool) (c : K) (acc : List N) : szs (rowS one more b c acc).2.2.1 + 2 * rest (rowS one more b c acc).2.1 ≤ szs acc + 2 * rest c := qy1 ho hm hz _ b c acc (Nat.lt_succ_self _)
end
theorem qdr : Goes qg9 := ⟨fun c => qdj (qcv _) c, fun c h => qdi (qcv _) h⟩
theorem szA : ∀ c, SzO c (qir c) := fun c n h => by
  have h1 := qdi (qcv (rest c + 2)) (c := c) (by unfold qir at h; rw [h]; rfl)
  have h2 := qgy (qii (rest c + 2)) h
  unfold qir at h ⊢
  omega
theorem qrz {c : K} {r : K × Option N} (h : SzO c r) : SzB c (ofO r) := fun hs => qec h hs
theorem qjz : Goes conK where
  m := fun c => by
    unfold conK
    split
    · exact (qca c 2).trans (qes qdr (monA _) _ _ _)
    · exact qca c 2
  l := fun c h => by
    unfold conK at h ⊢
    split at h
    · rename_i h1
      rw [if_pos h1]
      have h2 := qiw (by decide) h1
      have h3 := (qes qdr (monA begT) false (qbe c 2).1 []).2.1
      simp only; omega
    · cases h
theorem qbps : ∀ c, SzB c (conK c) := fun c h => by
  unfold conK at h ⊢
  split at h
  · rename_i h1
    rw [if_pos h1]
    have h2 := qiw (by decide) h1
    have h3 := qj9 qdr (monA begT) (fun c => qrz (szA c)) false (qbe c 2).1 []
    simp only [szs] at h3
    simp only [conN, qge]; omega
  · cases h
theorem qik (c : K) : Mon c (qij c).1 := qhk (qh7 _) c
theorem qmu {c : K} (h : (qij c).2.isSome = true) : rest (qij c).1 < rest c := qi1 (qh7 _) h
theorem qm6 : ∀ c, SzO c (qij c) := fun c => qsq (q5x _) c
theorem qxq (p : Int) (t : T) (v : List N) (w : K × Bool) : Mon w.1 (qvy p t v w).1 := by
  unfold qvy
  split
  · exact qes qjz (monF _) _ _ _
  · exact Mon.refl _
theorem qle (p : Int) (c : K) : Mon c (qnn p c).1 := by
  unfold qnn q2g
  split
  · exact (((qca c 2).trans (qes qdr (monA _) _ _ _)).trans (qt _ _)).trans (qxq _ _ _ _)
  · exact qca c 2
theorem qfa (kind : Int) : Goes (qco kind) where
  m := fun c => by
    unfold qco
    split
    · exact (qik c).trans (qeb _ _)
    · exact qik c
  l := fun c h => by
    unfold qco at h ⊢
    split at h
    · cases h
    · rename_i h1
      rw [if_neg h1]
      exact qmu h
theorem qzg (kind : Int) : ∀ c, SzB c (qco kind c) := fun c h => by
  unfold qco at h ⊢
  split at h
  · cases h
  · rename_i h1
    rw [if_neg h1]
    exact qrz (qm6 c) h
theorem qpu (r : RL) : Mon r.1 (qlv r).1 := by
  unfold qlv
  split
  · exact qt _ _
  · exact Mon.refl _
theorem qzv (kind : Int) (c : K) (out : List N) : Mon c (qda kind c out).1 := by
  unfold qda
  split
  · split
    · exact (((qt c _).trans (qt _ _)).trans (qes (qfa kind) monB _ _ _)).trans (qpu _)
    · exact (qt c _).trans (qt _ _)
  · exact qt c _
theorem q4f (kind : Int) (c : K) (out : List N) : szs (qda kind c out).2.1 + 2 * rest (qda kind c out).1 ≤ szs out + 2 * rest c := by
  have h1 := (qt c [119, 104, 101, 114, 101]).2.1
  have h2 := (qt (qx c [119, 104, 101, 114, 101]).1 [123]).2.1
  unfold qda
  split
  · split
    · have h3 := qj9 (qfa kind) monB (qzg kind) false (qx (qx c [119, 104, 101, 114, 101]).1 [123]).1 out
      have h4 := (qpu (rowS (qco kind) qgb false (qx (qx c [119, 104, 101, 114, 101]).1 [123]).1 out).2).2.1
      unfold qlv at h4 ⊢
      split
      · rename_i h5
        rw [if_pos h5] at h4
        simp only at h4 ⊢; omega
      · omega
    · simp only; omega
  · simp only; omega
theorem qgr (c : K) : Mon c (qir c).1 := qdj (qcv _) c
theorem qfx (c : K) : Mon c (qff c).1 := qeg (qcv _) c
theorem qzb (k p : Int) (t : T) (v : List N) (c : K) : Mon c (qwa k p t v c).1 := by
  unfold qwa q1z
  split
  · exact qeb _ _
  · split
    · exact (qgr c).trans (qzv _ _ _)
    · exact qgr c
theorem qhz (k p : Int) (c : K) : Mon c (qlt k p c).1 := by
  unfold qlt q3r
  split
  · split
    · exact ((qfx c).trans (qca _ _)).trans (qzb _ _ _ _ _)
    · exact (qfx c).trans (qca _ _)
  · exact qfx c
theorem goes_decl : Goes qe8 where
  m := fun c => by
    unfold qe8
    split
    · exact (q8 c _).trans (qle _ _)
    · split
      · exact (q8 c _).trans (qhz _ _ _)
      · split
        · exact (q8 c _).trans (qhz _ _ _)
        · exact qik c
  l := fun c h => by
    unfold qe8 at h ⊢
    split at h
    · rename_i h1
      rw [if_pos h1]
      have h2 := qcg h1
      have h3 := (qle (qba c).pos (qw c qo0).1).2.1
      omega
    · rename_i h1
      rw [if_neg h1]
      split at h
      · rename_i h1
        rw [if_pos h1]
        have h2 := qcg h1
        have h3 := (qhz 35 (qba c).pos (qw c qi3).1).2.1
        omega
      · rename_i h1
        rw [if_neg h1]
        split at h
        · rename_i h1
          rw [if_pos h1]
          have h2 := qcg h1
          have h3 := (qhz 36 (qba c).pos (qw c qqb).1).2.1
          omega
        · rename_i h1
          rw [if_neg h1]
          exact qmu h
theorem qtm {c : K} {l : List N} (h : (qff c).2 = some l) : l.length ≤ rest c := qi8 (qcv _) h
theorem qoj {c : K} {l : List N} (h : (qff c).2 = some l) : szs l + rest (qff c).1 ≤ rest c := by
  have h0 := (q8 c [40]).2.1
  have hm := qcv (rest c + 2)
  unfold qff at h ⊢
  unfold qbf at h ⊢
  split at h
  · rename_i h1
    rw [if_pos h1]
    have h2 := qhn h
    have hB : szs l + rest (qfq (qb2 (rest c + 2)) c).1 ≤ rest c := by
      unfold qfq at h2 ⊢
      split at h2
      · rename_i h3
        rw [if_pos h3]
        cases h2
        simp only [szs]; omega
      · rename_i h3
        rw [if_neg h3]
        have h4 := qkn (qii (rest c + 2)) _ _ _ _ _ h2
        simp only [szs] at h4
        omega
    unfold qe1 at h ⊢
    generalize qfq (qb2 (rest c + 2)) c = r at *
    have h5 := (qt r.1 [41]).2.1
    have h6 := (qt (qx r.1 [41]).1 [61, 62]).2.1
    have h7 := (qt r.1 [61, 62]).2.1
    repeat' split
    all_goals (simp only; omega)
  · rename_i h1
    rw [if_neg h1]
    simp only at h ⊢
    split at h
    · cases h
    · cases h; simp only [szs]; omega
theorem qsa (p : Int) (c : K) : sz (qnn p c).2.1 + 2 * rest (qnn p c).1 ≤ 2 * rest c + 1 := by
  have h1 := (qca c 2).2.1
  have h2 := (qle p c).2.1
  unfold qnn q2g qvy at h2 ⊢
  split
  · have h3 := qj9 qdr (monA ql0) (fun c => qrz (szA c)) false (qbe c 2).1 []
    generalize rowS qg9 (qlz ql0) false (qbe c 2).1 [] = r at *
    have h4 := (qt r.2.1 [61]).2.1
    simp only [szs] at h3
    split
    · have h5 := qj9 qjz (monF [124]) qbps false (qx r.2.1 [61]).1 r.2.2.1
      simp only [qun, qge]; omega
    · simp only [posN, qge, szs]; omega
  · simp only [posN, qge, szs]; omega
theorem qjw (k p : Int) (c : K) : sz (qlt k p c).2.1 + 2 * rest (qlt k p c).1 ≤ 2 * rest c + 1 := by
  have h1 := (qfx c).2.1
  unfold qlt q3r
  split
  · rename_i h2
    obtain ⟨l, hl⟩ := Option.isSome_iff_exists.1 h2
    have h3 := qoj hl
    rw [hl, Option.getD_some]
    have h4 := (qca (qff c).1 2).2.1
    split
    · unfold qwa q1z
      generalize (qbe (qff c).1 2).1 = d at *
      split
      · have := (qeb d 5).2.1
        simp only [qk6, qge, szs]; omega
      · have h5 := (qgr d).2.1
        split
        · rename_i h6
          have h7 := qec (szA d) h6
          have h8 := q4f (if k = 35 then 32 else 31) (qir d).1 (l ++ [(qir d).2.getD N0])
          rw [qej] at h8
          simp only [szs] at h8
          simp only [qk6, qge]; omega
        · simp only [qk6, qge, szs]; omega
    · simp only [qtp, qge, szs]; omega
  · simp only [qtp, qge, szs]; omega
theorem qz5 (c : K) : sz (qe8 c).2.1 + 2 * rest (qe8 c).1 ≤ 2 * rest c + 1 := by
  have hb := qm6 c
  have hb2 := (qik c).2.1
  unfold qe8
  split
  · have h1 := (q8 c qo0).2.1
    have := qsa (qba c).pos (qw c qo0).1
    omega
  · split
    · have h1 := (q8 c qi3).2.1
      have := qjw 35 (qba c).pos (qw c qi3).1
      omega
    · split
      · have h1 := (q8 c qqb).2.1
        have := qjw 36 (qba c).pos (qw c qqb).1
        omega
      · unfold ofO
        cases hq : (qij c).2 with
        | none =>
          have : sz N0 = 1 := by rw [qgw]; rfl
          simp only [Option.getD_none]; omega
        | some n =>
          have := hb n hq
          simp only [Option.getD_some]; omega
theorem qyl : ∀ c, SzB c (qe8 c) := fun c h => by
  unfold qe8 at h ⊢
  split at h
  · rename_i h1
    rw [if_pos h1]
    have h2 := qcg h1
    have := qsa (qba c).pos (qw c qo0).1
    omega
  · rename_i h1
    rw [if_neg h1]
    split at h
    · rename_i h1
      rw [if_pos h1]
      have h2 := qcg h1
      have := qjw 35 (qba c).pos (qw c qi3).1
      omega
    · rename_i h1
      rw [if_neg h1]
      split at h
      · rename_i h1
        rw [if_pos h1]
        have h2 := qcg h1
        have := qjw 36 (qba c).pos (qw c qqb).1
        omega
      · rename_i h1
        rw [if_neg h1]
        exact qrz (qm6 c) h
theorem qlo (c : K) : Mon c (qm5 c).1 := qes goes_decl monP _ _ _
theorem qrp (c : K) : Mon c (decK c).1 := goes_decl.m c
theorem qr8 (c : K) : sz ((qm5 c).2.getD N0) ≤ 2 * rest c + 1 := by
  have := qj9 goes_decl monP qyl false c []
  simp only [szs] at this
  simp only [qm5, Option.getD_some, quj, qge]; omega
theorem qze (c : K) : sz ((decK c).2.getD N0) ≤ 2 * rest c + 1 := by
  have := qz5 c
  simp only [decK, Option.getD_some]; omega
end Go.Proofs.Ytfjbmjplnmaclaa

/- declarations: the program: rows (printed by tools/rows.py) -/
set_option maxRecDepth 4000
namespace Go.Proofs.Ytfjbmjplnmaclaa
open Go Go.RowKit Go.V
set_option linter.unusedVariables false
set_option linter.unusedSimpArgs false

def frA (b : Bool) (c : K) : List Ent := [curE c, .blk [.ptr 0 0]]
theorem qrm (b : Bool) (c : K) : (frA b c).all (Ent.bd 2) = true := by
  simp only [frA, List.all_cons, List.all_nil, q7, Bool.true_and, Bool.and_true]; rfl
theorem qjy {g : FuncId} {b : Bool} {c c' : K} {r : N × Bool} {L : List Ent} {Q : List Ent → VO → Prop} (h : VCalls Try.prog g [curE c, .blk [.ptr 0 0]] [.ptr 1 0] fun H' o => H' = (frA b c') ∧ o = .val (resB r)) (hq : Q (curE c' :: .blk [.ptr 0 0] :: L) (.val (resB r))) :
    VApp Try.prog (curE c :: .blk [.ptr 0 0] :: L) (.fn g [] [.ptr 1 0]) [] Q :=
  qby (first := []) (caps := [.ptr 1 0]) (by
    simp only [List.nil_append]
    refine qcs (H0 := [curE c, .blk [.ptr 0 0]]) (L := L) h (qrm b c) rfl ?_
    rintro H1 o ⟨rfl, rfl⟩
    exact ⟨rfl, qrm _ _, qiu _ _, hq⟩)
theorem qft {g : FuncId} {b' a : Bool} {c c' : K} {L : List Ent} {Q : List Ent → VO → Prop} (h : VCalls Try.prog g [curE c, .blk [.ptr 0 0]] [.ptr 1 0] fun H' o => H' = (frA b' c') ∧ o = .val (.bool a)) (hq : Q (curE c' :: .blk [.ptr 0 0] :: L) (.val (.bool a))) :
    VApp Try.prog (curE c :: .blk [.ptr 0 0] :: L) (.fn g [] [.ptr 1 0]) [] Q :=
  qby (first := []) (caps := [.ptr 1 0]) (by
    simp only [List.nil_append]
    refine qcs (H0 := [curE c, .blk [.ptr 0 0]]) (L := L) h (qrm false c) rfl ?_
    rintro H1 o ⟨rfl, rfl⟩
    exact ⟨rfl, qrm _ _, rfl, hq⟩)
/-- What a row's reading does, from nothing on. -/
def RowA (one : K → R3) (more : MF) (g1 g2 : FuncId) (b : Bool) (c : K) : Prop :=
  VCalls Try.prog 15 [curE c, .blk [.ptr 0 0]] [.nils, .fn g1 [] [.ptr 1 0], .fn g2 [] [.ptr 1 0]] fun H' o =>
    H' = curE (rowS one more b c []).2.1 :: .blk [.ptr 0 0] :: accE 5 (encs (rowS one more b c []).2.2.1) ∧ o = .val (.tup [accV 2 (encs (rowS one more b c []).2.2.1), .bool (rowS one more b c []).2.2.2])
def qo7 (g1 g2 : FuncId) (s : Bool × Nat × K × List N) : AF × List Ent :=
  (⟨[(0, accV 2 (encs s.2.2.2)), (1, .fn g1 [] [.ptr 1 0]), (2, .fn g2 [] [.ptr 1 0])], []⟩, curE s.2.2.1 :: .blk [.ptr 0 0] :: accE 5 (encs s.2.2.2))
theorem qod {one : K → R3} {more : MF} {g1 g2 : FuncId} {n : Nat} (ho : Goes one) (hm : MonM more)
    (h1 : ∀ b c, c.good → rest c ≤ n → VCalls Try.prog g1 [curE c, .blk [.ptr 0 0]] [.ptr 1 0] fun H' o => H' = (frA b (one c).1) ∧ o = .val (resB (one c).2))
    (h2 : ∀ b c, c.good → rest c ≤ n → VCalls Try.prog g2 [curE c, .blk [.ptr 0 0]] [.ptr 1 0] fun H' o => H' = (frA (more b c).1 (more b c).2.1) ∧ o = .val (.bool (more b c).2.2))
    (b0 : Bool) (c0 : K) (hg : c0.good) (hr : rest c0 ≤ n) : RowA one more g1 g2 b0 c0 := by
  unfold RowA
  have hl : ([] : List N).length + rest c0 ≤ 1048578 := by have h9 := hg.rest; unfold rest; simp only [List.length_nil]; omega
  obtain ⟨kk, hk1, hk2, hk0⟩ : ∃ k : Nat, ((rowS one more b0 c0 []).2.2.1 = [] → k = 2) ∧ ((rowS one more b0 c0 []).2.2.1 ≠ [] → k = 3) ∧ 2 ≤ k := by
    by_cases h : (rowS one more b0 c0 []).2.2.1 = []
    · exact ⟨2, fun _ => rfl, fun g => absurd h g, Nat.le_refl _⟩
    · exact ⟨3, fun g => absurd g h, fun _ => rfl, Nat.le_succ _⟩
  refine qc7 c0z kk (by simpa using hk0) (by simp) ?_
  generalize htg : rowS one more b0 c0 [] = tg at hk1 hk2 ⊢
  unfold rowS at htg
  repeat' (first | refine qi ?_ | refine qk ?_ | ((first | refine qm ?_ | refine qj ?_ | refine qr ?_ | refine qh ?_ | refine qg ?_ | ((first | refine qe ?_ ?_ | refine qc ?_ ?_) <;> intro hc <;> (try simp only [hc]) <;> (try simp only [qb, qa, decide_eq_true_eq, decide_eq_false_iff_not, Bool.and_eq_true] at hc)) | refine And.intro (by first | assumption | omega | (have := qf (by assumption); omega) | (unfold qo; omega)) ?_ | simp (disch := omega) only [qd] | simp (disch := omega) only [qn]) <;> (try simp only [go_sem, ↓reduceIte, Nat.reduceEqDiff, Nat.reduceAdd, Nat.reduceSub, Nat.reduceMul, Nat.reduceLT, Nat.reduceLeDiff, reduceCtorEq, Int.reduceToNat])))
  refine qcx (S := Bool × Nat × K × List N) (fun s => s.2.2.1.good ∧ rest s.2.2.1 ≤ n ∧ rowF one more s.2.1 s.1 s.2.2.1 s.2.2.2 = tg ∧ rest s.2.2.1 < s.2.1 ∧ s.2.2.2.length + rest s.2.2.1 ≤ 1048578) (qo7 g1 g2) (fun s => rest s.2.2.1) ?_ ?_
  · refine qb5 (b0, rest c0 + 1, c0, []) [0, 1] ⟨hg, hr, htg, Nat.lt_succ_self _, hl⟩ rfl (by simp) ?_ ?_ ?_
    all_goals simp only [qo7, encs, qbh, qbj]
    all_goals simp only [go_sem, ↓reduceIte, Nat.reduceEqDiff, Nat.reduceAdd, Nat.reduceSub, Nat.reduceMul, Nat.reduceLT, Nat.reduceLeDiff, reduceCtorEq, Int.reduceToNat]
  · rintro ⟨fl, fu, d, acc⟩ ⟨i1, i2, i3, i4, i5⟩
    simp only at i1 i2 i3 i4 i5
    obtain ⟨fu, rfl⟩ : ∃ k, fu = k + 1 := ⟨fu - 1, by omega⟩
    rw [rowF] at i3
    have hcap : qo (acc.length + 1) 64 := capN (by omega)
    have hmore := h2 fl d i1 i2
    have g1 := (hm fl d).1 i1
    have r1 := (hm fl d).2.1
    have hone := h1 (more fl d).1 (more fl d).2.1 g1 (by omega)
    have g2 := (ho.m (more fl d).2.1).1 g1
    have r2 := (ho.m (more fl d).2.1).2.1
    have hlt := ho.l (more fl d).2.1
    unfold qo7
    generalize more fl d = M at *
    obtain ⟨fl', d', ans⟩ := M
    simp only at hmore g1 r1 hone g2 r2 hlt i3
    generalize one d' = r at *
    obtain ⟨e, y, ok⟩ := r
    simp only at hone g2 r2 hlt i3
    cases ans with
    | false =>
      rw [if_neg (by simp)] at i3
      subst i3
      by_cases h0 : acc = []
      · subst h0
        obtain rfl := hk1 rfl
        simp only [encs, qbh, qbj]
        repeat' (first | refine qi ?_ | refine qk ?_ | ((first | refine qm ?_ | refine qj ?_ | refine qr ?_ | refine qh ?_ | refine qg ?_ | refine qft hmore ?_ | ((first | refine qe ?_ ?_ | refine qc ?_ ?_) <;> intro hc <;> (try simp only [hc]) <;> (try simp only [qb, qa, decide_eq_true_eq, decide_eq_false_iff_not, Bool.and_eq_true] at hc)) | refine And.intro (by first | assumption | omega | (have := qf (by assumption); omega) | (unfold qo; omega)) ?_ | simp (disch := omega) only [qd] | simp (disch := omega) only [qn]) <;> (try simp only [go_sem, ↓reduceIte, Nat.reduceEqDiff, Nat.reduceAdd, Nat.reduceSub, Nat.reduceMul, Nat.reduceLT, Nat.reduceLeDiff, reduceCtorEq, Int.reduceToNat])))
        all_goals first | exact ⟨rfl, rfl⟩
      · have hne := qbc h0
        obtain rfl := hk2 h0
        simp only [qbo hne, qbp hne, qbd]
        repeat' (first | refine qi ?_ | refine qk ?_ | ((first | refine qm ?_ | refine qj ?_ | refine qr ?_ | refine qh ?_ | refine qg ?_ | refine qft hmore ?_ | ((first | refine qe ?_ ?_ | refine qc ?_ ?_) <;> intro hc <;> (try simp only [hc]) <;> (try simp only [qb, qa, decide_eq_true_eq, decide_eq_false_iff_not, Bool.and_eq_true] at hc)) | refine And.intro (by first | assumption | omega | (have := qf (by assumption); omega) | (unfold qo; omega)) ?_ | simp (disch := omega) only [qd] | simp (disch := omega) only [qn]) <;> (try simp only [go_sem, ↓reduceIte, Nat.reduceEqDiff, Nat.reduceAdd, Nat.reduceSub, Nat.reduceMul, Nat.reduceLT, Nat.reduceLeDiff, reduceCtorEq, Int.reduceToNat])))
        all_goals first | exact ⟨rfl, rfl⟩
    | true =>
      rw [if_pos rfl] at i3
      cases ok with
      | false =>
        rw [if_neg (by simp)] at i3
        subst i3
        by_cases h0 : acc = []
        · subst h0
          obtain rfl := hk1 rfl
          simp only [encs, qbh, qbj]
          repeat' (first | refine qi ?_ | refine qk ?_ | ((first | refine qm ?_ | refine qj ?_ | refine qr ?_ | refine qh ?_ | refine qg ?_ | refine qft hmore ?_ | refine qjy hone ?_ | ((first | refine qe ?_ ?_ | refine qc ?_ ?_) <;> intro hc <;> (try simp only [hc]) <;> (try simp only [qb, qa, decide_eq_true_eq, decide_eq_false_iff_not, Bool.and_eq_true] at hc)) | refine And.intro (by first | assumption | omega | (have := qf (by assumption); omega) | (unfold qo; omega)) ?_ | simp (disch := omega) only [qd] | simp (disch := omega) only [qn]) <;> (try simp only [go_sem, ↓reduceIte, Nat.reduceEqDiff, Nat.reduceAdd, Nat.reduceSub, Nat.reduceMul, Nat.reduceLT, Nat.reduceLeDiff, reduceCtorEq, Int.reduceToNat])))
          all_goals first | exact ⟨rfl, rfl⟩
        · have hne := qbc h0
          obtain rfl := hk2 h0
          simp only [qbo hne, qbp hne, qbd]
          repeat' (first | refine qi ?_ | refine qk ?_ | ((first | refine qm ?_ | refine qj ?_ | refine qr ?_ | refine qh ?_ | refine qg ?_ | refine qft hmore ?_ | refine qjy hone ?_ | ((first | refine qe ?_ ?_ | refine qc ?_ ?_) <;> intro hc <;> (try simp only [hc]) <;> (try simp only [qb, qa, decide_eq_true_eq, decide_eq_false_iff_not, Bool.and_eq_true] at hc)) | refine And.intro (by first | assumption | omega | (have := qf (by assumption); omega) | (unfold qo; omega)) ?_ | simp (disch := omega) only [qd] | simp (disch := omega) only [qn]) <;> (try simp only [go_sem, ↓reduceIte, Nat.reduceEqDiff, Nat.reduceAdd, Nat.reduceSub, Nat.reduceMul, Nat.reduceLT, Nat.reduceLeDiff, reduceCtorEq, Int.reduceToNat])))
          all_goals first | exact ⟨rfl, rfl⟩
      | true =>
        have hlt := hlt rfl
        rw [if_pos rfl] at i3
        have hne3 : ¬ acc ++ [y] = [] := by simp
        have hlen : (acc ++ [y]).length = acc.length + 1 := by simp
        by_cases h0 : acc = []
        · subst h0
          simp only [encs, qbh, qbj]
          repeat' (first | refine qi ?_ | refine qk ?_ | ((first | refine qm ?_ | refine qj ?_ | refine qr ?_ | refine qh ?_ | refine qg ?_ | refine qft hmore ?_ | refine qjy hone ?_ | ((first | refine qe ?_ ?_ | refine qc ?_ ?_) <;> intro hc <;> (try simp only [hc]) <;> (try simp only [qb, qa, decide_eq_true_eq, decide_eq_false_iff_not, Bool.and_eq_true] at hc)) | refine And.intro (by first | assumption | omega | (have := qf (by assumption); omega) | (unfold qo; omega)) ?_ | simp (disch := omega) only [qd] | simp (disch := omega) only [qn]) <;> (try simp only [go_sem, ↓reduceIte, Nat.reduceEqDiff, Nat.reduceAdd, Nat.reduceSub, Nat.reduceMul, Nat.reduceLT, Nat.reduceLeDiff, reduceCtorEq, Int.reduceToNat])))
          refine qb5 (fl', fu, e, [] ++ [y]) [0, 1, 3] ⟨⟨g2, by simp only; omega, i3, by simp only; omega, by simp only [hlen]; omega⟩, by simp only; omega⟩ rfl (by simp) ?_ ?_ ?_
          all_goals simp only [qo7, qbp (qbc hne3), qbo (qbc hne3), qbd, hlen, ← qq]
          all_goals simp only [go_sem, ↓reduceIte, Nat.reduceEqDiff, Nat.reduceAdd, Nat.reduceSub, Nat.reduceMul, Nat.reduceLT, Nat.reduceLeDiff, reduceCtorEq, Int.reduceToNat]
          all_goals first | (rw [qq]; exact q6 _ _) | exact ⟨rfl, rfl⟩ | rfl | (rw [qq, q6, qbn]; exact ⟨rfl, rfl⟩)
        · have hne := qbc h0
          simp only [qbo hne, qbp hne, qbd]
          repeat' (first | refine qi ?_ | refine qk ?_ | ((first | refine qm ?_ | refine qj ?_ | refine qr ?_ | refine qh ?_ | refine qg ?_ | refine qft hmore ?_ | refine qjy hone ?_ | ((first | refine qe ?_ ?_ | refine qc ?_ ?_) <;> intro hc <;> (try simp only [hc]) <;> (try simp only [qb, qa, decide_eq_true_eq, decide_eq_false_iff_not, Bool.and_eq_true] at hc)) | refine And.intro (by first | assumption | omega | (have := qf (by assumption); omega) | (unfold qo; omega)) ?_ | simp (disch := omega) only [qd] | simp (disch := omega) only [qn]) <;> (try simp only [go_sem, ↓reduceIte, Nat.reduceEqDiff, Nat.reduceAdd, Nat.reduceSub, Nat.reduceMul, Nat.reduceLT, Nat.reduceLeDiff, reduceCtorEq, Int.reduceToNat])))
          refine qb5 (fl', fu, e, acc ++ [y]) [0, 1, 4] ⟨⟨g2, by simp only; omega, i3, by simp only; omega, by simp only [hlen]; omega⟩, by simp only; omega⟩ rfl (by simp) ?_ ?_ ?_
          all_goals simp only [qo7, qbp (qbc hne3), qbo (qbc hne3), qbd, hlen, ← qq]
          all_goals simp only [go_sem, ↓reduceIte, Nat.reduceEqDiff, Nat.reduceAdd, Nat.reduceSub, Nat.reduceMul, Nat.reduceLT, Nat.reduceLeDiff, reduceCtorEq, Int.reduceToNat]
          all_goals first | (rw [qq]; exact q6 _ _) | exact ⟨rfl, rfl⟩ | rfl | (rw [qq, q6, qbn]; exact ⟨rfl, rfl⟩)

def frD (x : List UInt8) (b : Bool) (c : K) : List Ent := [curE c, .blk [.ptr 0 0], .blk [.ptr 0 0], .blk [.str x], .blk [.bool b]]
theorem qr0 {x : List UInt8} (b : Bool) (c : K) : (frD x b c).all (Ent.bd 5) = true := by
  simp only [frD, List.all_cons, List.all_nil, q7, Bool.true_and, Bool.and_true]; rfl
theorem qfg {g : FuncId} {x : List UInt8} {b : Bool} {c c' : K} {r : N × Bool} {L : List Ent} {Q : List Ent → VO → Prop} (h : VCalls Try.prog g [curE c, .blk [.ptr 0 0], .blk [.ptr 0 0], .blk [.str x], .blk [.bool b]] [.ptr 1 0] fun H' o => H' = (frD x b c') ∧ o = .val (resB r)) (hq : Q (curE c' :: .blk [.ptr 0 0] :: .blk [.ptr 0 0] :: .blk [.str x] :: .blk [.bool b] :: L) (.val (resB r))) :
    VApp Try.prog (curE c :: .blk [.ptr 0 0] :: .blk [.ptr 0 0] :: .blk [.str x] :: .blk [.bool b] :: L) (.fn g [] [.ptr 1 0]) [] Q :=
  qby (first := []) (caps := [.ptr 1 0]) (by
    simp only [List.nil_append]
    refine qcs (H0 := [curE c, .blk [.ptr 0 0], .blk [.ptr 0 0], .blk [.str x], .blk [.bool b]]) (L := L) h (qr0 (x := x) b c) rfl ?_
    rintro H1 o ⟨rfl, rfl⟩
    exact ⟨rfl, qr0 _ _, qiu _ _, hq⟩)
theorem qdb {g : FuncId} {x : List UInt8} {b b' a : Bool} {c c' : K} {L : List Ent} {Q : List Ent → VO → Prop} (h : VCalls Try.prog g [curE c, .blk [.ptr 0 0], .blk [.ptr 0 0], .blk [.str x], .blk [.bool b]] [.ptr 4 0, .ptr 2 0, .ptr 3 0] fun H' o => H' = (frD x b' c') ∧ o = .val (.bool a)) (hq : Q (curE c' :: .blk [.ptr 0 0] :: .blk [.ptr 0 0] :: .blk [.str x] :: .blk [.bool b'] :: L) (.val (.bool a))) :
    VApp Try.prog (curE c :: .blk [.ptr 0 0] :: .blk [.ptr 0 0] :: .blk [.str x] :: .blk [.bool b] :: L) (.fn g [] [.ptr 4 0, .ptr 2 0, .ptr 3 0]) [] Q :=
  qby (first := []) (caps := [.ptr 4 0, .ptr 2 0, .ptr 3 0]) (by
    simp only [List.nil_append]
    refine qcs (H0 := [curE c, .blk [.ptr 0 0], .blk [.ptr 0 0], .blk [.str x], .blk [.bool b]]) (L := L) h (qr0 (x := x) b c) rfl ?_
    rintro H1 o ⟨rfl, rfl⟩
    exact ⟨rfl, qr0 _ _, rfl, hq⟩)
/-- What a row's reading does, from nothing on. -/
def RowD (one : K → R3) (more : MF) (g1 g2 : FuncId) (x : List UInt8) (b : Bool) (c : K) : Prop :=
  VCalls Try.prog 15 [curE c, .blk [.ptr 0 0], .blk [.ptr 0 0], .blk [.str x], .blk [.bool b]] [.nils, .fn g1 [] [.ptr 1 0], .fn g2 [] [.ptr 4 0, .ptr 2 0, .ptr 3 0]] fun H' o =>
    H' = curE (rowS one more b c []).2.1 :: .blk [.ptr 0 0] :: .blk [.ptr 0 0] :: .blk [.str x] :: .blk [.bool (rowS one more b c []).1] :: accE 5 (encs (rowS one more b c []).2.2.1) ∧ o = .val (.tup [accV 5 (encs (rowS one more b c []).2.2.1), .bool (rowS one more b c []).2.2.2])
def qon (g1 g2 : FuncId) (x : List UInt8) (s : Bool × Nat × K × List N) : AF × List Ent :=
  (⟨[(0, accV 5 (encs s.2.2.2)), (1, .fn g1 [] [.ptr 1 0]), (2, .fn g2 [] [.ptr 4 0, .ptr 2 0, .ptr 3 0])], []⟩, curE s.2.2.1 :: .blk [.ptr 0 0] :: .blk [.ptr 0 0] :: .blk [.str x] :: .blk [.bool s.1] :: accE 5 (encs s.2.2.2))
theorem qy4 {one : K → R3} {more : MF} {g1 g2 : FuncId} {x : List UInt8} {n : Nat} (ho : Goes one) (hm : MonM more)
    (h1 : ∀ b c, c.good → rest c ≤ n → VCalls Try.prog g1 [curE c, .blk [.ptr 0 0], .blk [.ptr 0 0], .blk [.str x], .blk [.bool b]] [.ptr 1 0] fun H' o => H' = (frD x b (one c).1) ∧ o = .val (resB (one c).2))
    (h2 : ∀ b c, c.good → rest c ≤ n → VCalls Try.prog g2 [curE c, .blk [.ptr 0 0], .blk [.ptr 0 0], .blk [.str x], .blk [.bool b]] [.ptr 4 0, .ptr 2 0, .ptr 3 0] fun H' o => H' = (frD x (more b c).1 (more b c).2.1) ∧ o = .val (.bool (more b c).2.2))
    (b0 : Bool) (c0 : K) (hg : c0.good) (hr : rest c0 ≤ n) : RowD one more g1 g2 x b0 c0 := by
  unfold RowD
  have hl : ([] : List N).length + rest c0 ≤ 1048578 := by have h9 := hg.rest; unfold rest; simp only [List.length_nil]; omega
  obtain ⟨kk, hk1, hk2, hk0⟩ : ∃ k : Nat, ((rowS one more b0 c0 []).2.2.1 = [] → k = 5) ∧ ((rowS one more b0 c0 []).2.2.1 ≠ [] → k = 6) ∧ 5 ≤ k := by
    by_cases h : (rowS one more b0 c0 []).2.2.1 = []
    · exact ⟨5, fun _ => rfl, fun g => absurd h g, Nat.le_refl _⟩
    · exact ⟨6, fun g => absurd g h, fun _ => rfl, Nat.le_succ _⟩
  refine qc7 c0z kk (by simpa using hk0) (by simp) ?_
  generalize htg : rowS one more b0 c0 [] = tg at hk1 hk2 ⊢
  unfold rowS at htg
  repeat' (first | refine qi ?_ | refine qk ?_ | ((first | refine qm ?_ | refine qj ?_ | refine qr ?_ | refine qh ?_ | refine qg ?_ | ((first | refine qe ?_ ?_ | refine qc ?_ ?_) <;> intro hc <;> (try simp only [hc]) <;> (try simp only [qb, qa, decide_eq_true_eq, decide_eq_false_iff_not, Bool.and_eq_true] at hc)) | refine And.intro (by first | assumption | omega | (have := qf (by assumption); omega) | (unfold qo; omega)) ?_ | simp (disch := omega) only [qd] | simp (disch := omega) only [qn]) <;> (try simp only [go_sem, ↓reduceIte, Nat.reduceEqDiff, Nat.reduceAdd, Nat.reduceSub, Nat.reduceMul, Nat.reduceLT, Nat.reduceLeDiff, reduceCtorEq, Int.reduceToNat])))
  refine qcx (S := Bool × Nat × K × List N) (fun s => s.2.2.1.good ∧ rest s.2.2.1 ≤ n ∧ rowF one more s.2.1 s.1 s.2.2.1 s.2.2.2 = tg ∧ rest s.2.2.1 < s.2.1 ∧ s.2.2.2.length + rest s.2.2.1 ≤ 1048578) (qon g1 g2 x) (fun s => rest s.2.2.1) ?_ ?_
  · refine qb5 (b0, rest c0 + 1, c0, []) [0, 1, 2, 3, 4] ⟨hg, hr, htg, Nat.lt_succ_self _, hl⟩ rfl (by simp) ?_ ?_ ?_
    all_goals simp only [qon, encs, qbh, qbj]
    all_goals simp only [go_sem, ↓reduceIte, Nat.reduceEqDiff, Nat.reduceAdd, Nat.reduceSub, Nat.reduceMul, Nat.reduceLT, Nat.reduceLeDiff, reduceCtorEq, Int.reduceToNat]
  · rintro ⟨fl, fu, d, acc⟩ ⟨i1, i2, i3, i4, i5⟩
    simp only at i1 i2 i3 i4 i5
    obtain ⟨fu, rfl⟩ : ∃ k, fu = k + 1 := ⟨fu - 1, by omega⟩
    rw [rowF] at i3
    have hcap : qo (acc.length + 1) 64 := capN (by omega)
    have hmore := h2 fl d i1 i2
    have g1 := (hm fl d).1 i1
    have r1 := (hm fl d).2.1
    have hone := h1 (more fl d).1 (more fl d).2.1 g1 (by omega)
    have g2 := (ho.m (more fl d).2.1).1 g1
    have r2 := (ho.m (more fl d).2.1).2.1
    have hlt := ho.l (more fl d).2.1
    unfold qon
    generalize more fl d = M at *
    obtain ⟨fl', d', ans⟩ := M
    simp only at hmore g1 r1 hone g2 r2 hlt i3
    generalize one d' = r at *
    obtain ⟨e, y, ok⟩ := r
    simp only at hone g2 r2 hlt i3
    cases ans with
    | false =>
      rw [if_neg (by simp)] at i3
      subst i3
      by_cases h0 : acc = []
      · subst h0
        obtain rfl := hk1 rfl
        simp only [encs, qbh, qbj]
        repeat' (first | refine qi ?_ | refine qk ?_ | ((first | refine qm ?_ | refine qj ?_ | refine qr ?_ | refine qh ?_ | refine qg ?_ | refine qdb hmore ?_ | ((first | refine qe ?_ ?_ | refine qc ?_ ?_) <;> intro hc <;> (try simp only [hc]) <;> (try simp only [qb, qa, decide_eq_true_eq, decide_eq_false_iff_not, Bool.and_eq_true] at hc)) | refine And.intro (by first | assumption | omega | (have := qf (by assumption); omega) | (unfold qo; omega)) ?_ | simp (disch := omega) only [qd] | simp (disch := omega) only [qn]) <;> (try simp only [go_sem, ↓reduceIte, Nat.reduceEqDiff, Nat.reduceAdd, Nat.reduceSub, Nat.reduceMul, Nat.reduceLT, Nat.reduceLeDiff, reduceCtorEq, Int.reduceToNat])))
        all_goals first | exact ⟨rfl, rfl⟩
      · have hne := qbc h0
        obtain rfl := hk2 h0
        simp only [qbo hne, qbp hne, qbd]
        repeat' (first | refine qi ?_ | refine qk ?_ | ((first | refine qm ?_ | refine qj ?_ | refine qr ?_ | refine qh ?_ | refine qg ?_ | refine qdb hmore ?_ | ((first | refine qe ?_ ?_ | refine qc ?_ ?_) <;> intro hc <;> (try simp only [hc]) <;> (try simp only [qb, qa, decide_eq_true_eq, decide_eq_false_iff_not, Bool.and_eq_true] at hc)) | refine And.intro (by first | assumption | omega | (have := qf (by assumption); omega) | (unfold qo; omega)) ?_ | simp (disch := omega) only [qd] | simp (disch := omega) only [qn]) <;> (try simp only [go_sem, ↓reduceIte, Nat.reduceEqDiff, Nat.reduceAdd, Nat.reduceSub, Nat.reduceMul, Nat.reduceLT, Nat.reduceLeDiff, reduceCtorEq, Int.reduceToNat])))
        all_goals first | exact ⟨rfl, rfl⟩
    | true =>
      rw [if_pos rfl] at i3
      cases ok with
      | false =>
        rw [if_neg (by simp)] at i3
        subst i3
        by_cases h0 : acc = []
        · subst h0
          obtain rfl := hk1 rfl
          simp only [encs, qbh, qbj]
          repeat' (first | refine qi ?_ | refine qk ?_ | ((first | refine qm ?_ | refine qj ?_ | refine qr ?_ | refine qh ?_ | refine qg ?_ | refine qdb hmore ?_ | refine qfg hone ?_ | ((first | refine qe ?_ ?_ | refine qc ?_ ?_) <;> intro hc <;> (try simp only [hc]) <;> (try simp only [qb, qa, decide_eq_true_eq, decide_eq_false_iff_not, Bool.and_eq_true] at hc)) | refine And.intro (by first | assumption | omega | (have := qf (by assumption); omega) | (unfold qo; omega)) ?_ | simp (disch := omega) only [qd] | simp (disch := omega) only [qn]) <;> (try simp only [go_sem, ↓reduceIte, Nat.reduceEqDiff, Nat.reduceAdd, Nat.reduceSub, Nat.reduceMul, Nat.reduceLT, Nat.reduceLeDiff, reduceCtorEq, Int.reduceToNat])))
          all_goals first | exact ⟨rfl, rfl⟩
        · have hne := qbc h0
          obtain rfl := hk2 h0
          simp only [qbo hne, qbp hne, qbd]
          repeat' (first | refine qi ?_ | refine qk ?_ | ((first | refine qm ?_ | refine qj ?_ | refine qr ?_ | refine qh ?_ | refine qg ?_ | refine qdb hmore ?_ | refine qfg hone ?_ | ((first | refine qe ?_ ?_ | refine qc ?_ ?_) <;> intro hc <;> (try simp only [hc]) <;> (try simp only [qb, qa, decide_eq_true_eq, decide_eq_false_iff_not, Bool.and_eq_true] at hc)) | refine And.intro (by first | assumption | omega | (have := qf (by assumption); omega) | (unfold qo; omega)) ?_ | simp (disch := omega) only [qd] | simp (disch := omega) only [qn]) <;> (try simp only [go_sem, ↓reduceIte, Nat.reduceEqDiff, Nat.reduceAdd, Nat.reduceSub, Nat.reduceMul, Nat.reduceLT, Nat.reduceLeDiff, reduceCtorEq, Int.reduceToNat])))
          all_goals first | exact ⟨rfl, rfl⟩
      | true =>
        have hlt := hlt rfl
        rw [if_pos rfl] at i3
        have hne3 : ¬ acc ++ [y] = [] := by simp
        have hlen : (acc ++ [y]).length = acc.length + 1 := by simp
        by_cases h0 : acc = []
        · subst h0
          simp only [encs, qbh, qbj]
          repeat' (first | refine qi ?_ | refine qk ?_ | ((first | refine qm ?_ | refine qj ?_ | refine qr ?_ | refine qh ?_ | refine qg ?_ | refine qdb hmore ?_ | refine qfg hone ?_ | ((first | refine qe ?_ ?_ | refine qc ?_ ?_) <;> intro hc <;> (try simp only [hc]) <;> (try simp only [qb, qa, decide_eq_true_eq, decide_eq_false_iff_not, Bool.and_eq_true] at hc)) | refine And.intro (by first | assumption | omega | (have := qf (by assumption); omega) | (unfold qo; omega)) ?_ | simp (disch := omega) only [qd] | simp (disch := omega) only [qn]) <;> (try simp only [go_sem, ↓reduceIte, Nat.reduceEqDiff, Nat.reduceAdd, Nat.reduceSub, Nat.reduceMul, Nat.reduceLT, Nat.reduceLeDiff, reduceCtorEq, Int.reduceToNat])))
          refine qb5 (fl', fu, e, [] ++ [y]) [0, 1, 2, 3, 4, 6] ⟨⟨g2, by simp only; omega, i3, by simp only; omega, by simp only [hlen]; omega⟩, by simp only; omega⟩ rfl (by simp) ?_ ?_ ?_
          all_goals simp only [qon, qbp (qbc hne3), qbo (qbc hne3), qbd, hlen, ← qq]
          all_goals simp only [go_sem, ↓reduceIte, Nat.reduceEqDiff, Nat.reduceAdd, Nat.reduceSub, Nat.reduceMul, Nat.reduceLT, Nat.reduceLeDiff, reduceCtorEq, Int.reduceToNat]
          all_goals first | (rw [qq]; exact q6 _ _) | exact ⟨rfl, rfl⟩ | rfl | (rw [qq, q6, qbn]; exact ⟨rfl, rfl⟩)
        · have hne := qbc h0
          simp only [qbo hne, qbp hne, qbd]
          repeat' (first | refine qi ?_ | refine qk ?_ | ((first | refine qm ?_ | refine qj ?_ | refine qr ?_ | refine qh ?_ | refine qg ?_ | refine qdb hmore ?_ | refine qfg hone ?_ | ((first | refine qe ?_ ?_ | refine qc ?_ ?_) <;> intro hc <;> (try simp only [hc]) <;> (try simp only [qb, qa, decide_eq_true_eq, decide_eq_false_iff_not, Bool.and_eq_true] at hc)) | refine And.intro (by first | assumption | omega | (have := qf (by assumption); omega) | (unfold qo; omega)) ?_ | simp (disch := omega) only [qd] | simp (disch := omega) only [qn]) <;> (try simp only [go_sem, ↓reduceIte, Nat.reduceEqDiff, Nat.reduceAdd, Nat.reduceSub, Nat.reduceMul, Nat.reduceLT, Nat.reduceLeDiff, reduceCtorEq, Int.reduceToNat])))
          refine qb5 (fl', fu, e, acc ++ [y]) [0, 1, 2, 3, 4, 7] ⟨⟨g2, by simp only; omega, i3, by simp only; omega, by simp only [hlen]; omega⟩, by simp only; omega⟩ rfl (by simp) ?_ ?_ ?_
          all_goals simp only [qon, qbp (qbc hne3), qbo (qbc hne3), qbd, hlen, ← qq]
          all_goals simp only [go_sem, ↓reduceIte, Nat.reduceEqDiff, Nat.reduceAdd, Nat.reduceSub, Nat.reduceMul, Nat.reduceLT, Nat.reduceLeDiff, reduceCtorEq, Int.reduceToNat]
          all_goals first | (rw [qq]; exact q6 _ _) | exact ⟨rfl, rfl⟩ | rfl | (rw [qq, q6, qbn]; exact ⟨rfl, rfl⟩)
/-- What a row's reading does, where something is there. -/
def RovD (one : K → R3) (more : MF) (g1 g2 : FuncId) (x : List UInt8) (b : Bool) (c : K) (a0 : List N) : Prop :=
  VCalls Try.prog 15 (curE c :: .blk [.ptr 0 0] :: .blk [.ptr 0 0] :: .blk [.str x] :: .blk [.bool b] :: [.app 5 (encs a0)]) [.row 5 a0.length, .fn g1 [] [.ptr 1 0], .fn g2 [] [.ptr 4 0, .ptr 2 0, .ptr 3 0]] fun H' o =>
    ((rowS one more b c a0).2.2.1 = a0 → H' = curE (rowS one more b c a0).2.1 :: .blk [.ptr 0 0] :: .blk [.ptr 0 0] :: .blk [.str x] :: .blk [.bool (rowS one more b c a0).1] :: [.app 5 (encs a0)] ∧ o = .val (.tup [.row 5 a0.length, .bool (rowS one more b c a0).2.2.2])) ∧
    ((rowS one more b c a0).2.2.1 ≠ a0 → H' = curE (rowS one more b c a0).2.1 :: .blk [.ptr 0 0] :: .blk [.ptr 0 0] :: .blk [.str x] :: .blk [.bool (rowS one more b c a0).1] :: .dead :: [.app 5 (encs (rowS one more b c a0).2.2.1)] ∧ o = .val (.tup [.row 6 (rowS one more b c a0).2.2.1.length, .bool (rowS one more b c a0).2.2.2]))
def qpi (g1 g2 : FuncId) (x : List UInt8) (a0 : List N) (s : Bool × Nat × K × List N) : AF × List Ent :=
  if s.2.2.2.length = a0.length then (⟨[(0, .row 5 a0.length), (1, .fn g1 [] [.ptr 1 0]), (2, .fn g2 [] [.ptr 4 0, .ptr 2 0, .ptr 3 0])], []⟩, curE s.2.2.1 :: .blk [.ptr 0 0] :: .blk [.ptr 0 0] :: .blk [.str x] :: .blk [.bool s.1] :: [.app 5 (encs a0)])
  else (⟨[(0, .row 6 s.2.2.2.length), (1, .fn g1 [] [.ptr 1 0]), (2, .fn g2 [] [.ptr 4 0, .ptr 2 0, .ptr 3 0])], []⟩, curE s.2.2.1 :: .blk [.ptr 0 0] :: .blk [.ptr 0 0] :: .blk [.str x] :: .blk [.bool s.1] :: .dead :: [.app 5 (encs s.2.2.2)])
theorem qzr {one : K → R3} {more : MF} {g1 g2 : FuncId} {x : List UInt8} {n : Nat} (ho : Goes one) (hm : MonM more)
    (h1 : ∀ b c, c.good → rest c ≤ n → VCalls Try.prog g1 [curE c, .blk [.ptr 0 0], .blk [.ptr 0 0], .blk [.str x], .blk [.bool b]] [.ptr 1 0] fun H' o => H' = (frD x b (one c).1) ∧ o = .val (resB (one c).2))
    (h2 : ∀ b c, c.good → rest c ≤ n → VCalls Try.prog g2 [curE c, .blk [.ptr 0 0], .blk [.ptr 0 0], .blk [.str x], .blk [.bool b]] [.ptr 4 0, .ptr 2 0, .ptr 3 0] fun H' o => H' = (frD x (more b c).1 (more b c).2.1) ∧ o = .val (.bool (more b c).2.2))
    (b0 : Bool) (c0 : K) (a0 : List N) (hg : c0.good) (hr : rest c0 ≤ n) (hl : a0.length + rest c0 ≤ 1048578) : RovD one more g1 g2 x b0 c0 a0 := by
  unfold RovD
  obtain ⟨kk, hk1, hk2, hk0⟩ : ∃ k : Nat, ((rowS one more b0 c0 a0).2.2.1 = a0 → k = 6) ∧ ((rowS one more b0 c0 a0).2.2.1 ≠ a0 → k = 7) ∧ 6 ≤ k := by
    by_cases h : (rowS one more b0 c0 a0).2.2.1 = a0
    · exact ⟨6, fun _ => rfl, fun g => absurd h g, Nat.le_refl _⟩
    · exact ⟨7, fun g => absurd g h, fun _ => rfl, Nat.le_succ _⟩
  refine qc7 c0z kk (by simpa using hk0) (by simp) ?_
  generalize htg : rowS one more b0 c0 a0 = tg at hk1 hk2 ⊢
  unfold rowS at htg
  repeat' (first | refine qi ?_ | refine qk ?_ | ((first | refine qm ?_ | refine qj ?_ | refine qr ?_ | refine qh ?_ | refine qg ?_ | ((first | refine qe ?_ ?_ | refine qc ?_ ?_) <;> intro hc <;> (try simp only [hc]) <;> (try simp only [qb, qa, decide_eq_true_eq, decide_eq_false_iff_not, Bool.and_eq_true] at hc)) | refine And.intro (by first | assumption | omega | (have := qf (by assumption); omega) | (unfold qo; omega)) ?_ | simp (disch := omega) only [qd] | simp (disch := omega) only [qn]) <;> (try simp only [go_sem, ↓reduceIte, Nat.reduceEqDiff, Nat.reduceAdd, Nat.reduceSub, Nat.reduceMul, Nat.reduceLT, Nat.reduceLeDiff, reduceCtorEq, Int.reduceToNat])))
  refine qcx (S := Bool × Nat × K × List N) (fun s => s.2.2.1.good ∧ rest s.2.2.1 ≤ n ∧ rowF one more s.2.1 s.1 s.2.2.1 s.2.2.2 = tg ∧ rest s.2.2.1 < s.2.1 ∧ s.2.2.2.length + rest s.2.2.1 ≤ 1048578 ∧ a0.length ≤ s.2.2.2.length ∧ (s.2.2.2.length = a0.length → s.2.2.2 = a0)) (qpi g1 g2 x a0) (fun s => rest s.2.2.1) ?_ ?_
  · refine qb5 (b0, rest c0 + 1, c0, a0) [0, 1, 2, 3, 4, 5] ⟨hg, hr, htg, Nat.lt_succ_self _, hl, Nat.le_refl _, fun _ => rfl⟩ rfl (by simp) ?_ ?_ ?_
    all_goals simp only [qpi, if_true]
    all_goals simp only [go_sem, ↓reduceIte, Nat.reduceEqDiff, Nat.reduceAdd, Nat.reduceSub, Nat.reduceMul, Nat.reduceLT, Nat.reduceLeDiff, reduceCtorEq, Int.reduceToNat]
    all_goals first | exact q6 _ _ | exact ⟨rfl, rfl⟩ | rfl | (rw [q6, qbn]; exact ⟨rfl, rfl⟩)
  · rintro ⟨fl, fu, d, acc⟩ ⟨i1, i2, i3, i4, i5, i6, i7⟩
    simp only at i6 i7
    simp only at i1 i2 i3 i4 i5
    obtain ⟨fu, rfl⟩ : ∃ k, fu = k + 1 := ⟨fu - 1, by omega⟩
    rw [rowF] at i3
    have hcap : qo (acc.length + 1) 64 := capN (by omega)
    have hmore := h2 fl d i1 i2
    have g1 := (hm fl d).1 i1
    have r1 := (hm fl d).2.1
    have hone := h1 (more fl d).1 (more fl d).2.1 g1 (by omega)
    have g2 := (ho.m (more fl d).2.1).1 g1
    have r2 := (ho.m (more fl d).2.1).2.1
    have hlt := ho.l (more fl d).2.1
    unfold qpi
    generalize more fl d = M at *
    obtain ⟨fl', d', ans⟩ := M
    simp only at hmore g1 r1 hone g2 r2 hlt i3
    generalize one d' = r at *
    obtain ⟨e, y, ok⟩ := r
    simp only at hone g2 r2 hlt i3
    have hneA : ¬ acc.length + 1 = a0.length := by omega
    have hlen : (acc ++ [y]).length = acc.length + 1 := by simp
    by_cases h0 : acc = a0
    · have h0l : acc.length = a0.length := by rw [h0]
      simp only [if_pos h0l]
      cases ans with
      | false =>
        rw [if_neg (by simp)] at i3
        subst i3
        obtain rfl := hk1 h0
        repeat' (first | refine qi ?_ | refine qk ?_ | ((first | refine qm ?_ | refine qj ?_ | refine qr ?_ | refine qh ?_ | refine qg ?_ | refine qdb hmore ?_ | ((first | refine qe ?_ ?_ | refine qc ?_ ?_) <;> intro hc <;> (try simp only [hc]) <;> (try simp only [qb, qa, decide_eq_true_eq, decide_eq_false_iff_not, Bool.and_eq_true] at hc)) | refine And.intro (by first | assumption | omega | (have := qf (by assumption); omega) | (unfold qo; omega)) ?_ | simp (disch := omega) only [qd] | simp (disch := omega) only [qn]) <;> (try simp only [go_sem, ↓reduceIte, Nat.reduceEqDiff, Nat.reduceAdd, Nat.reduceSub, Nat.reduceMul, Nat.reduceLT, Nat.reduceLeDiff, reduceCtorEq, Int.reduceToNat])))
        all_goals exact ⟨fun _ => by first | trivial | exact ⟨rfl, rfl⟩, fun g => absurd h0 g⟩
      | true =>
        rw [if_pos rfl] at i3
        cases ok with
        | false =>
          rw [if_neg (by simp)] at i3
          subst i3
          obtain rfl := hk1 h0
          repeat' (first | refine qi ?_ | refine qk ?_ | ((first | refine qm ?_ | refine qj ?_ | refine qr ?_ | refine qh ?_ | refine qg ?_ | refine qdb hmore ?_ | refine qfg hone ?_ | ((first | refine qe ?_ ?_ | refine qc ?_ ?_) <;> intro hc <;> (try simp only [hc]) <;> (try simp only [qb, qa, decide_eq_true_eq, decide_eq_false_iff_not, Bool.and_eq_true] at hc)) | refine And.intro (by first | assumption | omega | (have := qf (by assumption); omega) | (unfold qo; omega)) ?_ | simp (disch := omega) only [qd] | simp (disch := omega) only [qn]) <;> (try simp only [go_sem, ↓reduceIte, Nat.reduceEqDiff, Nat.reduceAdd, Nat.reduceSub, Nat.reduceMul, Nat.reduceLT, Nat.reduceLeDiff, reduceCtorEq, Int.reduceToNat])))
          all_goals exact ⟨fun _ => by first | trivial | exact ⟨rfl, rfl⟩, fun g => absurd h0 g⟩
        | true =>
          have hlt := hlt rfl
          rw [if_pos rfl] at i3
          subst h0
          repeat' (first | refine qi ?_ | refine qk ?_ | ((first | refine qm ?_ | refine qj ?_ | refine qr ?_ | refine qh ?_ | refine qg ?_ | refine qdb hmore ?_ | refine qfg hone ?_ | ((first | refine qe ?_ ?_ | refine qc ?_ ?_) <;> intro hc <;> (try simp only [hc]) <;> (try simp only [qb, qa, decide_eq_true_eq, decide_eq_false_iff_not, Bool.and_eq_true] at hc)) | refine And.intro (by first | assumption | omega | (have := qf (by assumption); omega) | (unfold qo; omega)) ?_ | simp (disch := omega) only [qd] | simp (disch := omega) only [qn]) <;> (try simp only [go_sem, ↓reduceIte, Nat.reduceEqDiff, Nat.reduceAdd, Nat.reduceSub, Nat.reduceMul, Nat.reduceLT, Nat.reduceLeDiff, reduceCtorEq, Int.reduceToNat])))
          refine qb5 (fl', fu, e, acc ++ [y]) [0, 1, 2, 3, 4, 5, 7] ⟨⟨g2, by simp only; omega, i3, by simp only; omega, by simp only [hlen]; omega, by simp only [hlen]; omega, fun h => by simp only [hlen] at h; omega⟩, by simp only; omega⟩ rfl (by simp) ?_ ?_ ?_
          all_goals simp only [qpi, hlen, if_neg hneA, ← qq]
          all_goals simp only [go_sem, ↓reduceIte, Nat.reduceEqDiff, Nat.reduceAdd, Nat.reduceSub, Nat.reduceMul, Nat.reduceLT, Nat.reduceLeDiff, reduceCtorEq, Int.reduceToNat]
          all_goals first | (rw [qq]; exact q6 _ _) | exact ⟨rfl, rfl⟩ | rfl | (rw [qq, q6, qbn]; exact ⟨rfl, rfl⟩)
    · have h0l : ¬ acc.length = a0.length := fun h => h0 (i7 h)
      simp only [if_neg h0l]
      cases ans with
      | false =>
        rw [if_neg (by simp)] at i3
        subst i3
        obtain rfl := hk2 h0
        repeat' (first | refine qi ?_ | refine qk ?_ | ((first | refine qm ?_ | refine qj ?_ | refine qr ?_ | refine qh ?_ | refine qg ?_ | refine qdb hmore ?_ | ((first | refine qe ?_ ?_ | refine qc ?_ ?_) <;> intro hc <;> (try simp only [hc]) <;> (try simp only [qb, qa, decide_eq_true_eq, decide_eq_false_iff_not, Bool.and_eq_true] at hc)) | refine And.intro (by first | assumption | omega | (have := qf (by assumption); omega) | (unfold qo; omega)) ?_ | simp (disch := omega) only [qd] | simp (disch := omega) only [qn]) <;> (try simp only [go_sem, ↓reduceIte, Nat.reduceEqDiff, Nat.reduceAdd, Nat.reduceSub, Nat.reduceMul, Nat.reduceLT, Nat.reduceLeDiff, reduceCtorEq, Int.reduceToNat])))
        all_goals exact ⟨fun g => absurd g h0, fun _ => by first | trivial | exact ⟨rfl, rfl⟩⟩
      | true =>
        rw [if_pos rfl] at i3
        cases ok with
        | false =>
          rw [if_neg (by simp)] at i3
          subst i3
          obtain rfl := hk2 h0
          repeat' (first | refine qi ?_ | refine qk ?_ | ((first | refine qm ?_ | refine qj ?_ | refine qr ?_ | refine qh ?_ | refine qg ?_ | refine qdb hmore ?_ | refine qfg hone ?_ | ((first | refine qe ?_ ?_ | refine qc ?_ ?_) <;> intro hc <;> (try simp only [hc]) <;> (try simp only [qb, qa, decide_eq_true_eq, decide_eq_false_iff_not, Bool.and_eq_true] at hc)) | refine And.intro (by first | assumption | omega | (have := qf (by assumption); omega) | (unfold qo; omega)) ?_ | simp (disch := omega) only [qd] | simp (disch := omega) only [qn]) <;> (try simp only [go_sem, ↓reduceIte, Nat.reduceEqDiff, Nat.reduceAdd, Nat.reduceSub, Nat.reduceMul, Nat.reduceLT, Nat.reduceLeDiff, reduceCtorEq, Int.reduceToNat])))
          all_goals exact ⟨fun g => absurd g h0, fun _ => by first | trivial | exact ⟨rfl, rfl⟩⟩
        | true =>
          have hlt := hlt rfl
          rw [if_pos rfl] at i3
          repeat' (first | refine qi ?_ | refine qk ?_ | ((first | refine qm ?_ | refine qj ?_ | refine qr ?_ | refine qh ?_ | refine qg ?_ | refine qdb hmore ?_ | refine qfg hone ?_ | ((first | refine qe ?_ ?_ | refine qc ?_ ?_) <;> intro hc <;> (try simp only [hc]) <;> (try simp only [qb, qa, decide_eq_true_eq, decide_eq_false_iff_not, Bool.and_eq_true] at hc)) | refine And.intro (by first | assumption | omega | (have := qf (by assumption); omega) | (unfold qo; omega)) ?_ | simp (disch := omega) only [qd] | simp (disch := omega) only [qn]) <;> (try simp only [go_sem, ↓reduceIte, Nat.reduceEqDiff, Nat.reduceAdd, Nat.reduceSub, Nat.reduceMul, Nat.reduceLT, Nat.reduceLeDiff, reduceCtorEq, Int.reduceToNat])))
          refine qb5 (fl', fu, e, acc ++ [y]) [0, 1, 2, 3, 4, 5, 8] ⟨⟨g2, by simp only; omega, i3, by simp only; omega, by simp only [hlen]; omega, by simp only [hlen]; omega, fun h => by simp only [hlen] at h; omega⟩, by simp only; omega⟩ rfl (by simp) ?_ ?_ ?_
          all_goals simp only [qpi, hlen, if_neg hneA, ← qq]
          all_goals simp only [go_sem, ↓reduceIte, Nat.reduceEqDiff, Nat.reduceAdd, Nat.reduceSub, Nat.reduceMul, Nat.reduceLT, Nat.reduceLeDiff, reduceCtorEq, Int.reduceToNat]
          all_goals first | (rw [qq]; exact q6 _ _) | exact ⟨rfl, rfl⟩ | rfl | (rw [qq, q6, qbn]; exact ⟨rfl, rfl⟩)

def frP (x : List UInt8) (b : Bool) (c : K) : List Ent := [curE c, .blk [.ptr 0 0], .blk [.ptr 0 0], .blk [.str x], .blk [.bool b], .blk [.fn 25 [] [.ptr 4 0, .ptr 2 0, .ptr 3 0]]]
theorem qr4 {x : List UInt8} (b : Bool) (c : K) : (frP x b c).all (Ent.bd 6) = true := by
  simp only [frP, List.all_cons, List.all_nil, q7, Bool.true_and, Bool.and_true]; rfl
theorem qjn {g : FuncId} {x : List UInt8} {b : Bool} {c c' : K} {r : N × Bool} {L : List Ent} {Q : List Ent → VO → Prop} (h : VCalls Try.prog g [curE c, .blk [.ptr 0 0], .blk [.ptr 0 0], .blk [.str x], .blk [.bool b], .blk [.fn 25 [] [.ptr 4 0, .ptr 2 0, .ptr 3 0]]] [.ptr 1 0] fun H' o => H' = (frP x b c') ∧ o = .val (resB r)) (hq : Q (curE c' :: .blk [.ptr 0 0] :: .blk [.ptr 0 0] :: .blk [.str x] :: .blk [.bool b] :: .blk [.fn 25 [] [.ptr 4 0, .ptr 2 0, .ptr 3 0]] :: L) (.val (resB r))) :
    VApp Try.prog (curE c :: .blk [.ptr 0 0] :: .blk [.ptr 0 0] :: .blk [.str x] :: .blk [.bool b] :: .blk [.fn 25 [] [.ptr 4 0, .ptr 2 0, .ptr 3 0]] :: L) (.fn g [] [.ptr 1 0]) [] Q :=
  qby (first := []) (caps := [.ptr 1 0]) (by
    simp only [List.nil_append]
    refine qcs (H0 := [curE c, .blk [.ptr 0 0], .blk [.ptr 0 0], .blk [.str x], .blk [.bool b], .blk [.fn 25 [] [.ptr 4 0, .ptr 2 0, .ptr 3 0]]]) (L := L) h (qr4 (x := x) b c) rfl ?_
    rintro H1 o ⟨rfl, rfl⟩
    exact ⟨rfl, qr4 _ _, qiu _ _, hq⟩)
theorem qfv {g : FuncId} {x : List UInt8} {b b' a : Bool} {c c' : K} {L : List Ent} {Q : List Ent → VO → Prop} (h : VCalls Try.prog g [curE c, .blk [.ptr 0 0], .blk [.ptr 0 0], .blk [.str x], .blk [.bool b], .blk [.fn 25 [] [.ptr 4 0, .ptr 2 0, .ptr 3 0]]] [.ptr 1 0, .ptr 5 0] fun H' o => H' = (frP x b' c') ∧ o = .val (.bool a)) (hq : Q (curE c' :: .blk [.ptr 0 0] :: .blk [.ptr 0 0] :: .blk [.str x] :: .blk [.bool b'] :: .blk [.fn 25 [] [.ptr 4 0, .ptr 2 0, .ptr 3 0]] :: L) (.val (.bool a))) :
    VApp Try.prog (curE c :: .blk [.ptr 0 0] :: .blk [.ptr 0 0] :: .blk [.str x] :: .blk [.bool b] :: .blk [.fn 25 [] [.ptr 4 0, .ptr 2 0, .ptr 3 0]] :: L) (.fn g [] [.ptr 1 0, .ptr 5 0]) [] Q :=
  qby (first := []) (caps := [.ptr 1 0, .ptr 5 0]) (by
    simp only [List.nil_append]
    refine qcs (H0 := [curE c, .blk [.ptr 0 0], .blk [.ptr 0 0], .blk [.str x], .blk [.bool b], .blk [.fn 25 [] [.ptr 4 0, .ptr 2 0, .ptr 3 0]]]) (L := L) h (qr4 (x := x) b c) rfl ?_
    rintro H1 o ⟨rfl, rfl⟩
    exact ⟨rfl, qr4 _ _, rfl, hq⟩)
/-- What a row's reading does, from nothing on. -/
def RowP (one : K → R3) (more : MF) (g1 g2 : FuncId) (x : List UInt8) (b : Bool) (c : K) : Prop :=
  VCalls Try.prog 15 [curE c, .blk [.ptr 0 0], .blk [.ptr 0 0], .blk [.str x], .blk [.bool b], .blk [.fn 25 [] [.ptr 4 0, .ptr 2 0, .ptr 3 0]]] [.nils, .fn g1 [] [.ptr 1 0], .fn g2 [] [.ptr 1 0, .ptr 5 0]] fun H' o =>
    H' = curE (rowS one more b c []).2.1 :: .blk [.ptr 0 0] :: .blk [.ptr 0 0] :: .blk [.str x] :: .blk [.bool (rowS one more b c []).1] :: .blk [.fn 25 [] [.ptr 4 0, .ptr 2 0, .ptr 3 0]] :: accE 5 (encs (rowS one more b c []).2.2.1) ∧ o = .val (.tup [accV 6 (encs (rowS one more b c []).2.2.1), .bool (rowS one more b c []).2.2.2])
def qph (g1 g2 : FuncId) (x : List UInt8) (s : Bool × Nat × K × List N) : AF × List Ent :=
  (⟨[(0, accV 6 (encs s.2.2.2)), (1, .fn g1 [] [.ptr 1 0]), (2, .fn g2 [] [.ptr 1 0, .ptr 5 0])], []⟩, curE s.2.2.1 :: .blk [.ptr 0 0] :: .blk [.ptr 0 0] :: .blk [.str x] :: .blk [.bool s.1] :: .blk [.fn 25 [] [.ptr 4 0, .ptr 2 0, .ptr 3 0]] :: accE 5 (encs s.2.2.2))
theorem qv7 {one : K → R3} {more : MF} {g1 g2 : FuncId} {x : List UInt8} {n : Nat} (ho : Goes one) (hm : MonM more)
    (h1 : ∀ b c, c.good → rest c ≤ n → VCalls Try.prog g1 [curE c, .blk [.ptr 0 0], .blk [.ptr 0 0], .blk [.str x], .blk [.bool b], .blk [.fn 25 [] [.ptr 4 0, .ptr 2 0, .ptr 3 0]]] [.ptr 1 0] fun H' o => H' = (frP x b (one c).1) ∧ o = .val (resB (one c).2))
    (h2 : ∀ b c, c.good → rest c ≤ n → VCalls Try.prog g2 [curE c, .blk [.ptr 0 0], .blk [.ptr 0 0], .blk [.str x], .blk [.bool b], .blk [.fn 25 [] [.ptr 4 0, .ptr 2 0, .ptr 3 0]]] [.ptr 1 0, .ptr 5 0] fun H' o => H' = (frP x (more b c).1 (more b c).2.1) ∧ o = .val (.bool (more b c).2.2))
    (b0 : Bool) (c0 : K) (hg : c0.good) (hr : rest c0 ≤ n) : RowP one more g1 g2 x b0 c0 := by
  unfold RowP
  have hl : ([] : List N).length + rest c0 ≤ 1048578 := by have h9 := hg.rest; unfold rest; simp only [List.length_nil]; omega
  obtain ⟨kk, hk1, hk2, hk0⟩ : ∃ k : Nat, ((rowS one more b0 c0 []).2.2.1 = [] → k = 6) ∧ ((rowS one more b0 c0 []).2.2.1 ≠ [] → k = 7) ∧ 6 ≤ k := by
    by_cases h : (rowS one more b0 c0 []).2.2.1 = []
    · exact ⟨6, fun _ => rfl, fun g => absurd h g, Nat.le_refl _⟩
    · exact ⟨7, fun g => absurd g h, fun _ => rfl, Nat.le_succ _⟩
  refine qc7 c0z kk (by simpa using hk0) (by simp) ?_
  generalize htg : rowS one more b0 c0 [] = tg at hk1 hk2 ⊢
  unfold rowS at htg
  repeat' (first | refine qi ?_ | refine qk ?_ | ((first | refine qm ?_ | refine qj ?_ | refine qr ?_ | refine qh ?_ | refine qg ?_ | ((first | refine qe ?_ ?_ | refine qc ?_ ?_) <;> intro hc <;> (try simp only [hc]) <;> (try simp only [qb, qa, decide_eq_true_eq, decide_eq_false_iff_not, Bool.and_eq_true] at hc)) | refine And.intro (by first | assumption | omega | (have := qf (by assumption); omega) | (unfold qo; omega)) ?_ | simp (disch := omega) only [qd] | simp (disch := omega) only [qn]) <;> (try simp only [go_sem, ↓reduceIte, Nat.reduceEqDiff, Nat.reduceAdd, Nat.reduceSub, Nat.reduceMul, Nat.reduceLT, Nat.reduceLeDiff, reduceCtorEq, Int.reduceToNat])))
  refine qcx (S := Bool × Nat × K × List N) (fun s => s.2.2.1.good ∧ rest s.2.2.1 ≤ n ∧ rowF one more s.2.1 s.1 s.2.2.1 s.2.2.2 = tg ∧ rest s.2.2.1 < s.2.1 ∧ s.2.2.2.length + rest s.2.2.1 ≤ 1048578) (qph g1 g2 x) (fun s => rest s.2.2.1) ?_ ?_
  · refine qb5 (b0, rest c0 + 1, c0, []) [0, 1, 2, 3, 4, 5] ⟨hg, hr, htg, Nat.lt_succ_self _, hl⟩ rfl (by simp) ?_ ?_ ?_
    all_goals simp only [qph, encs, qbh, qbj]
    all_goals simp only [go_sem, ↓reduceIte, Nat.reduceEqDiff, Nat.reduceAdd, Nat.reduceSub, Nat.reduceMul, Nat.reduceLT, Nat.reduceLeDiff, reduceCtorEq, Int.reduceToNat]
  · rintro ⟨fl, fu, d, acc⟩ ⟨i1, i2, i3, i4, i5⟩
    simp only at i1 i2 i3 i4 i5
    obtain ⟨fu, rfl⟩ : ∃ k, fu = k + 1 := ⟨fu - 1, by omega⟩
    rw [rowF] at i3
    have hcap : qo (acc.length + 1) 64 := capN (by omega)
    have hmore := h2 fl d i1 i2
    have g1 := (hm fl d).1 i1
    have r1 := (hm fl d).2.1
    have hone := h1 (more fl d).1 (more fl d).2.1 g1 (by omega)
    have g2 := (ho.m (more fl d).2.1).1 g1
    have r2 := (ho.m (more fl d).2.1).2.1
    have hlt := ho.l (more fl d).2.1
    unfold qph
    generalize more fl d = M at *
    obtain ⟨fl', d', ans⟩ := M
    simp only at hmore g1 r1 hone g2 r2 hlt i3
    generalize one d' = r at *
    obtain ⟨e, y, ok⟩ := r
    simp only at hone g2 r2 hlt i3
    cases ans with
    | false =>
      rw [if_neg (by simp)] at i3
      subst i3
      by_cases h0 : acc = []
      · subst h0
        obtain rfl := hk1 rfl
        simp only [encs, qbh, qbj]
        repeat' (first | refine qi ?_ | refine qk ?_ | ((first | refine qm ?_ | refine qj ?_ | refine qr ?_ | refine qh ?_ | refine qg ?_ | refine qfv hmore ?_ | ((first | refine qe ?_ ?_ | refine qc ?_ ?_) <;> intro hc <;> (try simp only [hc]) <;> (try simp only [qb, qa, decide_eq_true_eq, decide_eq_false_iff_not, Bool.and_eq_true] at hc)) | refine And.intro (by first | assumption | omega | (have := qf (by assumption); omega) | (unfold qo; omega)) ?_ | simp (disch := omega) only [qd] | simp (disch := omega) only [qn]) <;> (try simp only [go_sem, ↓reduceIte, Nat.reduceEqDiff, Nat.reduceAdd, Nat.reduceSub, Nat.reduceMul, Nat.reduceLT, Nat.reduceLeDiff, reduceCtorEq, Int.reduceToNat])))
        all_goals first | exact ⟨rfl, rfl⟩
      · have hne := qbc h0
        obtain rfl := hk2 h0
        simp only [qbo hne, qbp hne, qbd]
        repeat' (first | refine qi ?_ | refine qk ?_ | ((first | refine qm ?_ | refine qj ?_ | refine qr ?_ | refine qh ?_ | refine qg ?_ | refine qfv hmore ?_ | ((first | refine qe ?_ ?_ | refine qc ?_ ?_) <;> intro hc <;> (try simp only [hc]) <;> (try simp only [qb, qa, decide_eq_true_eq, decide_eq_false_iff_not, Bool.and_eq_true] at hc)) | refine And.intro (by first | assumption | omega | (have := qf (by assumption); omega) | (unfold qo; omega)) ?_ | simp (disch := omega) only [qd] | simp (disch := omega) only [qn]) <;> (try simp only [go_sem, ↓reduceIte, Nat.reduceEqDiff, Nat.reduceAdd, Nat.reduceSub, Nat.reduceMul, Nat.reduceLT, Nat.reduceLeDiff, reduceCtorEq, Int.reduceToNat])))
        all_goals first | exact ⟨rfl, rfl⟩
    | true =>
      rw [if_pos rfl] at i3
      cases ok with
      | false =>
        rw [if_neg (by simp)] at i3
        subst i3
        by_cases h0 : acc = []
        · subst h0
          obtain rfl := hk1 rfl
          simp only [encs, qbh, qbj]
          repeat' (first | refine qi ?_ | refine qk ?_ | ((first | refine qm ?_ | refine qj ?_ | refine qr ?_ | refine qh ?_ | refine qg ?_ | refine qfv hmore ?_ | refine qjn hone ?_ | ((first | refine qe ?_ ?_ | refine qc ?_ ?_) <;> intro hc <;> (try simp only [hc]) <;> (try simp only [qb, qa, decide_eq_true_eq, decide_eq_false_iff_not, Bool.and_eq_true] at hc)) | refine And.intro (by first | assumption | omega | (have := qf (by assumption); omega) | (unfold qo; omega)) ?_ | simp (disch := omega) only [qd] | simp (disch := omega) only [qn]) <;> (try simp only [go_sem, ↓reduceIte, Nat.reduceEqDiff, Nat.reduceAdd, Nat.reduceSub, Nat.reduceMul, Nat.reduceLT, Nat.reduceLeDiff, reduceCtorEq, Int.reduceToNat])))
          all_goals first | exact ⟨rfl, rfl⟩
        · have hne := qbc h0
          obtain rfl := hk2 h0
          simp only [qbo hne, qbp hne, qbd]
          repeat' (first | refine qi ?_ | refine qk ?_ | ((first | refine qm ?_ | refine qj ?_ | refine qr ?_ | refine qh ?_ | refine qg ?_ | refine qfv hmore ?_ | refine qjn hone ?_ | ((first | refine qe ?_ ?_ | refine qc ?_ ?_) <;> intro hc <;> (try simp only [hc]) <;> (try simp only [qb, qa, decide_eq_true_eq, decide_eq_false_iff_not, Bool.and_eq_true] at hc)) | refine And.intro (by first | assumption | omega | (have := qf (by assumption); omega) | (unfold qo; omega)) ?_ | simp (disch := omega) only [qd] | simp (disch := omega) only [qn]) <;> (try simp only [go_sem, ↓reduceIte, Nat.reduceEqDiff, Nat.reduceAdd, Nat.reduceSub, Nat.reduceMul, Nat.reduceLT, Nat.reduceLeDiff, reduceCtorEq, Int.reduceToNat])))
          all_goals first | exact ⟨rfl, rfl⟩
      | true =>
        have hlt := hlt rfl
        rw [if_pos rfl] at i3
        have hne3 : ¬ acc ++ [y] = [] := by simp
        have hlen : (acc ++ [y]).length = acc.length + 1 := by simp
        by_cases h0 : acc = []
        · subst h0
          simp only [encs, qbh, qbj]
          repeat' (first | refine qi ?_ | refine qk ?_ | ((first | refine qm ?_ | refine qj ?_ | refine qr ?_ | refine qh ?_ | refine qg ?_ | refine qfv hmore ?_ | refine qjn hone ?_ | ((first | refine qe ?_ ?_ | refine qc ?_ ?_) <;> intro hc <;> (try simp only [hc]) <;> (try simp only [qb, qa, decide_eq_true_eq, decide_eq_false_iff_not, Bool.and_eq_true] at hc)) | refine And.intro (by first | assumption | omega | (have := qf (by assumption); omega) | (unfold qo; omega)) ?_ | simp (disch := omega) only [qd] | simp (disch := omega) only [qn]) <;> (try simp only [go_sem, ↓reduceIte, Nat.reduceEqDiff, Nat.reduceAdd, Nat.reduceSub, Nat.reduceMul, Nat.reduceLT, Nat.reduceLeDiff, reduceCtorEq, Int.reduceToNat])))
          refine qb5 (fl', fu, e, [] ++ [y]) [0, 1, 2, 3, 4, 5, 7] ⟨⟨g2, by simp only; omega, i3, by simp only; omega, by simp only [hlen]; omega⟩, by simp only; omega⟩ rfl (by simp) ?_ ?_ ?_
          all_goals simp only [qph, qbp (qbc hne3), qbo (qbc hne3), qbd, hlen, ← qq]
          all_goals simp only [go_sem, ↓reduceIte, Nat.reduceEqDiff, Nat.reduceAdd, Nat.reduceSub, Nat.reduceMul, Nat.reduceLT, Nat.reduceLeDiff, reduceCtorEq, Int.reduceToNat]
          all_goals first | (rw [qq]; exact q6 _ _) | exact ⟨rfl, rfl⟩ | rfl | (rw [qq, q6, qbn]; exact ⟨rfl, rfl⟩)
        · have hne := qbc h0
          simp only [qbo hne, qbp hne, qbd]
          repeat' (first | refine qi ?_ | refine qk ?_ | ((first | refine qm ?_ | refine qj ?_ | refine qr ?_ | refine qh ?_ | refine qg ?_ | refine qfv hmore ?_ | refine qjn hone ?_ | ((first | refine qe ?_ ?_ | refine qc ?_ ?_) <;> intro hc <;> (try simp only [hc]) <;> (try simp only [qb, qa, decide_eq_true_eq, decide_eq_false_iff_not, Bool.and_eq_true] at hc)) | refine And.intro (by first | assumption | omega | (have := qf (by assumption); omega) | (unfold qo; omega)) ?_ | simp (disch := omega) only [qd] | simp (disch := omega) only [qn]) <;> (try simp only [go_sem, ↓reduceIte, Nat.reduceEqDiff, Nat.reduceAdd, Nat.reduceSub, Nat.reduceMul, Nat.reduceLT, Nat.reduceLeDiff, reduceCtorEq, Int.reduceToNat])))
          refine qb5 (fl', fu, e, acc ++ [y]) [0, 1, 2, 3, 4, 5, 8] ⟨⟨g2, by simp only; omega, i3, by simp only; omega, by simp only [hlen]; omega⟩, by simp only; omega⟩ rfl (by simp) ?_ ?_ ?_
          all_goals simp only [qph, qbp (qbc hne3), qbo (qbc hne3), qbd, hlen, ← qq]
          all_goals simp only [go_sem, ↓reduceIte, Nat.reduceEqDiff, Nat.reduceAdd, Nat.reduceSub, Nat.reduceMul, Nat.reduceLT, Nat.reduceLeDiff, reduceCtorEq, Int.reduceToNat]
          all_goals first | (rw [qq]; exact q6 _ _) | exact ⟨rfl, rfl⟩ | rfl | (rw [qq, q6, qbn]; exact ⟨rfl, rfl⟩)

def frB (x : List UInt8) (kd : Int) (b : Bool) (c : K) : List Ent := [curE c, .blk [.ptr 0 0], .blk [.ptr 0 0], .blk [.str x], .blk [.bool b], .blk [.fn 25 [] [.ptr 4 0, .ptr 2 0, .ptr 3 0]], .blk [.int .i64 kd]]
theorem qrw {x : List UInt8} {kd : Int} (b : Bool) (c : K) : (frB x kd b c).all (Ent.bd 7) = true := by
  simp only [frB, List.all_cons, List.all_nil, q7, Bool.true_and, Bool.and_true]; rfl
theorem qjo {g : FuncId} {x : List UInt8} {kd : Int} {b : Bool} {c c' : K} {r : N × Bool} {L : List Ent} {Q : List Ent → VO → Prop} (h : VCalls Try.prog g [curE c, .blk [.ptr 0 0], .blk [.ptr 0 0], .blk [.str x], .blk [.bool b], .blk [.fn 25 [] [.ptr 4 0, .ptr 2 0, .ptr 3 0]], .blk [.int .i64 kd]] [.ptr 1 0, .ptr 6 0] fun H' o => H' = (frB x kd b c') ∧ o = .val (resB r)) (hq : Q (curE c' :: .blk [.ptr 0 0] :: .blk [.ptr 0 0] :: .blk [.str x] :: .blk [.bool b] :: .blk [.fn 25 [] [.ptr 4 0, .ptr 2 0, .ptr 3 0]] :: .blk [.int .i64 kd] :: L) (.val (resB r))) :
    VApp Try.prog (curE c :: .blk [.ptr 0 0] :: .blk [.ptr 0 0] :: .blk [.str x] :: .blk [.bool b] :: .blk [.fn 25 [] [.ptr 4 0, .ptr 2 0, .ptr 3 0]] :: .blk [.int .i64 kd] :: L) (.fn g [] [.ptr 1 0, .ptr 6 0]) [] Q :=
  qby (first := []) (caps := [.ptr 1 0, .ptr 6 0]) (by
    simp only [List.nil_append]
    refine qcs (H0 := [curE c, .blk [.ptr 0 0], .blk [.ptr 0 0], .blk [.str x], .blk [.bool b], .blk [.fn 25 [] [.ptr 4 0, .ptr 2 0, .ptr 3 0]], .blk [.int .i64 kd]]) (L := L) h (qrw (x := x) (kd := kd) b c) rfl ?_
    rintro H1 o ⟨rfl, rfl⟩
    exact ⟨rfl, qrw _ _, qiu _ _, hq⟩)
theorem qfz {g : FuncId} {x : List UInt8} {kd : Int} {b b' a : Bool} {c c' : K} {L : List Ent} {Q : List Ent → VO → Prop} (h : VCalls Try.prog g [curE c, .blk [.ptr 0 0], .blk [.ptr 0 0], .blk [.str x], .blk [.bool b], .blk [.fn 25 [] [.ptr 4 0, .ptr 2 0, .ptr 3 0]], .blk [.int .i64 kd]] [.ptr 1 0, .ptr 5 0] fun H' o => H' = (frB x kd b' c') ∧ o = .val (.bool a)) (hq : Q (curE c' :: .blk [.ptr 0 0] :: .blk [.ptr 0 0] :: .blk [.str x] :: .blk [.bool b'] :: .blk [.fn 25 [] [.ptr 4 0, .ptr 2 0, .ptr 3 0]] :: .blk [.int .i64 kd] :: L) (.val (.bool a))) :
    VApp Try.prog (curE c :: .blk [.ptr 0 0] :: .blk [.ptr 0 0] :: .blk [.str x] :: .blk [.bool b] :: .blk [.fn 25 [] [.ptr 4 0, .ptr 2 0, .ptr 3 0]] :: .blk [.int .i64 kd] :: L) (.fn g [] [.ptr 1 0, .ptr 5 0]) [] Q :=
  qby (first := []) (caps := [.ptr 1 0, .ptr 5 0]) (by
    simp only [List.nil_append]
    refine qcs (H0 := [curE c, .blk [.ptr 0 0], .blk [.ptr 0 0], .blk [.str x], .blk [.bool b], .blk [.fn 25 [] [.ptr 4 0, .ptr 2 0, .ptr 3 0]], .blk [.int .i64 kd]]) (L := L) h (qrw (x := x) (kd := kd) b c) rfl ?_
    rintro H1 o ⟨rfl, rfl⟩
    exact ⟨rfl, qrw _ _, rfl, hq⟩)
/-- What a row's reading does, where something is there. -/
def RovB (one : K → R3) (more : MF) (g1 g2 : FuncId) (x : List UInt8) (kd : Int) (b : Bool) (c : K) (a0 : List N) : Prop :=
  VCalls Try.prog 15 (curE c :: .blk [.ptr 0 0] :: .blk [.ptr 0 0] :: .blk [.str x] :: .blk [.bool b] :: .blk [.fn 25 [] [.ptr 4 0, .ptr 2 0, .ptr 3 0]] :: .blk [.int .i64 kd] :: [.app 5 (encs a0)]) [.row 7 a0.length, .fn g1 [] [.ptr 1 0, .ptr 6 0], .fn g2 [] [.ptr 1 0, .ptr 5 0]] fun H' o =>
    ((rowS one more b c a0).2.2.1 = a0 → H' = curE (rowS one more b c a0).2.1 :: .blk [.ptr 0 0] :: .blk [.ptr 0 0] :: .blk [.str x] :: .blk [.bool (rowS one more b c a0).1] :: .blk [.fn 25 [] [.ptr 4 0, .ptr 2 0, .ptr 3 0]] :: .blk [.int .i64 kd] :: [.app 5 (encs a0)] ∧ o = .val (.tup [.row 7 a0.length, .bool (rowS one more b c a0).2.2.2])) ∧
    ((rowS one more b c a0).2.2.1 ≠ a0 → H' = curE (rowS one more b c a0).2.1 :: .blk [.ptr 0 0] :: .blk [.ptr 0 0] :: .blk [.str x] :: .blk [.bool (rowS one more b c a0).1] :: .blk [.fn 25 [] [.ptr 4 0, .ptr 2 0, .ptr 3 0]] :: .blk [.int .i64 kd] :: .dead :: [.app 5 (encs (rowS one more b c a0).2.2.1)] ∧ o = .val (.tup [.row 8 (rowS one more b c a0).2.2.1.length, .bool (rowS one more b c a0).2.2.2]))
def qpf (g1 g2 : FuncId) (x : List UInt8) (kd : Int) (a0 : List N) (s : Bool × Nat × K × List N) : AF × List Ent :=
  if s.2.2.2.length = a0.length then (⟨[(0, .row 7 a0.length), (1, .fn g1 [] [.ptr 1 0, .ptr 6 0]), (2, .fn g2 [] [.ptr 1 0, .ptr 5 0])], []⟩, curE s.2.2.1 :: .blk [.ptr 0 0] :: .blk [.ptr 0 0] :: .blk [.str x] :: .blk [.bool s.1] :: .blk [.fn 25 [] [.ptr 4 0, .ptr 2 0, .ptr 3 0]] :: .blk [.int .i64 kd] :: [.app 5 (encs a0)])
  else (⟨[(0, .row 8 s.2.2.2.length), (1, .fn g1 [] [.ptr 1 0, .ptr 6 0]), (2, .fn g2 [] [.ptr 1 0, .ptr 5 0])], []⟩, curE s.2.2.1 :: .blk [.ptr 0 0] :: .blk [.ptr 0 0] :: .blk [.str x] :: .blk [.bool s.1] :: .blk [.fn 25 [] [.ptr 4 0, .ptr 2 0, .ptr 3 0]] :: .blk [.int .i64 kd] :: .dead :: [.app 5 (encs s.2.2.2)])
theorem qzx {one : K → R3} {more : MF} {g1 g2 : FuncId} {x : List UInt8} {kd : Int} {n : Nat} (ho : Goes one) (hm : MonM more)
    (h1 : ∀ b c, c.good → rest c ≤ n → VCalls Try.prog g1 [curE c, .blk [.ptr 0 0], .blk [.ptr 0 0], .blk [.str x], .blk [.bool b], .blk [.fn 25 [] [.ptr 4 0, .ptr 2 0, .ptr 3 0]], .blk [.int .i64 kd]] [.ptr 1 0, .ptr 6 0] fun H' o => H' = (frB x kd b (one c).1) ∧ o = .val (resB (one c).2))
    (h2 : ∀ b c, c.good → rest c ≤ n → VCalls Try.prog g2 [curE c, .blk [.ptr 0 0], .blk [.ptr 0 0], .blk [.str x], .blk [.bool b], .blk [.fn 25 [] [.ptr 4 0, .ptr 2 0, .ptr 3 0]], .blk [.int .i64 kd]] [.ptr 1 0, .ptr 5 0] fun H' o => H' = (frB x kd (more b c).1 (more b c).2.1) ∧ o = .val (.bool (more b c).2.2))
    (b0 : Bool) (c0 : K) (a0 : List N) (hg : c0.good) (hr : rest c0 ≤ n) (hl : a0.length + rest c0 ≤ 1048578) : RovB one more g1 g2 x kd b0 c0 a0 := by
  unfold RovB
  obtain ⟨kk, hk1, hk2, hk0⟩ : ∃ k : Nat, ((rowS one more b0 c0 a0).2.2.1 = a0 → k = 8) ∧ ((rowS one more b0 c0 a0).2.2.1 ≠ a0 → k = 9) ∧ 8 ≤ k := by
    by_cases h : (rowS one more b0 c0 a0).2.2.1 = a0
    · exact ⟨8, fun _ => rfl, fun g => absurd h g, Nat.le_refl _⟩
    · exact ⟨9, fun g => absurd g h, fun _ => rfl, Nat.le_succ _⟩
  refine qc7 c0z kk (by simpa using hk0) (by simp) ?_
  generalize htg : rowS one more b0 c0 a0 = tg at hk1 hk2 ⊢
  unfold rowS at htg
  repeat' (first | refine qi ?_ | refine qk ?_ | ((first | refine qm ?_ | refine qj ?_ | refine qr ?_ | refine qh ?_ | refine qg ?_ | ((first | refine qe ?_ ?_ | refine qc ?_ ?_) <;> intro hc <;> (try simp only [hc]) <;> (try simp only [qb, qa, decide_eq_true_eq, decide_eq_false_iff_not, Bool.and_eq_true] at hc)) | refine And.intro (by first | assumption | omega | (have := qf (by assumption); omega) | (unfold qo; omega)) ?_ | simp (disch := omega) only [qd] | simp (disch := omega) only [qn]) <;> (try simp only [go_sem, ↓reduceIte, Nat.reduceEqDiff, Nat.reduceAdd, Nat.reduceSub, Nat.reduceMul, Nat.reduceLT, Nat.reduceLeDiff, reduceCtorEq, Int.reduceToNat])))
  refine qcx (S := Bool × Nat × K × List N) (fun s => s.2.2.1.good ∧ rest s.2.2.1 ≤ n ∧ rowF one more s.2.1 s.1 s.2.2.1 s.2.2.2 = tg ∧ rest s.2.2.1 < s.2.1 ∧ s.2.2.2.length + rest s.2.2.1 ≤ 1048578 ∧ a0.length ≤ s.2.2.2.length ∧ (s.2.2.2.length = a0.length → s.2.2.2 = a0)) (qpf g1 g2 x kd a0) (fun s => rest s.2.2.1) ?_ ?_
  · refine qb5 (b0, rest c0 + 1, c0, a0) [0, 1, 2, 3, 4, 5, 6, 7] ⟨hg, hr, htg, Nat.lt_succ_self _, hl, Nat.le_refl _, fun _ => rfl⟩ rfl (by simp) ?_ ?_ ?_
    all_goals simp only [qpf, if_true]
    all_goals simp only [go_sem, ↓reduceIte, Nat.reduceEqDiff, Nat.reduceAdd, Nat.reduceSub, Nat.reduceMul, Nat.reduceLT, Nat.reduceLeDiff, reduceCtorEq, Int.reduceToNat]
    all_goals first | exact q6 _ _ | exact ⟨rfl, rfl⟩ | rfl | (rw [q6, qbn]; exact ⟨rfl, rfl⟩)
  · rintro ⟨fl, fu, d, acc⟩ ⟨i1, i2, i3, i4, i5, i6, i7⟩
    simp only at i6 i7
    simp only at i1 i2 i3 i4 i5
    obtain ⟨fu, rfl⟩ : ∃ k, fu = k + 1 := ⟨fu - 1, by omega⟩
    rw [rowF] at i3
    have hcap : qo (acc.length + 1) 64 := capN (by omega)
    have hmore := h2 fl d i1 i2
    have g1 := (hm fl d).1 i1
    have r1 := (hm fl d).2.1
    have hone := h1 (more fl d).1 (more fl d).2.1 g1 (by omega)
    have g2 := (ho.m (more fl d).2.1).1 g1
    have r2 := (ho.m (more fl d).2.1).2.1
    have hlt := ho.l (more fl d).2.1
    unfold qpf
    generalize more fl d = M at *
    obtain ⟨fl', d', ans⟩ := M
    simp only at hmore g1 r1 hone g2 r2 hlt i3
    generalize one d' = r at *
    obtain ⟨e, y, ok⟩ := r
    simp only at hone g2 r2 hlt i3
    have hneA : ¬ acc.length + 1 = a0.length := by omega
    have hlen : (acc ++ [y]).length = acc.length + 1 := by simp
    by_cases h0 : acc = a0
    · have h0l : acc.length = a0.length := by rw [h0]
      simp only [if_pos h0l]
      cases ans with
      | false =>
        rw [if_neg (by simp)] at i3
        subst i3
        obtain rfl := hk1 h0
        repeat' (first | refine qi ?_ | refine qk ?_ | ((first | refine qm ?_ | refine qj ?_ | refine qr ?_ | refine qh ?_ | refine qg ?_ | refine qfz hmore ?_ | ((first | refine qe ?_ ?_ | refine qc ?_ ?_) <;> intro hc <;> (try simp only [hc]) <;> (try simp only [qb, qa, decide_eq_true_eq, decide_eq_false_iff_not, Bool.and_eq_true] at hc)) | refine And.intro (by first | assumption | omega | (have := qf (by assumption); omega) | (unfold qo; omega)) ?_ | simp (disch := omega) only [qd] | simp (disch := omega) only [qn]) <;> (try simp only [go_sem, ↓reduceIte, Nat.reduceEqDiff, Nat.reduceAdd, Nat.reduceSub, Nat.reduceMul, Nat.reduceLT, Nat.reduceLeDiff, reduceCtorEq, Int.reduceToNat])))
        all_goals exact ⟨fun _ => by first | trivial | exact ⟨rfl, rfl⟩, fun g => absurd h0 g⟩
      | true =>
        rw [if_pos rfl] at i3
        cases ok with
        | false =>
          rw [if_neg (by simp)] at i3
          subst i3
          obtain rfl := hk1 h0
          repeat' (first | refine qi ?_ | refine qk ?_ | ((first | refine qm ?_ | refine qj ?_ | refine qr ?_ | refine qh ?_ | refine qg ?_ | refine qfz hmore ?_ | refine qjo hone ?_ | ((first | refine qe ?_ ?_ | refine qc ?_ ?_) <;> intro hc <;> (try simp only [hc]) <;> (try simp only [qb, qa, decide_eq_true_eq, decide_eq_false_iff_not, Bool.and_eq_true] at hc)) | refine And.intro (by first | assumption | omega | (have := qf (by assumption); omega) | (unfold qo; omega)) ?_ | simp (disch := omega) only [qd] | simp (disch := omega) only [qn]) <;> (try simp only [go_sem, ↓reduceIte, Nat.reduceEqDiff, Nat.reduceAdd, Nat.reduceSub, Nat.reduceMul, Nat.reduceLT, Nat.reduceLeDiff, reduceCtorEq, Int.reduceToNat])))
          all_goals exact ⟨fun _ => by first | trivial | exact ⟨rfl, rfl⟩, fun g => absurd h0 g⟩
        | true =>
          have hlt := hlt rfl
          rw [if_pos rfl] at i3
          subst h0
          repeat' (first | refine qi ?_ | refine qk ?_ | ((first | refine qm ?_ | refine qj ?_ | refine qr ?_ | refine qh ?_ | refine qg ?_ | refine qfz hmore ?_ | refine qjo hone ?_ | ((first | refine qe ?_ ?_ | refine qc ?_ ?_) <;> intro hc <;> (try simp only [hc]) <;> (try simp only [qb, qa, decide_eq_true_eq, decide_eq_false_iff_not, Bool.and_eq_true] at hc)) | refine And.intro (by first | assumption | omega | (have := qf (by assumption); omega) | (unfold qo; omega)) ?_ | simp (disch := omega) only [qd] | simp (disch := omega) only [qn]) <;> (try simp only [go_sem, ↓reduceIte, Nat.reduceEqDiff, Nat.reduceAdd, Nat.reduceSub, Nat.reduceMul, Nat.reduceLT, Nat.reduceLeDiff, reduceCtorEq, Int.reduceToNat])))
          refine qb5 (fl', fu, e, acc ++ [y]) [0, 1, 2, 3, 4, 5, 6, 7, 9] ⟨⟨g2, by simp only; omega, i3, by simp only; omega, by simp only [hlen]; omega, by simp only [hlen]; omega, fun h => by simp only [hlen] at h; omega⟩, by simp only; omega⟩ rfl (by simp) ?_ ?_ ?_
          all_goals simp only [qpf, hlen, if_neg hneA, ← qq]
          all_goals simp only [go_sem, ↓reduceIte, Nat.reduceEqDiff, Nat.reduceAdd, Nat.reduceSub, Nat.reduceMul, Nat.reduceLT, Nat.reduceLeDiff, reduceCtorEq, Int.reduceToNat]
          all_goals first | (rw [qq]; exact q6 _ _) | exact ⟨rfl, rfl⟩ | rfl | (rw [qq, q6, qbn]; exact ⟨rfl, rfl⟩)
    · have h0l : ¬ acc.length = a0.length := fun h => h0 (i7 h)
      simp only [if_neg h0l]
      cases ans with
      | false =>
        rw [if_neg (by simp)] at i3
        subst i3
        obtain rfl := hk2 h0
        repeat' (first | refine qi ?_ | refine qk ?_ | ((first | refine qm ?_ | refine qj ?_ | refine qr ?_ | refine qh ?_ | refine qg ?_ | refine qfz hmore ?_ | ((first | refine qe ?_ ?_ | refine qc ?_ ?_) <;> intro hc <;> (try simp only [hc]) <;> (try simp only [qb, qa, decide_eq_true_eq, decide_eq_false_iff_not, Bool.and_eq_true] at hc)) | refine And.intro (by first | assumption | omega | (have := qf (by assumption); omega) | (unfold qo; omega)) ?_ | simp (disch := omega) only [qd] | simp (disch := omega) only [qn]) <;> (try simp only [go_sem, ↓reduceIte, Nat.reduceEqDiff, Nat.reduceAdd, Nat.reduceSub, Nat.reduceMul, Nat.reduceLT, Nat.reduceLeDiff, reduceCtorEq, Int.reduceToNat])))
        all_goals exact ⟨fun g => absurd g h0, fun _ => by first | trivial | exact ⟨rfl, rfl⟩⟩
      | true =>
        rw [if_pos rfl] at i3
        cases ok with
        | false =>
          rw [if_neg (by simp)] at i3
          subst i3
          obtain rfl := hk2 h0
          repeat' (first | refine qi ?_ | refine qk ?_ | ((first | refine qm ?_ | refine qj ?_ | refine qr ?_ | refine qh ?_ | refine qg ?_ | refine qfz hmore ?_ | refine qjo hone ?_ | ((first | refine qe ?_ ?_ | refine qc ?_ ?_) <;> intro hc <;> (try simp only [hc]) <;> (try simp only [qb, qa, decide_eq_true_eq, decide_eq_false_iff_not, Bool.and_eq_true] at hc)) | refine And.intro (by first | assumption | omega | (have := qf (by assumption); omega) | (unfold qo; omega)) ?_ | simp (disch := omega) only [qd] | simp (disch := omega) only [qn]) <;> (try simp only [go_sem, ↓reduceIte, Nat.reduceEqDiff, Nat.reduceAdd, Nat.reduceSub, Nat.reduceMul, Nat.reduceLT, Nat.reduceLeDiff, reduceCtorEq, Int.reduceToNat])))
          all_goals exact ⟨fun g => absurd g h0, fun _ => by first | trivial | exact ⟨rfl, rfl⟩⟩
        | true =>
          have hlt := hlt rfl
          rw [if_pos rfl] at i3
          repeat' (first | refine qi ?_ | refine qk ?_ | ((first | refine qm ?_ | refine qj ?_ | refine qr ?_ | refine qh ?_ | refine qg ?_ | refine qfz hmore ?_ | refine qjo hone ?_ | ((first | refine qe ?_ ?_ | refine qc ?_ ?_) <;> intro hc <;> (try simp only [hc]) <;> (try simp only [qb, qa, decide_eq_true_eq, decide_eq_false_iff_not, Bool.and_eq_true] at hc)) | refine And.intro (by first | assumption | omega | (have := qf (by assumption); omega) | (unfold qo; omega)) ?_ | simp (disch := omega) only [qd] | simp (disch := omega) only [qn]) <;> (try simp only [go_sem, ↓reduceIte, Nat.reduceEqDiff, Nat.reduceAdd, Nat.reduceSub, Nat.reduceMul, Nat.reduceLT, Nat.reduceLeDiff, reduceCtorEq, Int.reduceToNat])))
          refine qb5 (fl', fu, e, acc ++ [y]) [0, 1, 2, 3, 4, 5, 6, 7, 10] ⟨⟨g2, by simp only; omega, i3, by simp only; omega, by simp only [hlen]; omega, by simp only [hlen]; omega, fun h => by simp only [hlen] at h; omega⟩, by simp only; omega⟩ rfl (by simp) ?_ ?_ ?_
          all_goals simp only [qpf, hlen, if_neg hneA, ← qq]
          all_goals simp only [go_sem, ↓reduceIte, Nat.reduceEqDiff, Nat.reduceAdd, Nat.reduceSub, Nat.reduceMul, Nat.reduceLT, Nat.reduceLeDiff, reduceCtorEq, Int.reduceToNat]
          all_goals first | (rw [qq]; exact q6 _ _) | exact ⟨rfl, rfl⟩ | rfl | (rw [qq, q6, qbn]; exact ⟨rfl, rfl⟩)

set_option maxRecDepth 4000

theorem qji (σ : Nat → Nat) (i o : Nat) : (Ent.blk [.ptr i o]).ren σ = .blk [.ptr (σ i) o] := rfl
theorem qkg (σ : Nat → Nat) (x : List UInt8) : (Ent.blk [.str x]).ren σ = .blk [.str x] := rfl
theorem qgg (σ : Nat → Nat) (b : Bool) : (Ent.blk [.bool b]).ren σ = .blk [.bool b] := rfl
theorem qbn1 (σ : Nat → Nat) (n : Int) : (Ent.blk [.int .i64 n]).ren σ = .blk [.int .i64 n] := rfl
theorem qlg (σ : Nat → Nat) (l : List N) : (Ent.app 5 (encs l)).ren σ = .app 5 (encs l) := by rw [Ent.ren, qbn]
theorem e_fn (σ : Nat → Nat) (f : FuncId) (i j k : Nat) : (Ent.blk [.fn f [] [.ptr i 0, .ptr j 0, .ptr k 0]]).ren σ = .blk [.fn f [] [.ptr (σ i) 0, .ptr (σ j) 0, .ptr (σ k) 0]] := rfl
/-- first's answer: a closure over three new variables. -/
theorem q36 (c : K) (x : List UInt8) : VCalls Try.prog 14 [curE c] [.ptr 0 0, .str x] fun H' o => H' = [curE c, .blk [.ptr 0 0], .blk [.str x], .blk [.bool false]] ∧ o = .val (.fn 25 [] [.ptr 3 0, .ptr 1 0, .ptr 2 0]) := by
  refine qc7 c0r 4 (by simp) (by simp) ?_
  repeat' (first | refine qi ?_ | ((first | refine qm ?_ | refine qj ?_ | ((first | refine qe ?_ ?_ | refine qc ?_ ?_) <;> intro hc <;> (try simp only [hc]) <;> (try simp only [qb, qa, decide_eq_true_eq, decide_eq_false_iff_not, Bool.and_eq_true] at hc)) | refine And.intro (by first | assumption | omega | (have := qf (by assumption); omega) | (unfold qo; omega)) ?_ | simp (disch := omega) only [qd] | simp (disch := omega) only [qn]) <;> (try simp only [go_sem, ↓reduceIte, Nat.reduceEqDiff, Nat.reduceAdd, Nat.reduceSub, Nat.reduceMul, Nat.reduceLT, Nat.reduceLeDiff, reduceCtorEq, Int.reduceToNat])))
  all_goals exact ⟨rfl, rfl⟩
theorem qdq {c : K} {x : List UInt8} {L : List Ent} {Q : List Ent → VO → Prop} (hq : Q (curE c :: (L ++ [.blk [.ptr 0 0], .blk [.str x], .blk [.bool false]])) (.val (.fn 25 [] [.ptr (L.length + 3) 0, .ptr (L.length + 1) 0, .ptr (L.length + 2) 0]))) :
    VApp Try.prog (curE c :: L) (.fn 14 [] []) [.ptr 0 0, .str x] Q :=
  qby (first := []) (caps := []) (by
    simp only [List.nil_append, List.append_nil]
    refine qcb (H0 := [curE c]) (args0 := [.ptr 0 0, .str x]) [0] (q36 c x) (by simp) ?_ rfl rfl ?_
    · simp only [go_sem, ↓reduceIte, Nat.reduceEqDiff, Nat.reduceAdd, Nat.reduceSub, Nat.reduceMul, Nat.reduceLT, Nat.reduceLeDiff, reduceCtorEq, Int.reduceToNat]
      omega
    rintro H1 o ⟨rfl, rfl⟩
    have h3 : ∀ k, L.length + 1 + k = L.length + (k + 1) := fun k => by omega
    simpa [qel, qbq, sg', qji, qkg, qgg, AV.ren, AV.rens, VO.ren, qci, Nat.add_assoc] using hq)
/-- The closure of first. -/
theorem qpj (x : List UInt8) (b : Bool) (c : K) (hg : c.good) : VCalls Try.prog 25 [curE c, .blk [.ptr 0 0], .blk [.str x], .blk [.bool b]] [.ptr 3 0, .ptr 1 0, .ptr 2 0] fun H' o => H' = [curE (qch x b c).2.1, .blk [.ptr 0 0], .blk [.str x], .blk [.bool (qch x b c).1]] ∧ o = .val (.bool (qch x b c).2.2) := by
  refine qs c0s 4 (by simp) (by simp) ?_
  unfold qch
  cases b with
  | false =>
    repeat' (first | refine qi ?_ | ((first | refine qm ?_ | refine qj ?_ | refine qh ?_ | refine qg ?_ | ((first | refine qe ?_ ?_ | refine qc ?_ ?_) <;> intro hc <;> (try simp only [hc]) <;> (try simp only [qb, qa, decide_eq_true_eq, decide_eq_false_iff_not, Bool.and_eq_true] at hc)) | refine And.intro (by first | assumption | omega | (have := qf (by assumption); omega) | (unfold qo; omega)) ?_ | simp (disch := omega) only [qd] | simp (disch := omega) only [qn]) <;> (try simp only [go_sem, ↓reduceIte, Nat.reduceEqDiff, Nat.reduceAdd, Nat.reduceSub, Nat.reduceMul, Nat.reduceLT, Nat.reduceLeDiff, reduceCtorEq, Int.reduceToNat])))
    all_goals exact ⟨rfl, rfl⟩
  | true =>
    repeat' (first | refine qi ?_ | ((first | refine qm ?_ | refine qj ?_ | refine qh ?_ | refine qg ?_ | refine qdh hg.ok ?_ | ((first | refine qe ?_ ?_ | refine qc ?_ ?_) <;> intro hc <;> (try simp only [hc]) <;> (try simp only [qb, qa, decide_eq_true_eq, decide_eq_false_iff_not, Bool.and_eq_true] at hc)) | refine And.intro (by first | assumption | omega | (have := qf (by assumption); omega) | (unfold qo; omega)) ?_ | simp (disch := omega) only [qd] | simp (disch := omega) only [qn]) <;> (try simp only [go_sem, ↓reduceIte, Nat.reduceEqDiff, Nat.reduceAdd, Nat.reduceSub, Nat.reduceMul, Nat.reduceLT, Nat.reduceLeDiff, reduceCtorEq, Int.reduceToNat])))
    all_goals exact ⟨rfl, rfl⟩
theorem qfy {x : List UInt8} {b : Bool} {c : K} {B : Ent} {L : List Ent} {Q : List Ent → VO → Prop} (hg : c.good) (hq : Q (curE (qch x b c).2.1 :: B :: .blk [.ptr 0 0] :: .blk [.str x] :: .blk [.bool (qch x b c).1] :: L) (.val (.bool (qch x b c).2.2))) :
    VApp Try.prog (curE c :: B :: .blk [.ptr 0 0] :: .blk [.str x] :: .blk [.bool b] :: L) (.fn 25 [] [.ptr 4 0, .ptr 2 0, .ptr 3 0]) [] Q :=
  qby (first := []) (caps := [.ptr 4 0, .ptr 2 0, .ptr 3 0]) (by
    simp only [List.nil_append]
    refine qcb (H0 := [curE c, .blk [.ptr 0 0], .blk [.str x], .blk [.bool b]]) (args0 := [.ptr 3 0, .ptr 1 0, .ptr 2 0]) [0, 2, 3, 4] (qpj x b c hg) (by simp) ?_ rfl rfl ?_
    · simp only [go_sem, ↓reduceIte, Nat.reduceEqDiff, Nat.reduceAdd, Nat.reduceSub, Nat.reduceMul, Nat.reduceLT, Nat.reduceLeDiff, reduceCtorEq, Int.reduceToNat]
      omega
    rintro H1 o ⟨rfl, rfl⟩
    simpa [qel, qbq, sg', qji, qkg, qgg, AV.ren, AV.rens, VO.ren, qci] using hq)
theorem qj8 (c : K) (hg : c.good) : qbz Try.prog 37 (curE c) (curE (qir c).1) [.ptr 0 0] (resP (qir c).2) := qfu (qcv _) (qpz (rest c + 2)) c hg (by omega)
theorem qoo (c : K) (hg : c.good) : qbz Try.prog 29 (curE c) (curE (qij c).1) [.ptr 0 0] (resP (qij c).2) := qmk (qbmi (rest c + 2)) c hg (by omega)
theorem q7q (c : K) : qbz Try.prog 59 (curE c) (curE c) [.ptr 0 0] (.bool (begT c)) := by
  refine qs c0t 1 (by simp) (by simp) ?_
  repeat' (first | refine qi ?_ | ((first | refine qm ?_ | refine qj ?_ | refine qbu ?_ | refine a_Is ?_ | ((first | refine qe ?_ ?_ | refine qc ?_ ?_) <;> intro hc <;> (try simp only [hc]) <;> (try simp only [qb, qa, decide_eq_true_eq, decide_eq_false_iff_not, Bool.and_eq_true] at hc)) | refine And.intro (by first | assumption | omega | (have := qf (by assumption); omega) | (unfold qo; omega)) ?_ | simp (disch := omega) only [qd] | simp (disch := omega) only [qn]) <;> (try simp only [go_sem, ↓reduceIte, Nat.reduceEqDiff, Nat.reduceAdd, Nat.reduceSub, Nat.reduceMul, Nat.reduceLT, Nat.reduceLeDiff, reduceCtorEq, Int.reduceToNat])))
  all_goals (unfold begT; simp_all)
theorem qbn3 {c : K} {L : List Ent} {Q : List Ent → VO → Prop} (hq : Q (curE c :: L) (.val (.bool (begT c)))) : VApp Try.prog (curE c :: L) (.fn 59 [] []) [.ptr 0 0] Q := qbv (q7q c) (q7 _ _) (q7 _ _) rfl rfl fun _ => hq
theorem q8l (c : K) (hg : c.good) : VCalls Try.prog 57 [curE c, .blk [.ptr 0 0]] [.ptr 1 0] fun H' o => H' = frA false (qg9 c).1 ∧ o = .val (resB (qg9 c).2) := by
  refine qs c0u 2 (by simp) (by simp) ?_
  unfold qg9 ofO frA
  repeat' (first | refine qi ?_ | ((first | refine qm ?_ | refine qj ?_ | refine qb7 (qj8 c hg) rfl ?_ | ((first | refine qe ?_ ?_ | refine qc ?_ ?_) <;> intro hc <;> (try simp only [hc]) <;> (try simp only [qb, qa, decide_eq_true_eq, decide_eq_false_iff_not, Bool.and_eq_true] at hc)) | refine And.intro (by first | assumption | omega | (have := qf (by assumption); omega) | (unfold qo; omega)) ?_ | simp (disch := omega) only [qd] | simp (disch := omega) only [qn]) <;> (try simp only [go_sem, ↓reduceIte, Nat.reduceEqDiff, Nat.reduceAdd, Nat.reduceSub, Nat.reduceMul, Nat.reduceLT, Nat.reduceLeDiff, reduceCtorEq, Int.reduceToNat])))
  all_goals exact ⟨rfl, rfl⟩
theorem qbhx (c : K) : VCalls Try.prog 58 [curE c, .blk [.ptr 0 0]] [.ptr 1 0] fun H' o => H' = frA false c ∧ o = .val (.bool (begT c)) := by
  refine qs c0v 2 (by simp) (by simp) ?_
  unfold frA
  repeat' (first | refine qi ?_ | ((first | refine qm ?_ | refine qj ?_ | refine qbn3 ?_ | ((first | refine qe ?_ ?_ | refine qc ?_ ?_) <;> intro hc <;> (try simp only [hc]) <;> (try simp only [qb, qa, decide_eq_true_eq, decide_eq_false_iff_not, Bool.and_eq_true] at hc)) | refine And.intro (by first | assumption | omega | (have := qf (by assumption); omega) | (unfold qo; omega)) ?_ | simp (disch := omega) only [qd] | simp (disch := omega) only [qn]) <;> (try simp only [go_sem, ↓reduceIte, Nat.reduceEqDiff, Nat.reduceAdd, Nat.reduceSub, Nat.reduceMul, Nat.reduceLT, Nat.reduceLeDiff, reduceCtorEq, Int.reduceToNat])))
  all_goals exact ⟨rfl, rfl⟩
theorem q4y (c : K) (hg : c.good) : VCalls Try.prog 36 [curE c, .blk [.ptr 0 0]] [.ptr 1 0] fun H' o => H' = frA false (qg9 c).1 ∧ o = .val (resB (qg9 c).2) := by
  refine qs c0w 2 (by simp) (by simp) ?_
  unfold qg9 ofO frA
  repeat' (first | refine qi ?_ | ((first | refine qm ?_ | refine qj ?_ | refine qb7 (qj8 c hg) rfl ?_ | ((first | refine qe ?_ ?_ | refine qc ?_ ?_) <;> intro hc <;> (try simp only [hc]) <;> (try simp only [qb, qa, decide_eq_true_eq, decide_eq_false_iff_not, Bool.and_eq_true] at hc)) | refine And.intro (by first | assumption | omega | (have := qf (by assumption); omega) | (unfold qo; omega)) ?_ | simp (disch := omega) only [qd] | simp (disch := omega) only [qn]) <;> (try simp only [go_sem, ↓reduceIte, Nat.reduceEqDiff, Nat.reduceAdd, Nat.reduceSub, Nat.reduceMul, Nat.reduceLT, Nat.reduceLeDiff, reduceCtorEq, Int.reduceToNat])))
  all_goals exact ⟨rfl, rfl⟩
theorem q29 (c : K) : VCalls Try.prog 38 [curE c, .blk [.ptr 0 0]] [.ptr 1 0] fun H' o => H' = frA false c ∧ o = .val (.bool (ql0 c)) := by
  refine qs c0x 2 (by simp) (by simp) ?_
  unfold ql0 frA
  repeat' (first | refine qi ?_ | ((first | refine qm ?_ | refine qj ?_ | refine qbu ?_ | ((first | refine qe ?_ ?_ | refine qc ?_ ?_) <;> intro hc <;> (try simp only [hc]) <;> (try simp only [qb, qa, decide_eq_true_eq, decide_eq_false_iff_not, Bool.and_eq_true] at hc)) | refine And.intro (by first | assumption | omega | (have := qf (by assumption); omega) | (unfold qo; omega)) ?_ | simp (disch := omega) only [qd] | simp (disch := omega) only [qn]) <;> (try simp only [go_sem, ↓reduceIte, Nat.reduceEqDiff, Nat.reduceAdd, Nat.reduceSub, Nat.reduceMul, Nat.reduceLT, Nat.reduceLeDiff, reduceCtorEq, Int.reduceToNat])))
  all_goals exact ⟨rfl, rfl⟩
theorem q2u (c : K) (hg : c.good) : RowA qg9 (qlz begT) 57 58 false c := qod qdr (monA _) (fun b c g _ => q8l c g) (fun b c g _ => qbhx c) false c hg (Nat.le_refl _)
theorem qzd (c : K) (hg : c.good) : RowA qg9 (qlz ql0) 36 38 false c := qod qdr (monA _) (fun b c g _ => q4y c g) (fun b c g _ => q29 c) false c hg (Nat.le_refl _)
section
variable {one : K → R3} {more : MF} {g1 g2 : FuncId} {b : Bool} {c : K}
theorem qp4 (h : RowA one more g1 g2 b c) (h0 : (rowS one more b c []).2.2.1 = []) {L : List Ent} {Q : List Ent → VO → Prop} (hq : Q (curE (rowS one more b c []).2.1 :: .blk [.ptr 0 0] :: L) (.val (.tup [.nils, .bool (rowS one more b c []).2.2.2]))) :
    VApp Try.prog (curE c :: .blk [.ptr 0 0] :: L) (.fn 15 [] []) [.nils, .fn g1 [] [.ptr 1 0], .fn g2 [] [.ptr 1 0]] Q :=
  qby (first := []) (caps := []) (by
    simp only [List.nil_append, List.append_nil]
    refine qcs (H0 := [curE c, .blk [.ptr 0 0]]) (L := L) h (qg1 c) rfl ?_
    rintro H1 o ⟨rfl, rfl⟩
    rw [h0]
    exact ⟨rfl, qg1 _, rfl, hq⟩)
theorem qp3 (h : RowA one more g1 g2 b c) (h0 : (rowS one more b c []).2.2.1 ≠ []) {L : List Ent} {Q : List Ent → VO → Prop} (hq : Q (curE (rowS one more b c []).2.1 :: .blk [.ptr 0 0] :: (L ++ [.app 5 (encs (rowS one more b c []).2.2.1)])) (.val (.tup [.row (L.length + 2) (rowS one more b c []).2.2.1.length, .bool (rowS one more b c []).2.2.2]))) :
    VApp Try.prog (curE c :: .blk [.ptr 0 0] :: L) (.fn 15 [] []) [.nils, .fn g1 [] [.ptr 1 0], .fn g2 [] [.ptr 1 0]] Q :=
  qby (first := []) (caps := []) (by
    simp only [List.nil_append, List.append_nil]
    refine qcb (H0 := [curE c, .blk [.ptr 0 0]]) (args0 := [.nils, .fn g1 [] [.ptr 1 0], .fn g2 [] [.ptr 1 0]]) [0, 1] h (by simp) ?_ rfl rfl ?_
    · simp only [go_sem, ↓reduceIte, Nat.reduceEqDiff, Nat.reduceAdd, Nat.reduceSub, Nat.reduceMul, Nat.reduceLT, Nat.reduceLeDiff, reduceCtorEq, Int.reduceToNat]
      omega
    rintro H1 o ⟨rfl, rfl⟩
    rw [qbp (qbc h0), qbo (qbc h0), qbd]
    simpa [qel, qbq, sg', qji, qlg, AV.ren, AV.rens, VO.ren, qci] using hq)
end
theorem qnd (t : T) (l : List N) : AV.agg [.int .i64 34, .int .i64 t.pos, .int .i64 0, .str t.text, .sl 5 (encs l)] = enc (conN t l) := by simp only [conN, enc]
theorem qnl (t : T) : AV.agg [.int .i64 34, .int .i64 t.pos, .int .i64 0, .str t.text, .sl 5 []] = enc (conN t []) := qnd t []
theorem qbl6 (c : K) (hg : c.good) : qbz Try.prog 41 (curE c) (curE (conK c).1) [.ptr 0 0] (resB (conK c).2) := by
  have g1 : (qbe c 2).1.good := (qca c 2).1 hg
  have hR := q2u (qbe c 2).1 g1
  have h0 := @qp4 _ _ _ _ _ _ hR
  have h1 := @qp3 _ _ _ _ _ _ hR
  clear hR
  refine qs c0y 1 (by simp) (by simp) ?_
  unfold conK
  generalize rowS qg9 (qlz begT) false (qbe c 2).1 [] = r at *
  by_cases hk : (qbe c 2).2 = true
  · rw [if_pos hk]
    by_cases hl : r.2.2.1 = []
    · repeat' (first | refine qi ?_ | ((first | refine qbk ?_ | refine qj ?_ | refine qh ?_ | refine qg ?_) <;> (try simp (disch := first | omega | (simp only [List.length_set, List.length_append, List.length_cons, List.length_nil]; done) | (simp only [List.length_set, List.length_append, List.length_cons, List.length_nil]; omega)) only [hk, go_sem, ↓reduceIte, Nat.reduceEqDiff, Nat.reduceAdd, Nat.reduceSub, Nat.reduceMul, Nat.reduceLT, Nat.reduceLeDiff, reduceCtorEq, Int.reduceToNat])) | ((first | ((first | refine qe ?_ ?_ | refine qc ?_ ?_) <;> intro hc <;> (try simp only [hc]) <;> (try simp only [qb, qa, decide_eq_true_eq, decide_eq_false_iff_not, Bool.and_eq_true] at hc)) | refine And.intro (by first | assumption | omega | (have := qf (by assumption); omega) | (unfold qo; omega)) ?_ | simp (disch := omega) only [qd] | simp (disch := omega) only [qn] | refine qcr hg.ok ?_ | refine h0 hl ?_) <;> (try simp only [go_sem, ↓reduceIte, Nat.reduceEqDiff, Nat.reduceAdd, Nat.reduceSub, Nat.reduceMul, Nat.reduceLT, Nat.reduceLeDiff, reduceCtorEq, Int.reduceToNat])))
      all_goals first | (rw [hl, qnl]; done) | (rw [hl, qnl]; rfl) | (rw [hl, qnl]; exact ⟨rfl, rfl⟩)
    · repeat' (first | refine qi ?_ | ((first | refine qbk ?_ | refine qj ?_ | refine qh ?_ | refine qg ?_) <;> (try simp (disch := first | omega | (simp only [List.length_set, List.length_append, List.length_cons, List.length_nil]; done) | (simp only [List.length_set, List.length_append, List.length_cons, List.length_nil]; omega)) only [hk, go_sem, ↓reduceIte, Nat.reduceEqDiff, Nat.reduceAdd, Nat.reduceSub, Nat.reduceMul, Nat.reduceLT, Nat.reduceLeDiff, reduceCtorEq, Int.reduceToNat])) | ((first | ((first | refine qe ?_ ?_ | refine qc ?_ ?_) <;> intro hc <;> (try simp only [hc]) <;> (try simp only [qb, qa, decide_eq_true_eq, decide_eq_false_iff_not, Bool.and_eq_true] at hc)) | refine And.intro (by first | assumption | omega | (have := qf (by assumption); omega) | (unfold qo; omega)) ?_ | simp (disch := omega) only [qd] | simp (disch := omega) only [qn] | refine qcr hg.ok ?_ | refine h1 hl ?_) <;> (try simp only [go_sem, ↓reduceIte, Nat.reduceEqDiff, Nat.reduceAdd, Nat.reduceSub, Nat.reduceMul, Nat.reduceLT, Nat.reduceLeDiff, reduceCtorEq, Int.reduceToNat])))
      all_goals first | (rw [qnd]; done) | (rw [qnd]; rfl) | (rw [qnd]; exact ⟨rfl, rfl⟩)
  · rw [if_neg hk]
    repeat' (first | refine qi ?_ | ((first | refine qm ?_ | refine qj ?_ | refine qh ?_ | refine qg ?_) <;> (try simp (disch := first | omega | (simp only [List.length_set, List.length_append, List.length_cons, List.length_nil]; done) | (simp only [List.length_set, List.length_append, List.length_cons, List.length_nil]; omega)) only [hk, go_sem, ↓reduceIte, Nat.reduceEqDiff, Nat.reduceAdd, Nat.reduceSub, Nat.reduceMul, Nat.reduceLT, Nat.reduceLeDiff, reduceCtorEq, Int.reduceToNat])) | ((first | ((first | refine qe ?_ ?_ | refine qc ?_ ?_) <;> intro hc <;> (try simp only [hc]) <;> (try simp only [qb, qa, decide_eq_true_eq, decide_eq_false_iff_not, Bool.and_eq_true] at hc)) | refine And.intro (by first | assumption | omega | (have := qf (by assumption); omega) | (unfold qo; omega)) ?_ | simp (disch := omega) only [qd] | simp (disch := omega) only [qn] | refine qcr hg.ok ?_) <;> (try simp only [go_sem, ↓reduceIte, Nat.reduceEqDiff, Nat.reduceAdd, Nat.reduceSub, Nat.reduceMul, Nat.reduceLT, Nat.reduceLeDiff, reduceCtorEq, Int.reduceToNat])))
    all_goals first | (rw [qdf]; done) | (rw [qdf]; rfl) | (rw [qdf]; exact ⟨rfl, rfl⟩)
set_option maxRecDepth 4000

theorem qbqg {c : K} {L : List Ent} {Q : List Ent → VO → Prop} (hg : c.good) (hq : Q (curE (conK c).1 :: L) (.val (resB (conK c).2))) : VApp Try.prog (curE c :: L) (.fn 41 [] []) [.ptr 0 0] Q := qhb (qbl6 c hg) rfl hq
theorem qrv (x : List UInt8) (b : Bool) (c : K) (hg : c.good) : VCalls Try.prog 40 [curE c, .blk [.ptr 0 0], .blk [.ptr 0 0], .blk [.str x], .blk [.bool b]] [.ptr 1 0] fun H' o => H' = frD x b (conK c).1 ∧ o = .val (resB (conK c).2) := by
  refine qs c0p 5 (by simp) (by simp) ?_
  unfold frD
  repeat' (first | refine qi ?_ | ((first | refine qm ?_ | refine qj ?_ | refine qbqg hg ?_ | ((first | refine qe ?_ ?_ | refine qc ?_ ?_) <;> intro hc <;> (try simp only [hc]) <;> (try simp only [qb, qa, decide_eq_true_eq, decide_eq_false_iff_not, Bool.and_eq_true] at hc)) | refine And.intro (by first | assumption | omega | (have := qf (by assumption); omega) | (unfold qo; omega)) ?_ | simp (disch := omega) only [qd] | simp (disch := omega) only [qn]) <;> (try simp only [go_sem, ↓reduceIte, Nat.reduceEqDiff, Nat.reduceAdd, Nat.reduceSub, Nat.reduceMul, Nat.reduceLT, Nat.reduceLeDiff, reduceCtorEq, Int.reduceToNat])))
  all_goals exact ⟨rfl, rfl⟩
theorem qmd (x : List UInt8) (b : Bool) (c : K) (hg : c.good) : VCalls Try.prog 25 [curE c, .blk [.ptr 0 0], .blk [.ptr 0 0], .blk [.str x], .blk [.bool b]] [.ptr 4 0, .ptr 2 0, .ptr 3 0] fun H' o => H' = frD x (qch x b c).1 (qch x b c).2.1 ∧ o = .val (.bool (qch x b c).2.2) := by
  refine qcb (H0 := [curE c, .blk [.ptr 0 0], .blk [.str x], .blk [.bool b]]) (args0 := [.ptr 3 0, .ptr 1 0, .ptr 2 0]) [0, 2, 3, 4] (qpj x b c hg) (by simp) ?_ rfl rfl ?_
  · simp only [go_sem, ↓reduceIte, Nat.reduceEqDiff, Nat.reduceAdd, Nat.reduceSub, Nat.reduceMul, Nat.reduceLT, Nat.reduceLeDiff, reduceCtorEq, Int.reduceToNat]
  rintro H1 o ⟨rfl, rfl⟩
  simp [frD, qel, qbq, sg', qji, qkg, qgg, AV.ren, AV.rens, VO.ren, qci]
theorem qz1 (c : K) (hg : c.good) : RowD conK (qch [124]) 40 25 [124] false c :=
  qy4 qjz (monF _) (fun b c g _ => qrv _ b c g) (fun b c g _ => qmd _ b c g) false c hg (Nat.le_refl _)
theorem qw9 (c : K) (a0 : List N) (hg : c.good) (hl : a0.length + rest c ≤ 1048578) : RovD conK (qch [124]) 40 25 [124] false c a0 :=
  qzr qjz (monF _) (fun b c g _ => qrv _ b c g) (fun b c g _ => qmd _ b c g) false c a0 hg (Nat.le_refl _) hl
section
variable {one : K → R3} {more : MF} {g : FuncId} {x : List UInt8} {b : Bool} {c : K} {e2 e3 e4 : Ent} {Q : List Ent → VO → Prop}
theorem qwj (h : RowD one more g 25 x b c) (h0 : (rowS one more b c []).2.2.1 = []) (hq : Q [curE (rowS one more b c []).2.1, .blk [.ptr 0 0], e2, e3, e4, .blk [.ptr 0 0], .blk [.str x], .blk [.bool (rowS one more b c []).1]] (.val (.tup [.nils, .bool (rowS one more b c []).2.2.2]))) :
    VApp Try.prog [curE c, .blk [.ptr 0 0], e2, e3, e4, .blk [.ptr 0 0], .blk [.str x], .blk [.bool b]] (.fn 15 [] []) [.nils, .fn g [] [.ptr 1 0], .fn 25 [] [.ptr 7 0, .ptr 5 0, .ptr 6 0]] Q :=
  qby (first := []) (caps := []) (by
    simp only [List.nil_append, List.append_nil]
    refine qcb (H0 := [curE c, .blk [.ptr 0 0], .blk [.ptr 0 0], .blk [.str x], .blk [.bool b]]) (args0 := [.nils, .fn g [] [.ptr 1 0], .fn 25 [] [.ptr 4 0, .ptr 2 0, .ptr 3 0]]) [0, 1, 5, 6, 7] h (by simp) ?_ rfl rfl ?_
    · simp only [go_sem, ↓reduceIte, Nat.reduceEqDiff, Nat.reduceAdd, Nat.reduceSub, Nat.reduceMul, Nat.reduceLT, Nat.reduceLeDiff, reduceCtorEq, Int.reduceToNat]
    rintro H1 o ⟨rfl, rfl⟩
    rw [h0]
    simpa [encs, qbj, qbh, qel, qbq, sg', qji, qkg, qgg, AV.ren, AV.rens, VO.ren, qci] using hq)
theorem qxf (h : RowD one more g 25 x b c) (h0 : (rowS one more b c []).2.2.1 ≠ []) (hq : Q [curE (rowS one more b c []).2.1, .blk [.ptr 0 0], e2, e3, e4, .blk [.ptr 0 0], .blk [.str x], .blk [.bool (rowS one more b c []).1], .app 5 (encs (rowS one more b c []).2.2.1)] (.val (.tup [.row 8 (rowS one more b c []).2.2.1.length, .bool (rowS one more b c []).2.2.2]))) :
    VApp Try.prog [curE c, .blk [.ptr 0 0], e2, e3, e4, .blk [.ptr 0 0], .blk [.str x], .blk [.bool b]] (.fn 15 [] []) [.nils, .fn g [] [.ptr 1 0], .fn 25 [] [.ptr 7 0, .ptr 5 0, .ptr 6 0]] Q :=
  qby (first := []) (caps := []) (by
    simp only [List.nil_append, List.append_nil]
    refine qcb (H0 := [curE c, .blk [.ptr 0 0], .blk [.ptr 0 0], .blk [.str x], .blk [.bool b]]) (args0 := [.nils, .fn g [] [.ptr 1 0], .fn 25 [] [.ptr 4 0, .ptr 2 0, .ptr 3 0]]) [0, 1, 5, 6, 7] h (by simp) ?_ rfl rfl ?_
    · simp only [go_sem, ↓reduceIte, Nat.reduceEqDiff, Nat.reduceAdd, Nat.reduceSub, Nat.reduceMul, Nat.reduceLT, Nat.reduceLeDiff, reduceCtorEq, Int.reduceToNat]
    rintro H1 o ⟨rfl, rfl⟩
    rw [qbp (qbc h0), qbo (qbc h0), qbd]
    simpa [qel, qbq, sg', qji, qkg, qgg, qlg, AV.ren, AV.rens, VO.ren, qci] using hq)
variable {a0 : List N}
theorem qwm (h : RovD one more g 25 x b c a0) (h0 : (rowS one more b c a0).2.2.1 = a0) (hq : Q [curE (rowS one more b c a0).2.1, .blk [.ptr 0 0], e2, e3, e4, .app 5 (encs a0), .blk [.ptr 0 0], .blk [.str x], .blk [.bool (rowS one more b c a0).1]] (.val (.tup [.row 5 a0.length, .bool (rowS one more b c a0).2.2.2]))) :
    VApp Try.prog [curE c, .blk [.ptr 0 0], e2, e3, e4, .app 5 (encs a0), .blk [.ptr 0 0], .blk [.str x], .blk [.bool b]] (.fn 15 [] []) [.row 5 a0.length, .fn g [] [.ptr 1 0], .fn 25 [] [.ptr 8 0, .ptr 6 0, .ptr 7 0]] Q :=
  qby (first := []) (caps := []) (by
    simp only [List.nil_append, List.append_nil]
    refine qcb (H0 := [curE c, .blk [.ptr 0 0], .blk [.ptr 0 0], .blk [.str x], .blk [.bool b], .app 5 (encs a0)]) (args0 := [.row 5 a0.length, .fn g [] [.ptr 1 0], .fn 25 [] [.ptr 4 0, .ptr 2 0, .ptr 3 0]]) [0, 1, 6, 7, 8, 5] h (by simp) ?_ rfl rfl ?_
    · simp only [go_sem, ↓reduceIte, Nat.reduceEqDiff, Nat.reduceAdd, Nat.reduceSub, Nat.reduceMul, Nat.reduceLT, Nat.reduceLeDiff, reduceCtorEq, Int.reduceToNat]
      all_goals (rw [qbn, q6]; exact ⟨rfl, rfl⟩)
    intro H1 o hh
    obtain ⟨rfl, rfl⟩ := hh.1 h0
    simpa [qel, qbq, sg', qji, qkg, qgg, qlg, AV.ren, AV.rens, VO.ren, qci] using hq)
theorem qyf (h : RovD one more g 25 x b c a0) (h0 : (rowS one more b c a0).2.2.1 ≠ a0) (hq : Q [curE (rowS one more b c a0).2.1, .blk [.ptr 0 0], e2, e3, e4, .dead, .blk [.ptr 0 0], .blk [.str x], .blk [.bool (rowS one more b c a0).1], .app 5 (encs (rowS one more b c a0).2.2.1)] (.val (.tup [.row 9 (rowS one more b c a0).2.2.1.length, .bool (rowS one more b c a0).2.2.2]))) :
    VApp Try.prog [curE c, .blk [.ptr 0 0], e2, e3, e4, .app 5 (encs a0), .blk [.ptr 0 0], .blk [.str x], .blk [.bool b]] (.fn 15 [] []) [.row 5 a0.length, .fn g [] [.ptr 1 0], .fn 25 [] [.ptr 8 0, .ptr 6 0, .ptr 7 0]] Q :=
  qby (first := []) (caps := []) (by
    simp only [List.nil_append, List.append_nil]
    refine qcb (H0 := [curE c, .blk [.ptr 0 0], .blk [.ptr 0 0], .blk [.str x], .blk [.bool b], .app 5 (encs a0)]) (args0 := [.row 5 a0.length, .fn g [] [.ptr 1 0], .fn 25 [] [.ptr 4 0, .ptr 2 0, .ptr 3 0]]) [0, 1, 6, 7, 8, 5] h (by simp) ?_ rfl rfl ?_
    · simp only [go_sem, ↓reduceIte, Nat.reduceEqDiff, Nat.reduceAdd, Nat.reduceSub, Nat.reduceMul, Nat.reduceLT, Nat.reduceLeDiff, reduceCtorEq, Int.reduceToNat]
      all_goals (rw [qbn, q6]; exact ⟨rfl, rfl⟩)
    intro H1 o hh
    obtain ⟨rfl, rfl⟩ := hh.2 h0
    have hd : ∀ σ : Nat → Nat, Ent.dead.ren σ = .dead := fun σ => rfl
    simpa [qel, qbq, sg', qji, qkg, qgg, qlg, hd, AV.ren, AV.rens, VO.ren, qci] using hq)
end
theorem qj4 (p : Int) (t : T) (v l : List N) : AV.agg [.int .i64 33, .int .i64 p, .int .i64 v.length, .str t.text, .sl 5 (encs l)] = enc (qun p t v l) := by simp only [qun, enc]
theorem qxj (p : Int) (t : T) (l : List N) : AV.agg [.int .i64 33, .int .i64 p, .int .i64 0, .str t.text, .sl 5 (encs l)] = enc (qun p t [] l) := qj4 p t [] l
theorem qur (p : Int) (t : T) : AV.agg [.int .i64 33, .int .i64 p, .int .i64 0, .str t.text, .sl 5 []] = enc (qun p t [] []) := qj4 p t [] []
theorem qbi0 (p : Int) (c : K) (hg : c.good) : qbz Try.prog 27 (curE c) (curE (qnn p c).1) [.ptr 0 0, posZ p] (resB (qnn p c).2) := by
  have g1 : (qbe c 2).1.good := (qca c 2).1 hg
  have hR := qzd (qbe c 2).1 g1
  have h0 := @qp4 _ _ _ _ _ _ hR
  have h1 := @qp3 _ _ _ _ _ _ hR
  have g2 := (qes qdr (monA ql0) false (qbe c 2).1 []).1 g1
  have hlen := q31 qdr (monA ql0) false (qbe c 2).1 []
  have hle := (qes qdr (monA ql0) false (qbe c 2).1 []).2.1
  have h9 := g1.rest
  clear hR
  refine qs c0q 1 (by simp) (by simp [posZ]) ?_
  unfold qnn q2g posZ
  by_cases hk : (qbe c 2).2 = true
  · rw [if_pos hk]
    generalize rowS qg9 (qlz ql0) false (qbe c 2).1 [] = r at *
    obtain ⟨fl, d, v, ok⟩ := r
    simp only at h0 h1 g2 hlen hle ⊢
    simp only [List.length_nil] at hlen
    have hle2 := (qt d [61]).2.1
    have hcap : qo (v.length + 1) 64 := capN (by unfold rest at hlen; omega)
    have hvl : v.length ≤ maxLen := by unfold maxLen; unfold rest at hlen; omega
    have g3 : (qx d [61]).1.good := (qt _ _).1 g2
    have hR := qz1 (qx d [61]).1 g3
    have hRv := qw9 (qx d [61]).1 v g3 (by unfold rest at *; omega)
    unfold qvy
    by_cases hw : (qx d [61]).2 = true
    · rw [if_pos hw]
      by_cases hl : v = []
      · subst hl
        clear hRv
        have i0 := fun e2 e3 e4 Q => @qwj conK (qch [124]) 40 [124] false (qx d [61]).1 e2 e3 e4 Q hR
        have i1 := fun e2 e3 e4 Q => @qxf conK (qch [124]) 40 [124] false (qx d [61]).1 e2 e3 e4 Q hR
        clear hR
        generalize rowS conK (qch [124]) false (qx d [61]).1 [] = r2 at *
        by_cases hq : r2.2.2.1 = []
        · repeat' (first | refine qi ?_ | ((first | refine qbk ?_ | refine q9 ?_ | refine qj ?_ | refine qh ?_ | refine qg ?_) <;> (try simp (disch := first | omega | (simp only [List.length_set, List.length_append, List.length_cons, List.length_nil]; done) | (simp only [List.length_set, List.length_append, List.length_cons, List.length_nil]; omega)) only [hk, hw, go_sem, ↓reduceIte, Nat.reduceEqDiff, Nat.reduceAdd, Nat.reduceSub, Nat.reduceMul, Nat.reduceLT, Nat.reduceLeDiff, reduceCtorEq, Int.reduceToNat])) | ((first | ((first | refine qe ?_ ?_ | refine qc ?_ ?_) <;> intro hc <;> (try simp only [hc]) <;> (try simp only [qb, qa, decide_eq_true_eq, decide_eq_false_iff_not, Bool.and_eq_true] at hc)) | refine And.intro (by first | assumption | omega | (have := qf (by assumption); omega) | (unfold qo; omega)) ?_ | simp (disch := omega) only [qd] | simp (disch := omega) only [qn] | refine qcr hg.ok ?_ | refine h0 rfl ?_ | refine qb0 g2.ok ?_ | refine qdq ?_ | refine i0 _ _ _ _ hq ?_) <;> (try simp only [go_sem, ↓reduceIte, Nat.reduceEqDiff, Nat.reduceAdd, Nat.reduceSub, Nat.reduceMul, Nat.reduceLT, Nat.reduceLeDiff, reduceCtorEq, Int.reduceToNat])))
          all_goals (try rw [hq, qur])
          all_goals (try exact ⟨rfl, rfl⟩)
        · repeat' (first | refine qi ?_ | ((first | refine qbk ?_ | refine q9 ?_ | refine qj ?_ | refine qh ?_ | refine qg ?_) <;> (try simp (disch := first | omega | (simp only [List.length_set, List.length_append, List.length_cons, List.length_nil]; done) | (simp only [List.length_set, List.length_append, List.length_cons, List.length_nil]; omega)) only [hk, hw, go_sem, ↓reduceIte, Nat.reduceEqDiff, Nat.reduceAdd, Nat.reduceSub, Nat.reduceMul, Nat.reduceLT, Nat.reduceLeDiff, reduceCtorEq, Int.reduceToNat])) | ((first | ((first | refine qe ?_ ?_ | refine qc ?_ ?_) <;> intro hc <;> (try simp only [hc]) <;> (try simp only [qb, qa, decide_eq_true_eq, decide_eq_false_iff_not, Bool.and_eq_true] at hc)) | refine And.intro (by first | assumption | omega | (have := qf (by assumption); omega) | (unfold qo; omega)) ?_ | simp (disch := omega) only [qd] | simp (disch := omega) only [qn] | refine qcr hg.ok ?_ | refine h0 rfl ?_ | refine qb0 g2.ok ?_ | refine qdq ?_ | refine i1 _ _ _ _ hq ?_) <;> (try simp only [go_sem, ↓reduceIte, Nat.reduceEqDiff, Nat.reduceAdd, Nat.reduceSub, Nat.reduceMul, Nat.reduceLT, Nat.reduceLeDiff, reduceCtorEq, Int.reduceToNat])))
          all_goals (try rw [qxj])
          all_goals (try exact ⟨rfl, rfl⟩)
      · clear hR
        have i0 := fun e2 e3 e4 Q => @qwm conK (qch [124]) 40 [124] false (qx d [61]).1 e2 e3 e4 Q v hRv
        have i1 := fun e2 e3 e4 Q => @qyf conK (qch [124]) 40 [124] false (qx d [61]).1 e2 e3 e4 Q v hRv
        clear hRv
        generalize rowS conK (qch [124]) false (qx d [61]).1 v = r2 at *
        by_cases hq : r2.2.2.1 = v
        · repeat' (first | refine qi ?_ | ((first | refine qbk ?_ | refine q9 ?_ | refine qj ?_ | refine qh ?_ | refine qg ?_) <;> (try simp (disch := first | omega | (simp only [List.length_set, List.length_append, List.length_cons, List.length_nil]; done) | (simp only [List.length_set, List.length_append, List.length_cons, List.length_nil]; omega)) only [hk, hw, go_sem, ↓reduceIte, Nat.reduceEqDiff, Nat.reduceAdd, Nat.reduceSub, Nat.reduceMul, Nat.reduceLT, Nat.reduceLeDiff, reduceCtorEq, Int.reduceToNat])) | ((first | ((first | refine qe ?_ ?_ | refine qc ?_ ?_) <;> intro hc <;> (try simp only [hc]) <;> (try simp only [qb, qa, decide_eq_true_eq, decide_eq_false_iff_not, Bool.and_eq_true] at hc)) | refine And.intro (by first | assumption | omega | (have := qf (by assumption); omega) | (unfold qo; omega)) ?_ | simp (disch := omega) only [qd] | simp (disch := omega) only [qn] | refine qcr hg.ok ?_ | refine h1 hl ?_ | refine qb0 g2.ok ?_ | refine qdq ?_ | refine i0 _ _ _ _ hq ?_) <;> (try simp only [go_sem, ↓reduceIte, Nat.reduceEqDiff, Nat.reduceAdd, Nat.reduceSub, Nat.reduceMul, Nat.reduceLT, Nat.reduceLeDiff, reduceCtorEq, Int.reduceToNat])))
          all_goals (try rw [hq, qj4])
          all_goals (try exact ⟨rfl, rfl⟩)
        · repeat' (first | refine qi ?_ | ((first | refine qbk ?_ | refine q9 ?_ | refine qj ?_ | refine qh ?_ | refine qg ?_) <;> (try simp (disch := first | omega | (simp only [List.length_set, List.length_append, List.length_cons, List.length_nil]; done) | (simp only [List.length_set, List.length_append, List.length_cons, List.length_nil]; omega)) only [hk, hw, go_sem, ↓reduceIte, Nat.reduceEqDiff, Nat.reduceAdd, Nat.reduceSub, Nat.reduceMul, Nat.reduceLT, Nat.reduceLeDiff, reduceCtorEq, Int.reduceToNat])) | ((first | ((first | refine qe ?_ ?_ | refine qc ?_ ?_) <;> intro hc <;> (try simp only [hc]) <;> (try simp only [qb, qa, decide_eq_true_eq, decide_eq_false_iff_not, Bool.and_eq_true] at hc)) | refine And.intro (by first | assumption | omega | (have := qf (by assumption); omega) | (unfold qo; omega)) ?_ | simp (disch := omega) only [qd] | simp (disch := omega) only [qn] | refine qcr hg.ok ?_ | refine h1 hl ?_ | refine qb0 g2.ok ?_ | refine qdq ?_ | refine i1 _ _ _ _ hq ?_) <;> (try simp only [go_sem, ↓reduceIte, Nat.reduceEqDiff, Nat.reduceAdd, Nat.reduceSub, Nat.reduceMul, Nat.reduceLT, Nat.reduceLeDiff, reduceCtorEq, Int.reduceToNat])))
          all_goals (try rw [qj4])
          all_goals (try exact ⟨rfl, rfl⟩)
    · rw [if_neg hw]
      by_cases hl : v = []
      · repeat' (first | refine qi ?_ | ((first | refine qbk ?_ | refine q9 ?_ | refine qj ?_ | refine qh ?_ | refine qg ?_) <;> (try simp (disch := first | omega | (simp only [List.length_set, List.length_append, List.length_cons, List.length_nil]; done) | (simp only [List.length_set, List.length_append, List.length_cons, List.length_nil]; omega)) only [hk, hw, go_sem, ↓reduceIte, Nat.reduceEqDiff, Nat.reduceAdd, Nat.reduceSub, Nat.reduceMul, Nat.reduceLT, Nat.reduceLeDiff, reduceCtorEq, Int.reduceToNat])) | ((first | ((first | refine qe ?_ ?_ | refine qc ?_ ?_) <;> intro hc <;> (try simp only [hc]) <;> (try simp only [qb, qa, decide_eq_true_eq, decide_eq_false_iff_not, Bool.and_eq_true] at hc)) | refine And.intro (by first | assumption | omega | (have := qf (by assumption); omega) | (unfold qo; omega)) ?_ | simp (disch := omega) only [qd] | simp (disch := omega) only [qn] | refine qcr hg.ok ?_ | refine h0 hl ?_ | refine qb0 g2.ok ?_) <;> (try simp only [go_sem, ↓reduceIte, Nat.reduceEqDiff, Nat.reduceAdd, Nat.reduceSub, Nat.reduceMul, Nat.reduceLT, Nat.reduceLeDiff, reduceCtorEq, Int.reduceToNat])))
        all_goals (try rw [qf2])
        all_goals (try exact ⟨rfl, rfl⟩)
      · repeat' (first | refine qi ?_ | ((first | refine qbk ?_ | refine q9 ?_ | refine qj ?_ | refine qh ?_ | refine qg ?_) <;> (try simp (disch := first | omega | (simp only [List.length_set, List.length_append, List.length_cons, List.length_nil]; done) | (simp only [List.length_set, List.length_append, List.length_cons, List.length_nil]; omega)) only [hk, hw, go_sem, ↓reduceIte, Nat.reduceEqDiff, Nat.reduceAdd, Nat.reduceSub, Nat.reduceMul, Nat.reduceLT, Nat.reduceLeDiff, reduceCtorEq, Int.reduceToNat])) | ((first | ((first | refine qe ?_ ?_ | refine qc ?_ ?_) <;> intro hc <;> (try simp only [hc]) <;> (try simp only [qb, qa, decide_eq_true_eq, decide_eq_false_iff_not, Bool.and_eq_true] at hc)) | refine And.intro (by first | assumption | omega | (have := qf (by assumption); omega) | (unfold qo; omega)) ?_ | simp (disch := omega) only [qd] | simp (disch := omega) only [qn] | refine qcr hg.ok ?_ | refine h1 hl ?_ | refine qb0 g2.ok ?_) <;> (try simp only [go_sem, ↓reduceIte, Nat.reduceEqDiff, Nat.reduceAdd, Nat.reduceSub, Nat.reduceMul, Nat.reduceLT, Nat.reduceLeDiff, reduceCtorEq, Int.reduceToNat])))
        all_goals (try rw [qf2])
        all_goals (try exact ⟨rfl, rfl⟩)
  · rw [if_neg hk]
    repeat' (first | refine qi ?_ | ((first | refine qm ?_ | refine qcm (by rfl) ?_ | refine q9 ?_ | refine qj ?_ | refine qh ?_ | refine qg ?_) <;> (try simp (disch := first | omega | (simp only [List.length_set, List.length_append, List.length_cons, List.length_nil]; done) | (simp only [List.length_set, List.length_append, List.length_cons, List.length_nil]; omega)) only [hk, go_sem, ↓reduceIte, Nat.reduceEqDiff, Nat.reduceAdd, Nat.reduceSub, Nat.reduceMul, Nat.reduceLT, Nat.reduceLeDiff, reduceCtorEq, Int.reduceToNat])) | ((first | ((first | refine qe ?_ ?_ | refine qc ?_ ?_) <;> intro hc <;> (try simp only [hc]) <;> (try simp only [qb, qa, decide_eq_true_eq, decide_eq_false_iff_not, Bool.and_eq_true] at hc)) | refine And.intro (by first | assumption | omega | (have := qf (by assumption); omega) | (unfold qo; omega)) ?_ | simp (disch := omega) only [qd] | simp (disch := omega) only [qn] | refine qcr hg.ok ?_) <;> (try simp only [go_sem, ↓reduceIte, Nat.reduceEqDiff, Nat.reduceAdd, Nat.reduceSub, Nat.reduceMul, Nat.reduceLT, Nat.reduceLeDiff, reduceCtorEq, Int.reduceToNat])))
    all_goals (try rw [qf2])
    all_goals (try exact ⟨rfl, rfl⟩)
end Go.Proofs.Ytfjbmjplnmaclaa
