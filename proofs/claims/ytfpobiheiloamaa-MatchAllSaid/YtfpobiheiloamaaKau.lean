/- Texts of this proof, joined. -/
import Derived.Test.YtfpobiheiloamaaKaq

/- terms: how great, how deep, whether a type is one; Few -/
set_option maxRecDepth 4000
namespace Go.Proofs.Ytfpobiheiloamaa
open Go Go.RowKit Go.V
set_option linter.unusedVariables false
set_option linter.unusedSimpArgs false

/-! the program's -/
abbrev numE (n : Int) : Ent := .blk [.int .i64 n]
def qea (n : Int) (t : Ty) (k : Int) : Int × Bool := (IntKind.i64.wrap (n + 1), decide (IntKind.i64.wrap (n + 1) ≤ 4096) && (decide (k ≤ 100) && mayY t))
theorem qbd8 (n : Int) (t : Ty) (k : Int) : VM Try.prog 87 (numE n) (numE (qea n t k).1) [encY t, .int .i64 k, .ptr 0 0] (.bool (qea n t k).2) := by
 refine qfg (by kernel_rfl) fun hw => ?_
 have hk := qbp hw.1
 refine ql c0by 1 (by simp) (by simp) ?_
 repeat' (first | refine vs_ ?_ | ((first | refine vr_ ?_ | refine qa (qfo _) fun _ => ?_ | refine qa (qza _ _ _) fun _ => ?_ | (refine cs_ ?_ ?_ <;> intro hc) | refine cj_ ?_ | simp (disch := omega) only [encs_getN, qb]) <;> (try refine ev_ ?_)) | with_reducible exact ti_)
 ·simp_all [qea]
 ·exact ⟨rfl, by simp only [qea, *, decide_true, decide_false, Bool.true_and, Bool.false_and]⟩
 ·exact ⟨rfl, by simp only [qea, *, decide_true, decide_false, Bool.true_and, Bool.false_and]⟩
def qzy (n : Int) (_ : Ty) (_ : Int) : Int × Bool := (IntKind.i64.wrap (n + 1), true)
def qu1 (n : Int) (_ : Ty) (k : Int) : Int × Bool := (if k > n then k else n, true)
theorem qyx {f : FuncId} {step : Int → Ty → Int → Int × Bool} (h : ∀ n t k, VM Try.prog f (numE n) (numE (step n t k).1) [encY t, .int .i64 k, .ptr 0 0] (.bool (step n t k).2)) (t : Ty) (n k : Int) :
 VM Try.prog 86 (numE n) (numE (qb9 step t n k).1) [encY t, .int .i64 k, .fn f [] [.ptr 0 0]] (.bool (qb9 step t n k).2) :=
 qqs (st := numE) (ok := fun _ _ => True) (fun _ => rfl) (fun _ _ _ _ _ => trivial) (fun _ _ _ => trivial) (fun n t k _ => h n t k) t n k trivial
def qu6 (t : Ty) : Bool := (qb9 qea t 0 1).2
theorem qn0 (t : Ty) : qj Try.prog 48 [encY t] (.bool (qu6 t)) := by
 refine qe c0bz (by simp) (by simp only [go_sem]) rfl fun hw => ?_
 repeat' (first | refine vs_ ?_ | ((first | refine vr_ ?_ | refine qbn 1 (qyx qbd8 t 0 1) ?_ | (refine cs_ ?_ ?_ <;> intro hc) | refine cj_ ?_ | fail) <;> (try refine ev_ ?_)) | with_reducible exact ti_)
 rfl
/-! the references -/
mutual
def qgf : Ty → Int
 | .mk _ _ l => qdo 1 l
def qdo : Int → List Ty → Int
 | a, [] => a
 | a, x :: r => qdo (IntKind.i64.wrap (a + qgf x)) r
end
theorem qt9 (t : Ty) : qgf t = qdo 1 t.args := by cases t; rw [qgf]; rfl
theorem qjw : ∀ t, qj Try.prog 112 [encY t] (.int .i64 (qgf t)) := by
 refine Ty.ind fun t ih => ?_
 refine qe c0ca (by simp) (by simp only [go_sem]) rfl fun hw => ?_
 have hk := qbp hw.1
 repeat' (first | refine vs_ ?_ | ((first | refine vr_ ?_ | (refine cs_ ?_ ?_ <;> intro hc) | refine cj_ ?_ | simp (disch := omega) only [encs_getN, qb]) <;> (try refine ev_ ?_)) | with_reducible exact ti_)
 refine qs (S := Nat × Int) (fun s => s.1 ≤ t.args.length ∧ qdo s.2 (t.args.drop s.1) = qgf t) (fun s => (⟨[(1, .ptr 0 0), (3, .int .i64 s.2), (4, .int .i64 s.1)], []⟩, [.blk (yc t)])) (fun s => t.args.length - s.1) ?_ fun s hs => ?_
 ·refine qo (0, 1) [0] ⟨Nat.zero_le _, (qt9 t).symm⟩ rfl (by simp) ?_ ?_ ?_ <;> (try refine ev_ ?_) <;> (try with_reducible exact ti_) <;> (try simp (disch := omega) only [qb, and_true, true_and])
 ·obtain ⟨i, a⟩ := s
  obtain ⟨hi, ha⟩ := hs
  dsimp only at hi ha
  repeat' (first | refine vs_ ?_ | ((first | refine vr_ ?_ | fail) <;> (try simp (disch := first | omega | (simp only [List.length_set, List.length_append, List.length_cons, List.length_nil]; done) | (simp only [List.length_set, List.length_append, List.length_cons, List.length_nil]; omega)) only [qn, qb, go_sem, ↓reduceIte])) | ((first | (refine cs_ ?_ ?_ <;> intro hc) | refine cj_ ?_ | simp (disch := omega) only [encs_getN, qb] | refine qa (ih _ (qt (by omega))) fun _ => ?_) <;> (try refine ev_ ?_)) | with_reducible exact ti_)
  ·refine qo (i + 1, IntKind.i64.wrap (a + qgf (t.args.getD i Y0))) [0] ⟨⟨by dsimp only; omega, ?_⟩, by dsimp only; omega⟩ rfl (by simp) ?_ ?_ ?_ <;> (try refine ev_ ?_) <;> (try with_reducible exact ti_) <;> (try simp (disch := omega) only [qb, and_true, true_and])
   rw [← ha, qdl (l := t.args) (i := i) (by omega), qdo]
  ·rw [← ha, List.drop_of_length_le (by omega)]; rfl
mutual
def qkt : Ty → Int
 | .mk _ _ l => IntKind.i64.wrap (qe7 0 l + 1)
def qe7 : Int → List Ty → Int
 | a, [] => a
 | a, x :: r => qe7 (if qkt x > a then qkt x else a) r
end
theorem qzc (t : Ty) : qkt t = IntKind.i64.wrap (qe7 0 t.args + 1) := by cases t; rw [qkt]; rfl
theorem qng : ∀ t, qj Try.prog 113 [encY t] (.int .i64 (qkt t)) := by
 refine Ty.ind fun t ih => ?_
 refine qe c0cb (by simp) (by simp only [go_sem]) rfl fun hw => ?_
 have hk := qbp hw.1
 repeat' (first | refine vs_ ?_ | ((first | refine vr_ ?_ | (refine cs_ ?_ ?_ <;> intro hc) | refine cj_ ?_ | simp (disch := omega) only [encs_getN, qb]) <;> (try refine ev_ ?_)) | with_reducible exact ti_)
 refine qs (S := Nat × Int) (fun s => s.1 ≤ t.args.length ∧ qe7 s.2 (t.args.drop s.1) = qe7 0 t.args) (fun s => (⟨[(1, .ptr 0 0), (3, .int .i64 s.2), (4, .int .i64 s.1)], []⟩, [.blk (yc t)])) (fun s => t.args.length - s.1) ?_ fun s hs => ?_
 ·refine qo (0, 0) [0] ⟨Nat.zero_le _, rfl⟩ rfl (by simp) ?_ ?_ ?_ <;> (try refine ev_ ?_) <;> (try with_reducible exact ti_) <;> (try simp (disch := omega) only [qb, and_true, true_and])
 ·obtain ⟨i, a⟩ := s
  obtain ⟨hi, ha⟩ := hs
  dsimp only at hi ha
  repeat' (first | refine vs_ ?_ | ((first | refine vr_ ?_ | fail) <;> (try simp (disch := first | omega | (simp only [List.length_set, List.length_append, List.length_cons, List.length_nil]; done) | (simp only [List.length_set, List.length_append, List.length_cons, List.length_nil]; omega)) only [qn, qb, go_sem, ↓reduceIte])) | ((first | (refine cs_ ?_ ?_ <;> intro hc) | refine cj_ ?_ | simp (disch := omega) only [encs_getN, qb] | refine qa (ih _ (qt (by omega))) fun _ => ?_) <;> (try refine ev_ ?_)) | with_reducible exact ti_)
  ·refine qo (i + 1, if qkt (t.args.getD i Y0) > a then qkt (t.args.getD i Y0) else a) [0] ⟨⟨by dsimp only; omega, ?_⟩, by dsimp only; omega⟩ rfl (by simp) ?_ ?_ ?_ <;> (try refine ev_ ?_) <;> (try with_reducible exact ti_) <;> (try simp (disch := omega) only [qb, and_true, true_and])
   rw [← ha, qdl (l := t.args) (i := i) (by omega), qe7]
  ·rw [qzc, ← ha, List.drop_of_length_le (by omega)]; rfl
mutual
def qby : Ty → Bool
 | .mk c v l => qbf l && mayW c v l.length
def qbf : List Ty → Bool
 | [] => true
 | x :: r => qby x && qbf r
end
theorem qd3 (t : Ty) : qby t = (qbf t.args && mayY t) := by cases t; rw [qby]; rfl
theorem qgo {l : List Ty} {i : Nat} (h : i < l.length) : qbf (l.drop i) = (qby (l.getD i Y0) && qbf (l.drop (i + 1))) := by rw [qdl h, qbf]
theorem qn7 : ∀ t, qj Try.prog 114 [encY t] (.bool (qby t)) := by
 refine Ty.ind fun t ih => ?_
 refine qe c0cc (by simp) (by simp only [go_sem]) rfl fun hw => ?_
 have hk := qbp hw.1
 repeat' (first | refine vs_ ?_ | ((first | refine vr_ ?_ | (refine cs_ ?_ ?_ <;> intro hc) | refine cj_ ?_ | simp (disch := omega) only [encs_getN, qb]) <;> (try refine ev_ ?_)) | with_reducible exact ti_)
 refine qs (S := Nat) (fun i => i ≤ t.args.length ∧ qbf (t.args.drop i) = qbf t.args) (fun i => (⟨[(1, .ptr 0 0), (3, .int .i64 i)], []⟩, [.blk (yc t)])) (fun i => t.args.length - i) ?_ fun i hi => ?_
 ·refine qo 0 [0] ⟨Nat.zero_le _, rfl⟩ rfl (by simp) ?_ ?_ ?_ <;> (try refine ev_ ?_) <;> (try with_reducible exact ti_) <;> (try simp (disch := omega) only [qb, and_true, true_and])
 ·obtain ⟨hi, ha⟩ := hi
  rw [qd3]
  repeat' (first | refine vs_ ?_ | ((first | refine vr_ ?_ | fail) <;> (try simp (disch := first | omega | (simp only [List.length_set, List.length_append, List.length_cons, List.length_nil]; done) | (simp only [List.length_set, List.length_append, List.length_cons, List.length_nil]; omega)) only [qn, qb, go_sem, ↓reduceIte])) | ((first | (refine cs_ ?_ ?_ <;> intro hc) | refine cj_ ?_ | simp (disch := omega) only [encs_getN, qb] | refine qa (ih _ (qt (by omega))) fun _ => ?_ | refine qa (qoa _) fun _ => ?_ | refine qa (qs2 _) fun _ => ?_) <;> (try refine ev_ ?_)) | with_reducible exact ti_)
  ·have : qbf t.args = false := by rw [← ha, qgo (by omega), hc]; rfl
   rw [this]; rfl
  ·refine qo (i + 1) [0] ⟨⟨by omega, ?_⟩, by omega⟩ rfl (by simp) ?_ ?_ ?_ <;> (try refine ev_ ?_) <;> (try with_reducible exact ti_) <;> (try simp (disch := omega) only [qb, and_true, true_and])
   rw [← ha, qgo (i := i) (by omega), hc, Bool.true_and]
  all_goals
   have hs : qbf t.args = true := by rw [← ha, List.drop_of_length_le (by omega)]; rfl
   rw [hs, Bool.true_and, mayY, mayW]
   simp only [arrW, *, if_true, if_false, decide_true, decide_false, Bool.and_true, Bool.and_false, Bool.false_eq_true]
   try rfl
/-! Few -/
mutual
def cntY : Ty → Int → Int → Int
 | .mk _ _ l, k, d => if d < 1 then -1 else qda l (IntKind.i64.wrap (k - 1)) d
def qda : List Ty → Int → Int → Int
 | [], a, _ => a
 | x :: r, a, d => if 0 ≤ a then qda r (cntY x a (IntKind.i64.wrap (d - 1))) d else a
end
theorem qsr (t : Ty) (k d : Int) : cntY t k d = if d < 1 then -1 else qda t.args (IntKind.i64.wrap (k - 1)) d := by cases t; rw [cntY]; rfl
theorem qfm {a : Int} (h : a < 0) (l : List Ty) (d : Int) : qda l a d = a := by
 cases l with
 | nil => rw [qda]
 | cons x r => rw [qda, if_neg (by omega)]
theorem qbai : ∀ t k d, qj Try.prog 77 [encY t, .int .i64 k, .int .i64 d] (.int .i64 (cntY t k d)) := by
 refine Ty.ind fun t ih k d => ?_
 refine qe c0cd (by simp) (by simp only [go_sem]) rfl fun hw => ?_
 have hk := qbp hw.1
 rw [qsr]
 repeat' (first | refine vs_ ?_ | ((first | refine vr_ ?_ | (refine cs_ ?_ ?_ <;> intro hc) | refine cj_ ?_ | simp (disch := omega) only [encs_getN, qb]) <;> (try refine ev_ ?_)) | with_reducible exact ti_)
 ·rw [if_pos (by assumption)]
 rw [if_neg (by assumption)]
 refine qs (S := Nat × Int) (fun s => s.1 ≤ t.args.length ∧ qda (t.args.drop s.1) s.2 d = qda t.args (IntKind.i64.wrap (k - 1)) d) (fun s => (⟨[(1, .int .i64 s.2), (2, .int .i64 d), (3, .ptr 0 0), (7, .int .i64 s.1)], []⟩, [.blk (yc t)])) (fun s => t.args.length - s.1) ?_ fun s hs => ?_
 ·refine qo (0, IntKind.i64.wrap (k - 1)) [0] ⟨Nat.zero_le _, rfl⟩ rfl (by simp) ?_ ?_ ?_ <;> (try refine ev_ ?_) <;> (try with_reducible exact ti_) <;> (try simp (disch := omega) only [qb, and_true, true_and])
 ·obtain ⟨i, a⟩ := s
  obtain ⟨hi, ha⟩ := hs
  dsimp only at hi ha
  repeat' (first | refine vs_ ?_ | ((first | refine vr_ ?_ | fail) <;> (try simp (disch := first | omega | (simp only [List.length_set, List.length_append, List.length_cons, List.length_nil]; done) | (simp only [List.length_set, List.length_append, List.length_cons, List.length_nil]; omega)) only [qn, qb, go_sem, ↓reduceIte])) | ((first | (refine cs_ ?_ ?_ <;> intro hc) | refine cj_ ?_ | simp (disch := omega) only [encs_getN, qb] | refine qa (ih _ (qt (by omega)) _ _) fun _ => ?_) <;> (try refine ev_ ?_)) | with_reducible exact ti_)
  ·refine qo (i + 1, cntY (t.args.getD i Y0) a (IntKind.i64.wrap (d - 1))) [0] ⟨⟨by dsimp only; omega, ?_⟩, by dsimp only; omega⟩ rfl (by simp) ?_ ?_ ?_ <;> (try refine ev_ ?_) <;> (try with_reducible exact ti_) <;> (try simp (disch := omega) only [qb, and_true, true_and])
   rw [← ha, qdl (l := t.args) (i := i) (by omega), qda, if_pos (by assumption)]
  ·rw [← ha, qfm (by omega)]
  ·rw [← ha, List.drop_of_length_le (by omega)]; rfl
def qip (a : Int) : List Ty → Int
 | [] => a
 | x :: r => qip (cntY x a 300) r
def qeb (l : List Ty) : Bool := decide (0 ≤ qip 20000 l)
theorem qbe1 (l : List Ty) : qj Try.prog 31 [.sl 3 (qi l)] (.int .i64 (if qeb l = true then 1 else 0)) := by
 refine qe c0ce (by simp) (by simp only [go_sem]) rfl fun hw => ?_
 have hk : l.length ≤ maxLen := by have := hw.1.1; rwa [qbb] at this
 repeat' (first | refine vs_ ?_ | ((first | refine vr_ ?_ | (refine cs_ ?_ ?_ <;> intro hc) | refine cj_ ?_ | simp (disch := omega) only [encs_getN, qb]) <;> (try refine ev_ ?_)) | with_reducible exact ti_)
 refine qs (S := Nat × Int) (fun s => s.1 ≤ l.length ∧ qip s.2 (l.drop s.1) = qip 20000 l) (fun s => (⟨[(0, .sl 3 (qi l)), (3, .int .i64 s.2), (4, .int .i64 s.1)], []⟩, [])) (fun s => l.length - s.1) ?_ fun s hs => ?_
 ·refine qo (0, 20000) [] ⟨Nat.zero_le _, rfl⟩ rfl (by simp) ?_ ?_ ?_ <;> (try refine ev_ ?_) <;> (try with_reducible exact ti_) <;> (try simp (disch := omega) only [qb, and_true, true_and])
 ·obtain ⟨i, a⟩ := s
  obtain ⟨hi, ha⟩ := hs
  dsimp only at hi ha
  repeat' (first | refine vs_ ?_ | ((first | refine vr_ ?_ | fail) <;> (try simp (disch := first | omega | (simp only [List.length_set, List.length_append, List.length_cons, List.length_nil]; done) | (simp only [List.length_set, List.length_append, List.length_cons, List.length_nil]; omega)) only [qn, qb, go_sem, ↓reduceIte])) | ((first | (refine cs_ ?_ ?_ <;> intro hc) | refine cj_ ?_ | simp (disch := omega) only [encs_getN, qb] | refine qa (qbai _ _ _) fun _ => ?_) <;> (try refine ev_ ?_)) | with_reducible exact ti_)
  ·refine qo (i + 1, cntY (l.getD i Y0) a 300) [] ⟨⟨by dsimp only; omega, ?_⟩, by dsimp only; omega⟩ rfl (by simp) ?_ ?_ ?_ <;> (try refine ev_ ?_) <;> (try with_reducible exact ti_) <;> (try simp (disch := omega) only [qb, and_true, true_and])
   rw [← ha, qdl (l := l) (i := i) (by omega), qip]
  all_goals
   have hf : qip 20000 l = a := by rw [← ha, List.drop_of_length_le (by omega)]; rfl
   rw [qeb, hf]
  ·rw [if_neg (by simp; omega)]
  ·rw [if_pos (by simp; omega)]

/-! the laws of sizes -/
mutual
theorem qso : ∀ (t : Ty) (k d : Int), 0 ≤ k → k ≤ 20000 → d ≤ 300 → 0 ≤ cntY t k d → cntY t k d = k - szY t ∧ (dpY t : Int) ≤ d
 | .mk c v l, k, d, h0, h1, h2, h3 => by
   rw [cntY] at h3 ⊢
   by_cases hd : d < 1
   ·rw [if_pos hd] at h3; omega
   ·rw [if_neg hd] at h3 ⊢
    have hk : IntKind.i64.wrap (k - 1) = k - 1 := q6 (by omega) (by omega)
    rw [hk] at h3 ⊢
    have h4 : 0 ≤ k - 1 := by
     by_cases h : 0 ≤ k - 1
     ·exact h
     ·rw [qfm (by omega)] at h3; exact h3
    have := qo6 l (k - 1) d h4 (by omega) (by omega) h2 h3
    rw [szY, dpY]
    omega
theorem qo6 : ∀ (l : List Ty) (a d : Int), 0 ≤ a → a ≤ 20000 → 1 ≤ d → d ≤ 300 → 0 ≤ qda l a d → qda l a d = a - szYs l ∧ (dpYs l : Int) ≤ d - 1
 | [], a, d, h0, h1, h2, h3, h4 => by rw [qda, szYs, dpYs]; omega
 | x :: r, a, d, h0, h1, h2, h3, h4 => by
   rw [qda, if_pos h0] at h4 ⊢
   have hd : IntKind.i64.wrap (d - 1) = d - 1 := q6 (by omega) (by omega)
   rw [hd] at h4 ⊢
   have h5 : 0 ≤ cntY x a (d - 1) := by
    by_cases h : 0 ≤ cntY x a (d - 1)
    ·exact h
    ·rw [qfm (by omega)] at h4; exact absurd h4 h
   obtain ⟨h6, h7⟩ := qso x a (d - 1) h0 h1 (by omega) h5
   obtain ⟨h8, h9⟩ := qo6 r _ d h5 (by omega) h2 h3 h4
   rw [szYs, dpYs]
   omega
end
mutual
theorem qsq : ∀ (t : Ty) (k d : Int), 0 ≤ k → k ≤ 20000 → -1 ≤ cntY t k d
 | .mk c v l, k, d, h0, h1 => by
   rw [cntY]
   split
   ·omega
   ·rw [q6 (z := k - 1) (by omega) (by omega)]
    exact qte l (k - 1) d (by omega) (by omega)
theorem qte : ∀ (l : List Ty) (a d : Int), -1 ≤ a → a ≤ 20000 → -1 ≤ qda l a d
 | [], a, d, h0, _ => by rw [qda]; exact h0
 | x :: r, a, d, h0, h1 => by
   rw [qda]
   split
   ·rename_i h
    have h2 := qsq x a (IntKind.i64.wrap (d - 1)) h h1
    have h3 := q0l x a (IntKind.i64.wrap (d - 1)) h h1
    exact qte r _ d h2 (by omega)
   ·exact h0
theorem q0l : ∀ (t : Ty) (k d : Int), 0 ≤ k → k ≤ 20000 → cntY t k d ≤ k
 | .mk c v l, k, d, h0, h1 => by
   rw [cntY]
   split
   ·omega
   ·rw [q6 (z := k - 1) (by omega) (by omega)]
    have := qub l (k - 1) d (by omega) (by omega)
    omega
theorem qub : ∀ (l : List Ty) (a d : Int), -1 ≤ a → a ≤ 20000 → qda l a d ≤ a
 | [], a, d, h0, _ => by rw [qda]; exact Int.le_refl _
 | x :: r, a, d, h0, h1 => by
   rw [qda]
   split
   ·rename_i h
    have h2 := qsq x a (IntKind.i64.wrap (d - 1)) h h1
    have h3 := q0l x a (IntKind.i64.wrap (d - 1)) h h1
    have := qub r _ d h2 (by omega)
    omega
   ·exact Int.le_refl _
end
theorem qop : ∀ (l : List Ty) {a : Int}, a < 0 → -9223372036854775808 ≤ a - l.length → qip a l < 0
 | [], a, h, _ => h
 | x :: r, a, h, h2 => by
   rw [qip]
   have h3 : cntY x a 300 = IntKind.i64.wrap (a - 1) := by
    rw [qsr, if_neg (by omega)]
    have hk : IntKind.i64.wrap (a - 1) = a - 1 := q6 (by simp only [List.length_cons] at h2; omega) (by omega)
    rw [hk, qfm (by omega)]
   have hk : IntKind.i64.wrap (a - 1) = a - 1 := q6 (by simp only [List.length_cons] at h2; omega) (by omega)
   rw [h3, hk]
   exact qop r (by omega) (by simp only [List.length_cons] at h2; omega)
theorem qp2 : ∀ (l : List Ty) (a : Int), 0 ≤ a → a ≤ 20000 → l.length ≤ 9223372036854775807 → 0 ≤ qip a l → (szYs l : Int) ≤ a ∧ (dpYs l : Int) ≤ 300
 | [], a, h0, h1, _, h2 => by rw [szYs, dpYs]; omega
 | x :: r, a, h0, h1, hl, h2 => by
   rw [qip] at h2
   simp only [List.length_cons] at hl
   have h5 : 0 ≤ cntY x a 300 := by
    by_cases h : 0 ≤ cntY x a 300
    ·exact h
    ·have : -1 ≤ cntY x a 300 := qsq x a 300 h0 h1
     have := qop r (a := cntY x a 300) (by omega) (by omega)
     omega
   obtain ⟨h6, h7⟩ := qso x a 300 h0 h1 (by omega) h5
   obtain ⟨h8, h9⟩ := qp2 r _ h5 (by omega) (by omega) h2
   rw [szYs, dpYs]
   omega
theorem q1h {l : List Ty} (hl : l.length ≤ maxLen) (h : qeb l = true) : szYs l ≤ 20000 ∧ dpYs l ≤ 300 := by
 have := qp2 l 20000 (by omega) (by omega) (by unfold maxLen at hl; omega) (by simpa [qeb] using h)
 omega

mutual
theorem qfz : ∀ (t : Ty), szY t ≤ 1000000 → qgf t = szY t
 | .mk c v l, h => by
   rw [szY] at h
   rw [qgf, szY, qg8 l 1 (by omega) (by omega)]
   omega
theorem qg8 : ∀ (l : List Ty) (a : Int), 1 ≤ a → a + szYs l ≤ 1000001 → qdo a l = a + szYs l
 | [], a, _, _ => by rw [qdo, szYs]; omega
 | x :: r, a, h0, h => by
   rw [szYs] at h
   rw [qdo, qfz x (by omega), q6 (by omega) (by omega), qg8 r _ (by omega) (by omega), szYs]
   omega
end
mutual
theorem qle : ∀ (t : Ty), dpY t ≤ 1000000 → qkt t = dpY t
 | .mk c v l, h => by
   rw [dpY] at h
   rw [qkt, dpY, qja l 0 (by omega) (by omega), q6 (by omega) (by omega)]
   omega
theorem qja : ∀ (l : List Ty) (a : Int), dpYs l ≤ 1000000 → 0 ≤ a → qe7 a l = max a (dpYs l)
 | [], a, _, _ => by rw [qe7, dpYs]; omega
 | x :: r, a, h, h0 => by
   rw [dpYs] at h
   have h1 := qle x (by omega)
   rw [qe7, h1]
   have h2 : (if (dpY x : Int) > a then (dpY x : Int) else a) = max a (dpY x) := by split <;> omega
   rw [h2, qja r _ (by omega) (by omega), dpYs]
   omega
end
mutual
theorem qtn : ∀ (t : Ty) (n k : Int), 0 ≤ n → n + szY t ≤ 1000000 → qb9 qzy t n k = (n + szY t, true)
 | .mk c v l, n, k, h0, h => by
   rw [szY] at h
   rw [qb9, if_pos (show (qzy n (.mk c v l) k).2 = true from rfl)]
   have h1 : (qzy n (.mk c v l) k).1 = n + 1 := q6 (by omega) (by omega)
   rw [h1, qju l _ _ (by omega) (by omega), szY]
   congr 1; omega
theorem qju : ∀ (l : List Ty) (n k : Int), 0 ≤ n → n + szYs l ≤ 1000000 → qbk qzy l n k = (n + szYs l, true)
 | [], n, k, _, _ => by rw [qbk, szYs]; congr 1; omega
 | x :: r, n, k, h0, h => by
   rw [szYs] at h
   rw [qbk, qtn x n k h0 (by omega), if_pos rfl, qju r _ k (by omega) (by omega), szYs]
   congr 1; omega
end
mutual
theorem qt6 : ∀ (t : Ty) (n k : Int), 0 ≤ n → 1 ≤ k → k + dpY t ≤ 1000000 → qb9 qu1 t n k = (max n (k + dpY t - 1), true)
 | .mk c v l, n, k, h0, h1, h => by
   rw [dpY] at h
   rw [qb9, if_pos (show (qu1 n (.mk c v l) k).2 = true from rfl)]
   have h2 : (qu1 n (.mk c v l) k).1 = max n k := by simp only [qu1]; split <;> omega
   rw [h2, q6 (z := k + 1) (by omega) (by omega), qjq l _ _ (by omega) (by omega) (by omega), dpY]
   congr 1; split <;> omega
theorem qjq : ∀ (l : List Ty) (n k : Int), 0 ≤ n → 1 ≤ k → k + dpYs l ≤ 1000000 → qbk qu1 l n k = (if dpYs l = 0 then n else max n (k + dpYs l - 1), true)
 | [], n, k, _, _, _ => by rw [qbk, dpYs, if_pos rfl]
 | x :: r, n, k, h0, h1, h => by
   rw [dpYs] at h
   have hp := q33 x
   rw [qbk, qt6 x n k h0 h1 (by omega), if_pos rfl, qjq r _ k (by omega) h1 (by omega), dpYs]
   congr 1
   rw [if_neg (by omega : ¬ max (dpY x) (dpYs r) = 0)]
   split <;> omega
end
mutual
theorem qlb : ∀ (t : Ty) (n k : Int), 0 ≤ n → n + szY t ≤ 1000000 → 1 ≤ k → k + dpY t ≤ 1000000 →
 ((qb9 qea t n k).2 = true ↔ n + szY t ≤ 4096 ∧ k + dpY t - 1 ≤ 100 ∧ qby t = true) ∧ ((qb9 qea t n k).2 = true → (qb9 qea t n k).1 = n + szY t)
 | .mk c v l, n, k, h0, h1, h2, h3 => by
   rw [szY] at h1
   rw [dpY] at h3
   have e1 : IntKind.i64.wrap (n + 1) = n + 1 := q6 (by omega) (by omega)
   have e2 : IntKind.i64.wrap (k + 1) = k + 1 := q6 (by omega) (by omega)
   have e3 : (qea n (.mk c v l) k).1 = n + 1 := e1
   have e4 : (qea n (.mk c v l) k).2 = true ↔ n + 1 ≤ 4096 ∧ k ≤ 100 ∧ mayW c v l.length = true := by
    simp only [qea, e1, Bool.and_eq_true, decide_eq_true_eq]; rfl
   rw [qb9, szY, dpY, qby]
   by_cases hs : (qea n (.mk c v l) k).2 = true
   ·rw [if_pos hs, e3, e2]
    obtain ⟨q1, q2, q3⟩ := e4.1 hs
    obtain ⟨r1, r2⟩ := qi0 l (n + 1) (k + 1) (by omega) (by omega) (by omega) (by omega) (by omega) (by omega)
    refine ⟨?_, fun h => by rw [r2 h]; omega⟩
    rw [r1, q3, Bool.and_true]
    constructor
    ·rintro ⟨a1, a2, a3⟩; exact ⟨by omega, by omega, a3⟩
    ·rintro ⟨a1, a2, a3⟩; exact ⟨by omega, by omega, a3⟩
   ·rw [if_neg hs]
    refine ⟨⟨fun h => (by cases h), fun ⟨a1, a2, a3⟩ => absurd (e4.2 ⟨by omega, by omega, (by rw [Bool.and_eq_true] at a3; exact a3.2)⟩) hs⟩, fun h => by cases h⟩
theorem qi0 : ∀ (l : List Ty) (n k : Int), 0 ≤ n → n + szYs l ≤ 1000000 → 1 ≤ k → k + dpYs l ≤ 1000000 → n ≤ 4096 → k - 1 ≤ 100 →
 ((qbk qea l n k).2 = true ↔ n + szYs l ≤ 4096 ∧ k + dpYs l - 1 ≤ 100 ∧ qbf l = true) ∧ ((qbk qea l n k).2 = true → (qbk qea l n k).1 = n + szYs l)
 | [], n, k, h0, h1, h2, h3, h4, h5 => by
   rw [qbk, szYs, dpYs, qbf]
   exact ⟨⟨fun _ => ⟨by omega, by omega, rfl⟩, fun _ => rfl⟩, fun _ => by simp⟩
 | x :: r, n, k, h0, h1, h2, h3, h4, h5 => by
   rw [szYs] at h1
   rw [dpYs] at h3
   obtain ⟨q1, q2⟩ := qlb x n k h0 (by omega) h2 (by omega)
   rw [qbk, szYs, dpYs, qbf]
   by_cases hs : (qb9 qea x n k).2 = true
   ·rw [if_pos hs, q2 hs]
    obtain ⟨a1, a2, a3⟩ := q1.1 hs
    obtain ⟨r1, r2⟩ := qi0 r (n + szY x) k (by omega) (by omega) h2 (by omega) (by omega) h5
    refine ⟨?_, fun h => by rw [r2 h]; omega⟩
    rw [r1, a3, Bool.true_and]
    constructor
    ·rintro ⟨b1, b2, b3⟩; exact ⟨by omega, by omega, b3⟩
    ·rintro ⟨b1, b2, b3⟩; exact ⟨by omega, by omega, b3⟩
   ·rw [if_neg hs]
    refine ⟨⟨fun h => (by cases h), fun ⟨a1, a2, a3⟩ => absurd (q1.2 ⟨by omega, by omega, ?_⟩) hs⟩, fun h => by cases h⟩
    rw [Bool.and_eq_true] at a3
    exact a3.1
end
def qk (t : Ty) : Bool := decide (szY t ≤ 4096) && (decide (dpY t ≤ 100) && qby t)
theorem qui {t : Ty} (h1 : szY t ≤ 20000) (h2 : dpY t ≤ 300) : qu6 t = qk t := by
 have := (qlb t 0 1 (by omega) (by omega) (by omega) (by omega)).1
 rw [qu6, Bool.eq_iff_iff, this, qk, Bool.and_eq_true, Bool.and_eq_true, decide_eq_true_eq, decide_eq_true_eq]
 constructor
 ·rintro ⟨a1, a2, a3⟩; exact ⟨by omega, by omega, a3⟩
 ·rintro ⟨a1, a2, a3⟩; exact ⟨by omega, by omega, a3⟩
theorem qdb {t : Ty} (h1 : szY t ≤ 20000) (h2 : dpY t ≤ 300) : qj Try.prog 79 [encY t] (.bool (qk t)) := by
 refine qe c0cf (by simp) (by simp only [go_sem]) rfl fun hw => ?_
 have e1 := qjw t
 have e2 := qng t
 rw [qfz t (by omega)] at e1
 rw [qle t (by omega)] at e2
 repeat' (first | refine vs_ ?_ | ((first | refine vr_ ?_ | refine qa e1 fun _ => ?_ | refine qa e2 fun _ => ?_ | refine qa (qn7 t) fun _ => ?_ | (refine cs_ ?_ ?_ <;> intro hc) | refine cj_ ?_ | fail) <;> (try refine ev_ ?_)) | with_reducible exact ti_)
 all_goals
  rw [qk]
 ·rw [decide_eq_true (by omega), decide_eq_true (by omega)]; rfl
 ·rw [decide_eq_false (p := dpY t ≤ 100) (by omega), Bool.false_and, Bool.and_false]
 ·rw [decide_eq_false (p := szY t ≤ 4096) (by omega)]; rfl
theorem qcw {t : Ty} (h1 : szY t ≤ 20000) (h2 : dpY t ≤ 300) : qj Try.prog 48 [encY t] (.bool (qk t)) := by
 rw [← qui h1 h2]; exact qn0 t
set_option maxRecDepth 4000

theorem qxo {t a b : Ty} (h1 : t.con = arrW) (h2 : t.args = [a, b]) : txtY t = parW (decide (a.con = arrW)) (txtY a) ++ ([32, 45, 62, 32] ++ txtY b) := by
 cases t with
 | mk c v l =>
   have h1' : c = arrW := h1
   have h2' : l = [a, b] := h2
   subst h1' h2'
   rw [txtY, if_pos rfl]
theorem qx1 {t : Ty} (h1 : ¬ t.con = arrW) : txtY t = qf1 t ++ argY t.args := by
 cases t with
 | mk c v l =>
   have h1' : ¬ c = arrW := h1
   rcases l with _ | ⟨a, _ | ⟨b, _ | ⟨d, r⟩⟩⟩ <;> (simp only [txtY, if_neg h1']; rfl)
theorem qhd (l : List Ty) (i : Nat) (h : i < l.length) : argY (l.take (i + 1)) = argY (l.take i) ++ (32 :: parW (decide ((l.getD i Y0).args ≠ [])) (txtY (l.getD i Y0))) := by
 have h1 : l.take (i + 1) = l.take i ++ [l.getD i Y0] := by
  rw [List.take_add_one, List.getD_eq_getElem?_getD, List.getElem?_eq_getElem h]; rfl
 rw [h1]
 generalize l.take i = a
 generalize l.getD i Y0 = x
 induction a with
 | nil => simp [argY]
 | cons y a ih => simp only [List.cons_append, argY, ih, List.append_assoc]
theorem qfh (l : List Ty) (i : Nat) : (argY (l.take i)).length ≤ (argY l).length := by
 induction l generalizing i with
 | nil => simp
 | cons x r ih =>
   cases i with
   | zero => simp [argY]
   | succ i => rw [List.take_succ_cons, argY, argY, List.length_append, List.length_append]; have := ih i; omega
theorem qvk {t : Ty} (h : qby t = true) (h1 : t.con = arrW) : ∃ a b, t.args = [a, b] ∧ qby a = true ∧ qby b = true := by
 rw [qd3, Bool.and_eq_true] at h
 obtain ⟨h2, h3⟩ := h
 rw [mayY, mayW, h1, if_neg (by decide), if_pos rfl, Bool.and_eq_true, decide_eq_true_eq, decide_eq_true_eq] at h3
 have hl : t.args.length = 2 := by omega
 obtain ⟨a, b, hab⟩ : ∃ a b, t.args = [a, b] := by
  match hh : t.args, hl with
  | [a, b], _ => exact ⟨a, b, rfl⟩
 rw [hab] at h2
 simp only [qbf, Bool.and_eq_true] at h2
 exact ⟨a, b, hab, h2.1, h2.2.1⟩
theorem qr3 {t x : Ty} (h : qby t = true) (hx : x ∈ t.args) : qby x = true := by
 rw [qd3, Bool.and_eq_true] at h
 have h2 := h.1
 generalize t.args = l at hx h2
 induction l with
 | nil => cases hx
 | cons y r ih =>
   rw [qbf, Bool.and_eq_true] at h2
   rcases List.mem_cons.1 hx with rfl | hx
   ·exact h2.1
   ·exact ih hx h2.2
theorem qo8 (b : Bool) (s : List UInt8) : s.length ≤ (parW b s).length ∧ (parW b s).length ≤ s.length + 2 := by
 rw [parW]; split <;> simp <;> omega
def Big : Nat := 140737488355328
theorem qie {n : Nat} (h : n ≤ Big) : n ≤ maxLen := by unfold Big at h; unfold maxLen; omega

theorem qbhk {v : Int} (h : (Lit.int .i64 v).wf = true) (h0 : v < 0) : IntKind.i64.wrap (-1 - v) = -1 - v := by
 have := qid h
 exact q6 (by omega) (by omega)
end Go.Proofs.Ytfpobiheiloamaa
