/- Texts of this proof, joined. -/
import Derived.Test.YtfpobiheiloamaaHaq

/- terms: how great, how deep, whether a type is one; Few -/
set_option maxRecDepth 4000
namespace Go.Proofs.Ytfpobiheiloamaa
open Go Go.RowKit Go.V
set_option linter.unusedVariables false
set_option linter.unusedSimpArgs false

/-! the program's -/
abbrev numE (n : Int) : Ent := .blk [.int .i64 n]
def qd4 (n : Int) (t : Ty) (k : Int) : Int × Bool := (IntKind.i64.wrap (n + 1), decide (IntKind.i64.wrap (n + 1) ≤ 4096) && (decide (k ≤ 100) && mayY t))
theorem qbdm (n : Int) (t : Ty) (k : Int) : VM Try.prog 87 (numE n) (numE (qd4 n t k).1) [encY t, .int .i64 k, .ptr 0 0] (.bool (qd4 n t k).2) := by
 refine qfk (by kernel_rfl) fun hw => ?_
 have hk := qbq hw.1
 refine qk c0by 1 (by simp) (by simp) ?_
 repeat' (first | refine vs_ ?_ | ((first | refine vr_ ?_ | refine qa (qfp _) fun _ => ?_ | refine qa (qyz _ _ _) fun _ => ?_ | (refine cs_ ?_ ?_ <;> intro hc) | refine cj_ ?_ | simp (disch := omega) only [encs_getN, qb]) <;> (try refine ev_ ?_)) | with_reducible exact ti_)
 ·simp_all [qd4]
 ·exact ⟨rfl, by simp only [qd4, *, decide_true, decide_false, Bool.true_and, Bool.false_and]⟩
 ·exact ⟨rfl, by simp only [qd4, *, decide_true, decide_false, Bool.true_and, Bool.false_and]⟩
def qz5 (n : Int) (_ : Ty) (_ : Int) : Int × Bool := (IntKind.i64.wrap (n + 1), true)
def qr8 (n : Int) (_ : Ty) (k : Int) : Int × Bool := (if k > n then k else n, true)
theorem qwy {f : FuncId} {step : Int → Ty → Int → Int × Bool} (h : ∀ n t k, VM Try.prog f (numE n) (numE (step n t k).1) [encY t, .int .i64 k, .ptr 0 0] (.bool (step n t k).2)) (t : Ty) (n k : Int) :
 VM Try.prog 86 (numE n) (numE (qb7 step t n k).1) [encY t, .int .i64 k, .fn f [] [.ptr 0 0]] (.bool (qb7 step t n k).2) :=
 qqq (st := numE) (ok := fun _ _ => True) (fun _ => rfl) (fun _ _ _ _ _ => trivial) (fun _ _ _ => trivial) (fun n t k _ => h n t k) t n k trivial
def qrt (t : Ty) : Bool := (qb7 qd4 t 0 1).2
theorem qn0 (t : Ty) : qh Try.prog 48 [encY t] (.bool (qrt t)) := by
 refine qe c0bz (by simp) (by simp only [go_sem]) rfl fun hw => ?_
 repeat' (first | refine vs_ ?_ | ((first | refine vr_ ?_ | refine qbl 1 (qwy qbdm t 0 1) ?_ | (refine cs_ ?_ ?_ <;> intro hc) | refine cj_ ?_ | fail) <;> (try refine ev_ ?_)) | with_reducible exact ti_)
 rfl
/-! the references -/
mutual
def qgg : Ty → Int
 | .mk _ _ l => qdp 1 l
def qdp : Int → List Ty → Int
 | a, [] => a
 | a, x :: r => qdp (IntKind.i64.wrap (a + qgg x)) r
end
theorem qum (t : Ty) : qgg t = qdp 1 t.args := by cases t; rw [qgg]; rfl
theorem qi3 : ∀ t, qh Try.prog 112 [encY t] (.int .i64 (qgg t)) := by
 refine Ty.ind fun t ih => ?_
 refine qe c0ca (by simp) (by simp only [go_sem]) rfl fun hw => ?_
 have hk := qbq hw.1
 repeat' (first | refine vs_ ?_ | ((first | refine vr_ ?_ | (refine cs_ ?_ ?_ <;> intro hc) | refine cj_ ?_ | simp (disch := omega) only [encs_getN, qb]) <;> (try refine ev_ ?_)) | with_reducible exact ti_)
 refine qs (S := Nat × Int) (fun s => s.1 ≤ t.args.length ∧ qdp s.2 (t.args.drop s.1) = qgg t) (fun s => (⟨[(1, .ptr 0 0), (3, .int .i64 s.2), (4, .int .i64 s.1)], []⟩, [.blk (yc t)])) (fun s => t.args.length - s.1) ?_ fun s hs => ?_
 ·refine qo (0, 1) [0] ⟨Nat.zero_le _, (qum t).symm⟩ rfl (by simp) ?_ ?_ ?_ <;> (try refine ev_ ?_) <;> (try with_reducible exact ti_) <;> (try simp (disch := omega) only [qb, and_true, true_and])
 ·obtain ⟨i, a⟩ := s
  obtain ⟨hi, ha⟩ := hs
  dsimp only at hi ha
  repeat' (first | refine vs_ ?_ | ((first | refine vr_ ?_ | fail) <;> (try simp (disch := first | omega | (simp only [List.length_set, List.length_append, List.length_cons, List.length_nil]; done) | (simp only [List.length_set, List.length_append, List.length_cons, List.length_nil]; omega)) only [qn, qb, go_sem, ↓reduceIte])) | ((first | (refine cs_ ?_ ?_ <;> intro hc) | refine cj_ ?_ | simp (disch := omega) only [encs_getN, qb] | refine qa (ih _ (qt (by omega))) fun _ => ?_) <;> (try refine ev_ ?_)) | with_reducible exact ti_)
  ·refine qo (i + 1, IntKind.i64.wrap (a + qgg (t.args.getD i Y0))) [0] ⟨⟨by dsimp only; omega, ?_⟩, by dsimp only; omega⟩ rfl (by simp) ?_ ?_ ?_ <;> (try refine ev_ ?_) <;> (try with_reducible exact ti_) <;> (try simp (disch := omega) only [qb, and_true, true_and])
   rw [← ha, qdm (l := t.args) (i := i) (by omega), qdp]
  ·rw [← ha, List.drop_of_length_le (by omega)]; rfl
mutual
def qj4 : Ty → Int
 | .mk _ _ l => IntKind.i64.wrap (qe0 0 l + 1)
def qe0 : Int → List Ty → Int
 | a, [] => a
 | a, x :: r => qe0 (if qj4 x > a then qj4 x else a) r
end
theorem qz4 (t : Ty) : qj4 t = IntKind.i64.wrap (qe0 0 t.args + 1) := by cases t; rw [qj4]; rfl
theorem qm3 : ∀ t, qh Try.prog 113 [encY t] (.int .i64 (qj4 t)) := by
 refine Ty.ind fun t ih => ?_
 refine qe c0cb (by simp) (by simp only [go_sem]) rfl fun hw => ?_
 have hk := qbq hw.1
 repeat' (first | refine vs_ ?_ | ((first | refine vr_ ?_ | (refine cs_ ?_ ?_ <;> intro hc) | refine cj_ ?_ | simp (disch := omega) only [encs_getN, qb]) <;> (try refine ev_ ?_)) | with_reducible exact ti_)
 refine qs (S := Nat × Int) (fun s => s.1 ≤ t.args.length ∧ qe0 s.2 (t.args.drop s.1) = qe0 0 t.args) (fun s => (⟨[(1, .ptr 0 0), (3, .int .i64 s.2), (4, .int .i64 s.1)], []⟩, [.blk (yc t)])) (fun s => t.args.length - s.1) ?_ fun s hs => ?_
 ·refine qo (0, 0) [0] ⟨Nat.zero_le _, rfl⟩ rfl (by simp) ?_ ?_ ?_ <;> (try refine ev_ ?_) <;> (try with_reducible exact ti_) <;> (try simp (disch := omega) only [qb, and_true, true_and])
 ·obtain ⟨i, a⟩ := s
  obtain ⟨hi, ha⟩ := hs
  dsimp only at hi ha
  repeat' (first | refine vs_ ?_ | ((first | refine vr_ ?_ | fail) <;> (try simp (disch := first | omega | (simp only [List.length_set, List.length_append, List.length_cons, List.length_nil]; done) | (simp only [List.length_set, List.length_append, List.length_cons, List.length_nil]; omega)) only [qn, qb, go_sem, ↓reduceIte])) | ((first | (refine cs_ ?_ ?_ <;> intro hc) | refine cj_ ?_ | simp (disch := omega) only [encs_getN, qb] | refine qa (ih _ (qt (by omega))) fun _ => ?_) <;> (try refine ev_ ?_)) | with_reducible exact ti_)
  ·refine qo (i + 1, if qj4 (t.args.getD i Y0) > a then qj4 (t.args.getD i Y0) else a) [0] ⟨⟨by dsimp only; omega, ?_⟩, by dsimp only; omega⟩ rfl (by simp) ?_ ?_ ?_ <;> (try refine ev_ ?_) <;> (try with_reducible exact ti_) <;> (try simp (disch := omega) only [qb, and_true, true_and])
   rw [← ha, qdm (l := t.args) (i := i) (by omega), qe0]
  ·rw [qz4, ← ha, List.drop_of_length_le (by omega)]; rfl
mutual
def qbx : Ty → Bool
 | .mk c v l => qbf l && mayW c v l.length
def qbf : List Ty → Bool
 | [] => true
 | x :: r => qbx x && qbf r
end
theorem qea (t : Ty) : qbx t = (qbf t.args && mayY t) := by cases t; rw [qbx]; rfl
theorem qgf {l : List Ty} {i : Nat} (h : i < l.length) : qbf (l.drop i) = (qbx (l.getD i Y0) && qbf (l.drop (i + 1))) := by rw [qdm h, qbf]
theorem qm1 : ∀ t, qh Try.prog 114 [encY t] (.bool (qbx t)) := by
 refine Ty.ind fun t ih => ?_
 refine qe c0cc (by simp) (by simp only [go_sem]) rfl fun hw => ?_
 have hk := qbq hw.1
 repeat' (first | refine vs_ ?_ | ((first | refine vr_ ?_ | (refine cs_ ?_ ?_ <;> intro hc) | refine cj_ ?_ | simp (disch := omega) only [encs_getN, qb]) <;> (try refine ev_ ?_)) | with_reducible exact ti_)
 refine qs (S := Nat) (fun i => i ≤ t.args.length ∧ qbf (t.args.drop i) = qbf t.args) (fun i => (⟨[(1, .ptr 0 0), (3, .int .i64 i)], []⟩, [.blk (yc t)])) (fun i => t.args.length - i) ?_ fun i hi => ?_
 ·refine qo 0 [0] ⟨Nat.zero_le _, rfl⟩ rfl (by simp) ?_ ?_ ?_ <;> (try refine ev_ ?_) <;> (try with_reducible exact ti_) <;> (try simp (disch := omega) only [qb, and_true, true_and])
 ·obtain ⟨hi, ha⟩ := hi
  rw [qea]
  repeat' (first | refine vs_ ?_ | ((first | refine vr_ ?_ | fail) <;> (try simp (disch := first | omega | (simp only [List.length_set, List.length_append, List.length_cons, List.length_nil]; done) | (simp only [List.length_set, List.length_append, List.length_cons, List.length_nil]; omega)) only [qn, qb, go_sem, ↓reduceIte])) | ((first | (refine cs_ ?_ ?_ <;> intro hc) | refine cj_ ?_ | simp (disch := omega) only [encs_getN, qb] | refine qa (ih _ (qt (by omega))) fun _ => ?_ | refine qa (qnz _) fun _ => ?_ | refine qa (qua _) fun _ => ?_) <;> (try refine ev_ ?_)) | with_reducible exact ti_)
  ·have : qbf t.args = false := by rw [← ha, qgf (by omega), hc]; rfl
   rw [this]; rfl
  ·refine qo (i + 1) [0] ⟨⟨by omega, ?_⟩, by omega⟩ rfl (by simp) ?_ ?_ ?_ <;> (try refine ev_ ?_) <;> (try with_reducible exact ti_) <;> (try simp (disch := omega) only [qb, and_true, true_and])
   rw [← ha, qgf (i := i) (by omega), hc, Bool.true_and]
  all_goals
   have hs : qbf t.args = true := by rw [← ha, List.drop_of_length_le (by omega)]; rfl
   rw [hs, Bool.true_and, mayY, mayW]
   simp only [arrW, *, if_true, if_false, decide_true, decide_false, Bool.and_true, Bool.and_false, Bool.false_eq_true]
   try rfl
/-! Few -/
mutual
def cntY : Ty → Int → Int → Int
 | .mk _ _ l, k, d => if d < 1 then -1 else qde l (IntKind.i64.wrap (k - 1)) d
def qde : List Ty → Int → Int → Int
 | [], a, _ => a
 | x :: r, a, d => if 0 ≤ a then qde r (cntY x a (IntKind.i64.wrap (d - 1))) d else a
end
theorem qsu (t : Ty) (k d : Int) : cntY t k d = if d < 1 then -1 else qde t.args (IntKind.i64.wrap (k - 1)) d := by cases t; rw [cntY]; rfl
theorem qe4 {a : Int} (h : a < 0) (l : List Ty) (d : Int) : qde l a d = a := by
 cases l with
 | nil => rw [qde]
 | cons x r => rw [qde, if_neg (by omega)]
theorem q8x : ∀ t k d, qh Try.prog 77 [encY t, .int .i64 k, .int .i64 d] (.int .i64 (cntY t k d)) := by
 refine Ty.ind fun t ih k d => ?_
 refine qe c0cd (by simp) (by simp only [go_sem]) rfl fun hw => ?_
 have hk := qbq hw.1
 rw [qsu]
 repeat' (first | refine vs_ ?_ | ((first | refine vr_ ?_ | (refine cs_ ?_ ?_ <;> intro hc) | refine cj_ ?_ | simp (disch := omega) only [encs_getN, qb]) <;> (try refine ev_ ?_)) | with_reducible exact ti_)
 ·rw [if_pos (by assumption)]
 rw [if_neg (by assumption)]
 refine qs (S := Nat × Int) (fun s => s.1 ≤ t.args.length ∧ qde (t.args.drop s.1) s.2 d = qde t.args (IntKind.i64.wrap (k - 1)) d) (fun s => (⟨[(1, .int .i64 s.2), (2, .int .i64 d), (3, .ptr 0 0), (7, .int .i64 s.1)], []⟩, [.blk (yc t)])) (fun s => t.args.length - s.1) ?_ fun s hs => ?_
 ·refine qo (0, IntKind.i64.wrap (k - 1)) [0] ⟨Nat.zero_le _, rfl⟩ rfl (by simp) ?_ ?_ ?_ <;> (try refine ev_ ?_) <;> (try with_reducible exact ti_) <;> (try simp (disch := omega) only [qb, and_true, true_and])
 ·obtain ⟨i, a⟩ := s
  obtain ⟨hi, ha⟩ := hs
  dsimp only at hi ha
  repeat' (first | refine vs_ ?_ | ((first | refine vr_ ?_ | fail) <;> (try simp (disch := first | omega | (simp only [List.length_set, List.length_append, List.length_cons, List.length_nil]; done) | (simp only [List.length_set, List.length_append, List.length_cons, List.length_nil]; omega)) only [qn, qb, go_sem, ↓reduceIte])) | ((first | (refine cs_ ?_ ?_ <;> intro hc) | refine cj_ ?_ | simp (disch := omega) only [encs_getN, qb] | refine qa (ih _ (qt (by omega)) _ _) fun _ => ?_) <;> (try refine ev_ ?_)) | with_reducible exact ti_)
  ·refine qo (i + 1, cntY (t.args.getD i Y0) a (IntKind.i64.wrap (d - 1))) [0] ⟨⟨by dsimp only; omega, ?_⟩, by dsimp only; omega⟩ rfl (by simp) ?_ ?_ ?_ <;> (try refine ev_ ?_) <;> (try with_reducible exact ti_) <;> (try simp (disch := omega) only [qb, and_true, true_and])
   rw [← ha, qdm (l := t.args) (i := i) (by omega), qde, if_pos (by assumption)]
  ·rw [← ha, qe4 (by omega)]
  ·rw [← ha, List.drop_of_length_le (by omega)]; rfl
def qip (a : Int) : List Ty → Int
 | [] => a
 | x :: r => qip (cntY x a 300) r
def qef (l : List Ty) : Bool := decide (0 ≤ qip 20000 l)
theorem qbf0 (l : List Ty) : qh Try.prog 31 [.sl 3 (ql l)] (.int .i64 (if qef l = true then 1 else 0)) := by
 refine qe c0ce (by simp) (by simp only [go_sem]) rfl fun hw => ?_
 have hk : l.length ≤ maxLen := by have := hw.1.1; rwa [qbg] at this
 repeat' (first | refine vs_ ?_ | ((first | refine vr_ ?_ | (refine cs_ ?_ ?_ <;> intro hc) | refine cj_ ?_ | simp (disch := omega) only [encs_getN, qb]) <;> (try refine ev_ ?_)) | with_reducible exact ti_)
 refine qs (S := Nat × Int) (fun s => s.1 ≤ l.length ∧ qip s.2 (l.drop s.1) = qip 20000 l) (fun s => (⟨[(0, .sl 3 (ql l)), (3, .int .i64 s.2), (4, .int .i64 s.1)], []⟩, [])) (fun s => l.length - s.1) ?_ fun s hs => ?_
 ·refine qo (0, 20000) [] ⟨Nat.zero_le _, rfl⟩ rfl (by simp) ?_ ?_ ?_ <;> (try refine ev_ ?_) <;> (try with_reducible exact ti_) <;> (try simp (disch := omega) only [qb, and_true, true_and])
 ·obtain ⟨i, a⟩ := s
  obtain ⟨hi, ha⟩ := hs
  dsimp only at hi ha
  repeat' (first | refine vs_ ?_ | ((first | refine vr_ ?_ | fail) <;> (try simp (disch := first | omega | (simp only [List.length_set, List.length_append, List.length_cons, List.length_nil]; done) | (simp only [List.length_set, List.length_append, List.length_cons, List.length_nil]; omega)) only [qn, qb, go_sem, ↓reduceIte])) | ((first | (refine cs_ ?_ ?_ <;> intro hc) | refine cj_ ?_ | simp (disch := omega) only [encs_getN, qb] | refine qa (q8x _ _ _) fun _ => ?_) <;> (try refine ev_ ?_)) | with_reducible exact ti_)
  ·refine qo (i + 1, cntY (l.getD i Y0) a 300) [] ⟨⟨by dsimp only; omega, ?_⟩, by dsimp only; omega⟩ rfl (by simp) ?_ ?_ ?_ <;> (try refine ev_ ?_) <;> (try with_reducible exact ti_) <;> (try simp (disch := omega) only [qb, and_true, true_and])
   rw [← ha, qdm (l := l) (i := i) (by omega), qip]
  all_goals
   have hf : qip 20000 l = a := by rw [← ha, List.drop_of_length_le (by omega)]; rfl
   rw [qef, hf]
  ·rw [if_neg (by simp; omega)]
  ·rw [if_pos (by simp; omega)]

/-! the laws of sizes -/
mutual
theorem qvm : ∀ (t : Ty) (k d : Int), 0 ≤ k → k ≤ 20000 → d ≤ 300 → 0 ≤ cntY t k d → cntY t k d = k - szY t ∧ (dpY t : Int) ≤ d
 | .mk c v l, k, d, h0, h1, h2, h3 => by
   rw [cntY] at h3 ⊢
   by_cases hd : d < 1
   ·rw [if_pos hd] at h3; omega
   ·rw [if_neg hd] at h3 ⊢
    have hk : IntKind.i64.wrap (k - 1) = k - 1 := q6 (by omega) (by omega)
    rw [hk] at h3 ⊢
    have h4 : 0 ≤ k - 1 := by
     by_cases h : 0 ≤ k - 1
     ·exact h
     ·rw [qe4 (by omega)] at h3; exact h3
    have := qpl l (k - 1) d h4 (by omega) (by omega) h2 h3
    rw [szY, dpY]
    omega
theorem qpl : ∀ (l : List Ty) (a d : Int), 0 ≤ a → a ≤ 20000 → 1 ≤ d → d ≤ 300 → 0 ≤ qde l a d → qde l a d = a - szYs l ∧ (dpYs l : Int) ≤ d - 1
 | [], a, d, h0, h1, h2, h3, h4 => by rw [qde, szYs, dpYs]; omega
 | x :: r, a, d, h0, h1, h2, h3, h4 => by
   rw [qde, if_pos h0] at h4 ⊢
   have hd : IntKind.i64.wrap (d - 1) = d - 1 := q6 (by omega) (by omega)
   rw [hd] at h4 ⊢
   have h5 : 0 ≤ cntY x a (d - 1) := by
    by_cases h : 0 ≤ cntY x a (d - 1)
    ·exact h
    ·rw [qe4 (by omega)] at h4; exact absurd h4 h
   obtain ⟨h6, h7⟩ := qvm x a (d - 1) h0 h1 (by omega) h5
   obtain ⟨h8, h9⟩ := qpl r _ d h5 (by omega) h2 h3 h4
   rw [szYs, dpYs]
   omega
end
mutual
theorem qsv : ∀ (t : Ty) (k d : Int), 0 ≤ k → k ≤ 20000 → -1 ≤ cntY t k d
 | .mk c v l, k, d, h0, h1 => by
   rw [cntY]
   split
   ·omega
   ·rw [q6 (z := k - 1) (by omega) (by omega)]
    exact qt0 l (k - 1) d (by omega) (by omega)
theorem qt0 : ∀ (l : List Ty) (a d : Int), -1 ≤ a → a ≤ 20000 → -1 ≤ qde l a d
 | [], a, d, h0, _ => by rw [qde]; exact h0
 | x :: r, a, d, h0, h1 => by
   rw [qde]
   split
   ·rename_i h
    have h2 := qsv x a (IntKind.i64.wrap (d - 1)) h h1
    have h3 := q0m x a (IntKind.i64.wrap (d - 1)) h h1
    exact qt0 r _ d h2 (by omega)
   ·exact h0
theorem q0m : ∀ (t : Ty) (k d : Int), 0 ≤ k → k ≤ 20000 → cntY t k d ≤ k
 | .mk c v l, k, d, h0, h1 => by
   rw [cntY]
   split
   ·omega
   ·rw [q6 (z := k - 1) (by omega) (by omega)]
    have := qt2 l (k - 1) d (by omega) (by omega)
    omega
theorem qt2 : ∀ (l : List Ty) (a d : Int), -1 ≤ a → a ≤ 20000 → qde l a d ≤ a
 | [], a, d, h0, _ => by rw [qde]; exact Int.le_refl _
 | x :: r, a, d, h0, h1 => by
   rw [qde]
   split
   ·rename_i h
    have h2 := qsv x a (IntKind.i64.wrap (d - 1)) h h1
    have h3 := q0m x a (IntKind.i64.wrap (d - 1)) h h1
    have := qt2 r _ d h2 (by omega)
    omega
   ·exact Int.le_refl _
end
theorem qpk : ∀ (l : List Ty) {a : Int}, a < 0 → -9223372036854775808 ≤ a - l.length → qip a l < 0
 | [], a, h, _ => h
 | x :: r, a, h, h2 => by
   rw [qip]
   have h3 : cntY x a 300 = IntKind.i64.wrap (a - 1) := by
    rw [qsu, if_neg (by omega)]
    have hk : IntKind.i64.wrap (a - 1) = a - 1 := q6 (by simp only [List.length_cons] at h2; omega) (by omega)
    rw [hk, qe4 (by omega)]
   have hk : IntKind.i64.wrap (a - 1) = a - 1 := q6 (by simp only [List.length_cons] at h2; omega) (by omega)
   rw [h3, hk]
   exact qpk r (by omega) (by simp only [List.length_cons] at h2; omega)
theorem qpz : ∀ (l : List Ty) (a : Int), 0 ≤ a → a ≤ 20000 → l.length ≤ 9223372036854775807 → 0 ≤ qip a l → (szYs l : Int) ≤ a ∧ (dpYs l : Int) ≤ 300
 | [], a, h0, h1, _, h2 => by rw [szYs, dpYs]; omega
 | x :: r, a, h0, h1, hl, h2 => by
   rw [qip] at h2
   simp only [List.length_cons] at hl
   have h5 : 0 ≤ cntY x a 300 := by
    by_cases h : 0 ≤ cntY x a 300
    ·exact h
    ·have : -1 ≤ cntY x a 300 := qsv x a 300 h0 h1
     have := qpk r (a := cntY x a 300) (by omega) (by omega)
     omega
   obtain ⟨h6, h7⟩ := qvm x a 300 h0 h1 (by omega) h5
   obtain ⟨h8, h9⟩ := qpz r _ h5 (by omega) (by omega) h2
   rw [szYs, dpYs]
   omega
theorem qban {l : List Ty} (hl : l.length ≤ maxLen) (h : qef l = true) : szYs l ≤ 20000 ∧ dpYs l ≤ 300 := by
 have := qpz l 20000 (by omega) (by omega) (by unfold maxLen at hl; omega) (by simpa [qef] using h)
 omega

mutual
theorem qf4 : ∀ (t : Ty), szY t ≤ 1000000 → qgg t = szY t
 | .mk c v l, h => by
   rw [szY] at h
   rw [qgg, szY, qii l 1 (by omega) (by omega)]
   omega
theorem qii : ∀ (l : List Ty) (a : Int), 1 ≤ a → a + szYs l ≤ 1000001 → qdp a l = a + szYs l
 | [], a, _, _ => by rw [qdp, szYs]; omega
 | x :: r, a, h0, h => by
   rw [szYs] at h
   rw [qdp, qf4 x (by omega), q6 (by omega) (by omega), qii r _ (by omega) (by omega), szYs]
   omega
end
mutual
theorem qlm : ∀ (t : Ty), dpY t ≤ 1000000 → qj4 t = dpY t
 | .mk c v l, h => by
   rw [dpY] at h
   rw [qj4, dpY, qjq l 0 (by omega) (by omega), q6 (by omega) (by omega)]
   omega
theorem qjq : ∀ (l : List Ty) (a : Int), dpYs l ≤ 1000000 → 0 ≤ a → qe0 a l = max a (dpYs l)
 | [], a, _, _ => by rw [qe0, dpYs]; omega
 | x :: r, a, h, h0 => by
   rw [dpYs] at h
   have h1 := qlm x (by omega)
   rw [qe0, h1]
   have h2 : (if (dpY x : Int) > a then (dpY x : Int) else a) = max a (dpY x) := by split <;> omega
   rw [h2, qjq r _ (by omega) (by omega), dpYs]
   omega
end
mutual
theorem qsg : ∀ (t : Ty) (n k : Int), 0 ≤ n → n + szY t ≤ 1000000 → qb7 qz5 t n k = (n + szY t, true)
 | .mk c v l, n, k, h0, h => by
   rw [szY] at h
   rw [qb7, if_pos (show (qz5 n (.mk c v l) k).2 = true from rfl)]
   have h1 : (qz5 n (.mk c v l) k).1 = n + 1 := q6 (by omega) (by omega)
   rw [h1, qjx l _ _ (by omega) (by omega), szY]
   congr 1; omega
theorem qjx : ∀ (l : List Ty) (n k : Int), 0 ≤ n → n + szYs l ≤ 1000000 → qbk qz5 l n k = (n + szYs l, true)
 | [], n, k, _, _ => by rw [qbk, szYs]; congr 1; omega
 | x :: r, n, k, h0, h => by
   rw [szYs] at h
   rw [qbk, qsg x n k h0 (by omega), if_pos rfl, qjx r _ k (by omega) (by omega), szYs]
   congr 1; omega
end
mutual
theorem qtu : ∀ (t : Ty) (n k : Int), 0 ≤ n → 1 ≤ k → k + dpY t ≤ 1000000 → qb7 qr8 t n k = (max n (k + dpY t - 1), true)
 | .mk c v l, n, k, h0, h1, h => by
   rw [dpY] at h
   rw [qb7, if_pos (show (qr8 n (.mk c v l) k).2 = true from rfl)]
   have h2 : (qr8 n (.mk c v l) k).1 = max n k := by simp only [qr8]; split <;> omega
   rw [h2, q6 (z := k + 1) (by omega) (by omega), qjm l _ _ (by omega) (by omega) (by omega), dpY]
   congr 1; split <;> omega
theorem qjm : ∀ (l : List Ty) (n k : Int), 0 ≤ n → 1 ≤ k → k + dpYs l ≤ 1000000 → qbk qr8 l n k = (if dpYs l = 0 then n else max n (k + dpYs l - 1), true)
 | [], n, k, _, _, _ => by rw [qbk, dpYs, if_pos rfl]
 | x :: r, n, k, h0, h1, h => by
   rw [dpYs] at h
   have hp := qbct x
   rw [qbk, qtu x n k h0 h1 (by omega), if_pos rfl, qjm r _ k (by omega) h1 (by omega), dpYs]
   congr 1
   rw [if_neg (by omega : ¬ max (dpY x) (dpYs r) = 0)]
   split <;> omega
end
mutual
theorem qmu : ∀ (t : Ty) (n k : Int), 0 ≤ n → n + szY t ≤ 1000000 → 1 ≤ k → k + dpY t ≤ 1000000 →
 ((qb7 qd4 t n k).2 = true ↔ n + szY t ≤ 4096 ∧ k + dpY t - 1 ≤ 100 ∧ qbx t = true) ∧ ((qb7 qd4 t n k).2 = true → (qb7 qd4 t n k).1 = n + szY t)
 | .mk c v l, n, k, h0, h1, h2, h3 => by
   rw [szY] at h1
   rw [dpY] at h3
   have e1 : IntKind.i64.wrap (n + 1) = n + 1 := q6 (by omega) (by omega)
   have e2 : IntKind.i64.wrap (k + 1) = k + 1 := q6 (by omega) (by omega)
   have e3 : (qd4 n (.mk c v l) k).1 = n + 1 := e1
   have e4 : (qd4 n (.mk c v l) k).2 = true ↔ n + 1 ≤ 4096 ∧ k ≤ 100 ∧ mayW c v l.length = true := by
    simp only [qd4, e1, Bool.and_eq_true, decide_eq_true_eq]; rfl
   rw [qb7, szY, dpY, qbx]
   by_cases hs : (qd4 n (.mk c v l) k).2 = true
   ·rw [if_pos hs, e3, e2]
    obtain ⟨q1, q2, q3⟩ := e4.1 hs
    obtain ⟨r1, r2⟩ := qjo l (n + 1) (k + 1) (by omega) (by omega) (by omega) (by omega) (by omega) (by omega)
    refine ⟨?_, fun h => by rw [r2 h]; omega⟩
    rw [r1, q3, Bool.and_true]
    constructor
    ·rintro ⟨a1, a2, a3⟩; exact ⟨by omega, by omega, a3⟩
    ·rintro ⟨a1, a2, a3⟩; exact ⟨by omega, by omega, a3⟩
   ·rw [if_neg hs]
    refine ⟨⟨fun h => (by cases h), fun ⟨a1, a2, a3⟩ => absurd (e4.2 ⟨by omega, by omega, (by rw [Bool.and_eq_true] at a3; exact a3.2)⟩) hs⟩, fun h => by cases h⟩
theorem qjo : ∀ (l : List Ty) (n k : Int), 0 ≤ n → n + szYs l ≤ 1000000 → 1 ≤ k → k + dpYs l ≤ 1000000 → n ≤ 4096 → k - 1 ≤ 100 →
 ((qbk qd4 l n k).2 = true ↔ n + szYs l ≤ 4096 ∧ k + dpYs l - 1 ≤ 100 ∧ qbf l = true) ∧ ((qbk qd4 l n k).2 = true → (qbk qd4 l n k).1 = n + szYs l)
 | [], n, k, h0, h1, h2, h3, h4, h5 => by
   rw [qbk, szYs, dpYs, qbf]
   exact ⟨⟨fun _ => ⟨by omega, by omega, rfl⟩, fun _ => rfl⟩, fun _ => by simp⟩
 | x :: r, n, k, h0, h1, h2, h3, h4, h5 => by
   rw [szYs] at h1
   rw [dpYs] at h3
   obtain ⟨q1, q2⟩ := qmu x n k h0 (by omega) h2 (by omega)
   rw [qbk, szYs, dpYs, qbf]
   by_cases hs : (qb7 qd4 x n k).2 = true
   ·rw [if_pos hs, q2 hs]
    obtain ⟨a1, a2, a3⟩ := q1.1 hs
    obtain ⟨r1, r2⟩ := qjo r (n + szY x) k (by omega) (by omega) h2 (by omega) (by omega) h5
    refine ⟨?_, fun h => by rw [r2 h]; omega⟩
    rw [r1, a3, Bool.true_and]
    constructor
    ·rintro ⟨b1, b2, b3⟩; exact ⟨by omega, by omega, b3⟩
    ·rintro ⟨b1, b2, b3⟩; exact ⟨by omega, by omega, b3⟩
   ·rw [if_neg hs]
    refine ⟨⟨fun h => (by cases h), fun ⟨a1, a2, a3⟩ => absurd (q1.2 ⟨by omega, by omega, ?_⟩) hs⟩, fun h => by cases h⟩
    rw [Bool.and_eq_true] at a3
    exact a3.1
end
def qj (t : Ty) : Bool := decide (szY t ≤ 4096) && (decide (dpY t ≤ 100) && qbx t)
theorem que {t : Ty} (h1 : szY t ≤ 20000) (h2 : dpY t ≤ 300) : qrt t = qj t := by
 have := (qmu t 0 1 (by omega) (by omega) (by omega) (by omega)).1
 rw [qrt, Bool.eq_iff_iff, this, qj, Bool.and_eq_true, Bool.and_eq_true, decide_eq_true_eq, decide_eq_true_eq]
 constructor
 ·rintro ⟨a1, a2, a3⟩; exact ⟨by omega, by omega, a3⟩
 ·rintro ⟨a1, a2, a3⟩; exact ⟨by omega, by omega, a3⟩
theorem qda {t : Ty} (h1 : szY t ≤ 20000) (h2 : dpY t ≤ 300) : qh Try.prog 79 [encY t] (.bool (qj t)) := by
 refine qe c0cf (by simp) (by simp only [go_sem]) rfl fun hw => ?_
 have e1 := qi3 t
 have e2 := qm3 t
 rw [qf4 t (by omega)] at e1
 rw [qlm t (by omega)] at e2
 repeat' (first | refine vs_ ?_ | ((first | refine vr_ ?_ | refine qa e1 fun _ => ?_ | refine qa e2 fun _ => ?_ | refine qa (qm1 t) fun _ => ?_ | (refine cs_ ?_ ?_ <;> intro hc) | refine cj_ ?_ | fail) <;> (try refine ev_ ?_)) | with_reducible exact ti_)
 all_goals
  rw [qj]
 ·rw [decide_eq_true (by omega), decide_eq_true (by omega)]; rfl
 ·rw [decide_eq_false (p := dpY t ≤ 100) (by omega), Bool.false_and, Bool.and_false]
 ·rw [decide_eq_false (p := szY t ≤ 4096) (by omega)]; rfl
theorem qcs {t : Ty} (h1 : szY t ≤ 20000) (h2 : dpY t ≤ 300) : qh Try.prog 48 [encY t] (.bool (qj t)) := by
 rw [← que h1 h2]; exact qn0 t
set_option maxRecDepth 4000

theorem qyc {t a b : Ty} (h1 : t.con = arrW) (h2 : t.args = [a, b]) : txtY t = parW (decide (a.con = arrW)) (txtY a) ++ ([32, 45, 62, 32] ++ txtY b) := by
 cases t with
 | mk c v l =>
   have h1' : c = arrW := h1
   have h2' : l = [a, b] := h2
   subst h1' h2'
   rw [txtY, if_pos rfl]
theorem qvu {t : Ty} (h1 : ¬ t.con = arrW) : txtY t = qge t ++ argY t.args := by
 cases t with
 | mk c v l =>
   have h1' : ¬ c = arrW := h1
   rcases l with _ | ⟨a, _ | ⟨b, _ | ⟨d, r⟩⟩⟩ <;> (simp only [txtY, if_neg h1']; rfl)
theorem qif (l : List Ty) (i : Nat) (h : i < l.length) : argY (l.take (i + 1)) = argY (l.take i) ++ (32 :: parW (decide ((l.getD i Y0).args ≠ [])) (txtY (l.getD i Y0))) := by
 have h1 : l.take (i + 1) = l.take i ++ [l.getD i Y0] := by
  rw [List.take_add_one, List.getD_eq_getElem?_getD, List.getElem?_eq_getElem h]; rfl
 rw [h1]
 generalize l.take i = a
 generalize l.getD i Y0 = x
 induction a with
 | nil => simp [argY]
 | cons y a ih => simp only [List.cons_append, argY, ih, List.append_assoc]
theorem qe3 (l : List Ty) (i : Nat) : (argY (l.take i)).length ≤ (argY l).length := by
 induction l generalizing i with
 | nil => simp
 | cons x r ih =>
   cases i with
   | zero => simp [argY]
   | succ i => rw [List.take_succ_cons, argY, argY, List.length_append, List.length_append]; have := ih i; omega
theorem qvo {t : Ty} (h : qbx t = true) (h1 : t.con = arrW) : ∃ a b, t.args = [a, b] ∧ qbx a = true ∧ qbx b = true := by
 rw [qea, Bool.and_eq_true] at h
 obtain ⟨h2, h3⟩ := h
 rw [mayY, mayW, h1, if_neg (by decide), if_pos rfl, Bool.and_eq_true, decide_eq_true_eq, decide_eq_true_eq] at h3
 have hl : t.args.length = 2 := by omega
 obtain ⟨a, b, hab⟩ : ∃ a b, t.args = [a, b] := by
  match hh : t.args, hl with
  | [a, b], _ => exact ⟨a, b, rfl⟩
 rw [hab] at h2
 simp only [qbf, Bool.and_eq_true] at h2
 exact ⟨a, b, hab, h2.1, h2.2.1⟩
theorem qtb {t x : Ty} (h : qbx t = true) (hx : x ∈ t.args) : qbx x = true := by
 rw [qea, Bool.and_eq_true] at h
 have h2 := h.1
 generalize t.args = l at hx h2
 induction l with
 | nil => cases hx
 | cons y r ih =>
   rw [qbf, Bool.and_eq_true] at h2
   rcases List.mem_cons.1 hx with rfl | hx
   ·exact h2.1
   ·exact ih hx h2.2
theorem qp4 (b : Bool) (s : List UInt8) : s.length ≤ (parW b s).length ∧ (parW b s).length ≤ s.length + 2 := by
 rw [parW]; split <;> simp <;> omega
def Big : Nat := 140737488355328
theorem qia {n : Nat} (h : n ≤ Big) : n ≤ maxLen := by unfold Big at h; unfold maxLen; omega

theorem qbgp {v : Int} (h : (Lit.int .i64 v).wf = true) (h0 : v < 0) : IntKind.i64.wrap (-1 - v) = -1 - v := by
 have := qin h
 exact q6 (by omega) (by omega)
end Go.Proofs.Ytfpobiheiloamaa
