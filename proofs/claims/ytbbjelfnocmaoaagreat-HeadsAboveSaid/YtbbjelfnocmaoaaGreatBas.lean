/- Texts of this proof, joined. -/
import Derived.Test.YtbbjelfnocmaoaaGreatBar

/- rows of integers: whether a number is there, each once -/
namespace Go.Proofs.YtbbjelfnocmaoaaGreat
open Go Go.RowKit Go.V
set_option linter.unusedVariables false
set_option linter.unusedSimpArgs false

attribute [go_sem] cond_false cond_true
/-! each once -/
theorem qba {H : List Ent} {n : Nat} : co H (.sl n) .nils = .sl n [] := Eq.trans rfl rfl
/-! all variables -/
/-! the program's: a walk that gathers -/
set_option maxRecDepth 4000

/-! the program's -/
abbrev numE (n : Int) : Ent := .blk [.int .i64 n]
def qeq (n : Int) (t : Ty) (k : Int) : Int × Bool := (IntKind.i64.wrap (n + 1), decide (IntKind.i64.wrap (n + 1) ≤ 4096) && (decide (k ≤ 100) && mayY t))
theorem qbro (n : Int) (t : Ty) (k : Int) : VM Tryz.prog 72 (numE n) (numE (qeq n t k).1) [encY t, .int .i64 k, .ptr 0 0] (.bool (qeq n t k).2) := by
 refine qgs (by kernel_rfl) fun hw => ?_
 have hk := qb6 hw.1
 refine ql c0bb 1 (by simp) (by simp) ?_
 repeat' (first | refine vs_ ?_ | ((first | refine vr_ ?_ | refine qa (qgn _) fun _ => ?_ | refine qa (qz6 _ _ _) fun _ => ?_ | (refine cs_ ?_ ?_ <;> intro hc) | refine cj_ ?_ | simp (disch := omega) only [encs_getN, qb]) <;> (try refine ev_ ?_)) | with_reducible exact ti_)
 ·simp_all [qeq]
 ·exact ⟨rfl, by simp only [qeq, *, decide_true, decide_false, Bool.true_and, Bool.false_and]⟩
 ·exact ⟨rfl, by simp only [qeq, *, decide_true, decide_false, Bool.true_and, Bool.false_and]⟩
def qpz (n : Int) (_ : Ty) (_ : Int) : Int × Bool := (IntKind.i64.wrap (n + 1), true)
theorem qbtp (n : Int) (t : Ty) (k : Int) : VM Tryz.prog 124 (numE n) (numE (qpz n t k).1) [encY t, .int .i64 k, .ptr 0 0] (.bool (qpz n t k).2) := by
 refine ql c0bc 1 (by simp) (by simp) ?_
 repeat' (first | refine vs_ ?_ | ((first | refine vr_ ?_ | (refine cs_ ?_ ?_ <;> intro hc) | refine cj_ ?_ | simp (disch := omega) only [encs_getN, qb]) <;> (try refine ev_ ?_)) | with_reducible exact ti_)
 exact ⟨rfl, rfl⟩
def qnb (n : Int) (_ : Ty) (k : Int) : Int × Bool := (if k > n then k else n, true)
theorem qbkg (n : Int) (t : Ty) (k : Int) : VM Tryz.prog 125 (numE n) (numE (qnb n t k).1) [encY t, .int .i64 k, .ptr 0 0] (.bool (qnb n t k).2) := by
 refine ql c0bd 1 (by simp) (by simp) ?_
 repeat' (first | refine vs_ ?_ | ((first | refine vr_ ?_ | (refine cs_ ?_ ?_ <;> intro hc) | refine cj_ ?_ | fail) <;> (try refine ev_ ?_)) | with_reducible exact ti_)
 exact ⟨rfl, rfl⟩
theorem qm1 {f : FuncId} {step : Int → Ty → Int → Int × Bool} (h : ∀ n t k, VM Tryz.prog f (numE n) (numE (step n t k).1) [encY t, .int .i64 k, .ptr 0 0] (.bool (step n t k).2)) (t : Ty) (n k : Int) :
 VM Tryz.prog 71 (numE n) (numE (qcl step t n k).1) [encY t, .int .i64 k, .fn f [] [.ptr 0 0]] (.bool (qcl step t n k).2) :=
 qum (st := numE) (ok := fun _ _ => True) (fun _ => rfl) (fun _ _ _ _ _ => trivial) (fun _ _ _ => trivial) (fun n t k _ => h n t k) t n k trivial
def qyp (t : Ty) : Bool := (qcl qeq t 0 1).2
theorem qpm (t : Ty) : qj Tryz.prog 47 [encY t] (.bool (qyp t)) := by
 refine qd c0be (by simp) (by simp only [go_sem]) rfl fun hw => ?_
 repeat' (first | refine vs_ ?_ | ((first | refine vr_ ?_ | refine qbw 1 (qm1 qbro t 0 1) ?_ | (refine cs_ ?_ ?_ <;> intro hc) | refine cj_ ?_ | fail) <;> (try refine ev_ ?_)) | with_reducible exact ti_)
 rfl
theorem qst (t : Ty) : qj Tryz.prog 108 [encY t] (.int .i64 (qcl qpz t 0 1).1) := by
 refine qd c0bf (by simp) (by simp only [go_sem]) rfl fun hw => ?_
 repeat' (first | refine vs_ ?_ | ((first | refine vr_ ?_ | refine qbw 1 (qm1 qbtp t 0 1) ?_ | (refine cs_ ?_ ?_ <;> intro hc) | refine cj_ ?_ | fail) <;> (try refine ev_ ?_)) | with_reducible exact ti_)
theorem qp8 (t : Ty) : qj Tryz.prog 109 [encY t] (.int .i64 (qcl qnb t 0 1).1) := by
 refine qd c0bg (by simp) (by simp only [go_sem]) rfl fun hw => ?_
 repeat' (first | refine vs_ ?_ | ((first | refine vr_ ?_ | refine qbw 1 (qm1 qbkg t 0 1) ?_ | (refine cs_ ?_ ?_ <;> intro hc) | refine cj_ ?_ | fail) <;> (try refine ev_ ?_)) | with_reducible exact ti_)

/-! the references -/
mutual
def qhx : Ty → Int
 | .mk _ _ l => qex 1 l
def qex : Int → List Ty → Int
 | a, [] => a
 | a, x :: r => qex (IntKind.i64.wrap (a + qhx x)) r
end
theorem qza (t : Ty) : qhx t = qex 1 t.args := by cases t; rw [qhx]; rfl
theorem qe5 : ∀ t, qj Tryz.prog 23 [encY t] (.int .i64 (qhx t)) := by
 refine Ty.ind fun t ih => ?_
 refine qd c0bh (by simp) (by simp only [go_sem]) rfl fun hw => ?_
 have hk := qb6 hw.1
 repeat' (first | refine vs_ ?_ | ((first | refine vr_ ?_ | (refine cs_ ?_ ?_ <;> intro hc) | refine cj_ ?_ | simp (disch := omega) only [encs_getN, qb]) <;> (try refine ev_ ?_)) | with_reducible exact ti_)
 refine qo (S := Nat × Int) (fun s => s.1 ≤ t.args.length ∧ qex s.2 (t.args.drop s.1) = qhx t) (fun s => (⟨[(1, .ptr 0 0), (3, .int .i64 s.2), (4, .int .i64 s.1)], []⟩, [.blk (yc t)])) (fun s => t.args.length - s.1) ?_ fun s hs => ?_
 ·refine qh (0, 1) [0] ⟨Nat.zero_le _, (qza t).symm⟩ rfl (by simp) ?_ ?_ ?_ <;> (try refine ev_ ?_) <;> (try with_reducible exact ti_) <;> (try simp (disch := omega) only [qb, and_true, true_and])
 ·obtain ⟨i, a⟩ := s
  obtain ⟨hi, ha⟩ := hs
  dsimp only at hi ha
  repeat' (first | refine vs_ ?_ | ((first | refine vr_ ?_ | fail) <;> (try simp (disch := first | omega | (simp only [List.length_set, List.length_append, List.length_cons, List.length_nil]; done) | (simp only [List.length_set, List.length_append, List.length_cons, List.length_nil]; omega)) only [qu, qb, go_sem, ↓reduceIte])) | ((first | (refine cs_ ?_ ?_ <;> intro hc) | refine cj_ ?_ | simp (disch := omega) only [encs_getN, qb] | refine qa (ih _ (qx (by omega))) fun _ => ?_) <;> (try refine ev_ ?_)) | with_reducible exact ti_)
  ·refine qh (i + 1, IntKind.i64.wrap (a + qhx (t.args.getD i Y0))) [0] ⟨⟨by dsimp only; omega, ?_⟩, by dsimp only; omega⟩ rfl (by simp) ?_ ?_ ?_ <;> (try refine ev_ ?_) <;> (try with_reducible exact ti_) <;> (try simp (disch := omega) only [qb, and_true, true_and])
   rw [← ha, qg5 (l := t.args) (i := i) (by omega), qex]
  ·rw [← ha, List.drop_of_length_le (by omega)]; rfl
mutual
def qlw : Ty → Int
 | .mk _ _ l => IntKind.i64.wrap (qgk 0 l + 1)
def qgk : Int → List Ty → Int
 | a, [] => a
 | a, x :: r => qgk (if qlw x > a then qlw x else a) r
end
theorem qzr (t : Ty) : qlw t = IntKind.i64.wrap (qgk 0 t.args + 1) := by cases t; rw [qlw]; rfl
theorem qp6 : ∀ t, qj Tryz.prog 38 [encY t] (.int .i64 (qlw t)) := by
 refine Ty.ind fun t ih => ?_
 refine qd c0bi (by simp) (by simp only [go_sem]) rfl fun hw => ?_
 have hk := qb6 hw.1
 repeat' (first | refine vs_ ?_ | ((first | refine vr_ ?_ | (refine cs_ ?_ ?_ <;> intro hc) | refine cj_ ?_ | simp (disch := omega) only [encs_getN, qb]) <;> (try refine ev_ ?_)) | with_reducible exact ti_)
 refine qo (S := Nat × Int) (fun s => s.1 ≤ t.args.length ∧ qgk s.2 (t.args.drop s.1) = qgk 0 t.args) (fun s => (⟨[(1, .ptr 0 0), (3, .int .i64 s.2), (4, .int .i64 s.1)], []⟩, [.blk (yc t)])) (fun s => t.args.length - s.1) ?_ fun s hs => ?_
 ·refine qh (0, 0) [0] ⟨Nat.zero_le _, rfl⟩ rfl (by simp) ?_ ?_ ?_ <;> (try refine ev_ ?_) <;> (try with_reducible exact ti_) <;> (try simp (disch := omega) only [qb, and_true, true_and])
 ·obtain ⟨i, a⟩ := s
  obtain ⟨hi, ha⟩ := hs
  dsimp only at hi ha
  repeat' (first | refine vs_ ?_ | ((first | refine vr_ ?_ | fail) <;> (try simp (disch := first | omega | (simp only [List.length_set, List.length_append, List.length_cons, List.length_nil]; done) | (simp only [List.length_set, List.length_append, List.length_cons, List.length_nil]; omega)) only [qu, qb, go_sem, ↓reduceIte])) | ((first | (refine cs_ ?_ ?_ <;> intro hc) | refine cj_ ?_ | simp (disch := omega) only [encs_getN, qb] | refine qa (ih _ (qx (by omega))) fun _ => ?_) <;> (try refine ev_ ?_)) | with_reducible exact ti_)
  ·refine qh (i + 1, if qlw (t.args.getD i Y0) > a then qlw (t.args.getD i Y0) else a) [0] ⟨⟨by dsimp only; omega, ?_⟩, by dsimp only; omega⟩ rfl (by simp) ?_ ?_ ?_ <;> (try refine ev_ ?_) <;> (try with_reducible exact ti_) <;> (try simp (disch := omega) only [qb, and_true, true_and])
   rw [← ha, qg5 (l := t.args) (i := i) (by omega), qgk]
  ·rw [qzr, ← ha, List.drop_of_length_le (by omega)]; rfl
mutual
def qbe : Ty → Bool
 | .mk c v l => qt l && mayW c v l.length
def qt : List Ty → Bool
 | [] => true
 | x :: r => qbe x && qt r
end
theorem qc8 (t : Ty) : qbe t = (qt t.args && mayY t) := by cases t; rw [qbe]; rfl
theorem qhu {l : List Ty} {i : Nat} (h : i < l.length) : qt (l.drop i) = (qbe (l.getD i Y0) && qt (l.drop (i + 1))) := by rw [qg5 h, qt]
theorem qqn : ∀ t, qj Tryz.prog 39 [encY t] (.bool (qbe t)) := by
 refine Ty.ind fun t ih => ?_
 refine qd c0bj (by simp) (by simp only [go_sem]) rfl fun hw => ?_
 have hk := qb6 hw.1
 repeat' (first | refine vs_ ?_ | ((first | refine vr_ ?_ | (refine cs_ ?_ ?_ <;> intro hc) | refine cj_ ?_ | simp (disch := omega) only [encs_getN, qb]) <;> (try refine ev_ ?_)) | with_reducible exact ti_)
 refine qo (S := Nat) (fun i => i ≤ t.args.length ∧ qt (t.args.drop i) = qt t.args) (fun i => (⟨[(1, .ptr 0 0), (3, .int .i64 i)], []⟩, [.blk (yc t)])) (fun i => t.args.length - i) ?_ fun i hi => ?_
 ·refine qh 0 [0] ⟨Nat.zero_le _, rfl⟩ rfl (by simp) ?_ ?_ ?_ <;> (try refine ev_ ?_) <;> (try with_reducible exact ti_) <;> (try simp (disch := omega) only [qb, and_true, true_and])
 ·obtain ⟨hi, ha⟩ := hi
  rw [qc8]
  repeat' (first | refine vs_ ?_ | ((first | refine vr_ ?_ | fail) <;> (try simp (disch := first | omega | (simp only [List.length_set, List.length_append, List.length_cons, List.length_nil]; done) | (simp only [List.length_set, List.length_append, List.length_cons, List.length_nil]; omega)) only [qu, qb, go_sem, ↓reduceIte])) | ((first | (refine cs_ ?_ ?_ <;> intro hc) | refine cj_ ?_ | simp (disch := omega) only [encs_getN, qb] | refine qa (ih _ (qx (by omega))) fun _ => ?_ | refine qa (qpr _) fun _ => ?_ | refine qa (qi6 _) fun _ => ?_) <;> (try refine ev_ ?_)) | with_reducible exact ti_)
  ·have : qt t.args = false := by rw [← ha, qhu (by omega), hc]; rfl
   rw [this]; rfl
  ·refine qh (i + 1) [0] ⟨⟨by omega, ?_⟩, by omega⟩ rfl (by simp) ?_ ?_ ?_ <;> (try refine ev_ ?_) <;> (try with_reducible exact ti_) <;> (try simp (disch := omega) only [qb, and_true, true_and])
   rw [← ha, qhu (i := i) (by omega), hc, Bool.true_and]
  all_goals
   have hs : qt t.args = true := by rw [← ha, List.drop_of_length_le (by omega)]; rfl
   rw [hs, Bool.true_and, mayY, mayW]
   simp only [arrW, *, if_true, if_false, decide_true, decide_false, Bool.and_true, Bool.and_false, Bool.false_eq_true]
   try rfl
/-! Few -/
mutual
def cntY : Ty → Int → Int → Int
 | .mk _ _ l, k, d => if d < 1 then -1 else qed l (IntKind.i64.wrap (k - 1)) d
def qed : List Ty → Int → Int → Int
 | [], a, _ => a
 | x :: r, a, d => if 0 ≤ a then qed r (cntY x a (IntKind.i64.wrap (d - 1))) d else a
end
theorem qwz (t : Ty) (k d : Int) : cntY t k d = if d < 1 then -1 else qed t.args (IntKind.i64.wrap (k - 1)) d := by cases t; rw [cntY]; rfl
theorem qgc {a : Int} (h : a < 0) (l : List Ty) (d : Int) : qed l a d = a := by
 cases l with
 | nil => rw [qed]
 | cons x r => rw [qed, if_neg (by omega)]
theorem qbc6 : ∀ t k d, qj Tryz.prog 54 [encY t, .int .i64 k, .int .i64 d] (.int .i64 (cntY t k d)) := by
 refine Ty.ind fun t ih k d => ?_
 refine qd c0bk (by simp) (by simp only [go_sem]) rfl fun hw => ?_
 have hk := qb6 hw.1
 rw [qwz]
 repeat' (first | refine vs_ ?_ | ((first | refine vr_ ?_ | (refine cs_ ?_ ?_ <;> intro hc) | refine cj_ ?_ | simp (disch := omega) only [encs_getN, qb]) <;> (try refine ev_ ?_)) | with_reducible exact ti_)
 ·rw [if_pos (by assumption)]
 rw [if_neg (by assumption)]
 refine qo (S := Nat × Int) (fun s => s.1 ≤ t.args.length ∧ qed (t.args.drop s.1) s.2 d = qed t.args (IntKind.i64.wrap (k - 1)) d) (fun s => (⟨[(1, .int .i64 s.2), (2, .int .i64 d), (3, .ptr 0 0), (7, .int .i64 s.1)], []⟩, [.blk (yc t)])) (fun s => t.args.length - s.1) ?_ fun s hs => ?_
 ·refine qh (0, IntKind.i64.wrap (k - 1)) [0] ⟨Nat.zero_le _, rfl⟩ rfl (by simp) ?_ ?_ ?_ <;> (try refine ev_ ?_) <;> (try with_reducible exact ti_) <;> (try simp (disch := omega) only [qb, and_true, true_and])
 ·obtain ⟨i, a⟩ := s
  obtain ⟨hi, ha⟩ := hs
  dsimp only at hi ha
  repeat' (first | refine vs_ ?_ | ((first | refine vr_ ?_ | fail) <;> (try simp (disch := first | omega | (simp only [List.length_set, List.length_append, List.length_cons, List.length_nil]; done) | (simp only [List.length_set, List.length_append, List.length_cons, List.length_nil]; omega)) only [qu, qb, go_sem, ↓reduceIte])) | ((first | (refine cs_ ?_ ?_ <;> intro hc) | refine cj_ ?_ | simp (disch := omega) only [encs_getN, qb] | refine qa (ih _ (qx (by omega)) _ _) fun _ => ?_) <;> (try refine ev_ ?_)) | with_reducible exact ti_)
  ·refine qh (i + 1, cntY (t.args.getD i Y0) a (IntKind.i64.wrap (d - 1))) [0] ⟨⟨by dsimp only; omega, ?_⟩, by dsimp only; omega⟩ rfl (by simp) ?_ ?_ ?_ <;> (try refine ev_ ?_) <;> (try with_reducible exact ti_) <;> (try simp (disch := omega) only [qb, and_true, true_and])
   rw [← ha, qg5 (l := t.args) (i := i) (by omega), qed, if_pos (by assumption)]
  ·rw [← ha, qgc (by omega)]
  ·rw [← ha, List.drop_of_length_le (by omega)]; rfl
def qkb (a : Int) : List Ty → Int
 | [] => a
 | x :: r => qkb (cntY x a 300) r
def qk9 (l : List Ty) : Bool := decide (0 ≤ qkb 20000 l)
theorem qbta (l : List Ty) : qj Tryz.prog 32 [.sl 3 (qi l)] (.int .i64 (if qk9 l = true then 1 else 0)) := by
 refine qd c0bl (by simp) (by simp only [go_sem]) rfl fun hw => ?_
 have hk : l.length ≤ maxLen := by have := hw.1.1; rwa [qn] at this
 repeat' (first | refine vs_ ?_ | ((first | refine vr_ ?_ | (refine cs_ ?_ ?_ <;> intro hc) | refine cj_ ?_ | simp (disch := omega) only [encs_getN, qb]) <;> (try refine ev_ ?_)) | with_reducible exact ti_)
 refine qo (S := Nat × Int) (fun s => s.1 ≤ l.length ∧ qkb s.2 (l.drop s.1) = qkb 20000 l) (fun s => (⟨[(0, .sl 3 (qi l)), (3, .int .i64 s.2), (4, .int .i64 s.1)], []⟩, [])) (fun s => l.length - s.1) ?_ fun s hs => ?_
 ·refine qh (0, 20000) [] ⟨Nat.zero_le _, rfl⟩ rfl (by simp) ?_ ?_ ?_ <;> (try refine ev_ ?_) <;> (try with_reducible exact ti_) <;> (try simp (disch := omega) only [qb, and_true, true_and])
 ·obtain ⟨i, a⟩ := s
  obtain ⟨hi, ha⟩ := hs
  dsimp only at hi ha
  repeat' (first | refine vs_ ?_ | ((first | refine vr_ ?_ | fail) <;> (try simp (disch := first | omega | (simp only [List.length_set, List.length_append, List.length_cons, List.length_nil]; done) | (simp only [List.length_set, List.length_append, List.length_cons, List.length_nil]; omega)) only [qu, qb, go_sem, ↓reduceIte])) | ((first | (refine cs_ ?_ ?_ <;> intro hc) | refine cj_ ?_ | simp (disch := omega) only [encs_getN, qb] | refine qa (qbc6 _ _ _) fun _ => ?_) <;> (try refine ev_ ?_)) | with_reducible exact ti_)
  ·refine qh (i + 1, cntY (l.getD i Y0) a 300) [] ⟨⟨by dsimp only; omega, ?_⟩, by dsimp only; omega⟩ rfl (by simp) ?_ ?_ ?_ <;> (try refine ev_ ?_) <;> (try with_reducible exact ti_) <;> (try simp (disch := omega) only [qb, and_true, true_and])
   rw [← ha, qg5 (l := l) (i := i) (by omega), qkb]
  all_goals
   have hf : qkb 20000 l = a := by rw [← ha, List.drop_of_length_le (by omega)]; rfl
   rw [qk9, hf]
  ·rw [if_neg (by simp; omega)]
  ·rw [if_pos (by simp; omega)]

/-! the laws of sizes -/
mutual
theorem qw8 : ∀ (t : Ty) (k d : Int), 0 ≤ k → k ≤ 20000 → d ≤ 300 → 0 ≤ cntY t k d → cntY t k d = k - szY t ∧ (dpY t : Int) ≤ d
 | .mk c v l, k, d, h0, h1, h2, h3 => by
   rw [cntY] at h3 ⊢
   by_cases hd : d < 1
   ·rw [if_pos hd] at h3; omega
   ·rw [if_neg hd] at h3 ⊢
    have hk : IntKind.i64.wrap (k - 1) = k - 1 := qw (by omega) (by omega)
    rw [hk] at h3 ⊢
    have h4 : 0 ≤ k - 1 := by
     by_cases h : 0 ≤ k - 1
     ·exact h
     ·rw [qgc (by omega)] at h3; exact h3
    have := qrn l (k - 1) d h4 (by omega) (by omega) h2 h3
    rw [szY, dpY]
    omega
theorem qrn : ∀ (l : List Ty) (a d : Int), 0 ≤ a → a ≤ 20000 → 1 ≤ d → d ≤ 300 → 0 ≤ qed l a d → qed l a d = a - szYs l ∧ (dpYs l : Int) ≤ d - 1
 | [], a, d, h0, h1, h2, h3, h4 => by rw [qed, szYs, dpYs]; omega
 | x :: r, a, d, h0, h1, h2, h3, h4 => by
   rw [qed, if_pos h0] at h4 ⊢
   have hd : IntKind.i64.wrap (d - 1) = d - 1 := qw (by omega) (by omega)
   rw [hd] at h4 ⊢
   have h5 : 0 ≤ cntY x a (d - 1) := by
    by_cases h : 0 ≤ cntY x a (d - 1)
    ·exact h
    ·rw [qgc (by omega)] at h4; exact absurd h4 h
   obtain ⟨h6, h7⟩ := qw8 x a (d - 1) h0 h1 (by omega) h5
   obtain ⟨h8, h9⟩ := qrn r _ d h5 (by omega) h2 h3 h4
   rw [szYs, dpYs]
   omega
end
mutual
theorem qvd : ∀ (t : Ty) (k d : Int), 0 ≤ k → k ≤ 20000 → -1 ≤ cntY t k d
 | .mk c v l, k, d, h0, h1 => by
   rw [cntY]
   split
   ·omega
   ·rw [qw (z := k - 1) (by omega) (by omega)]
    exact qu8 l (k - 1) d (by omega) (by omega)
theorem qu8 : ∀ (l : List Ty) (a d : Int), -1 ≤ a → a ≤ 20000 → -1 ≤ qed l a d
 | [], a, d, h0, _ => by rw [qed]; exact h0
 | x :: r, a, d, h0, h1 => by
   rw [qed]
   split
   ·rename_i h
    have h2 := qvd x a (IntKind.i64.wrap (d - 1)) h h1
    have h3 := q41 x a (IntKind.i64.wrap (d - 1)) h h1
    exact qu8 r _ d h2 (by omega)
   ·exact h0
theorem q41 : ∀ (t : Ty) (k d : Int), 0 ≤ k → k ≤ 20000 → cntY t k d ≤ k
 | .mk c v l, k, d, h0, h1 => by
   rw [cntY]
   split
   ·omega
   ·rw [qw (z := k - 1) (by omega) (by omega)]
    have := qyd l (k - 1) d (by omega) (by omega)
    omega
theorem qyd : ∀ (l : List Ty) (a d : Int), -1 ≤ a → a ≤ 20000 → qed l a d ≤ a
 | [], a, d, h0, _ => by rw [qed]; exact Int.le_refl _
 | x :: r, a, d, h0, h1 => by
   rw [qed]
   split
   ·rename_i h
    have h2 := qvd x a (IntKind.i64.wrap (d - 1)) h h1
    have h3 := q41 x a (IntKind.i64.wrap (d - 1)) h h1
    have := qyd r _ d h2 (by omega)
    omega
   ·exact Int.le_refl _
end
theorem qrj : ∀ (l : List Ty) {a : Int}, a < 0 → -9223372036854775808 ≤ a - l.length → qkb a l < 0
 | [], a, h, _ => h
 | x :: r, a, h, h2 => by
   rw [qkb]
   have h3 : cntY x a 300 = IntKind.i64.wrap (a - 1) := by
    rw [qwz, if_neg (by omega)]
    have hk : IntKind.i64.wrap (a - 1) = a - 1 := qw (by simp only [List.length_cons] at h2; omega) (by omega)
    rw [hk, qgc (by omega)]
   have hk : IntKind.i64.wrap (a - 1) = a - 1 := qw (by simp only [List.length_cons] at h2; omega) (by omega)
   rw [h3, hk]
   exact qrj r (by omega) (by simp only [List.length_cons] at h2; omega)
theorem qrz : ∀ (l : List Ty) (a : Int), 0 ≤ a → a ≤ 20000 → l.length ≤ 9223372036854775807 → 0 ≤ qkb a l → (szYs l : Int) ≤ a ∧ (dpYs l : Int) ≤ 300
 | [], a, h0, h1, _, h2 => by rw [szYs, dpYs]; omega
 | x :: r, a, h0, h1, hl, h2 => by
   rw [qkb] at h2
   simp only [List.length_cons] at hl
   have h5 : 0 ≤ cntY x a 300 := by
    by_cases h : 0 ≤ cntY x a 300
    ·exact h
    ·have : -1 ≤ cntY x a 300 := qvd x a 300 h0 h1
     have := qrj r (a := cntY x a 300) (by omega) (by omega)
     omega
   obtain ⟨h6, h7⟩ := qw8 x a 300 h0 h1 (by omega) h5
   obtain ⟨h8, h9⟩ := qrz r _ h5 (by omega) (by omega) h2
   rw [szYs, dpYs]
   omega
theorem qbcm {l : List Ty} (hl : l.length ≤ maxLen) (h : qk9 l = true) : szYs l ≤ 20000 ∧ dpYs l ≤ 300 := by
 have := qrz l 20000 (by omega) (by omega) (by unfold maxLen at hl; omega) (by simpa [qk9] using h)
 omega

mutual
theorem qdw : ∀ (t : Ty), szY t ≤ 1000000 → qhx t = szY t
 | .mk c v l, h => by
   rw [szY] at h
   rw [qhx, szY, qi8 l 1 (by omega) (by omega)]
   omega
theorem qi8 : ∀ (l : List Ty) (a : Int), 1 ≤ a → a + szYs l ≤ 1000001 → qex a l = a + szYs l
 | [], a, _, _ => by rw [qex, szYs]; omega
 | x :: r, a, h0, h => by
   rw [szYs] at h
   rw [qex, qdw x (by omega), qw (by omega) (by omega), qi8 r _ (by omega) (by omega), szYs]
   omega
end
mutual
theorem qnw : ∀ (t : Ty), dpY t ≤ 1000000 → qlw t = dpY t
 | .mk c v l, h => by
   rw [dpY] at h
   rw [qlw, dpY, qkl l 0 (by omega) (by omega), qw (by omega) (by omega)]
   omega
theorem qkl : ∀ (l : List Ty) (a : Int), dpYs l ≤ 1000000 → 0 ≤ a → qgk a l = max a (dpYs l)
 | [], a, _, _ => by rw [qgk, dpYs]; omega
 | x :: r, a, h, h0 => by
   rw [dpYs] at h
   have h1 := qnw x (by omega)
   rw [qgk, h1]
   have h2 : (if (dpY x : Int) > a then (dpY x : Int) else a) = max a (dpY x) := by split <;> omega
   rw [h2, qkl r _ (by omega) (by omega), dpYs]
   omega
end
mutual
theorem qoh : ∀ (t : Ty) (n k : Int), 0 ≤ n → n + szY t ≤ 1000000 → qcl qpz t n k = (n + szY t, true)
 | .mk c v l, n, k, h0, h => by
   rw [szY] at h
   rw [qcl, if_pos (show (qpz n (.mk c v l) k).2 = true from rfl)]
   have h1 : (qpz n (.mk c v l) k).1 = n + 1 := qw (by omega) (by omega)
   rw [h1, qll l _ _ (by omega) (by omega), szY]
   congr 1; omega
theorem qll : ∀ (l : List Ty) (n k : Int), 0 ≤ n → n + szYs l ≤ 1000000 → qbz qpz l n k = (n + szYs l, true)
 | [], n, k, _, _ => by rw [qbz, szYs]; congr 1; omega
 | x :: r, n, k, h0, h => by
   rw [szYs] at h
   rw [qbz, qoh x n k h0 (by omega), if_pos rfl, qll r _ k (by omega) (by omega), szYs]
   congr 1; omega
end
mutual
theorem qm3 : ∀ (t : Ty) (n k : Int), 0 ≤ n → 1 ≤ k → k + dpY t ≤ 1000000 → qcl qnb t n k = (max n (k + dpY t - 1), true)
 | .mk c v l, n, k, h0, h1, h => by
   rw [dpY] at h
   rw [qcl, if_pos (show (qnb n (.mk c v l) k).2 = true from rfl)]
   have h2 : (qnb n (.mk c v l) k).1 = max n k := by simp only [qnb]; split <;> omega
   rw [h2, qw (z := k + 1) (by omega) (by omega), qkr l _ _ (by omega) (by omega) (by omega), dpY]
   congr 1; split <;> omega
theorem qkr : ∀ (l : List Ty) (n k : Int), 0 ≤ n → 1 ≤ k → k + dpYs l ≤ 1000000 → qbz qnb l n k = (if dpYs l = 0 then n else max n (k + dpYs l - 1), true)
 | [], n, k, _, _, _ => by rw [qbz, dpYs, if_pos rfl]
 | x :: r, n, k, h0, h1, h => by
   rw [dpYs] at h
   have hp := qbf5 x
   rw [qbz, qm3 x n k h0 h1 (by omega), if_pos rfl, qkr r _ k (by omega) h1 (by omega), dpYs]
   congr 1
   rw [if_neg (by omega : ¬ max (dpY x) (dpYs r) = 0)]
   split <;> omega
end
mutual
theorem qny : ∀ (t : Ty) (n k : Int), 0 ≤ n → n + szY t ≤ 1000000 → 1 ≤ k → k + dpY t ≤ 1000000 →
 ((qcl qeq t n k).2 = true ↔ n + szY t ≤ 4096 ∧ k + dpY t - 1 ≤ 100 ∧ qbe t = true) ∧ ((qcl qeq t n k).2 = true → (qcl qeq t n k).1 = n + szY t)
 | .mk c v l, n, k, h0, h1, h2, h3 => by
   rw [szY] at h1
   rw [dpY] at h3
   have e1 : IntKind.i64.wrap (n + 1) = n + 1 := qw (by omega) (by omega)
   have e2 : IntKind.i64.wrap (k + 1) = k + 1 := qw (by omega) (by omega)
   have e3 : (qeq n (.mk c v l) k).1 = n + 1 := e1
   have e4 : (qeq n (.mk c v l) k).2 = true ↔ n + 1 ≤ 4096 ∧ k ≤ 100 ∧ mayW c v l.length = true := by
    simp only [qeq, e1, Bool.and_eq_true, decide_eq_true_eq]; rfl
   rw [qcl, szY, dpY, qbe]
   by_cases hs : (qeq n (.mk c v l) k).2 = true
   ·rw [if_pos hs, e3, e2]
    obtain ⟨q1, q2, q3⟩ := e4.1 hs
    obtain ⟨r1, r2⟩ := qkn l (n + 1) (k + 1) (by omega) (by omega) (by omega) (by omega) (by omega) (by omega)
    refine ⟨?_, fun h => by rw [r2 h]; omega⟩
    rw [r1, q3, Bool.and_true]
    constructor
    ·rintro ⟨a1, a2, a3⟩; exact ⟨by omega, by omega, a3⟩
    ·rintro ⟨a1, a2, a3⟩; exact ⟨by omega, by omega, a3⟩
   ·rw [if_neg hs]
    refine ⟨⟨fun h => (by cases h), fun ⟨a1, a2, a3⟩ => absurd (e4.2 ⟨by omega, by omega, (by rw [Bool.and_eq_true] at a3; exact a3.2)⟩) hs⟩, fun h => by cases h⟩
theorem qkn : ∀ (l : List Ty) (n k : Int), 0 ≤ n → n + szYs l ≤ 1000000 → 1 ≤ k → k + dpYs l ≤ 1000000 → n ≤ 4096 → k - 1 ≤ 100 →
 ((qbz qeq l n k).2 = true ↔ n + szYs l ≤ 4096 ∧ k + dpYs l - 1 ≤ 100 ∧ qt l = true) ∧ ((qbz qeq l n k).2 = true → (qbz qeq l n k).1 = n + szYs l)
 | [], n, k, h0, h1, h2, h3, h4, h5 => by
   rw [qbz, szYs, dpYs, qt]
   exact ⟨⟨fun _ => ⟨by omega, by omega, rfl⟩, fun _ => rfl⟩, fun _ => by simp⟩
 | x :: r, n, k, h0, h1, h2, h3, h4, h5 => by
   rw [szYs] at h1
   rw [dpYs] at h3
   obtain ⟨q1, q2⟩ := qny x n k h0 (by omega) h2 (by omega)
   rw [qbz, szYs, dpYs, qt]
   by_cases hs : (qcl qeq x n k).2 = true
   ·rw [if_pos hs, q2 hs]
    obtain ⟨a1, a2, a3⟩ := q1.1 hs
    obtain ⟨r1, r2⟩ := qkn r (n + szY x) k (by omega) (by omega) h2 (by omega) (by omega) h5
    refine ⟨?_, fun h => by rw [r2 h]; omega⟩
    rw [r1, a3, Bool.true_and]
    constructor
    ·rintro ⟨b1, b2, b3⟩; exact ⟨by omega, by omega, b3⟩
    ·rintro ⟨b1, b2, b3⟩; exact ⟨by omega, by omega, b3⟩
   ·rw [if_neg hs]
    refine ⟨⟨fun h => (by cases h), fun ⟨a1, a2, a3⟩ => absurd (q1.2 ⟨by omega, by omega, ?_⟩) hs⟩, fun h => by cases h⟩
    rw [Bool.and_eq_true] at a3
    exact a3.1
end
def qg (t : Ty) : Bool := decide (szY t ≤ 4096) && (decide (dpY t ≤ 100) && qbe t)
theorem qwp {t : Ty} (h1 : szY t ≤ 20000) (h2 : dpY t ≤ 300) : qyp t = qg t := by
 have := (qny t 0 1 (by omega) (by omega) (by omega) (by omega)).1
 rw [qyp, Bool.eq_iff_iff, this, qg, Bool.and_eq_true, Bool.and_eq_true, decide_eq_true_eq, decide_eq_true_eq]
 constructor
 ·rintro ⟨a1, a2, a3⟩; exact ⟨by omega, by omega, a3⟩
 ·rintro ⟨a1, a2, a3⟩; exact ⟨by omega, by omega, a3⟩
theorem qec {t : Ty} (h1 : szY t ≤ 20000) (h2 : dpY t ≤ 300) : qj Tryz.prog 20 [encY t] (.bool (qg t)) := by
 refine qd c0bm (by simp) (by simp only [go_sem]) rfl fun hw => ?_
 have e1 := qe5 t
 have e2 := qp6 t
 rw [qdw t (by omega)] at e1
 rw [qnw t (by omega)] at e2
 repeat' (first | refine vs_ ?_ | ((first | refine vr_ ?_ | refine qa e1 fun _ => ?_ | refine qa e2 fun _ => ?_ | refine qa (qqn t) fun _ => ?_ | (refine cs_ ?_ ?_ <;> intro hc) | refine cj_ ?_ | fail) <;> (try refine ev_ ?_)) | with_reducible exact ti_)
 all_goals
  rw [qg]
 ·rw [decide_eq_true (by omega), decide_eq_true (by omega)]; rfl
 ·rw [decide_eq_false (p := dpY t ≤ 100) (by omega), Bool.false_and, Bool.and_false]
 ·rw [decide_eq_false (p := szY t ≤ 4096) (by omega)]; rfl
theorem qch {t : Ty} (h1 : szY t ≤ 20000) (h2 : dpY t ≤ 300) : qj Tryz.prog 47 [encY t] (.bool (qg t)) := by
 rw [← qwp h1 h2]; exact qpm t
set_option maxRecDepth 4000

theorem qze {t a b : Ty} (h1 : t.con = arrW) (h2 : t.args = [a, b]) : txtY t = parW (decide (a.con = arrW)) (txtY a) ++ ([32, 45, 62, 32] ++ txtY b) := by
 cases t with
 | mk c v l =>
   have h1' : c = arrW := h1
   have h2' : l = [a, b] := h2
   subst h1' h2'
   rw [txtY, if_pos rfl]
theorem q3m {t : Ty} (h1 : ¬ t.con = arrW) : txtY t = qg0 t ++ argY t.args := by
 cases t with
 | mk c v l =>
   have h1' : ¬ c = arrW := h1
   rcases l with _ | ⟨a, _ | ⟨b, _ | ⟨d, r⟩⟩⟩ <;> (simp only [txtY, if_neg h1']; rfl)
theorem qjw (l : List Ty) (i : Nat) (h : i < l.length) : argY (l.take (i + 1)) = argY (l.take i) ++ (32 :: parW (decide ((l.getD i Y0).args ≠ [])) (txtY (l.getD i Y0))) := by
 have h1 : l.take (i + 1) = l.take i ++ [l.getD i Y0] := by
  rw [List.take_add_one, List.getD_eq_getElem?_getD, List.getElem?_eq_getElem h]; rfl
 rw [h1]
 generalize l.take i = a
 generalize l.getD i Y0 = x
 induction a with
 | nil => simp [argY]
 | cons y a ih => simp only [List.cons_append, argY, ih, List.append_assoc]
theorem qgz (l : List Ty) (i : Nat) : (argY (l.take i)).length ≤ (argY l).length := by
 induction l generalizing i with
 | nil => simp
 | cons x r ih =>
   cases i with
   | zero => simp [argY]
   | succ i => rw [List.take_succ_cons, argY, argY, List.length_append, List.length_append]; have := ih i; omega
theorem qwi {t : Ty} (h : qbe t = true) (h1 : t.con = arrW) : ∃ a b, t.args = [a, b] ∧ qbe a = true ∧ qbe b = true := by
 rw [qc8, Bool.and_eq_true] at h
 obtain ⟨h2, h3⟩ := h
 rw [mayY, mayW, h1, if_neg (by decide), if_pos rfl, Bool.and_eq_true, decide_eq_true_eq, decide_eq_true_eq] at h3
 have hl : t.args.length = 2 := by omega
 obtain ⟨a, b, hab⟩ : ∃ a b, t.args = [a, b] := by
  match hh : t.args, hl with
  | [a, b], _ => exact ⟨a, b, rfl⟩
 rw [hab] at h2
 simp only [qt, Bool.and_eq_true] at h2
 exact ⟨a, b, hab, h2.1, h2.2.1⟩
theorem qu7 {t x : Ty} (h : qbe t = true) (hx : x ∈ t.args) : qbe x = true := by
 rw [qc8, Bool.and_eq_true] at h
 have h2 := h.1
 generalize t.args = l at hx h2
 induction l with
 | nil => cases hx
 | cons y r ih =>
   rw [qt, Bool.and_eq_true] at h2
   rcases List.mem_cons.1 hx with rfl | hx
   ·exact h2.1
   ·exact ih hx h2.2
theorem qsc (b : Bool) (s : List UInt8) : s.length ≤ (parW b s).length ∧ (parW b s).length ≤ s.length + 2 := by
 rw [parW]; split <;> simp <;> omega
def Big : Nat := 140737488355328
theorem qbf {n : Nat} (h : n ≤ Big) : n ≤ maxLen := by unfold Big at h; unfold maxLen; omega

theorem qbq8 {v : Int} (h : (Lit.int .i64 v).wf = true) (h0 : v < 0) : IntKind.i64.wrap (-1 - v) = -1 - v := by
 have := qjz h
 exact qw (by omega) (by omega)
end Go.Proofs.YtbbjelfnocmaoaaGreat
