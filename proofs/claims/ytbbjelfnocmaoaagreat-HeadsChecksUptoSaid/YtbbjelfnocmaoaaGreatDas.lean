/- Texts of this proof, joined. -/
import Derived.Test.YtbbjelfnocmaoaaGreatDar

/- rows of integers: whether a number is there, each once -/
namespace Go.Proofs.YtbbjelfnocmaoaaGreat
open Go Go.RowKit Go.V
set_option linter.unusedVariables false
set_option linter.unusedSimpArgs false

attribute [go_sem] cond_false cond_true
/-! each once -/
theorem q8 {H : List Ent} {n : Nat} : co H (.sl n) .nils = .sl n [] := Eq.trans rfl rfl
/-! all variables -/
/-! the program's: a walk that gathers -/
set_option maxRecDepth 4000

/-! the program's -/
abbrev numE (n : Int) : Ent := .blk [.int .i64 n]
def qes (n : Int) (t : Ty) (k : Int) : Int × Bool := (IntKind.i64.wrap (n + 1), decide (IntKind.i64.wrap (n + 1) ≤ 4096) && (decide (k ≤ 100) && mayY t))
theorem qblo (n : Int) (t : Ty) (k : Int) : VM Tryz.prog 72 (numE n) (numE (qes n t k).1) [encY t, .int .i64 k, .ptr 0 0] (.bool (qes n t k).2) := by
 refine qik (by kernel_rfl) fun hw => ?_
 have hk := qcc hw.1
 refine qr c0g 1 (by simp) (by simp) ?_
 repeat' (first | refine vs_ ?_ | ((first | refine vr_ ?_ | refine qa (qgu _) fun _ => ?_ | refine qa (q1r _ _ _) fun _ => ?_ | (refine cs_ ?_ ?_ <;> intro hc) | refine cj_ ?_ | simp (disch := omega) only [encs_getN, qb]) <;> (try refine ev_ ?_)) | with_reducible exact ti_)
 ·simp_all [qes]
 ·exact ⟨rfl, by simp only [qes, *, decide_true, decide_false, Bool.true_and, Bool.false_and]⟩
 ·exact ⟨rfl, by simp only [qes, *, decide_true, decide_false, Bool.true_and, Bool.false_and]⟩
def qqc (n : Int) (_ : Ty) (_ : Int) : Int × Bool := (IntKind.i64.wrap (n + 1), true)
theorem qbsb (n : Int) (t : Ty) (k : Int) : VM Tryz.prog 124 (numE n) (numE (qqc n t k).1) [encY t, .int .i64 k, .ptr 0 0] (.bool (qqc n t k).2) := by
 refine qr c0h 1 (by simp) (by simp) ?_
 repeat' (first | refine vs_ ?_ | ((first | refine vr_ ?_ | (refine cs_ ?_ ?_ <;> intro hc) | refine cj_ ?_ | simp (disch := omega) only [encs_getN, qb]) <;> (try refine ev_ ?_)) | with_reducible exact ti_)
 exact ⟨rfl, rfl⟩
def qou (n : Int) (_ : Ty) (k : Int) : Int × Bool := (if k > n then k else n, true)
theorem qbn9 (n : Int) (t : Ty) (k : Int) : VM Tryz.prog 125 (numE n) (numE (qou n t k).1) [encY t, .int .i64 k, .ptr 0 0] (.bool (qou n t k).2) := by
 refine qr c0i 1 (by simp) (by simp) ?_
 repeat' (first | refine vs_ ?_ | ((first | refine vr_ ?_ | (refine cs_ ?_ ?_ <;> intro hc) | refine cj_ ?_ | fail) <;> (try refine ev_ ?_)) | with_reducible exact ti_)
 exact ⟨rfl, rfl⟩
theorem qlu {f : FuncId} {step : Int → Ty → Int → Int × Bool} (h : ∀ n t k, VM Tryz.prog f (numE n) (numE (step n t k).1) [encY t, .int .i64 k, .ptr 0 0] (.bool (step n t k).2)) (t : Ty) (n k : Int) :
 VM Tryz.prog 71 (numE n) (numE (qci step t n k).1) [encY t, .int .i64 k, .fn f [] [.ptr 0 0]] (.bool (qci step t n k).2) :=
 qtk (st := numE) (ok := fun _ _ => True) (fun _ => rfl) (fun _ _ _ _ _ => trivial) (fun _ _ _ => trivial) (fun n t k _ => h n t k) t n k trivial
def qvm (t : Ty) : Bool := (qci qes t 0 1).2
theorem qo2 (t : Ty) : qg Tryz.prog 47 [encY t] (.bool (qvm t)) := by
 refine qd c0j (by simp) (by simp only [go_sem]) rfl fun hw => ?_
 repeat' (first | refine vs_ ?_ | ((first | refine vr_ ?_ | refine qb6 1 (qlu qblo t 0 1) ?_ | (refine cs_ ?_ ?_ <;> intro hc) | refine cj_ ?_ | fail) <;> (try refine ev_ ?_)) | with_reducible exact ti_)
 rfl
theorem qty (t : Ty) : qg Tryz.prog 108 [encY t] (.int .i64 (qci qqc t 0 1).1) := by
 refine qd c0k (by simp) (by simp only [go_sem]) rfl fun hw => ?_
 repeat' (first | refine vs_ ?_ | ((first | refine vr_ ?_ | refine qb6 1 (qlu qbsb t 0 1) ?_ | (refine cs_ ?_ ?_ <;> intro hc) | refine cj_ ?_ | fail) <;> (try refine ev_ ?_)) | with_reducible exact ti_)
theorem qp8 (t : Ty) : qg Tryz.prog 109 [encY t] (.int .i64 (qci qou t 0 1).1) := by
 refine qd c0l (by simp) (by simp only [go_sem]) rfl fun hw => ?_
 repeat' (first | refine vs_ ?_ | ((first | refine vr_ ?_ | refine qb6 1 (qlu qbn9 t 0 1) ?_ | (refine cs_ ?_ ?_ <;> intro hc) | refine cj_ ?_ | fail) <;> (try refine ev_ ?_)) | with_reducible exact ti_)

/-! the references -/
mutual
def qhz : Ty → Int
 | .mk _ _ l => qel 1 l
def qel : Int → List Ty → Int
 | a, [] => a
 | a, x :: r => qel (IntKind.i64.wrap (a + qhz x)) r
end
theorem qvu (t : Ty) : qhz t = qel 1 t.args := by cases t; rw [qhz]; rfl
theorem qkl : ∀ t, qg Tryz.prog 23 [encY t] (.int .i64 (qhz t)) := by
 refine Ty.ind fun t ih => ?_
 refine qd c0m (by simp) (by simp only [go_sem]) rfl fun hw => ?_
 have hk := qcc hw.1
 repeat' (first | refine vs_ ?_ | ((first | refine vr_ ?_ | (refine cs_ ?_ ?_ <;> intro hc) | refine cj_ ?_ | simp (disch := omega) only [encs_getN, qb]) <;> (try refine ev_ ?_)) | with_reducible exact ti_)
 refine qm (S := Nat × Int) (fun s => s.1 ≤ t.args.length ∧ qel s.2 (t.args.drop s.1) = qhz t) (fun s => (⟨[(1, .ptr 0 0), (3, .int .i64 s.2), (4, .int .i64 s.1)], []⟩, [.blk (yc t)])) (fun s => t.args.length - s.1) ?_ fun s hs => ?_
 ·refine qh (0, 1) [0] ⟨Nat.zero_le _, (qvu t).symm⟩ rfl (by simp) ?_ ?_ ?_ <;> (try refine ev_ ?_) <;> (try with_reducible exact ti_) <;> (try simp (disch := omega) only [qb, and_true, true_and])
 ·obtain ⟨i, a⟩ := s
  obtain ⟨hi, ha⟩ := hs
  dsimp only at hi ha
  repeat' (first | refine vs_ ?_ | ((first | refine vr_ ?_ | fail) <;> (try simp (disch := first | omega | (simp only [List.length_set, List.length_append, List.length_cons, List.length_nil]; done) | (simp only [List.length_set, List.length_append, List.length_cons, List.length_nil]; omega)) only [qs, qb, go_sem, ↓reduceIte])) | ((first | (refine cs_ ?_ ?_ <;> intro hc) | refine cj_ ?_ | simp (disch := omega) only [encs_getN, qb] | refine qa (ih _ (q7 (by omega))) fun _ => ?_) <;> (try refine ev_ ?_)) | with_reducible exact ti_)
  ·refine qh (i + 1, IntKind.i64.wrap (a + qhz (t.args.getD i Y0))) [0] ⟨⟨by dsimp only; omega, ?_⟩, by dsimp only; omega⟩ rfl (by simp) ?_ ?_ ?_ <;> (try refine ev_ ?_) <;> (try with_reducible exact ti_) <;> (try simp (disch := omega) only [qb, and_true, true_and])
   rw [← ha, qmo (l := t.args) (i := i) (by omega), qel]
  ·rw [← ha, List.drop_of_length_le (by omega)]; rfl
mutual
def qlw : Ty → Int
 | .mk _ _ l => IntKind.i64.wrap (qgp 0 l + 1)
def qgp : Int → List Ty → Int
 | a, [] => a
 | a, x :: r => qgp (if qlw x > a then qlw x else a) r
end
theorem q0p (t : Ty) : qlw t = IntKind.i64.wrap (qgp 0 t.args + 1) := by cases t; rw [qlw]; rfl
theorem qp0 : ∀ t, qg Tryz.prog 38 [encY t] (.int .i64 (qlw t)) := by
 refine Ty.ind fun t ih => ?_
 refine qd c0n (by simp) (by simp only [go_sem]) rfl fun hw => ?_
 have hk := qcc hw.1
 repeat' (first | refine vs_ ?_ | ((first | refine vr_ ?_ | (refine cs_ ?_ ?_ <;> intro hc) | refine cj_ ?_ | simp (disch := omega) only [encs_getN, qb]) <;> (try refine ev_ ?_)) | with_reducible exact ti_)
 refine qm (S := Nat × Int) (fun s => s.1 ≤ t.args.length ∧ qgp s.2 (t.args.drop s.1) = qgp 0 t.args) (fun s => (⟨[(1, .ptr 0 0), (3, .int .i64 s.2), (4, .int .i64 s.1)], []⟩, [.blk (yc t)])) (fun s => t.args.length - s.1) ?_ fun s hs => ?_
 ·refine qh (0, 0) [0] ⟨Nat.zero_le _, rfl⟩ rfl (by simp) ?_ ?_ ?_ <;> (try refine ev_ ?_) <;> (try with_reducible exact ti_) <;> (try simp (disch := omega) only [qb, and_true, true_and])
 ·obtain ⟨i, a⟩ := s
  obtain ⟨hi, ha⟩ := hs
  dsimp only at hi ha
  repeat' (first | refine vs_ ?_ | ((first | refine vr_ ?_ | fail) <;> (try simp (disch := first | omega | (simp only [List.length_set, List.length_append, List.length_cons, List.length_nil]; done) | (simp only [List.length_set, List.length_append, List.length_cons, List.length_nil]; omega)) only [qs, qb, go_sem, ↓reduceIte])) | ((first | (refine cs_ ?_ ?_ <;> intro hc) | refine cj_ ?_ | simp (disch := omega) only [encs_getN, qb] | refine qa (ih _ (q7 (by omega))) fun _ => ?_) <;> (try refine ev_ ?_)) | with_reducible exact ti_)
  ·refine qh (i + 1, if qlw (t.args.getD i Y0) > a then qlw (t.args.getD i Y0) else a) [0] ⟨⟨by dsimp only; omega, ?_⟩, by dsimp only; omega⟩ rfl (by simp) ?_ ?_ ?_ <;> (try refine ev_ ?_) <;> (try with_reducible exact ti_) <;> (try simp (disch := omega) only [qb, and_true, true_and])
   rw [← ha, qmo (l := t.args) (i := i) (by omega), qgp]
  ·rw [q0p, ← ha, List.drop_of_length_le (by omega)]; rfl
mutual
def qbn : Ty → Bool
 | .mk c v l => qv l && mayW c v l.length
def qv : List Ty → Bool
 | [] => true
 | x :: r => qbn x && qv r
end
theorem qe0 (t : Ty) : qbn t = (qv t.args && mayY t) := by cases t; rw [qbn]; rfl
theorem qhw {l : List Ty} {i : Nat} (h : i < l.length) : qv (l.drop i) = (qbn (l.getD i Y0) && qv (l.drop (i + 1))) := by rw [qmo h, qv]
theorem qqg : ∀ t, qg Tryz.prog 39 [encY t] (.bool (qbn t)) := by
 refine Ty.ind fun t ih => ?_
 refine qd c0o (by simp) (by simp only [go_sem]) rfl fun hw => ?_
 have hk := qcc hw.1
 repeat' (first | refine vs_ ?_ | ((first | refine vr_ ?_ | (refine cs_ ?_ ?_ <;> intro hc) | refine cj_ ?_ | simp (disch := omega) only [encs_getN, qb]) <;> (try refine ev_ ?_)) | with_reducible exact ti_)
 refine qm (S := Nat) (fun i => i ≤ t.args.length ∧ qv (t.args.drop i) = qv t.args) (fun i => (⟨[(1, .ptr 0 0), (3, .int .i64 i)], []⟩, [.blk (yc t)])) (fun i => t.args.length - i) ?_ fun i hi => ?_
 ·refine qh 0 [0] ⟨Nat.zero_le _, rfl⟩ rfl (by simp) ?_ ?_ ?_ <;> (try refine ev_ ?_) <;> (try with_reducible exact ti_) <;> (try simp (disch := omega) only [qb, and_true, true_and])
 ·obtain ⟨hi, ha⟩ := hi
  rw [qe0]
  repeat' (first | refine vs_ ?_ | ((first | refine vr_ ?_ | fail) <;> (try simp (disch := first | omega | (simp only [List.length_set, List.length_append, List.length_cons, List.length_nil]; done) | (simp only [List.length_set, List.length_append, List.length_cons, List.length_nil]; omega)) only [qs, qb, go_sem, ↓reduceIte])) | ((first | (refine cs_ ?_ ?_ <;> intro hc) | refine cj_ ?_ | simp (disch := omega) only [encs_getN, qb] | refine qa (ih _ (q7 (by omega))) fun _ => ?_ | refine qa (qpw _) fun _ => ?_ | refine qa (qgf _) fun _ => ?_) <;> (try refine ev_ ?_)) | with_reducible exact ti_)
  ·have : qv t.args = false := by rw [← ha, qhw (by omega), hc]; rfl
   rw [this]; rfl
  ·refine qh (i + 1) [0] ⟨⟨by omega, ?_⟩, by omega⟩ rfl (by simp) ?_ ?_ ?_ <;> (try refine ev_ ?_) <;> (try with_reducible exact ti_) <;> (try simp (disch := omega) only [qb, and_true, true_and])
   rw [← ha, qhw (i := i) (by omega), hc, Bool.true_and]
  all_goals
   have hs : qv t.args = true := by rw [← ha, List.drop_of_length_le (by omega)]; rfl
   rw [hs, Bool.true_and, mayY, mayW]
   simp only [arrW, *, if_true, if_false, decide_true, decide_false, Bool.and_true, Bool.and_false, Bool.false_eq_true]
   try rfl
/-! Few -/
mutual
def cntY : Ty → Int → Int → Int
 | .mk _ _ l, k, d => if d < 1 then -1 else qd4 l (IntKind.i64.wrap (k - 1)) d
def qd4 : List Ty → Int → Int → Int
 | [], a, _ => a
 | x :: r, a, d => if 0 ≤ a then qd4 r (cntY x a (IntKind.i64.wrap (d - 1))) d else a
end
theorem qwd (t : Ty) (k d : Int) : cntY t k d = if d < 1 then -1 else qd4 t.args (IntKind.i64.wrap (k - 1)) d := by cases t; rw [cntY]; rfl
theorem qgw {a : Int} (h : a < 0) (l : List Ty) (d : Int) : qd4 l a d = a := by
 cases l with
 | nil => rw [qd4]
 | cons x r => rw [qd4, if_neg (by omega)]
theorem q50 : ∀ t k d, qg Tryz.prog 54 [encY t, .int .i64 k, .int .i64 d] (.int .i64 (cntY t k d)) := by
 refine Ty.ind fun t ih k d => ?_
 refine qd c0p (by simp) (by simp only [go_sem]) rfl fun hw => ?_
 have hk := qcc hw.1
 rw [qwd]
 repeat' (first | refine vs_ ?_ | ((first | refine vr_ ?_ | (refine cs_ ?_ ?_ <;> intro hc) | refine cj_ ?_ | simp (disch := omega) only [encs_getN, qb]) <;> (try refine ev_ ?_)) | with_reducible exact ti_)
 ·rw [if_pos (by assumption)]
 rw [if_neg (by assumption)]
 refine qm (S := Nat × Int) (fun s => s.1 ≤ t.args.length ∧ qd4 (t.args.drop s.1) s.2 d = qd4 t.args (IntKind.i64.wrap (k - 1)) d) (fun s => (⟨[(1, .int .i64 s.2), (2, .int .i64 d), (3, .ptr 0 0), (7, .int .i64 s.1)], []⟩, [.blk (yc t)])) (fun s => t.args.length - s.1) ?_ fun s hs => ?_
 ·refine qh (0, IntKind.i64.wrap (k - 1)) [0] ⟨Nat.zero_le _, rfl⟩ rfl (by simp) ?_ ?_ ?_ <;> (try refine ev_ ?_) <;> (try with_reducible exact ti_) <;> (try simp (disch := omega) only [qb, and_true, true_and])
 ·obtain ⟨i, a⟩ := s
  obtain ⟨hi, ha⟩ := hs
  dsimp only at hi ha
  repeat' (first | refine vs_ ?_ | ((first | refine vr_ ?_ | fail) <;> (try simp (disch := first | omega | (simp only [List.length_set, List.length_append, List.length_cons, List.length_nil]; done) | (simp only [List.length_set, List.length_append, List.length_cons, List.length_nil]; omega)) only [qs, qb, go_sem, ↓reduceIte])) | ((first | (refine cs_ ?_ ?_ <;> intro hc) | refine cj_ ?_ | simp (disch := omega) only [encs_getN, qb] | refine qa (ih _ (q7 (by omega)) _ _) fun _ => ?_) <;> (try refine ev_ ?_)) | with_reducible exact ti_)
  ·refine qh (i + 1, cntY (t.args.getD i Y0) a (IntKind.i64.wrap (d - 1))) [0] ⟨⟨by dsimp only; omega, ?_⟩, by dsimp only; omega⟩ rfl (by simp) ?_ ?_ ?_ <;> (try refine ev_ ?_) <;> (try with_reducible exact ti_) <;> (try simp (disch := omega) only [qb, and_true, true_and])
   rw [← ha, qmo (l := t.args) (i := i) (by omega), qd4, if_pos (by assumption)]
  ·rw [← ha, qgw (by omega)]
  ·rw [← ha, List.drop_of_length_le (by omega)]; rfl
def qj9 (a : Int) : List Ty → Int
 | [] => a
 | x :: r => qj9 (cntY x a 300) r
def qke (l : List Ty) : Bool := decide (0 ≤ qj9 20000 l)
theorem qbse (l : List Ty) : qg Tryz.prog 32 [.sl 3 (qj l)] (.int .i64 (if qke l = true then 1 else 0)) := by
 refine qd c0q (by simp) (by simp only [go_sem]) rfl fun hw => ?_
 have hk : l.length ≤ maxLen := by have := hw.1.1; rwa [qo] at this
 repeat' (first | refine vs_ ?_ | ((first | refine vr_ ?_ | (refine cs_ ?_ ?_ <;> intro hc) | refine cj_ ?_ | simp (disch := omega) only [encs_getN, qb]) <;> (try refine ev_ ?_)) | with_reducible exact ti_)
 refine qm (S := Nat × Int) (fun s => s.1 ≤ l.length ∧ qj9 s.2 (l.drop s.1) = qj9 20000 l) (fun s => (⟨[(0, .sl 3 (qj l)), (3, .int .i64 s.2), (4, .int .i64 s.1)], []⟩, [])) (fun s => l.length - s.1) ?_ fun s hs => ?_
 ·refine qh (0, 20000) [] ⟨Nat.zero_le _, rfl⟩ rfl (by simp) ?_ ?_ ?_ <;> (try refine ev_ ?_) <;> (try with_reducible exact ti_) <;> (try simp (disch := omega) only [qb, and_true, true_and])
 ·obtain ⟨i, a⟩ := s
  obtain ⟨hi, ha⟩ := hs
  dsimp only at hi ha
  repeat' (first | refine vs_ ?_ | ((first | refine vr_ ?_ | fail) <;> (try simp (disch := first | omega | (simp only [List.length_set, List.length_append, List.length_cons, List.length_nil]; done) | (simp only [List.length_set, List.length_append, List.length_cons, List.length_nil]; omega)) only [qs, qb, go_sem, ↓reduceIte])) | ((first | (refine cs_ ?_ ?_ <;> intro hc) | refine cj_ ?_ | simp (disch := omega) only [encs_getN, qb] | refine qa (q50 _ _ _) fun _ => ?_) <;> (try refine ev_ ?_)) | with_reducible exact ti_)
  ·refine qh (i + 1, cntY (l.getD i Y0) a 300) [] ⟨⟨by dsimp only; omega, ?_⟩, by dsimp only; omega⟩ rfl (by simp) ?_ ?_ ?_ <;> (try refine ev_ ?_) <;> (try with_reducible exact ti_) <;> (try simp (disch := omega) only [qb, and_true, true_and])
   rw [← ha, qmo (l := l) (i := i) (by omega), qj9]
  all_goals
   have hf : qj9 20000 l = a := by rw [← ha, List.drop_of_length_le (by omega)]; rfl
   rw [qke, hf]
  ·rw [if_neg (by simp; omega)]
  ·rw [if_pos (by simp; omega)]

/-! the laws of sizes -/
mutual
theorem qw1 : ∀ (t : Ty) (k d : Int), 0 ≤ k → k ≤ 20000 → d ≤ 300 → 0 ≤ cntY t k d → cntY t k d = k - szY t ∧ (dpY t : Int) ≤ d
 | .mk c v l, k, d, h0, h1, h2, h3 => by
   rw [cntY] at h3 ⊢
   by_cases hd : d < 1
   ·rw [if_pos hd] at h3; omega
   ·rw [if_neg hd] at h3 ⊢
    have hk : IntKind.i64.wrap (k - 1) = k - 1 := qt (by omega) (by omega)
    rw [hk] at h3 ⊢
    have h4 : 0 ≤ k - 1 := by
     by_cases h : 0 ≤ k - 1
     ·exact h
     ·rw [qgw (by omega)] at h3; exact h3
    have := qrc l (k - 1) d h4 (by omega) (by omega) h2 h3
    rw [szY, dpY]
    omega
theorem qrc : ∀ (l : List Ty) (a d : Int), 0 ≤ a → a ≤ 20000 → 1 ≤ d → d ≤ 300 → 0 ≤ qd4 l a d → qd4 l a d = a - szYs l ∧ (dpYs l : Int) ≤ d - 1
 | [], a, d, h0, h1, h2, h3, h4 => by rw [qd4, szYs, dpYs]; omega
 | x :: r, a, d, h0, h1, h2, h3, h4 => by
   rw [qd4, if_pos h0] at h4 ⊢
   have hd : IntKind.i64.wrap (d - 1) = d - 1 := qt (by omega) (by omega)
   rw [hd] at h4 ⊢
   have h5 : 0 ≤ cntY x a (d - 1) := by
    by_cases h : 0 ≤ cntY x a (d - 1)
    ·exact h
    ·rw [qgw (by omega)] at h4; exact absurd h4 h
   obtain ⟨h6, h7⟩ := qw1 x a (d - 1) h0 h1 (by omega) h5
   obtain ⟨h8, h9⟩ := qrc r _ d h5 (by omega) h2 h3 h4
   rw [szYs, dpYs]
   omega
end
mutual
theorem qvk : ∀ (t : Ty) (k d : Int), 0 ≤ k → k ≤ 20000 → -1 ≤ cntY t k d
 | .mk c v l, k, d, h0, h1 => by
   rw [cntY]
   split
   ·omega
   ·rw [qt (z := k - 1) (by omega) (by omega)]
    exact qvq l (k - 1) d (by omega) (by omega)
theorem qvq : ∀ (l : List Ty) (a d : Int), -1 ≤ a → a ≤ 20000 → -1 ≤ qd4 l a d
 | [], a, d, h0, _ => by rw [qd4]; exact h0
 | x :: r, a, d, h0, h1 => by
   rw [qd4]
   split
   ·rename_i h
    have h2 := qvk x a (IntKind.i64.wrap (d - 1)) h h1
    have h3 := q4n x a (IntKind.i64.wrap (d - 1)) h h1
    exact qvq r _ d h2 (by omega)
   ·exact h0
theorem q4n : ∀ (t : Ty) (k d : Int), 0 ≤ k → k ≤ 20000 → cntY t k d ≤ k
 | .mk c v l, k, d, h0, h1 => by
   rw [cntY]
   split
   ·omega
   ·rw [qt (z := k - 1) (by omega) (by omega)]
    have := qx7 l (k - 1) d (by omega) (by omega)
    omega
theorem qx7 : ∀ (l : List Ty) (a d : Int), -1 ≤ a → a ≤ 20000 → qd4 l a d ≤ a
 | [], a, d, h0, _ => by rw [qd4]; exact Int.le_refl _
 | x :: r, a, d, h0, h1 => by
   rw [qd4]
   split
   ·rename_i h
    have h2 := qvk x a (IntKind.i64.wrap (d - 1)) h h1
    have h3 := q4n x a (IntKind.i64.wrap (d - 1)) h h1
    have := qx7 r _ d h2 (by omega)
    omega
   ·exact Int.le_refl _
end
theorem qrr : ∀ (l : List Ty) {a : Int}, a < 0 → -9223372036854775808 ≤ a - l.length → qj9 a l < 0
 | [], a, h, _ => h
 | x :: r, a, h, h2 => by
   rw [qj9]
   have h3 : cntY x a 300 = IntKind.i64.wrap (a - 1) := by
    rw [qwd, if_neg (by omega)]
    have hk : IntKind.i64.wrap (a - 1) = a - 1 := qt (by simp only [List.length_cons] at h2; omega) (by omega)
    rw [hk, qgw (by omega)]
   have hk : IntKind.i64.wrap (a - 1) = a - 1 := qt (by simp only [List.length_cons] at h2; omega) (by omega)
   rw [h3, hk]
   exact qrr r (by omega) (by simp only [List.length_cons] at h2; omega)
theorem qq9 : ∀ (l : List Ty) (a : Int), 0 ≤ a → a ≤ 20000 → l.length ≤ 9223372036854775807 → 0 ≤ qj9 a l → (szYs l : Int) ≤ a ∧ (dpYs l : Int) ≤ 300
 | [], a, h0, h1, _, h2 => by rw [szYs, dpYs]; omega
 | x :: r, a, h0, h1, hl, h2 => by
   rw [qj9] at h2
   simp only [List.length_cons] at hl
   have h5 : 0 ≤ cntY x a 300 := by
    by_cases h : 0 ≤ cntY x a 300
    ·exact h
    ·have : -1 ≤ cntY x a 300 := qvk x a 300 h0 h1
     have := qrr r (a := cntY x a 300) (by omega) (by omega)
     omega
   obtain ⟨h6, h7⟩ := qw1 x a 300 h0 h1 (by omega) h5
   obtain ⟨h8, h9⟩ := qq9 r _ h5 (by omega) (by omega) h2
   rw [szYs, dpYs]
   omega
theorem quw {l : List Ty} (hl : l.length ≤ maxLen) (h : qke l = true) : szYs l ≤ 20000 ∧ dpYs l ≤ 300 := by
 have := qq9 l 20000 (by omega) (by omega) (by unfold maxLen at hl; omega) (by simpa [qke] using h)
 omega

mutual
theorem qhd : ∀ (t : Ty), szY t ≤ 1000000 → qhz t = szY t
 | .mk c v l, h => by
   rw [szY] at h
   rw [qhz, szY, qij l 1 (by omega) (by omega)]
   omega
theorem qij : ∀ (l : List Ty) (a : Int), 1 ≤ a → a + szYs l ≤ 1000001 → qel a l = a + szYs l
 | [], a, _, _ => by rw [qel, szYs]; omega
 | x :: r, a, h0, h => by
   rw [szYs] at h
   rw [qel, qhd x (by omega), qt (by omega) (by omega), qij r _ (by omega) (by omega), szYs]
   omega
end
mutual
theorem qoy : ∀ (t : Ty), dpY t ≤ 1000000 → qlw t = dpY t
 | .mk c v l, h => by
   rw [dpY] at h
   rw [qlw, dpY, qkk l 0 (by omega) (by omega), qt (by omega) (by omega)]
   omega
theorem qkk : ∀ (l : List Ty) (a : Int), dpYs l ≤ 1000000 → 0 ≤ a → qgp a l = max a (dpYs l)
 | [], a, _, _ => by rw [qgp, dpYs]; omega
 | x :: r, a, h, h0 => by
   rw [dpYs] at h
   have h1 := qoy x (by omega)
   rw [qgp, h1]
   have h2 : (if (dpY x : Int) > a then (dpY x : Int) else a) = max a (dpY x) := by split <;> omega
   rw [h2, qkk r _ (by omega) (by omega), dpYs]
   omega
end
mutual
theorem qm8 : ∀ (t : Ty) (n k : Int), 0 ≤ n → n + szY t ≤ 1000000 → qci qqc t n k = (n + szY t, true)
 | .mk c v l, n, k, h0, h => by
   rw [szY] at h
   rw [qci, if_pos (show (qqc n (.mk c v l) k).2 = true from rfl)]
   have h1 : (qqc n (.mk c v l) k).1 = n + 1 := qt (by omega) (by omega)
   rw [h1, qle l _ _ (by omega) (by omega), szY]
   congr 1; omega
theorem qle : ∀ (l : List Ty) (n k : Int), 0 ≤ n → n + szYs l ≤ 1000000 → qby qqc l n k = (n + szYs l, true)
 | [], n, k, _, _ => by rw [qby, szYs]; congr 1; omega
 | x :: r, n, k, h0, h => by
   rw [szYs] at h
   rw [qby, qm8 x n k h0 (by omega), if_pos rfl, qle r _ k (by omega) (by omega), szYs]
   congr 1; omega
end
mutual
theorem qn5 : ∀ (t : Ty) (n k : Int), 0 ≤ n → 1 ≤ k → k + dpY t ≤ 1000000 → qci qou t n k = (max n (k + dpY t - 1), true)
 | .mk c v l, n, k, h0, h1, h => by
   rw [dpY] at h
   rw [qci, if_pos (show (qou n (.mk c v l) k).2 = true from rfl)]
   have h2 : (qou n (.mk c v l) k).1 = max n k := by simp only [qou]; split <;> omega
   rw [h2, qt (z := k + 1) (by omega) (by omega), qkx l _ _ (by omega) (by omega) (by omega), dpY]
   congr 1; split <;> omega
theorem qkx : ∀ (l : List Ty) (n k : Int), 0 ≤ n → 1 ≤ k → k + dpYs l ≤ 1000000 → qby qou l n k = (if dpYs l = 0 then n else max n (k + dpYs l - 1), true)
 | [], n, k, _, _, _ => by rw [qby, dpYs, if_pos rfl]
 | x :: r, n, k, h0, h1, h => by
   rw [dpYs] at h
   have hp := q43 x
   rw [qby, qn5 x n k h0 h1 (by omega), if_pos rfl, qkx r _ k (by omega) h1 (by omega), dpYs]
   congr 1
   rw [if_neg (by omega : ¬ max (dpY x) (dpYs r) = 0)]
   split <;> omega
end
mutual
theorem qnc : ∀ (t : Ty) (n k : Int), 0 ≤ n → n + szY t ≤ 1000000 → 1 ≤ k → k + dpY t ≤ 1000000 →
 ((qci qes t n k).2 = true ↔ n + szY t ≤ 4096 ∧ k + dpY t - 1 ≤ 100 ∧ qbn t = true) ∧ ((qci qes t n k).2 = true → (qci qes t n k).1 = n + szY t)
 | .mk c v l, n, k, h0, h1, h2, h3 => by
   rw [szY] at h1
   rw [dpY] at h3
   have e1 : IntKind.i64.wrap (n + 1) = n + 1 := qt (by omega) (by omega)
   have e2 : IntKind.i64.wrap (k + 1) = k + 1 := qt (by omega) (by omega)
   have e3 : (qes n (.mk c v l) k).1 = n + 1 := e1
   have e4 : (qes n (.mk c v l) k).2 = true ↔ n + 1 ≤ 4096 ∧ k ≤ 100 ∧ mayW c v l.length = true := by
    simp only [qes, e1, Bool.and_eq_true, decide_eq_true_eq]; rfl
   rw [qci, szY, dpY, qbn]
   by_cases hs : (qes n (.mk c v l) k).2 = true
   ·rw [if_pos hs, e3, e2]
    obtain ⟨q1, q2, q3⟩ := e4.1 hs
    obtain ⟨r1, r2⟩ := qk9 l (n + 1) (k + 1) (by omega) (by omega) (by omega) (by omega) (by omega) (by omega)
    refine ⟨?_, fun h => by rw [r2 h]; omega⟩
    rw [r1, q3, Bool.and_true]
    constructor
    ·rintro ⟨a1, a2, a3⟩; exact ⟨by omega, by omega, a3⟩
    ·rintro ⟨a1, a2, a3⟩; exact ⟨by omega, by omega, a3⟩
   ·rw [if_neg hs]
    refine ⟨⟨fun h => (by cases h), fun ⟨a1, a2, a3⟩ => absurd (e4.2 ⟨by omega, by omega, (by rw [Bool.and_eq_true] at a3; exact a3.2)⟩) hs⟩, fun h => by cases h⟩
theorem qk9 : ∀ (l : List Ty) (n k : Int), 0 ≤ n → n + szYs l ≤ 1000000 → 1 ≤ k → k + dpYs l ≤ 1000000 → n ≤ 4096 → k - 1 ≤ 100 →
 ((qby qes l n k).2 = true ↔ n + szYs l ≤ 4096 ∧ k + dpYs l - 1 ≤ 100 ∧ qv l = true) ∧ ((qby qes l n k).2 = true → (qby qes l n k).1 = n + szYs l)
 | [], n, k, h0, h1, h2, h3, h4, h5 => by
   rw [qby, szYs, dpYs, qv]
   exact ⟨⟨fun _ => ⟨by omega, by omega, rfl⟩, fun _ => rfl⟩, fun _ => by simp⟩
 | x :: r, n, k, h0, h1, h2, h3, h4, h5 => by
   rw [szYs] at h1
   rw [dpYs] at h3
   obtain ⟨q1, q2⟩ := qnc x n k h0 (by omega) h2 (by omega)
   rw [qby, szYs, dpYs, qv]
   by_cases hs : (qci qes x n k).2 = true
   ·rw [if_pos hs, q2 hs]
    obtain ⟨a1, a2, a3⟩ := q1.1 hs
    obtain ⟨r1, r2⟩ := qk9 r (n + szY x) k (by omega) (by omega) h2 (by omega) (by omega) h5
    refine ⟨?_, fun h => by rw [r2 h]; omega⟩
    rw [r1, a3, Bool.true_and]
    constructor
    ·rintro ⟨b1, b2, b3⟩; exact ⟨by omega, by omega, b3⟩
    ·rintro ⟨b1, b2, b3⟩; exact ⟨by omega, by omega, b3⟩
   ·rw [if_neg hs]
    refine ⟨⟨fun h => (by cases h), fun ⟨a1, a2, a3⟩ => absurd (q1.2 ⟨by omega, by omega, ?_⟩) hs⟩, fun h => by cases h⟩
    rw [Bool.and_eq_true] at a3
    exact a3.1
end
def qy (t : Ty) : Bool := decide (szY t ≤ 4096) && (decide (dpY t ≤ 100) && qbn t)
theorem qve {t : Ty} (h1 : szY t ≤ 20000) (h2 : dpY t ≤ 300) : qvm t = qy t := by
 have := (qnc t 0 1 (by omega) (by omega) (by omega) (by omega)).1
 rw [qvm, Bool.eq_iff_iff, this, qy, Bool.and_eq_true, Bool.and_eq_true, decide_eq_true_eq, decide_eq_true_eq]
 constructor
 ·rintro ⟨a1, a2, a3⟩; exact ⟨by omega, by omega, a3⟩
 ·rintro ⟨a1, a2, a3⟩; exact ⟨by omega, by omega, a3⟩
theorem qfp {t : Ty} (h1 : szY t ≤ 20000) (h2 : dpY t ≤ 300) : qg Tryz.prog 20 [encY t] (.bool (qy t)) := by
 refine qd c0r (by simp) (by simp only [go_sem]) rfl fun hw => ?_
 have e1 := qkl t
 have e2 := qp0 t
 rw [qhd t (by omega)] at e1
 rw [qoy t (by omega)] at e2
 repeat' (first | refine vs_ ?_ | ((first | refine vr_ ?_ | refine qa e1 fun _ => ?_ | refine qa e2 fun _ => ?_ | refine qa (qqg t) fun _ => ?_ | (refine cs_ ?_ ?_ <;> intro hc) | refine cj_ ?_ | fail) <;> (try refine ev_ ?_)) | with_reducible exact ti_)
 all_goals
  rw [qy]
 ·rw [decide_eq_true (by omega), decide_eq_true (by omega)]; rfl
 ·rw [decide_eq_false (p := dpY t ≤ 100) (by omega), Bool.false_and, Bool.and_false]
 ·rw [decide_eq_false (p := szY t ≤ 4096) (by omega)]; rfl
theorem qcp {t : Ty} (h1 : szY t ≤ 20000) (h2 : dpY t ≤ 300) : qg Tryz.prog 47 [encY t] (.bool (qy t)) := by
 rw [← qve h1 h2]; exact qo2 t
set_option maxRecDepth 4000

theorem qmt {t a b : Ty} (h1 : t.con = arrW) (h2 : t.args = [a, b]) : txtY t = parW (decide (a.con = arrW)) (txtY a) ++ ([32, 45, 62, 32] ++ txtY b) := by
 cases t with
 | mk c v l =>
   have h1' : c = arrW := h1
   have h2' : l = [a, b] := h2
   subst h1' h2'
   rw [txtY, if_pos rfl]
theorem qib {t : Ty} (h1 : ¬ t.con = arrW) : txtY t = qd1 t ++ argY t.args := by
 cases t with
 | mk c v l =>
   have h1' : ¬ c = arrW := h1
   rcases l with _ | ⟨a, _ | ⟨b, _ | ⟨d, r⟩⟩⟩ <;> (simp only [txtY, if_neg h1']; rfl)
theorem qd0 (l : List Ty) (i : Nat) (h : i < l.length) : argY (l.take (i + 1)) = argY (l.take i) ++ (32 :: parW (decide ((l.getD i Y0).args ≠ [])) (txtY (l.getD i Y0))) := by
 have h1 : l.take (i + 1) = l.take i ++ [l.getD i Y0] := by
  rw [List.take_add_one, List.getD_eq_getElem?_getD, List.getElem?_eq_getElem h]; rfl
 rw [h1]
 generalize l.take i = a
 generalize l.getD i Y0 = x
 induction a with
 | nil => simp [argY]
 | cons y a ih => simp only [List.cons_append, argY, ih, List.append_assoc]
theorem qcz (l : List Ty) (i : Nat) : (argY (l.take i)).length ≤ (argY l).length := by
 induction l generalizing i with
 | nil => simp
 | cons x r ih =>
   cases i with
   | zero => simp [argY]
   | succ i => rw [List.take_succ_cons, argY, argY, List.length_append, List.length_append]; have := ih i; omega
theorem qin {t : Ty} (h : qbn t = true) (h1 : t.con = arrW) : ∃ a b, t.args = [a, b] ∧ qbn a = true ∧ qbn b = true := by
 rw [qe0, Bool.and_eq_true] at h
 obtain ⟨h2, h3⟩ := h
 rw [mayY, mayW, h1, if_neg (by decide), if_pos rfl, Bool.and_eq_true, decide_eq_true_eq, decide_eq_true_eq] at h3
 have hl : t.args.length = 2 := by omega
 obtain ⟨a, b, hab⟩ : ∃ a b, t.args = [a, b] := by
  match hh : t.args, hl with
  | [a, b], _ => exact ⟨a, b, rfl⟩
 rw [hab] at h2
 simp only [qv, Bool.and_eq_true] at h2
 exact ⟨a, b, hab, h2.1, h2.2.1⟩
theorem qyf {t : Ty} (h : qbn t = true) (h1 : t.con = []) : t.args = [] := by
 rw [qe0, Bool.and_eq_true] at h
 have h3 := h.2
 rw [mayY, mayW, h1, if_pos rfl, decide_eq_true_eq] at h3
 exact List.length_eq_zero_iff.1 (by omega)
theorem qir {t x : Ty} (h : qbn t = true) (hx : x ∈ t.args) : qbn x = true := by
 rw [qe0, Bool.and_eq_true] at h
 have h2 := h.1
 generalize t.args = l at hx h2
 induction l with
 | nil => cases hx
 | cons y r ih =>
   rw [qv, Bool.and_eq_true] at h2
   rcases List.mem_cons.1 hx with rfl | hx
   ·exact h2.1
   ·exact ih hx h2.2
theorem qc1 (b : Bool) (s : List UInt8) : s.length ≤ (parW b s).length ∧ (parW b s).length ≤ s.length + 2 := by
 rw [parW]; split <;> simp <;> omega
def Big : Nat := 140737488355328
theorem ql {n : Nat} (h : n ≤ Big) : n ≤ maxLen := by unfold Big at h; unfold maxLen; omega

theorem qd8 {a : Ty} (h : qg Tryz.prog 53 [encY a] (.str (txtY a))) (hl : (txtY a).length + 2 ≤ Big) : qg Tryz.prog 31 [encY a] (.str (parW (decide (a.args ≠ [])) (txtY a))) := by
 refine qd c0e (by simp) (by simp only [go_sem]) rfl fun hw => ?_
 have h1 : 1 + (txtY a).length ≤ maxLen := ql (by omega)
 have h2 : (txtY a).length + 1 + 1 ≤ maxLen := ql (by omega)
 repeat' (first | refine vs_ ?_ | ((first | refine vr_ ?_ | refine qa h fun _ => ?_ | (refine cs_ ?_ ?_ <;> intro hc) | refine cj_ ?_ | simp (disch := omega) only [encs_getN, qb]) <;> (try refine ev_ ?_)) | with_reducible exact ti_)
 ·have hne : a.args ≠ [] := fun h => by rw [h] at hc; simp at hc
  rw [parW, if_pos (by simp [hne])]
 ·have hne : a.args = [] := List.length_eq_zero_iff.1 (by omega)
  rw [parW, if_neg (by simp [hne])]
theorem q4l {v : Int} (h : (Lit.int .i64 v).wf = true) (h0 : v < 0) : IntKind.i64.wrap (-1 - v) = -1 - v := by
 have := qgt h
 exact qt (by omega) (by omega)
theorem qk5 : ∀ t, qbn t = true → (txtY t).length ≤ Big → qg Tryz.prog 53 [encY t] (.str (txtY t)) := by
 refine Ty.ind fun t ih hs hl => ?_
 refine qd c0f (by simp) (by simp only [go_sem]) rfl fun hw => ?_
 obtain ⟨hk, _, hv, _⟩ := (qhl t).1 hw.1
 by_cases hc0 : t.con = []
 ·have hn : ¬ t.con = arrW := by rw [hc0]; decide
  have ha := qyf hs hc0
  rw [qib hn, ha] at hl ⊢
  by_cases h0 : 0 ≤ t.var
  ·repeat' (first | refine vs_ ?_ | ((first | refine vr_ ?_ | fail) <;> (try simp only [hc0, h0, go_sem, ↓reduceIte])) | ((first | (refine cs_ ?_ ?_ <;> intro hc) | refine cj_ ?_ | simp (disch := omega) only [encs_getN, qb] | refine qa (qow _) fun _ => ?_) <;> (try refine ev_ ?_)) | with_reducible exact ti_)
   rw [qd1, if_pos hc0, if_pos h0, argY, List.append_nil]
  ·have hneg := q4l hv (by omega)
   have hd := qq6 (n := -1 - t.var) (by have := qgt hv; simp [Lit.wf, IntKind.min, IntKind.max, IntKind.signed, IntKind.bits]; omega)
   have hm : 1 + (digI (-1 - t.var)).length ≤ maxLen := by unfold maxLen; omega
   repeat' (first | refine vs_ ?_ | ((first | refine vr_ ?_ | fail) <;> (try simp only [hc0, h0, hneg, go_sem, ↓reduceIte])) | ((first | (refine cs_ ?_ ?_ <;> intro hc) | refine cj_ ?_ | simp (disch := omega) only [encs_getN, qb] | refine qa (qe8 _) fun _ => ?_) <;> (try refine ev_ ?_)) | with_reducible exact ti_)
   rw [qd1, if_pos hc0, if_neg h0, argY, List.append_nil]
 ·by_cases hca : t.con = arrW
  ·obtain ⟨a, b, hab, sa, sb⟩ := qin hs hca
   have e := qmt hca hab
   have hlen := congrArg List.length e
   simp only [List.length_append, List.length_cons, List.length_nil] at hlen
   have hp := qc1 (decide (a.con = arrW)) (txtY a)
   have iha := ih a (by rw [hab]; simp) sa (by omega)
   have ihb := ih b (by rw [hab]; simp) sb (by omega)
   have e0 : (qj t.args).getD 0 .junk = encY a := by rw [hab]; rfl
   have e1 : (qj t.args).getD 1 .junk = encY b := by rw [hab]; rfl
   have e2 : t.args.length = 2 := by rw [hab]; rfl
   have hca' : t.con = [45, 62] := hca
   have hc1 : ¬ ([45, 62] : List UInt8) = [] := by decide
   by_cases haa : a.con = [45, 62]
   ·rw [decide_eq_true (show a.con = arrW from haa), parW, if_pos rfl] at e hlen
    simp only [List.length_append, List.length_cons, List.length_nil] at hlen
    have m1 : 1 + (txtY a).length ≤ maxLen := ql (by omega)
    have m2 : (txtY a).length + 1 + 1 ≤ maxLen := ql (by omega)
    have m3 : (txtY a).length + 1 + 1 + 4 ≤ maxLen := ql (by omega)
    have m4 : (txtY a).length + 1 + 1 + 4 + (txtY b).length ≤ maxLen := ql (by omega)
    repeat' (first | refine vs_ ?_ | ((first | refine vr_ ?_ | fail) <;> (try simp only [hca', hc1, e0, e1, e2, haa, go_sem, ↓reduceIte])) | ((first | (refine cs_ ?_ ?_ <;> intro hc) | refine cj_ ?_ | simp (disch := omega) only [encs_getN, qb] | refine qa iha fun _ => ?_ | refine qa ihb fun _ => ?_) <;> (try refine ev_ ?_)) | with_reducible exact ti_)
    rw [e]; simp
   ·rw [decide_eq_false (show ¬ a.con = arrW from haa), parW, if_neg (by simp)] at e hlen
    have m3 : (txtY a).length + 4 ≤ maxLen := ql (by omega)
    have m4 : (txtY a).length + 4 + (txtY b).length ≤ maxLen := ql (by omega)
    repeat' (first | refine vs_ ?_ | ((first | refine vr_ ?_ | fail) <;> (try simp only [hca', hc1, e0, e1, e2, haa, go_sem, ↓reduceIte])) | ((first | (refine cs_ ?_ ?_ <;> intro hc) | refine cj_ ?_ | simp (disch := omega) only [encs_getN, qb] | refine qa iha fun _ => ?_ | refine qa ihb fun _ => ?_) <;> (try refine ev_ ?_)) | with_reducible exact ti_)
    rw [e]; simp
  ·have e := qib hca
   have hn : qd1 t = t.con := by rw [qd1, if_neg hc0]
   have hca' : ¬ t.con = [45, 62] := hca
   have hlen := congrArg List.length e
   rw [List.length_append, hn] at hlen
   have ihA : ∀ i, i < t.args.length → qg Tryz.prog 31 [encY (t.args.getD i Y0)] (.str (parW (decide ((t.args.getD i Y0).args ≠ [])) (txtY (t.args.getD i Y0)))) := fun i hi => by
    have hm := q7 hi
    have h1 := qd0 t.args i hi
    have h2 := congrArg List.length h1
    simp only [List.length_append, List.length_cons] at h2
    have h3 := qcz t.args (i + 1)
    have h4 := qc1 (decide ((t.args.getD i Y0).args ≠ [])) (txtY (t.args.getD i Y0))
    have h5 : 1 ≤ t.con.length := by cases hh : t.con with | nil => exact absurd hh hc0 | cons _ _ => simp
    exact qd8 (ih _ hm (qir hs hm) (by omega)) (by omega)
   have htk : ∀ i, i < t.args.length → t.con.length + (argY (t.args.take i)).length + ((parW (decide ((t.args.getD i Y0).args ≠ [])) (txtY (t.args.getD i Y0))).length + 1) ≤ Big := fun i hi => by
    have h1 := qd0 t.args i hi
    have h2 := congrArg List.length h1
    simp only [List.length_append, List.length_cons] at h2
    have h3 := qcz t.args (i + 1)
    omega
   repeat' (first | refine vs_ ?_ | ((first | refine vr_ ?_ | fail) <;> (try simp only [hc0, hca', go_sem, ↓reduceIte])) | ((first | (refine cs_ ?_ ?_ <;> intro hc) | refine cj_ ?_ | simp (disch := omega) only [encs_getN, qb]) <;> (try refine ev_ ?_)) | with_reducible exact ti_)
   refine qm (S := Nat) (fun i => i ≤ t.args.length) (fun i => (⟨[(1, .ptr 0 0), (4, .str (t.con ++ argY (t.args.take i))), (5, .int .i64 i)], []⟩, [.blk (yc t)])) (fun i => t.args.length - i) ?_ fun i hi => ?_
   ·refine qh 0 [0] (Nat.zero_le _) rfl (by simp) ?_ ?_ ?_ <;> simp only [List.take_zero, argY, List.append_nil] <;> (try refine ev_ ?_) <;> (try with_reducible exact ti_) <;> (try simp (disch := omega) only [qb, and_true, true_and])
   ·by_cases hlt : i < t.args.length
    ·have hb := htk i hlt
     have m1 : 1 + (parW (decide ((t.args.getD i Y0).args ≠ [])) (txtY (t.args.getD i Y0))).length ≤ maxLen := ql (by omega)
     have m2 : t.con.length + (argY (t.args.take i)).length + ((parW (decide ((t.args.getD i Y0).args ≠ [])) (txtY (t.args.getD i Y0))).length + 1) ≤ maxLen := ql hb
     repeat' (first | refine vs_ ?_ | ((first | refine vr_ ?_ | fail) <;> (try simp (disch := first | omega | (simp only [List.length_set, List.length_append, List.length_cons, List.length_nil]; done) | (simp only [List.length_set, List.length_append, List.length_cons, List.length_nil]; omega)) only [qs, qb, go_sem, ↓reduceIte])) | ((first | (refine cs_ ?_ ?_ <;> intro hc) | refine cj_ ?_ | simp (disch := omega) only [encs_getN, qb] | refine qa (ihA i hlt) fun _ => ?_) <;> (try refine ev_ ?_)) | with_reducible exact ti_)
     ·refine qh (i + 1) [0] ⟨by omega, by omega⟩ rfl (by simp) ?_ ?_ ?_ <;> simp only [qd0 _ _ hlt] <;> (try refine ev_ ?_) <;> (try with_reducible exact ti_) <;> (try simp (disch := omega) only [qb, and_true, true_and])
     ·omega
    ·repeat' (first | refine vs_ ?_ | ((first | refine vr_ ?_ | (refine cs_ ?_ ?_ <;> intro hc) | refine cj_ ?_ | simp (disch := omega) only [encs_getN, qb]) <;> (try refine ev_ ?_)) | with_reducible exact ti_)
     ·omega
     ·rw [e, hn, List.take_of_length_le (by omega)]
end Go.Proofs.YtbbjelfnocmaoaaGreat
