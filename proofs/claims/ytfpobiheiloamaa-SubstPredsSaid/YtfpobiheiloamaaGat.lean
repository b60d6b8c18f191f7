/- Texts of this proof, joined. -/
import Derived.Test.YtfpobiheiloamaaGaq

/- terms: how great, how deep, whether a type is one; Few -/
set_option maxRecDepth 4000
namespace Go.Proofs.Ytfpobiheiloamaa
open Go Go.RowKit Go.V
set_option linter.unusedVariables false
set_option linter.unusedSimpArgs false

/-! the program's -/
abbrev numE (n : Int) : Ent := .blk [.int .i64 n]
def qdx (n : Int) (t : Ty) (k : Int) : Int × Bool := (IntKind.i64.wrap (n + 1), decide (IntKind.i64.wrap (n + 1) ≤ 4096) && (decide (k ≤ 100) && mayY t))
theorem qbiu (n : Int) (t : Ty) (k : Int) : VM Try.prog 87 (numE n) (numE (qdx n t k).1) [encY t, .int .i64 k, .ptr 0 0] (.bool (qdx n t k).2) := by
 refine qhz (by kernel_rfl) fun hw => ?_
 have hk := qb1 hw.1
 refine qp c0by 1 (by simp) (by simp) ?_
 repeat' (first | refine vs_ ?_ | ((first | refine vr_ ?_ | refine qa (qfj _) fun _ => ?_ | refine qa (qyf _ _ _) fun _ => ?_ | (refine cs_ ?_ ?_ <;> intro hc) | refine cj_ ?_ | simp (disch := omega) only [encs_getN, qb]) <;> (try refine ev_ ?_)) | with_reducible exact ti_)
 ·simp_all [qdx]
 ·exact ⟨rfl, by simp only [qdx, *, decide_true, decide_false, Bool.true_and, Bool.false_and]⟩
 ·exact ⟨rfl, by simp only [qdx, *, decide_true, decide_false, Bool.true_and, Bool.false_and]⟩
def qnl (n : Int) (_ : Ty) (_ : Int) : Int × Bool := (IntKind.i64.wrap (n + 1), true)
theorem qbjq (n : Int) (t : Ty) (k : Int) : VM Try.prog 131 (numE n) (numE (qnl n t k).1) [encY t, .int .i64 k, .ptr 0 0] (.bool (qnl n t k).2) := by
 refine qp c0bz 1 (by simp) (by simp) ?_
 repeat' (first | refine vs_ ?_ | ((first | refine vr_ ?_ | (refine cs_ ?_ ?_ <;> intro hc) | refine cj_ ?_ | simp (disch := omega) only [encs_getN, qb]) <;> (try refine ev_ ?_)) | with_reducible exact ti_)
 exact ⟨rfl, rfl⟩
def qll (n : Int) (_ : Ty) (k : Int) : Int × Bool := (if k > n then k else n, true)
theorem qbeg (n : Int) (t : Ty) (k : Int) : VM Try.prog 132 (numE n) (numE (qll n t k).1) [encY t, .int .i64 k, .ptr 0 0] (.bool (qll n t k).2) := by
 refine qp c0ca 1 (by simp) (by simp) ?_
 repeat' (first | refine vs_ ?_ | ((first | refine vr_ ?_ | (refine cs_ ?_ ?_ <;> intro hc) | refine cj_ ?_ | fail) <;> (try refine ev_ ?_)) | with_reducible exact ti_)
 exact ⟨rfl, rfl⟩
theorem qkl {f : FuncId} {step : Int → Ty → Int → Int × Bool} (h : ∀ n t k, VM Try.prog f (numE n) (numE (step n t k).1) [encY t, .int .i64 k, .ptr 0 0] (.bool (step n t k).2)) (t : Ty) (n k : Int) :
 VM Try.prog 86 (numE n) (numE (qb6 step t n k).1) [encY t, .int .i64 k, .fn f [] [.ptr 0 0]] (.bool (qb6 step t n k).2) :=
 qru (st := numE) (ok := fun _ _ => True) (fun _ => rfl) (fun _ _ _ _ _ => trivial) (fun _ _ _ => trivial) (fun n t k _ => h n t k) t n k trivial
def qvc (t : Ty) : Bool := (qb6 qdx t 0 1).2
theorem qnb (t : Ty) : qn Try.prog 48 [encY t] (.bool (qvc t)) := by
 refine qe c0cb (by simp) (by simp only [go_sem]) rfl fun hw => ?_
 repeat' (first | refine vs_ ?_ | ((first | refine vr_ ?_ | refine qco 1 (qkl qbiu t 0 1) ?_ | (refine cs_ ?_ ?_ <;> intro hc) | refine cj_ ?_ | fail) <;> (try refine ev_ ?_)) | with_reducible exact ti_)
 rfl
theorem qqz (t : Ty) : qn Try.prog 110 [encY t] (.int .i64 (qb6 qnl t 0 1).1) := by
 refine qe c0cc (by simp) (by simp only [go_sem]) rfl fun hw => ?_
 repeat' (first | refine vs_ ?_ | ((first | refine vr_ ?_ | refine qco 1 (qkl qbjq t 0 1) ?_ | (refine cs_ ?_ ?_ <;> intro hc) | refine cj_ ?_ | fail) <;> (try refine ev_ ?_)) | with_reducible exact ti_)
theorem qnv (t : Ty) : qn Try.prog 111 [encY t] (.int .i64 (qb6 qll t 0 1).1) := by
 refine qe c0cd (by simp) (by simp only [go_sem]) rfl fun hw => ?_
 repeat' (first | refine vs_ ?_ | ((first | refine vr_ ?_ | refine qco 1 (qkl qbeg t 0 1) ?_ | (refine cs_ ?_ ?_ <;> intro hc) | refine cj_ ?_ | fail) <;> (try refine ev_ ?_)) | with_reducible exact ti_)

/-! the references -/
mutual
def qgm : Ty → Int
 | .mk _ _ l => qdy 1 l
def qdy : Int → List Ty → Int
 | a, [] => a
 | a, x :: r => qdy (IntKind.i64.wrap (a + qgm x)) r
end
theorem qsr (t : Ty) : qgm t = qdy 1 t.args := by cases t; rw [qgm]; rfl
theorem qjs : ∀ t, qn Try.prog 112 [encY t] (.int .i64 (qgm t)) := by
 refine Ty.ind fun t ih => ?_
 refine qe c0ce (by simp) (by simp only [go_sem]) rfl fun hw => ?_
 have hk := qb1 hw.1
 repeat' (first | refine vs_ ?_ | ((first | refine vr_ ?_ | (refine cs_ ?_ ?_ <;> intro hc) | refine cj_ ?_ | simp (disch := omega) only [encs_getN, qb]) <;> (try refine ev_ ?_)) | with_reducible exact ti_)
 refine qk (S := Nat × Int) (fun s => s.1 ≤ t.args.length ∧ qdy s.2 (t.args.drop s.1) = qgm t) (fun s => (⟨[(1, .ptr 0 0), (3, .int .i64 s.2), (4, .int .i64 s.1)], []⟩, [.blk (yc t)])) (fun s => t.args.length - s.1) ?_ fun s hs => ?_
 ·refine qh (0, 1) [0] ⟨Nat.zero_le _, (qsr t).symm⟩ rfl (by simp) ?_ ?_ ?_ <;> (try refine ev_ ?_) <;> (try with_reducible exact ti_) <;> (try simp (disch := omega) only [qb, and_true, true_and])
 ·obtain ⟨i, a⟩ := s
  obtain ⟨hi, ha⟩ := hs
  dsimp only at hi ha
  repeat' (first | refine vs_ ?_ | ((first | refine vr_ ?_ | fail) <;> (try simp (disch := first | omega | (simp only [List.length_set, List.length_append, List.length_cons, List.length_nil]; done) | (simp only [List.length_set, List.length_append, List.length_cons, List.length_nil]; omega)) only [qr, qb, go_sem, ↓reduceIte])) | ((first | (refine cs_ ?_ ?_ <;> intro hc) | refine cj_ ?_ | simp (disch := omega) only [encs_getN, qb] | refine qa (ih _ (q8 (by omega))) fun _ => ?_) <;> (try refine ev_ ?_)) | with_reducible exact ti_)
  ·refine qh (i + 1, IntKind.i64.wrap (a + qgm (t.args.getD i Y0))) [0] ⟨⟨by dsimp only; omega, ?_⟩, by dsimp only; omega⟩ rfl (by simp) ?_ ?_ ?_ <;> (try refine ev_ ?_) <;> (try with_reducible exact ti_) <;> (try simp (disch := omega) only [qb, and_true, true_and])
   rw [← ha, qku (l := t.args) (i := i) (by omega), qdy]
  ·rw [← ha, List.drop_of_length_le (by omega)]; rfl
mutual
def qj2 : Ty → Int
 | .mk _ _ l => IntKind.i64.wrap (qfr 0 l + 1)
def qfr : Int → List Ty → Int
 | a, [] => a
 | a, x :: r => qfr (if qj2 x > a then qj2 x else a) r
end
theorem qyu (t : Ty) : qj2 t = IntKind.i64.wrap (qfr 0 t.args + 1) := by cases t; rw [qj2]; rfl
theorem qm5 : ∀ t, qn Try.prog 113 [encY t] (.int .i64 (qj2 t)) := by
 refine Ty.ind fun t ih => ?_
 refine qe c0cf (by simp) (by simp only [go_sem]) rfl fun hw => ?_
 have hk := qb1 hw.1
 repeat' (first | refine vs_ ?_ | ((first | refine vr_ ?_ | (refine cs_ ?_ ?_ <;> intro hc) | refine cj_ ?_ | simp (disch := omega) only [encs_getN, qb]) <;> (try refine ev_ ?_)) | with_reducible exact ti_)
 refine qk (S := Nat × Int) (fun s => s.1 ≤ t.args.length ∧ qfr s.2 (t.args.drop s.1) = qfr 0 t.args) (fun s => (⟨[(1, .ptr 0 0), (3, .int .i64 s.2), (4, .int .i64 s.1)], []⟩, [.blk (yc t)])) (fun s => t.args.length - s.1) ?_ fun s hs => ?_
 ·refine qh (0, 0) [0] ⟨Nat.zero_le _, rfl⟩ rfl (by simp) ?_ ?_ ?_ <;> (try refine ev_ ?_) <;> (try with_reducible exact ti_) <;> (try simp (disch := omega) only [qb, and_true, true_and])
 ·obtain ⟨i, a⟩ := s
  obtain ⟨hi, ha⟩ := hs
  dsimp only at hi ha
  repeat' (first | refine vs_ ?_ | ((first | refine vr_ ?_ | fail) <;> (try simp (disch := first | omega | (simp only [List.length_set, List.length_append, List.length_cons, List.length_nil]; done) | (simp only [List.length_set, List.length_append, List.length_cons, List.length_nil]; omega)) only [qr, qb, go_sem, ↓reduceIte])) | ((first | (refine cs_ ?_ ?_ <;> intro hc) | refine cj_ ?_ | simp (disch := omega) only [encs_getN, qb] | refine qa (ih _ (q8 (by omega))) fun _ => ?_) <;> (try refine ev_ ?_)) | with_reducible exact ti_)
  ·refine qh (i + 1, if qj2 (t.args.getD i Y0) > a then qj2 (t.args.getD i Y0) else a) [0] ⟨⟨by dsimp only; omega, ?_⟩, by dsimp only; omega⟩ rfl (by simp) ?_ ?_ ?_ <;> (try refine ev_ ?_) <;> (try with_reducible exact ti_) <;> (try simp (disch := omega) only [qb, and_true, true_and])
   rw [← ha, qku (l := t.args) (i := i) (by omega), qfr]
  ·rw [qyu, ← ha, List.drop_of_length_le (by omega)]; rfl
mutual
def qbt : Ty → Bool
 | .mk c v l => qba l && mayW c v l.length
def qba : List Ty → Bool
 | [] => true
 | x :: r => qbt x && qba r
end
theorem qe9 (t : Ty) : qbt t = (qba t.args && mayY t) := by cases t; rw [qbt]; rfl
theorem qgl {l : List Ty} {i : Nat} (h : i < l.length) : qba (l.drop i) = (qbt (l.getD i Y0) && qba (l.drop (i + 1))) := by rw [qku h, qba]
theorem qn8 : ∀ t, qn Try.prog 114 [encY t] (.bool (qbt t)) := by
 refine Ty.ind fun t ih => ?_
 refine qe c0cg (by simp) (by simp only [go_sem]) rfl fun hw => ?_
 have hk := qb1 hw.1
 repeat' (first | refine vs_ ?_ | ((first | refine vr_ ?_ | (refine cs_ ?_ ?_ <;> intro hc) | refine cj_ ?_ | simp (disch := omega) only [encs_getN, qb]) <;> (try refine ev_ ?_)) | with_reducible exact ti_)
 refine qk (S := Nat) (fun i => i ≤ t.args.length ∧ qba (t.args.drop i) = qba t.args) (fun i => (⟨[(1, .ptr 0 0), (3, .int .i64 i)], []⟩, [.blk (yc t)])) (fun i => t.args.length - i) ?_ fun i hi => ?_
 ·refine qh 0 [0] ⟨Nat.zero_le _, rfl⟩ rfl (by simp) ?_ ?_ ?_ <;> (try refine ev_ ?_) <;> (try with_reducible exact ti_) <;> (try simp (disch := omega) only [qb, and_true, true_and])
 ·obtain ⟨hi, ha⟩ := hi
  rw [qe9]
  repeat' (first | refine vs_ ?_ | ((first | refine vr_ ?_ | fail) <;> (try simp (disch := first | omega | (simp only [List.length_set, List.length_append, List.length_cons, List.length_nil]; done) | (simp only [List.length_set, List.length_append, List.length_cons, List.length_nil]; omega)) only [qr, qb, go_sem, ↓reduceIte])) | ((first | (refine cs_ ?_ ?_ <;> intro hc) | refine cj_ ?_ | simp (disch := omega) only [encs_getN, qb] | refine qa (ih _ (q8 (by omega))) fun _ => ?_ | refine qa (qm9 _) fun _ => ?_ | refine qa (qt1 _) fun _ => ?_) <;> (try refine ev_ ?_)) | with_reducible exact ti_)
  ·have : qba t.args = false := by rw [← ha, qgl (by omega), hc]; rfl
   rw [this]; rfl
  ·refine qh (i + 1) [0] ⟨⟨by omega, ?_⟩, by omega⟩ rfl (by simp) ?_ ?_ ?_ <;> (try refine ev_ ?_) <;> (try with_reducible exact ti_) <;> (try simp (disch := omega) only [qb, and_true, true_and])
   rw [← ha, qgl (i := i) (by omega), hc, Bool.true_and]
  all_goals
   have hs : qba t.args = true := by rw [← ha, List.drop_of_length_le (by omega)]; rfl
   rw [hs, Bool.true_and, mayY, mayW]
   simp only [arrW, *, if_true, if_false, decide_true, decide_false, Bool.and_true, Bool.and_false, Bool.false_eq_true]
   try rfl
/-! Few -/
mutual
def cntY : Ty → Int → Int → Int
 | .mk _ _ l, k, d => if d < 1 then -1 else qdf l (IntKind.i64.wrap (k - 1)) d
def qdf : List Ty → Int → Int → Int
 | [], a, _ => a
 | x :: r, a, d => if 0 ≤ a then qdf r (cntY x a (IntKind.i64.wrap (d - 1))) d else a
end
theorem qr5 (t : Ty) (k d : Int) : cntY t k d = if d < 1 then -1 else qdf t.args (IntKind.i64.wrap (k - 1)) d := by cases t; rw [cntY]; rfl
theorem qfm {a : Int} (h : a < 0) (l : List Ty) (d : Int) : qdf l a d = a := by
 cases l with
 | nil => rw [qdf]
 | cons x r => rw [qdf, if_neg (by omega)]
theorem qba7 : ∀ t k d, qn Try.prog 77 [encY t, .int .i64 k, .int .i64 d] (.int .i64 (cntY t k d)) := by
 refine Ty.ind fun t ih k d => ?_
 refine qe c0ch (by simp) (by simp only [go_sem]) rfl fun hw => ?_
 have hk := qb1 hw.1
 rw [qr5]
 repeat' (first | refine vs_ ?_ | ((first | refine vr_ ?_ | (refine cs_ ?_ ?_ <;> intro hc) | refine cj_ ?_ | simp (disch := omega) only [encs_getN, qb]) <;> (try refine ev_ ?_)) | with_reducible exact ti_)
 ·rw [if_pos (by assumption)]
 rw [if_neg (by assumption)]
 refine qk (S := Nat × Int) (fun s => s.1 ≤ t.args.length ∧ qdf (t.args.drop s.1) s.2 d = qdf t.args (IntKind.i64.wrap (k - 1)) d) (fun s => (⟨[(1, .int .i64 s.2), (2, .int .i64 d), (3, .ptr 0 0), (7, .int .i64 s.1)], []⟩, [.blk (yc t)])) (fun s => t.args.length - s.1) ?_ fun s hs => ?_
 ·refine qh (0, IntKind.i64.wrap (k - 1)) [0] ⟨Nat.zero_le _, rfl⟩ rfl (by simp) ?_ ?_ ?_ <;> (try refine ev_ ?_) <;> (try with_reducible exact ti_) <;> (try simp (disch := omega) only [qb, and_true, true_and])
 ·obtain ⟨i, a⟩ := s
  obtain ⟨hi, ha⟩ := hs
  dsimp only at hi ha
  repeat' (first | refine vs_ ?_ | ((first | refine vr_ ?_ | fail) <;> (try simp (disch := first | omega | (simp only [List.length_set, List.length_append, List.length_cons, List.length_nil]; done) | (simp only [List.length_set, List.length_append, List.length_cons, List.length_nil]; omega)) only [qr, qb, go_sem, ↓reduceIte])) | ((first | (refine cs_ ?_ ?_ <;> intro hc) | refine cj_ ?_ | simp (disch := omega) only [encs_getN, qb] | refine qa (ih _ (q8 (by omega)) _ _) fun _ => ?_) <;> (try refine ev_ ?_)) | with_reducible exact ti_)
  ·refine qh (i + 1, cntY (t.args.getD i Y0) a (IntKind.i64.wrap (d - 1))) [0] ⟨⟨by dsimp only; omega, ?_⟩, by dsimp only; omega⟩ rfl (by simp) ?_ ?_ ?_ <;> (try refine ev_ ?_) <;> (try with_reducible exact ti_) <;> (try simp (disch := omega) only [qb, and_true, true_and])
   rw [← ha, qku (l := t.args) (i := i) (by omega), qdf, if_pos (by assumption)]
  ·rw [← ha, qfm (by omega)]
  ·rw [← ha, List.drop_of_length_le (by omega)]; rfl
def qiv (a : Int) : List Ty → Int
 | [] => a
 | x :: r => qiv (cntY x a 300) r
def qdp (l : List Ty) : Bool := decide (0 ≤ qiv 20000 l)
theorem q57 (l : List Ty) : qn Try.prog 31 [.sl 3 (qq l)] (.int .i64 (if qdp l = true then 1 else 0)) := by
 refine qe c0ci (by simp) (by simp only [go_sem]) rfl fun hw => ?_
 have hk : l.length ≤ maxLen := by have := hw.1.1; rwa [q7] at this
 repeat' (first | refine vs_ ?_ | ((first | refine vr_ ?_ | (refine cs_ ?_ ?_ <;> intro hc) | refine cj_ ?_ | simp (disch := omega) only [encs_getN, qb]) <;> (try refine ev_ ?_)) | with_reducible exact ti_)
 refine qk (S := Nat × Int) (fun s => s.1 ≤ l.length ∧ qiv s.2 (l.drop s.1) = qiv 20000 l) (fun s => (⟨[(0, .sl 3 (qq l)), (3, .int .i64 s.2), (4, .int .i64 s.1)], []⟩, [])) (fun s => l.length - s.1) ?_ fun s hs => ?_
 ·refine qh (0, 20000) [] ⟨Nat.zero_le _, rfl⟩ rfl (by simp) ?_ ?_ ?_ <;> (try refine ev_ ?_) <;> (try with_reducible exact ti_) <;> (try simp (disch := omega) only [qb, and_true, true_and])
 ·obtain ⟨i, a⟩ := s
  obtain ⟨hi, ha⟩ := hs
  dsimp only at hi ha
  repeat' (first | refine vs_ ?_ | ((first | refine vr_ ?_ | fail) <;> (try simp (disch := first | omega | (simp only [List.length_set, List.length_append, List.length_cons, List.length_nil]; done) | (simp only [List.length_set, List.length_append, List.length_cons, List.length_nil]; omega)) only [qr, qb, go_sem, ↓reduceIte])) | ((first | (refine cs_ ?_ ?_ <;> intro hc) | refine cj_ ?_ | simp (disch := omega) only [encs_getN, qb] | refine qa (qba7 _ _ _) fun _ => ?_) <;> (try refine ev_ ?_)) | with_reducible exact ti_)
  ·refine qh (i + 1, cntY (l.getD i Y0) a 300) [] ⟨⟨by dsimp only; omega, ?_⟩, by dsimp only; omega⟩ rfl (by simp) ?_ ?_ ?_ <;> (try refine ev_ ?_) <;> (try with_reducible exact ti_) <;> (try simp (disch := omega) only [qb, and_true, true_and])
   rw [← ha, qku (l := l) (i := i) (by omega), qiv]
  all_goals
   have hf : qiv 20000 l = a := by rw [← ha, List.drop_of_length_le (by omega)]; rfl
   rw [qdp, hf]
  ·rw [if_neg (by simp; omega)]
  ·rw [if_pos (by simp; omega)]

/-! the laws of sizes -/
mutual
theorem qtn : ∀ (t : Ty) (k d : Int), 0 ≤ k → k ≤ 20000 → d ≤ 300 → 0 ≤ cntY t k d → cntY t k d = k - szY t ∧ (dpY t : Int) ≤ d
 | .mk c v l, k, d, h0, h1, h2, h3 => by
   rw [cntY] at h3 ⊢
   by_cases hd : d < 1
   ·rw [if_pos hd] at h3; omega
   ·rw [if_neg hd] at h3 ⊢
    have hk : IntKind.i64.wrap (k - 1) = k - 1 := qw (by omega) (by omega)
    rw [hk] at h3 ⊢
    have h4 : 0 ≤ k - 1 := by
     by_cases h : 0 ≤ k - 1
     ·exact h
     ·rw [qfm (by omega)] at h3; exact h3
    have := qpp l (k - 1) d h4 (by omega) (by omega) h2 h3
    rw [szY, dpY]
    omega
theorem qpp : ∀ (l : List Ty) (a d : Int), 0 ≤ a → a ≤ 20000 → 1 ≤ d → d ≤ 300 → 0 ≤ qdf l a d → qdf l a d = a - szYs l ∧ (dpYs l : Int) ≤ d - 1
 | [], a, d, h0, h1, h2, h3, h4 => by rw [qdf, szYs, dpYs]; omega
 | x :: r, a, d, h0, h1, h2, h3, h4 => by
   rw [qdf, if_pos h0] at h4 ⊢
   have hd : IntKind.i64.wrap (d - 1) = d - 1 := qw (by omega) (by omega)
   rw [hd] at h4 ⊢
   have h5 : 0 ≤ cntY x a (d - 1) := by
    by_cases h : 0 ≤ cntY x a (d - 1)
    ·exact h
    ·rw [qfm (by omega)] at h4; exact absurd h4 h
   obtain ⟨h6, h7⟩ := qtn x a (d - 1) h0 h1 (by omega) h5
   obtain ⟨h8, h9⟩ := qpp r _ d h5 (by omega) h2 h3 h4
   rw [szYs, dpYs]
   omega
end
mutual
theorem qsu : ∀ (t : Ty) (k d : Int), 0 ≤ k → k ≤ 20000 → -1 ≤ cntY t k d
 | .mk c v l, k, d, h0, h1 => by
   rw [cntY]
   split
   ·omega
   ·rw [qw (z := k - 1) (by omega) (by omega)]
    exact qus l (k - 1) d (by omega) (by omega)
theorem qus : ∀ (l : List Ty) (a d : Int), -1 ≤ a → a ≤ 20000 → -1 ≤ qdf l a d
 | [], a, d, h0, _ => by rw [qdf]; exact h0
 | x :: r, a, d, h0, h1 => by
   rw [qdf]
   split
   ·rename_i h
    have h2 := qsu x a (IntKind.i64.wrap (d - 1)) h h1
    have h3 := q0p x a (IntKind.i64.wrap (d - 1)) h h1
    exact qus r _ d h2 (by omega)
   ·exact h0
theorem q0p : ∀ (t : Ty) (k d : Int), 0 ≤ k → k ≤ 20000 → cntY t k d ≤ k
 | .mk c v l, k, d, h0, h1 => by
   rw [cntY]
   split
   ·omega
   ·rw [qw (z := k - 1) (by omega) (by omega)]
    have := qvm l (k - 1) d (by omega) (by omega)
    omega
theorem qvm : ∀ (l : List Ty) (a d : Int), -1 ≤ a → a ≤ 20000 → qdf l a d ≤ a
 | [], a, d, h0, _ => by rw [qdf]; exact Int.le_refl _
 | x :: r, a, d, h0, h1 => by
   rw [qdf]
   split
   ·rename_i h
    have h2 := qsu x a (IntKind.i64.wrap (d - 1)) h h1
    have h3 := q0p x a (IntKind.i64.wrap (d - 1)) h h1
    have := qvm r _ d h2 (by omega)
    omega
   ·exact Int.le_refl _
end
theorem qoi : ∀ (l : List Ty) {a : Int}, a < 0 → -9223372036854775808 ≤ a - l.length → qiv a l < 0
 | [], a, h, _ => h
 | x :: r, a, h, h2 => by
   rw [qiv]
   have h3 : cntY x a 300 = IntKind.i64.wrap (a - 1) := by
    rw [qr5, if_neg (by omega)]
    have hk : IntKind.i64.wrap (a - 1) = a - 1 := qw (by simp only [List.length_cons] at h2; omega) (by omega)
    rw [hk, qfm (by omega)]
   have hk : IntKind.i64.wrap (a - 1) = a - 1 := qw (by simp only [List.length_cons] at h2; omega) (by omega)
   rw [h3, hk]
   exact qoi r (by omega) (by simp only [List.length_cons] at h2; omega)
theorem qo5 : ∀ (l : List Ty) (a : Int), 0 ≤ a → a ≤ 20000 → l.length ≤ 9223372036854775807 → 0 ≤ qiv a l → (szYs l : Int) ≤ a ∧ (dpYs l : Int) ≤ 300
 | [], a, h0, h1, _, h2 => by rw [szYs, dpYs]; omega
 | x :: r, a, h0, h1, hl, h2 => by
   rw [qiv] at h2
   simp only [List.length_cons] at hl
   have h5 : 0 ≤ cntY x a 300 := by
    by_cases h : 0 ≤ cntY x a 300
    ·exact h
    ·have : -1 ≤ cntY x a 300 := qsu x a 300 h0 h1
     have := qoi r (a := cntY x a 300) (by omega) (by omega)
     omega
   obtain ⟨h6, h7⟩ := qtn x a 300 h0 h1 (by omega) h5
   obtain ⟨h8, h9⟩ := qo5 r _ h5 (by omega) (by omega) h2
   rw [szYs, dpYs]
   omega
theorem qt8 {l : List Ty} (hl : l.length ≤ maxLen) (h : qdp l = true) : szYs l ≤ 20000 ∧ dpYs l ≤ 300 := by
 have := qo5 l 20000 (by omega) (by omega) (by unfold maxLen at hl; omega) (by simpa [qdp] using h)
 omega

mutual
theorem qfz : ∀ (t : Ty), szY t ≤ 1000000 → qgm t = szY t
 | .mk c v l, h => by
   rw [szY] at h
   rw [qgm, szY, qil l 1 (by omega) (by omega)]
   omega
theorem qil : ∀ (l : List Ty) (a : Int), 1 ≤ a → a + szYs l ≤ 1000001 → qdy a l = a + szYs l
 | [], a, _, _ => by rw [qdy, szYs]; omega
 | x :: r, a, h0, h => by
   rw [szYs] at h
   rw [qdy, qfz x (by omega), qw (by omega) (by omega), qil r _ (by omega) (by omega), szYs]
   omega
end
mutual
theorem qlj : ∀ (t : Ty), dpY t ≤ 1000000 → qj2 t = dpY t
 | .mk c v l, h => by
   rw [dpY] at h
   rw [qj2, dpY, qi0 l 0 (by omega) (by omega), qw (by omega) (by omega)]
   omega
theorem qi0 : ∀ (l : List Ty) (a : Int), dpYs l ≤ 1000000 → 0 ≤ a → qfr a l = max a (dpYs l)
 | [], a, _, _ => by rw [qfr, dpYs]; omega
 | x :: r, a, h, h0 => by
   rw [dpYs] at h
   have h1 := qlj x (by omega)
   rw [qfr, h1]
   have h2 : (if (dpY x : Int) > a then (dpY x : Int) else a) = max a (dpY x) := by split <;> omega
   rw [h2, qi0 r _ (by omega) (by omega), dpYs]
   omega
end
mutual
theorem qmu : ∀ (t : Ty) (n k : Int), 0 ≤ n → n + szY t ≤ 1000000 → qb6 qnl t n k = (n + szY t, true)
 | .mk c v l, n, k, h0, h => by
   rw [szY] at h
   rw [qb6, if_pos (show (qnl n (.mk c v l) k).2 = true from rfl)]
   have h1 : (qnl n (.mk c v l) k).1 = n + 1 := qw (by omega) (by omega)
   rw [h1, qi1 l _ _ (by omega) (by omega), szY]
   congr 1; omega
theorem qi1 : ∀ (l : List Ty) (n k : Int), 0 ≤ n → n + szYs l ≤ 1000000 → qbr qnl l n k = (n + szYs l, true)
 | [], n, k, _, _ => by rw [qbr, szYs]; congr 1; omega
 | x :: r, n, k, h0, h => by
   rw [szYs] at h
   rw [qbr, qmu x n k h0 (by omega), if_pos rfl, qi1 r _ k (by omega) (by omega), szYs]
   congr 1; omega
end
mutual
theorem qmi : ∀ (t : Ty) (n k : Int), 0 ≤ n → 1 ≤ k → k + dpY t ≤ 1000000 → qb6 qll t n k = (max n (k + dpY t - 1), true)
 | .mk c v l, n, k, h0, h1, h => by
   rw [dpY] at h
   rw [qb6, if_pos (show (qll n (.mk c v l) k).2 = true from rfl)]
   have h2 : (qll n (.mk c v l) k).1 = max n k := by simp only [qll]; split <;> omega
   rw [h2, qw (z := k + 1) (by omega) (by omega), qiy l _ _ (by omega) (by omega) (by omega), dpY]
   congr 1; split <;> omega
theorem qiy : ∀ (l : List Ty) (n k : Int), 0 ≤ n → 1 ≤ k → k + dpYs l ≤ 1000000 → qbr qll l n k = (if dpYs l = 0 then n else max n (k + dpYs l - 1), true)
 | [], n, k, _, _, _ => by rw [qbr, dpYs, if_pos rfl]
 | x :: r, n, k, h0, h1, h => by
   rw [dpYs] at h
   have hp := q9e x
   rw [qbr, qmi x n k h0 h1 (by omega), if_pos rfl, qiy r _ k (by omega) h1 (by omega), dpYs]
   congr 1
   rw [if_neg (by omega : ¬ max (dpY x) (dpYs r) = 0)]
   split <;> omega
end
mutual
theorem qk5 : ∀ (t : Ty) (n k : Int), 0 ≤ n → n + szY t ≤ 1000000 → 1 ≤ k → k + dpY t ≤ 1000000 →
 ((qb6 qdx t n k).2 = true ↔ n + szY t ≤ 4096 ∧ k + dpY t - 1 ≤ 100 ∧ qbt t = true) ∧ ((qb6 qdx t n k).2 = true → (qb6 qdx t n k).1 = n + szY t)
 | .mk c v l, n, k, h0, h1, h2, h3 => by
   rw [szY] at h1
   rw [dpY] at h3
   have e1 : IntKind.i64.wrap (n + 1) = n + 1 := qw (by omega) (by omega)
   have e2 : IntKind.i64.wrap (k + 1) = k + 1 := qw (by omega) (by omega)
   have e3 : (qdx n (.mk c v l) k).1 = n + 1 := e1
   have e4 : (qdx n (.mk c v l) k).2 = true ↔ n + 1 ≤ 4096 ∧ k ≤ 100 ∧ mayW c v l.length = true := by
    simp only [qdx, e1, Bool.and_eq_true, decide_eq_true_eq]; rfl
   rw [qb6, szY, dpY, qbt]
   by_cases hs : (qdx n (.mk c v l) k).2 = true
   ·rw [if_pos hs, e3, e2]
    obtain ⟨q1, q2, q3⟩ := e4.1 hs
    obtain ⟨r1, r2⟩ := qjh l (n + 1) (k + 1) (by omega) (by omega) (by omega) (by omega) (by omega) (by omega)
    refine ⟨?_, fun h => by rw [r2 h]; omega⟩
    rw [r1, q3, Bool.and_true]
    constructor
    ·rintro ⟨a1, a2, a3⟩; exact ⟨by omega, by omega, a3⟩
    ·rintro ⟨a1, a2, a3⟩; exact ⟨by omega, by omega, a3⟩
   ·rw [if_neg hs]
    refine ⟨⟨fun h => (by cases h), fun ⟨a1, a2, a3⟩ => absurd (e4.2 ⟨by omega, by omega, (by rw [Bool.and_eq_true] at a3; exact a3.2)⟩) hs⟩, fun h => by cases h⟩
theorem qjh : ∀ (l : List Ty) (n k : Int), 0 ≤ n → n + szYs l ≤ 1000000 → 1 ≤ k → k + dpYs l ≤ 1000000 → n ≤ 4096 → k - 1 ≤ 100 →
 ((qbr qdx l n k).2 = true ↔ n + szYs l ≤ 4096 ∧ k + dpYs l - 1 ≤ 100 ∧ qba l = true) ∧ ((qbr qdx l n k).2 = true → (qbr qdx l n k).1 = n + szYs l)
 | [], n, k, h0, h1, h2, h3, h4, h5 => by
   rw [qbr, szYs, dpYs, qba]
   exact ⟨⟨fun _ => ⟨by omega, by omega, rfl⟩, fun _ => rfl⟩, fun _ => by simp⟩
 | x :: r, n, k, h0, h1, h2, h3, h4, h5 => by
   rw [szYs] at h1
   rw [dpYs] at h3
   obtain ⟨q1, q2⟩ := qk5 x n k h0 (by omega) h2 (by omega)
   rw [qbr, szYs, dpYs, qba]
   by_cases hs : (qb6 qdx x n k).2 = true
   ·rw [if_pos hs, q2 hs]
    obtain ⟨a1, a2, a3⟩ := q1.1 hs
    obtain ⟨r1, r2⟩ := qjh r (n + szY x) k (by omega) (by omega) h2 (by omega) (by omega) h5
    refine ⟨?_, fun h => by rw [r2 h]; omega⟩
    rw [r1, a3, Bool.true_and]
    constructor
    ·rintro ⟨b1, b2, b3⟩; exact ⟨by omega, by omega, b3⟩
    ·rintro ⟨b1, b2, b3⟩; exact ⟨by omega, by omega, b3⟩
   ·rw [if_neg hs]
    refine ⟨⟨fun h => (by cases h), fun ⟨a1, a2, a3⟩ => absurd (q1.2 ⟨by omega, by omega, ?_⟩) hs⟩, fun h => by cases h⟩
    rw [Bool.and_eq_true] at a3
    exact a3.1
end
def qs (t : Ty) : Bool := decide (szY t ≤ 4096) && (decide (dpY t ≤ 100) && qbt t)
theorem quh {t : Ty} (h1 : szY t ≤ 20000) (h2 : dpY t ≤ 300) : qvc t = qs t := by
 have := (qk5 t 0 1 (by omega) (by omega) (by omega) (by omega)).1
 rw [qvc, Bool.eq_iff_iff, this, qs, Bool.and_eq_true, Bool.and_eq_true, decide_eq_true_eq, decide_eq_true_eq]
 constructor
 ·rintro ⟨a1, a2, a3⟩; exact ⟨by omega, by omega, a3⟩
 ·rintro ⟨a1, a2, a3⟩; exact ⟨by omega, by omega, a3⟩
theorem qey {t : Ty} (h1 : szY t ≤ 20000) (h2 : dpY t ≤ 300) : qn Try.prog 79 [encY t] (.bool (qs t)) := by
 refine qe c0cj (by simp) (by simp only [go_sem]) rfl fun hw => ?_
 have e1 := qjs t
 have e2 := qm5 t
 rw [qfz t (by omega)] at e1
 rw [qlj t (by omega)] at e2
 repeat' (first | refine vs_ ?_ | ((first | refine vr_ ?_ | refine qa e1 fun _ => ?_ | refine qa e2 fun _ => ?_ | refine qa (qn8 t) fun _ => ?_ | (refine cs_ ?_ ?_ <;> intro hc) | refine cj_ ?_ | fail) <;> (try refine ev_ ?_)) | with_reducible exact ti_)
 all_goals
  rw [qs]
 ·rw [decide_eq_true (by omega), decide_eq_true (by omega)]; rfl
 ·rw [decide_eq_false (p := dpY t ≤ 100) (by omega), Bool.false_and, Bool.and_false]
 ·rw [decide_eq_false (p := szY t ≤ 4096) (by omega)]; rfl
theorem qc3 {t : Ty} (h1 : szY t ≤ 20000) (h2 : dpY t ≤ 300) : qn Try.prog 48 [encY t] (.bool (qs t)) := by
 rw [← quh h1 h2]; exact qnb t
set_option maxRecDepth 4000

theorem qxa {t a b : Ty} (h1 : t.con = arrW) (h2 : t.args = [a, b]) : txtY t = parW (decide (a.con = arrW)) (txtY a) ++ ([32, 45, 62, 32] ++ txtY b) := by
 cases t with
 | mk c v l =>
   have h1' : c = arrW := h1
   have h2' : l = [a, b] := h2
   subst h1' h2'
   rw [txtY, if_pos rfl]
theorem qv7 {t : Ty} (h1 : ¬ t.con = arrW) : txtY t = qgb t ++ argY t.args := by
 cases t with
 | mk c v l =>
   have h1' : ¬ c = arrW := h1
   rcases l with _ | ⟨a, _ | ⟨b, _ | ⟨d, r⟩⟩⟩ <;> (simp only [txtY, if_neg h1']; rfl)
theorem qhj (l : List Ty) (i : Nat) (h : i < l.length) : argY (l.take (i + 1)) = argY (l.take i) ++ (32 :: parW (decide ((l.getD i Y0).args ≠ [])) (txtY (l.getD i Y0))) := by
 have h1 : l.take (i + 1) = l.take i ++ [l.getD i Y0] := by
  rw [List.take_add_one, List.getD_eq_getElem?_getD, List.getElem?_eq_getElem h]; rfl
 rw [h1]
 generalize l.take i = a
 generalize l.getD i Y0 = x
 induction a with
 | nil => simp [argY]
 | cons y a ih => simp only [List.cons_append, argY, ih, List.append_assoc]
theorem qfx (l : List Ty) (i : Nat) : (argY (l.take i)).length ≤ (argY l).length := by
 induction l generalizing i with
 | nil => simp
 | cons x r ih =>
   cases i with
   | zero => simp [argY]
   | succ i => rw [List.take_succ_cons, argY, argY, List.length_append, List.length_append]; have := ih i; omega
theorem qvh {t : Ty} (h : qbt t = true) (h1 : t.con = arrW) : ∃ a b, t.args = [a, b] ∧ qbt a = true ∧ qbt b = true := by
 rw [qe9, Bool.and_eq_true] at h
 obtain ⟨h2, h3⟩ := h
 rw [mayY, mayW, h1, if_neg (by decide), if_pos rfl, Bool.and_eq_true, decide_eq_true_eq, decide_eq_true_eq] at h3
 have hl : t.args.length = 2 := by omega
 obtain ⟨a, b, hab⟩ : ∃ a b, t.args = [a, b] := by
  match hh : t.args, hl with
  | [a, b], _ => exact ⟨a, b, rfl⟩
 rw [hab] at h2
 simp only [qba, Bool.and_eq_true] at h2
 exact ⟨a, b, hab, h2.1, h2.2.1⟩
theorem qs7 {t x : Ty} (h : qbt t = true) (hx : x ∈ t.args) : qbt x = true := by
 rw [qe9, Bool.and_eq_true] at h
 have h2 := h.1
 generalize t.args = l at hx h2
 induction l with
 | nil => cases hx
 | cons y r ih =>
   rw [qba, Bool.and_eq_true] at h2
   rcases List.mem_cons.1 hx with rfl | hx
   ·exact h2.1
   ·exact ih hx h2.2
theorem qpo (b : Bool) (s : List UInt8) : s.length ≤ (parW b s).length ∧ (parW b s).length ≤ s.length + 2 := by
 rw [parW]; split <;> simp <;> omega
def Big : Nat := 140737488355328
theorem qhb {n : Nat} (h : n ≤ Big) : n ≤ maxLen := by unfold Big at h; unfold maxLen; omega

theorem qbi7 {v : Int} (h : (Lit.int .i64 v).wf = true) (h0 : v < 0) : IntKind.i64.wrap (-1 - v) = -1 - v := by
 have := qie h
 exact qw (by omega) (by omega)
end Go.Proofs.Ytfpobiheiloamaa
