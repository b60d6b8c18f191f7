/- Texts of this proof, joined. -/
import Derived.Test.YtfpobiheiloamaaDaq

/- terms: how great, how deep, whether a type is one; Few -/
set_option maxRecDepth 4000
namespace Go.Proofs.Ytfpobiheiloamaa
open Go Go.RowKit Go.V
set_option linter.unusedVariables false
set_option linter.unusedSimpArgs false

/-! the program's -/
abbrev numE (n : Int) : Ent := .blk [.int .i64 n]
def qd5 (n : Int) (t : Ty) (k : Int) : Int × Bool := (IntKind.i64.wrap (n + 1), decide (IntKind.i64.wrap (n + 1) ≤ 4096) && (decide (k ≤ 100) && mayY t))
theorem qbf9 (n : Int) (t : Ty) (k : Int) : VM Try.prog 87 (numE n) (numE (qd5 n t k).1) [encY t, .int .i64 k, .ptr 0 0] (.bool (qd5 n t k).2) := by
 refine qhg (by kernel_rfl) fun hw => ?_
 have hk := qb2 hw.1
 refine qp c0bx 1 (by simp) (by simp) ?_
 repeat' (first | refine vs_ ?_ | ((first | refine vr_ ?_ | refine qa (qfa _) fun _ => ?_ | refine qa (qwj _ _ _) fun _ => ?_ | (refine cs_ ?_ ?_ <;> intro hc) | refine cj_ ?_ | simp (disch := omega) only [encs_getN, qb]) <;> (try refine ev_ ?_)) | with_reducible exact ti_)
 ·simp_all [qd5]
 ·exact ⟨rfl, by simp only [qd5, *, decide_true, decide_false, Bool.true_and, Bool.false_and]⟩
 ·exact ⟨rfl, by simp only [qd5, *, decide_true, decide_false, Bool.true_and, Bool.false_and]⟩
def qnn (n : Int) (_ : Ty) (_ : Int) : Int × Bool := (IntKind.i64.wrap (n + 1), true)
theorem qbi4 (n : Int) (t : Ty) (k : Int) : VM Try.prog 131 (numE n) (numE (qnn n t k).1) [encY t, .int .i64 k, .ptr 0 0] (.bool (qnn n t k).2) := by
 refine qp c0by 1 (by simp) (by simp) ?_
 repeat' (first | refine vs_ ?_ | ((first | refine vr_ ?_ | (refine cs_ ?_ ?_ <;> intro hc) | refine cj_ ?_ | simp (disch := omega) only [encs_getN, qb]) <;> (try refine ev_ ?_)) | with_reducible exact ti_)
 exact ⟨rfl, rfl⟩
def qlg (n : Int) (_ : Ty) (k : Int) : Int × Bool := (if k > n then k else n, true)
theorem qbdj (n : Int) (t : Ty) (k : Int) : VM Try.prog 132 (numE n) (numE (qlg n t k).1) [encY t, .int .i64 k, .ptr 0 0] (.bool (qlg n t k).2) := by
 refine qp c0bz 1 (by simp) (by simp) ?_
 repeat' (first | refine vs_ ?_ | ((first | refine vr_ ?_ | (refine cs_ ?_ ?_ <;> intro hc) | refine cj_ ?_ | fail) <;> (try refine ev_ ?_)) | with_reducible exact ti_)
 exact ⟨rfl, rfl⟩
theorem qkr {f : FuncId} {step : Int → Ty → Int → Int × Bool} (h : ∀ n t k, VM Try.prog f (numE n) (numE (step n t k).1) [encY t, .int .i64 k, .ptr 0 0] (.bool (step n t k).2)) (t : Ty) (n k : Int) :
 VM Try.prog 86 (numE n) (numE (qb3 step t n k).1) [encY t, .int .i64 k, .fn f [] [.ptr 0 0]] (.bool (qb3 step t n k).2) :=
 qq6 (st := numE) (ok := fun _ _ => True) (fun _ => rfl) (fun _ _ _ _ _ => trivial) (fun _ _ _ => trivial) (fun n t k _ => h n t k) t n k trivial
def qsw (t : Ty) : Bool := (qb3 qd5 t 0 1).2
theorem qm6 (t : Ty) : qm Try.prog 48 [encY t] (.bool (qsw t)) := by
 refine qd c0ca (by simp) (by simp only [go_sem]) rfl fun hw => ?_
 repeat' (first | refine vs_ ?_ | ((first | refine vr_ ?_ | refine qcn 1 (qkr qbf9 t 0 1) ?_ | (refine cs_ ?_ ?_ <;> intro hc) | refine cj_ ?_ | fail) <;> (try refine ev_ ?_)) | with_reducible exact ti_)
 rfl
theorem qqj (t : Ty) : qm Try.prog 110 [encY t] (.int .i64 (qb3 qnn t 0 1).1) := by
 refine qd c0cb (by simp) (by simp only [go_sem]) rfl fun hw => ?_
 repeat' (first | refine vs_ ?_ | ((first | refine vr_ ?_ | refine qcn 1 (qkr qbi4 t 0 1) ?_ | (refine cs_ ?_ ?_ <;> intro hc) | refine cj_ ?_ | fail) <;> (try refine ev_ ?_)) | with_reducible exact ti_)
theorem qn3 (t : Ty) : qm Try.prog 111 [encY t] (.int .i64 (qb3 qlg t 0 1).1) := by
 refine qd c0cc (by simp) (by simp only [go_sem]) rfl fun hw => ?_
 repeat' (first | refine vs_ ?_ | ((first | refine vr_ ?_ | refine qcn 1 (qkr qbdj t 0 1) ?_ | (refine cs_ ?_ ?_ <;> intro hc) | refine cj_ ?_ | fail) <;> (try refine ev_ ?_)) | with_reducible exact ti_)

/-! the references -/
mutual
def qgj : Ty → Int
 | .mk _ _ l => qdx 1 l
def qdx : Int → List Ty → Int
 | a, [] => a
 | a, x :: r => qdx (IntKind.i64.wrap (a + qgj x)) r
end
theorem qvf (t : Ty) : qgj t = qdx 1 t.args := by cases t; rw [qgj]; rfl
theorem qjr : ∀ t, qm Try.prog 112 [encY t] (.int .i64 (qgj t)) := by
 refine Ty.ind fun t ih => ?_
 refine qd c0cd (by simp) (by simp only [go_sem]) rfl fun hw => ?_
 have hk := qb2 hw.1
 repeat' (first | refine vs_ ?_ | ((first | refine vr_ ?_ | (refine cs_ ?_ ?_ <;> intro hc) | refine cj_ ?_ | simp (disch := omega) only [encs_getN, qb]) <;> (try refine ev_ ?_)) | with_reducible exact ti_)
 refine ql (S := Nat × Int) (fun s => s.1 ≤ t.args.length ∧ qdx s.2 (t.args.drop s.1) = qgj t) (fun s => (⟨[(1, .ptr 0 0), (3, .int .i64 s.2), (4, .int .i64 s.1)], []⟩, [.blk (yc t)])) (fun s => t.args.length - s.1) ?_ fun s hs => ?_
 ·refine qj (0, 1) [0] ⟨Nat.zero_le _, (qvf t).symm⟩ rfl (by simp) ?_ ?_ ?_ <;> (try refine ev_ ?_) <;> (try with_reducible exact ti_) <;> (try simp (disch := omega) only [qb, and_true, true_and])
 ·obtain ⟨i, a⟩ := s
  obtain ⟨hi, ha⟩ := hs
  dsimp only at hi ha
  repeat' (first | refine vs_ ?_ | ((first | refine vr_ ?_ | fail) <;> (try simp (disch := first | omega | (simp only [List.length_set, List.length_append, List.length_cons, List.length_nil]; done) | (simp only [List.length_set, List.length_append, List.length_cons, List.length_nil]; omega)) only [qq, qb, go_sem, ↓reduceIte])) | ((first | (refine cs_ ?_ ?_ <;> intro hc) | refine cj_ ?_ | simp (disch := omega) only [encs_getN, qb] | refine qa (ih _ (q7 (by omega))) fun _ => ?_) <;> (try refine ev_ ?_)) | with_reducible exact ti_)
  ·refine qj (i + 1, IntKind.i64.wrap (a + qgj (t.args.getD i Y0))) [0] ⟨⟨by dsimp only; omega, ?_⟩, by dsimp only; omega⟩ rfl (by simp) ?_ ?_ ?_ <;> (try refine ev_ ?_) <;> (try with_reducible exact ti_) <;> (try simp (disch := omega) only [qb, and_true, true_and])
   rw [← ha, qj6 (l := t.args) (i := i) (by omega), qdx]
  ·rw [← ha, List.drop_of_length_le (by omega)]; rfl
mutual
def qj1 : Ty → Int
 | .mk _ _ l => IntKind.i64.wrap (qfb 0 l + 1)
def qfb : Int → List Ty → Int
 | a, [] => a
 | a, x :: r => qfb (if qj1 x > a then qj1 x else a) r
end
theorem qxi (t : Ty) : qj1 t = IntKind.i64.wrap (qfb 0 t.args + 1) := by cases t; rw [qj1]; rfl
theorem qn1 : ∀ t, qm Try.prog 113 [encY t] (.int .i64 (qj1 t)) := by
 refine Ty.ind fun t ih => ?_
 refine qd c0ce (by simp) (by simp only [go_sem]) rfl fun hw => ?_
 have hk := qb2 hw.1
 repeat' (first | refine vs_ ?_ | ((first | refine vr_ ?_ | (refine cs_ ?_ ?_ <;> intro hc) | refine cj_ ?_ | simp (disch := omega) only [encs_getN, qb]) <;> (try refine ev_ ?_)) | with_reducible exact ti_)
 refine ql (S := Nat × Int) (fun s => s.1 ≤ t.args.length ∧ qfb s.2 (t.args.drop s.1) = qfb 0 t.args) (fun s => (⟨[(1, .ptr 0 0), (3, .int .i64 s.2), (4, .int .i64 s.1)], []⟩, [.blk (yc t)])) (fun s => t.args.length - s.1) ?_ fun s hs => ?_
 ·refine qj (0, 0) [0] ⟨Nat.zero_le _, rfl⟩ rfl (by simp) ?_ ?_ ?_ <;> (try refine ev_ ?_) <;> (try with_reducible exact ti_) <;> (try simp (disch := omega) only [qb, and_true, true_and])
 ·obtain ⟨i, a⟩ := s
  obtain ⟨hi, ha⟩ := hs
  dsimp only at hi ha
  repeat' (first | refine vs_ ?_ | ((first | refine vr_ ?_ | fail) <;> (try simp (disch := first | omega | (simp only [List.length_set, List.length_append, List.length_cons, List.length_nil]; done) | (simp only [List.length_set, List.length_append, List.length_cons, List.length_nil]; omega)) only [qq, qb, go_sem, ↓reduceIte])) | ((first | (refine cs_ ?_ ?_ <;> intro hc) | refine cj_ ?_ | simp (disch := omega) only [encs_getN, qb] | refine qa (ih _ (q7 (by omega))) fun _ => ?_) <;> (try refine ev_ ?_)) | with_reducible exact ti_)
  ·refine qj (i + 1, if qj1 (t.args.getD i Y0) > a then qj1 (t.args.getD i Y0) else a) [0] ⟨⟨by dsimp only; omega, ?_⟩, by dsimp only; omega⟩ rfl (by simp) ?_ ?_ ?_ <;> (try refine ev_ ?_) <;> (try with_reducible exact ti_) <;> (try simp (disch := omega) only [qb, and_true, true_and])
   rw [← ha, qj6 (l := t.args) (i := i) (by omega), qfb]
  ·rw [qxi, ← ha, List.drop_of_length_le (by omega)]; rfl
mutual
def qbq : Ty → Bool
 | .mk c v l => q9 l && mayW c v l.length
def q9 : List Ty → Bool
 | [] => true
 | x :: r => qbq x && q9 r
end
theorem qe4 (t : Ty) : qbq t = (q9 t.args && mayY t) := by cases t; rw [qbq]; rfl
theorem qgk {l : List Ty} {i : Nat} (h : i < l.length) : q9 (l.drop i) = (qbq (l.getD i Y0) && q9 (l.drop (i + 1))) := by rw [qj6 h, q9]
theorem qn9 : ∀ t, qm Try.prog 114 [encY t] (.bool (qbq t)) := by
 refine Ty.ind fun t ih => ?_
 refine qd c0cf (by simp) (by simp only [go_sem]) rfl fun hw => ?_
 have hk := qb2 hw.1
 repeat' (first | refine vs_ ?_ | ((first | refine vr_ ?_ | (refine cs_ ?_ ?_ <;> intro hc) | refine cj_ ?_ | simp (disch := omega) only [encs_getN, qb]) <;> (try refine ev_ ?_)) | with_reducible exact ti_)
 refine ql (S := Nat) (fun i => i ≤ t.args.length ∧ q9 (t.args.drop i) = q9 t.args) (fun i => (⟨[(1, .ptr 0 0), (3, .int .i64 i)], []⟩, [.blk (yc t)])) (fun i => t.args.length - i) ?_ fun i hi => ?_
 ·refine qj 0 [0] ⟨Nat.zero_le _, rfl⟩ rfl (by simp) ?_ ?_ ?_ <;> (try refine ev_ ?_) <;> (try with_reducible exact ti_) <;> (try simp (disch := omega) only [qb, and_true, true_and])
 ·obtain ⟨hi, ha⟩ := hi
  rw [qe4]
  repeat' (first | refine vs_ ?_ | ((first | refine vr_ ?_ | fail) <;> (try simp (disch := first | omega | (simp only [List.length_set, List.length_append, List.length_cons, List.length_nil]; done) | (simp only [List.length_set, List.length_append, List.length_cons, List.length_nil]; omega)) only [qq, qb, go_sem, ↓reduceIte])) | ((first | (refine cs_ ?_ ?_ <;> intro hc) | refine cj_ ?_ | simp (disch := omega) only [encs_getN, qb] | refine qa (ih _ (q7 (by omega))) fun _ => ?_ | refine qa (qnm _) fun _ => ?_ | refine qa (qtw _) fun _ => ?_) <;> (try refine ev_ ?_)) | with_reducible exact ti_)
  ·have : q9 t.args = false := by rw [← ha, qgk (by omega), hc]; rfl
   rw [this]; rfl
  ·refine qj (i + 1) [0] ⟨⟨by omega, ?_⟩, by omega⟩ rfl (by simp) ?_ ?_ ?_ <;> (try refine ev_ ?_) <;> (try with_reducible exact ti_) <;> (try simp (disch := omega) only [qb, and_true, true_and])
   rw [← ha, qgk (i := i) (by omega), hc, Bool.true_and]
  all_goals
   have hs : q9 t.args = true := by rw [← ha, List.drop_of_length_le (by omega)]; rfl
   rw [hs, Bool.true_and, mayY, mayW]
   simp only [arrW, *, if_true, if_false, decide_true, decide_false, Bool.and_true, Bool.and_false, Bool.false_eq_true]
   try rfl
/-! Few -/
mutual
def cntY : Ty → Int → Int → Int
 | .mk _ _ l, k, d => if d < 1 then -1 else qdi l (IntKind.i64.wrap (k - 1)) d
def qdi : List Ty → Int → Int → Int
 | [], a, _ => a
 | x :: r, a, d => if 0 ≤ a then qdi r (cntY x a (IntKind.i64.wrap (d - 1))) d else a
end
theorem qs7 (t : Ty) (k d : Int) : cntY t k d = if d < 1 then -1 else qdi t.args (IntKind.i64.wrap (k - 1)) d := by cases t; rw [cntY]; rfl
theorem qe7 {a : Int} (h : a < 0) (l : List Ty) (d : Int) : qdi l a d = a := by
 cases l with
 | nil => rw [qdi]
 | cons x r => rw [qdi, if_neg (by omega)]
theorem q3w : ∀ t k d, qm Try.prog 77 [encY t, .int .i64 k, .int .i64 d] (.int .i64 (cntY t k d)) := by
 refine Ty.ind fun t ih k d => ?_
 refine qd c0cg (by simp) (by simp only [go_sem]) rfl fun hw => ?_
 have hk := qb2 hw.1
 rw [qs7]
 repeat' (first | refine vs_ ?_ | ((first | refine vr_ ?_ | (refine cs_ ?_ ?_ <;> intro hc) | refine cj_ ?_ | simp (disch := omega) only [encs_getN, qb]) <;> (try refine ev_ ?_)) | with_reducible exact ti_)
 ·rw [if_pos (by assumption)]
 rw [if_neg (by assumption)]
 refine ql (S := Nat × Int) (fun s => s.1 ≤ t.args.length ∧ qdi (t.args.drop s.1) s.2 d = qdi t.args (IntKind.i64.wrap (k - 1)) d) (fun s => (⟨[(1, .int .i64 s.2), (2, .int .i64 d), (3, .ptr 0 0), (7, .int .i64 s.1)], []⟩, [.blk (yc t)])) (fun s => t.args.length - s.1) ?_ fun s hs => ?_
 ·refine qj (0, IntKind.i64.wrap (k - 1)) [0] ⟨Nat.zero_le _, rfl⟩ rfl (by simp) ?_ ?_ ?_ <;> (try refine ev_ ?_) <;> (try with_reducible exact ti_) <;> (try simp (disch := omega) only [qb, and_true, true_and])
 ·obtain ⟨i, a⟩ := s
  obtain ⟨hi, ha⟩ := hs
  dsimp only at hi ha
  repeat' (first | refine vs_ ?_ | ((first | refine vr_ ?_ | fail) <;> (try simp (disch := first | omega | (simp only [List.length_set, List.length_append, List.length_cons, List.length_nil]; done) | (simp only [List.length_set, List.length_append, List.length_cons, List.length_nil]; omega)) only [qq, qb, go_sem, ↓reduceIte])) | ((first | (refine cs_ ?_ ?_ <;> intro hc) | refine cj_ ?_ | simp (disch := omega) only [encs_getN, qb] | refine qa (ih _ (q7 (by omega)) _ _) fun _ => ?_) <;> (try refine ev_ ?_)) | with_reducible exact ti_)
  ·refine qj (i + 1, cntY (t.args.getD i Y0) a (IntKind.i64.wrap (d - 1))) [0] ⟨⟨by dsimp only; omega, ?_⟩, by dsimp only; omega⟩ rfl (by simp) ?_ ?_ ?_ <;> (try refine ev_ ?_) <;> (try with_reducible exact ti_) <;> (try simp (disch := omega) only [qb, and_true, true_and])
   rw [← ha, qj6 (l := t.args) (i := i) (by omega), qdi, if_pos (by assumption)]
  ·rw [← ha, qe7 (by omega)]
  ·rw [← ha, List.drop_of_length_le (by omega)]; rfl
def qiq (a : Int) : List Ty → Int
 | [] => a
 | x :: r => qiq (cntY x a 300) r
def qdo (l : List Ty) : Bool := decide (0 ≤ qiq 20000 l)
theorem qbbp (l : List Ty) : qm Try.prog 31 [.sl 3 (qr l)] (.int .i64 (if qdo l = true then 1 else 0)) := by
 refine qd c0ch (by simp) (by simp only [go_sem]) rfl fun hw => ?_
 have hk : l.length ≤ maxLen := by have := hw.1.1; rwa [q6] at this
 repeat' (first | refine vs_ ?_ | ((first | refine vr_ ?_ | (refine cs_ ?_ ?_ <;> intro hc) | refine cj_ ?_ | simp (disch := omega) only [encs_getN, qb]) <;> (try refine ev_ ?_)) | with_reducible exact ti_)
 refine ql (S := Nat × Int) (fun s => s.1 ≤ l.length ∧ qiq s.2 (l.drop s.1) = qiq 20000 l) (fun s => (⟨[(0, .sl 3 (qr l)), (3, .int .i64 s.2), (4, .int .i64 s.1)], []⟩, [])) (fun s => l.length - s.1) ?_ fun s hs => ?_
 ·refine qj (0, 20000) [] ⟨Nat.zero_le _, rfl⟩ rfl (by simp) ?_ ?_ ?_ <;> (try refine ev_ ?_) <;> (try with_reducible exact ti_) <;> (try simp (disch := omega) only [qb, and_true, true_and])
 ·obtain ⟨i, a⟩ := s
  obtain ⟨hi, ha⟩ := hs
  dsimp only at hi ha
  repeat' (first | refine vs_ ?_ | ((first | refine vr_ ?_ | fail) <;> (try simp (disch := first | omega | (simp only [List.length_set, List.length_append, List.length_cons, List.length_nil]; done) | (simp only [List.length_set, List.length_append, List.length_cons, List.length_nil]; omega)) only [qq, qb, go_sem, ↓reduceIte])) | ((first | (refine cs_ ?_ ?_ <;> intro hc) | refine cj_ ?_ | simp (disch := omega) only [encs_getN, qb] | refine qa (q3w _ _ _) fun _ => ?_) <;> (try refine ev_ ?_)) | with_reducible exact ti_)
  ·refine qj (i + 1, cntY (l.getD i Y0) a 300) [] ⟨⟨by dsimp only; omega, ?_⟩, by dsimp only; omega⟩ rfl (by simp) ?_ ?_ ?_ <;> (try refine ev_ ?_) <;> (try with_reducible exact ti_) <;> (try simp (disch := omega) only [qb, and_true, true_and])
   rw [← ha, qj6 (l := l) (i := i) (by omega), qiq]
  all_goals
   have hf : qiq 20000 l = a := by rw [← ha, List.drop_of_length_le (by omega)]; rfl
   rw [qdo, hf]
  ·rw [if_neg (by simp; omega)]
  ·rw [if_pos (by simp; omega)]

/-! the laws of sizes -/
mutual
theorem qsn : ∀ (t : Ty) (k d : Int), 0 ≤ k → k ≤ 20000 → d ≤ 300 → 0 ≤ cntY t k d → cntY t k d = k - szY t ∧ (dpY t : Int) ≤ d
 | .mk c v l, k, d, h0, h1, h2, h3 => by
   rw [cntY] at h3 ⊢
   by_cases hd : d < 1
   ·rw [if_pos hd] at h3; omega
   ·rw [if_neg hd] at h3 ⊢
    have hk : IntKind.i64.wrap (k - 1) = k - 1 := qbc (by omega) (by omega)
    rw [hk] at h3 ⊢
    have h4 : 0 ≤ k - 1 := by
     by_cases h : 0 ≤ k - 1
     ·exact h
     ·rw [qe7 (by omega)] at h3; exact h3
    have := qon l (k - 1) d h4 (by omega) (by omega) h2 h3
    rw [szY, dpY]
    omega
theorem qon : ∀ (l : List Ty) (a d : Int), 0 ≤ a → a ≤ 20000 → 1 ≤ d → d ≤ 300 → 0 ≤ qdi l a d → qdi l a d = a - szYs l ∧ (dpYs l : Int) ≤ d - 1
 | [], a, d, h0, h1, h2, h3, h4 => by rw [qdi, szYs, dpYs]; omega
 | x :: r, a, d, h0, h1, h2, h3, h4 => by
   rw [qdi, if_pos h0] at h4 ⊢
   have hd : IntKind.i64.wrap (d - 1) = d - 1 := qbc (by omega) (by omega)
   rw [hd] at h4 ⊢
   have h5 : 0 ≤ cntY x a (d - 1) := by
    by_cases h : 0 ≤ cntY x a (d - 1)
    ·exact h
    ·rw [qe7 (by omega)] at h4; exact absurd h4 h
   obtain ⟨h6, h7⟩ := qsn x a (d - 1) h0 h1 (by omega) h5
   obtain ⟨h8, h9⟩ := qon r _ d h5 (by omega) h2 h3 h4
   rw [szYs, dpYs]
   omega
end
mutual
theorem qrq : ∀ (t : Ty) (k d : Int), 0 ≤ k → k ≤ 20000 → -1 ≤ cntY t k d
 | .mk c v l, k, d, h0, h1 => by
   rw [cntY]
   split
   ·omega
   ·rw [qbc (z := k - 1) (by omega) (by omega)]
    exact qu3 l (k - 1) d (by omega) (by omega)
theorem qu3 : ∀ (l : List Ty) (a d : Int), -1 ≤ a → a ≤ 20000 → -1 ≤ qdi l a d
 | [], a, d, h0, _ => by rw [qdi]; exact h0
 | x :: r, a, d, h0, h1 => by
   rw [qdi]
   split
   ·rename_i h
    have h2 := qrq x a (IntKind.i64.wrap (d - 1)) h h1
    have h3 := qz3 x a (IntKind.i64.wrap (d - 1)) h h1
    exact qu3 r _ d h2 (by omega)
   ·exact h0
theorem qz3 : ∀ (t : Ty) (k d : Int), 0 ≤ k → k ≤ 20000 → cntY t k d ≤ k
 | .mk c v l, k, d, h0, h1 => by
   rw [cntY]
   split
   ·omega
   ·rw [qbc (z := k - 1) (by omega) (by omega)]
    have := qtr l (k - 1) d (by omega) (by omega)
    omega
theorem qtr : ∀ (l : List Ty) (a d : Int), -1 ≤ a → a ≤ 20000 → qdi l a d ≤ a
 | [], a, d, h0, _ => by rw [qdi]; exact Int.le_refl _
 | x :: r, a, d, h0, h1 => by
   rw [qdi]
   split
   ·rename_i h
    have h2 := qrq x a (IntKind.i64.wrap (d - 1)) h h1
    have h3 := qz3 x a (IntKind.i64.wrap (d - 1)) h h1
    have := qtr r _ d h2 (by omega)
    omega
   ·exact Int.le_refl _
end
theorem qol : ∀ (l : List Ty) {a : Int}, a < 0 → -9223372036854775808 ≤ a - l.length → qiq a l < 0
 | [], a, h, _ => h
 | x :: r, a, h, h2 => by
   rw [qiq]
   have h3 : cntY x a 300 = IntKind.i64.wrap (a - 1) := by
    rw [qs7, if_neg (by omega)]
    have hk : IntKind.i64.wrap (a - 1) = a - 1 := qbc (by simp only [List.length_cons] at h2; omega) (by omega)
    rw [hk, qe7 (by omega)]
   have hk : IntKind.i64.wrap (a - 1) = a - 1 := qbc (by simp only [List.length_cons] at h2; omega) (by omega)
   rw [h3, hk]
   exact qol r (by omega) (by simp only [List.length_cons] at h2; omega)
theorem qpm : ∀ (l : List Ty) (a : Int), 0 ≤ a → a ≤ 20000 → l.length ≤ 9223372036854775807 → 0 ≤ qiq a l → (szYs l : Int) ≤ a ∧ (dpYs l : Int) ≤ 300
 | [], a, h0, h1, _, h2 => by rw [szYs, dpYs]; omega
 | x :: r, a, h0, h1, hl, h2 => by
   rw [qiq] at h2
   simp only [List.length_cons] at hl
   have h5 : 0 ≤ cntY x a 300 := by
    by_cases h : 0 ≤ cntY x a 300
    ·exact h
    ·have : -1 ≤ cntY x a 300 := qrq x a 300 h0 h1
     have := qol r (a := cntY x a 300) (by omega) (by omega)
     omega
   obtain ⟨h6, h7⟩ := qsn x a 300 h0 h1 (by omega) h5
   obtain ⟨h8, h9⟩ := qpm r _ h5 (by omega) (by omega) h2
   rw [szYs, dpYs]
   omega
theorem qsa {l : List Ty} (hl : l.length ≤ maxLen) (h : qdo l = true) : szYs l ≤ 20000 ∧ dpYs l ≤ 300 := by
 have := qpm l 20000 (by omega) (by omega) (by unfold maxLen at hl; omega) (by simpa [qdo] using h)
 omega

mutual
theorem qgd : ∀ (t : Ty), szY t ≤ 1000000 → qgj t = szY t
 | .mk c v l, h => by
   rw [szY] at h
   rw [qgj, szY, qhm l 1 (by omega) (by omega)]
   omega
theorem qhm : ∀ (l : List Ty) (a : Int), 1 ≤ a → a + szYs l ≤ 1000001 → qdx a l = a + szYs l
 | [], a, _, _ => by rw [qdx, szYs]; omega
 | x :: r, a, h0, h => by
   rw [szYs] at h
   rw [qdx, qgd x (by omega), qbc (by omega) (by omega), qhm r _ (by omega) (by omega), szYs]
   omega
end
mutual
theorem qk1 : ∀ (t : Ty), dpY t ≤ 1000000 → qj1 t = dpY t
 | .mk c v l, h => by
   rw [dpY] at h
   rw [qj1, dpY, qi6 l 0 (by omega) (by omega), qbc (by omega) (by omega)]
   omega
theorem qi6 : ∀ (l : List Ty) (a : Int), dpYs l ≤ 1000000 → 0 ≤ a → qfb a l = max a (dpYs l)
 | [], a, _, _ => by rw [qfb, dpYs]; omega
 | x :: r, a, h, h0 => by
   rw [dpYs] at h
   have h1 := qk1 x (by omega)
   rw [qfb, h1]
   have h2 : (if (dpY x : Int) > a then (dpY x : Int) else a) = max a (dpY x) := by split <;> omega
   rw [h2, qi6 r _ (by omega) (by omega), dpYs]
   omega
end
mutual
theorem qmb : ∀ (t : Ty) (n k : Int), 0 ≤ n → n + szY t ≤ 1000000 → qb3 qnn t n k = (n + szY t, true)
 | .mk c v l, n, k, h0, h => by
   rw [szY] at h
   rw [qb3, if_pos (show (qnn n (.mk c v l) k).2 = true from rfl)]
   have h1 : (qnn n (.mk c v l) k).1 = n + 1 := qbc (by omega) (by omega)
   rw [h1, qi9 l _ _ (by omega) (by omega), szY]
   congr 1; omega
theorem qi9 : ∀ (l : List Ty) (n k : Int), 0 ≤ n → n + szYs l ≤ 1000000 → qbo qnn l n k = (n + szYs l, true)
 | [], n, k, _, _ => by rw [qbo, szYs]; congr 1; omega
 | x :: r, n, k, h0, h => by
   rw [szYs] at h
   rw [qbo, qmb x n k h0 (by omega), if_pos rfl, qi9 r _ k (by omega) (by omega), szYs]
   congr 1; omega
end
mutual
theorem qmo : ∀ (t : Ty) (n k : Int), 0 ≤ n → 1 ≤ k → k + dpY t ≤ 1000000 → qb3 qlg t n k = (max n (k + dpY t - 1), true)
 | .mk c v l, n, k, h0, h1, h => by
   rw [dpY] at h
   rw [qb3, if_pos (show (qlg n (.mk c v l) k).2 = true from rfl)]
   have h2 : (qlg n (.mk c v l) k).1 = max n k := by simp only [qlg]; split <;> omega
   rw [h2, qbc (z := k + 1) (by omega) (by omega), qi3 l _ _ (by omega) (by omega) (by omega), dpY]
   congr 1; split <;> omega
theorem qi3 : ∀ (l : List Ty) (n k : Int), 0 ≤ n → 1 ≤ k → k + dpYs l ≤ 1000000 → qbo qlg l n k = (if dpYs l = 0 then n else max n (k + dpYs l - 1), true)
 | [], n, k, _, _, _ => by rw [qbo, dpYs, if_pos rfl]
 | x :: r, n, k, h0, h1, h => by
   rw [dpYs] at h
   have hp := q2o x
   rw [qbo, qmo x n k h0 h1 (by omega), if_pos rfl, qi3 r _ k (by omega) h1 (by omega), dpYs]
   congr 1
   rw [if_neg (by omega : ¬ max (dpY x) (dpYs r) = 0)]
   split <;> omega
end
mutual
theorem qk3 : ∀ (t : Ty) (n k : Int), 0 ≤ n → n + szY t ≤ 1000000 → 1 ≤ k → k + dpY t ≤ 1000000 →
 ((qb3 qd5 t n k).2 = true ↔ n + szY t ≤ 4096 ∧ k + dpY t - 1 ≤ 100 ∧ qbq t = true) ∧ ((qb3 qd5 t n k).2 = true → (qb3 qd5 t n k).1 = n + szY t)
 | .mk c v l, n, k, h0, h1, h2, h3 => by
   rw [szY] at h1
   rw [dpY] at h3
   have e1 : IntKind.i64.wrap (n + 1) = n + 1 := qbc (by omega) (by omega)
   have e2 : IntKind.i64.wrap (k + 1) = k + 1 := qbc (by omega) (by omega)
   have e3 : (qd5 n (.mk c v l) k).1 = n + 1 := e1
   have e4 : (qd5 n (.mk c v l) k).2 = true ↔ n + 1 ≤ 4096 ∧ k ≤ 100 ∧ mayW c v l.length = true := by
    simp only [qd5, e1, Bool.and_eq_true, decide_eq_true_eq]; rfl
   rw [qb3, szY, dpY, qbq]
   by_cases hs : (qd5 n (.mk c v l) k).2 = true
   ·rw [if_pos hs, e3, e2]
    obtain ⟨q1, q2, q3⟩ := e4.1 hs
    obtain ⟨r1, r2⟩ := qi0 l (n + 1) (k + 1) (by omega) (by omega) (by omega) (by omega) (by omega) (by omega)
    refine ⟨?_, fun h => by rw [r2 h]; omega⟩
    rw [r1, q3, Bool.and_true]
    constructor
    ·rintro ⟨a1, a2, a3⟩; exact ⟨by omega, by omega, a3⟩
    ·rintro ⟨a1, a2, a3⟩; exact ⟨by omega, by omega, a3⟩
   ·rw [if_neg hs]
    refine ⟨⟨fun h => (by cases h), fun ⟨a1, a2, a3⟩ => absurd (e4.2 ⟨by omega, by omega, (by rw [Bool.and_eq_true] at a3; exact a3.2)⟩) hs⟩, fun h => by cases h⟩
theorem qi0 : ∀ (l : List Ty) (n k : Int), 0 ≤ n → n + szYs l ≤ 1000000 → 1 ≤ k → k + dpYs l ≤ 1000000 → n ≤ 4096 → k - 1 ≤ 100 →
 ((qbo qd5 l n k).2 = true ↔ n + szYs l ≤ 4096 ∧ k + dpYs l - 1 ≤ 100 ∧ q9 l = true) ∧ ((qbo qd5 l n k).2 = true → (qbo qd5 l n k).1 = n + szYs l)
 | [], n, k, h0, h1, h2, h3, h4, h5 => by
   rw [qbo, szYs, dpYs, q9]
   exact ⟨⟨fun _ => ⟨by omega, by omega, rfl⟩, fun _ => rfl⟩, fun _ => by simp⟩
 | x :: r, n, k, h0, h1, h2, h3, h4, h5 => by
   rw [szYs] at h1
   rw [dpYs] at h3
   obtain ⟨q1, q2⟩ := qk3 x n k h0 (by omega) h2 (by omega)
   rw [qbo, szYs, dpYs, q9]
   by_cases hs : (qb3 qd5 x n k).2 = true
   ·rw [if_pos hs, q2 hs]
    obtain ⟨a1, a2, a3⟩ := q1.1 hs
    obtain ⟨r1, r2⟩ := qi0 r (n + szY x) k (by omega) (by omega) h2 (by omega) (by omega) h5
    refine ⟨?_, fun h => by rw [r2 h]; omega⟩
    rw [r1, a3, Bool.true_and]
    constructor
    ·rintro ⟨b1, b2, b3⟩; exact ⟨by omega, by omega, b3⟩
    ·rintro ⟨b1, b2, b3⟩; exact ⟨by omega, by omega, b3⟩
   ·rw [if_neg hs]
    refine ⟨⟨fun h => (by cases h), fun ⟨a1, a2, a3⟩ => absurd (q1.2 ⟨by omega, by omega, ?_⟩) hs⟩, fun h => by cases h⟩
    rw [Bool.and_eq_true] at a3
    exact a3.1
end
def qs (t : Ty) : Bool := decide (szY t ≤ 4096) && (decide (dpY t ≤ 100) && qbq t)
theorem qrs {t : Ty} (h1 : szY t ≤ 20000) (h2 : dpY t ≤ 300) : qsw t = qs t := by
 have := (qk3 t 0 1 (by omega) (by omega) (by omega) (by omega)).1
 rw [qsw, Bool.eq_iff_iff, this, qs, Bool.and_eq_true, Bool.and_eq_true, decide_eq_true_eq, decide_eq_true_eq]
 constructor
 ·rintro ⟨a1, a2, a3⟩; exact ⟨by omega, by omega, a3⟩
 ·rintro ⟨a1, a2, a3⟩; exact ⟨by omega, by omega, a3⟩
theorem qeh {t : Ty} (h1 : szY t ≤ 20000) (h2 : dpY t ≤ 300) : qm Try.prog 79 [encY t] (.bool (qs t)) := by
 refine qd c0ci (by simp) (by simp only [go_sem]) rfl fun hw => ?_
 have e1 := qjr t
 have e2 := qn1 t
 rw [qgd t (by omega)] at e1
 rw [qk1 t (by omega)] at e2
 repeat' (first | refine vs_ ?_ | ((first | refine vr_ ?_ | refine qa e1 fun _ => ?_ | refine qa e2 fun _ => ?_ | refine qa (qn9 t) fun _ => ?_ | (refine cs_ ?_ ?_ <;> intro hc) | refine cj_ ?_ | fail) <;> (try refine ev_ ?_)) | with_reducible exact ti_)
 all_goals
  rw [qs]
 ·rw [decide_eq_true (by omega), decide_eq_true (by omega)]; rfl
 ·rw [decide_eq_false (p := dpY t ≤ 100) (by omega), Bool.false_and, Bool.and_false]
 ·rw [decide_eq_false (p := szY t ≤ 4096) (by omega)]; rfl
theorem qcr {t : Ty} (h1 : szY t ≤ 20000) (h2 : dpY t ≤ 300) : qm Try.prog 48 [encY t] (.bool (qs t)) := by
 rw [← qrs h1 h2]; exact qm6 t
set_option maxRecDepth 4000

theorem qxu {t a b : Ty} (h1 : t.con = arrW) (h2 : t.args = [a, b]) : txtY t = parW (decide (a.con = arrW)) (txtY a) ++ ([32, 45, 62, 32] ++ txtY b) := by
 cases t with
 | mk c v l =>
   have h1' : c = arrW := h1
   have h2' : l = [a, b] := h2
   subst h1' h2'
   rw [txtY, if_pos rfl]
theorem qy3 {t : Ty} (h1 : ¬ t.con = arrW) : txtY t = qgb t ++ argY t.args := by
 cases t with
 | mk c v l =>
   have h1' : ¬ c = arrW := h1
   rcases l with _ | ⟨a, _ | ⟨b, _ | ⟨d, r⟩⟩⟩ <;> (simp only [txtY, if_neg h1']; rfl)
theorem qh1 (l : List Ty) (i : Nat) (h : i < l.length) : argY (l.take (i + 1)) = argY (l.take i) ++ (32 :: parW (decide ((l.getD i Y0).args ≠ [])) (txtY (l.getD i Y0))) := by
 have h1 : l.take (i + 1) = l.take i ++ [l.getD i Y0] := by
  rw [List.take_add_one, List.getD_eq_getElem?_getD, List.getElem?_eq_getElem h]; rfl
 rw [h1]
 generalize l.take i = a
 generalize l.getD i Y0 = x
 induction a with
 | nil => simp [argY]
 | cons y a ih => simp only [List.cons_append, argY, ih, List.append_assoc]
theorem qfm (l : List Ty) (i : Nat) : (argY (l.take i)).length ≤ (argY l).length := by
 induction l generalizing i with
 | nil => simp
 | cons x r ih =>
   cases i with
   | zero => simp [argY]
   | succ i => rw [List.take_succ_cons, argY, argY, List.length_append, List.length_append]; have := ih i; omega
theorem quj {t : Ty} (h : qbq t = true) (h1 : t.con = arrW) : ∃ a b, t.args = [a, b] ∧ qbq a = true ∧ qbq b = true := by
 rw [qe4, Bool.and_eq_true] at h
 obtain ⟨h2, h3⟩ := h
 rw [mayY, mayW, h1, if_neg (by decide), if_pos rfl, Bool.and_eq_true, decide_eq_true_eq, decide_eq_true_eq] at h3
 have hl : t.args.length = 2 := by omega
 obtain ⟨a, b, hab⟩ : ∃ a b, t.args = [a, b] := by
  match hh : t.args, hl with
  | [a, b], _ => exact ⟨a, b, rfl⟩
 rw [hab] at h2
 simp only [q9, Bool.and_eq_true] at h2
 exact ⟨a, b, hab, h2.1, h2.2.1⟩
theorem qsg {t x : Ty} (h : qbq t = true) (hx : x ∈ t.args) : qbq x = true := by
 rw [qe4, Bool.and_eq_true] at h
 have h2 := h.1
 generalize t.args = l at hx h2
 induction l with
 | nil => cases hx
 | cons y r ih =>
   rw [q9, Bool.and_eq_true] at h2
   rcases List.mem_cons.1 hx with rfl | hx
   ·exact h2.1
   ·exact ih hx h2.2
theorem qo0 (b : Bool) (s : List UInt8) : s.length ≤ (parW b s).length ∧ (parW b s).length ≤ s.length + 2 := by
 rw [parW]; split <;> simp <;> omega
def Big : Nat := 140737488355328
theorem qh0 {n : Nat} (h : n ≤ Big) : n ≤ maxLen := by unfold Big at h; unfold maxLen; omega

theorem qbfy {v : Int} (h : (Lit.int .i64 v).wf = true) (h0 : v < 0) : IntKind.i64.wrap (-1 - v) = -1 - v := by
 have := qh4 h
 exact qbc (by omega) (by omega)
end Go.Proofs.Ytfpobiheiloamaa
