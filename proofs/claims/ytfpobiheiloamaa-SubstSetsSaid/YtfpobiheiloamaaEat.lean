/- Texts of this proof, joined. -/
import Derived.Test.YtfpobiheiloamaaEaq

/- terms: how great, how deep, whether a type is one; Few -/
set_option maxRecDepth 4000
namespace Go.Proofs.Ytfpobiheiloamaa
open Go Go.RowKit Go.V
set_option linter.unusedVariables false
set_option linter.unusedSimpArgs false

/-! the program's -/
abbrev numE (n : Int) : Ent := .blk [.int .i64 n]
def qdy (n : Int) (t : Ty) (k : Int) : Int × Bool := (IntKind.i64.wrap (n + 1), decide (IntKind.i64.wrap (n + 1) ≤ 4096) && (decide (k ≤ 100) && mayY t))
theorem qbh7 (n : Int) (t : Ty) (k : Int) : VM Try.prog 87 (numE n) (numE (qdy n t k).1) [encY t, .int .i64 k, .ptr 0 0] (.bool (qdy n t k).2) := by
 refine qif (by kernel_rfl) fun hw => ?_
 have hk := qb4 hw.1
 refine qp c0bw 1 (by simp) (by simp) ?_
 repeat' (first | refine vs_ ?_ | ((first | refine vr_ ?_ | refine qa (qe9 _) fun _ => ?_ | refine qa (qy0 _ _ _) fun _ => ?_ | (refine cs_ ?_ ?_ <;> intro hc) | refine cj_ ?_ | simp (disch := omega) only [encs_getN, qb]) <;> (try refine ev_ ?_)) | with_reducible exact ti_)
 ·simp_all [qdy]
 ·exact ⟨rfl, by simp only [qdy, *, decide_true, decide_false, Bool.true_and, Bool.false_and]⟩
 ·exact ⟨rfl, by simp only [qdy, *, decide_true, decide_false, Bool.true_and, Bool.false_and]⟩
def qnc (n : Int) (_ : Ty) (_ : Int) : Int × Bool := (IntKind.i64.wrap (n + 1), true)
theorem qbi3 (n : Int) (t : Ty) (k : Int) : VM Try.prog 131 (numE n) (numE (qnc n t k).1) [encY t, .int .i64 k, .ptr 0 0] (.bool (qnc n t k).2) := by
 refine qp c0bx 1 (by simp) (by simp) ?_
 repeat' (first | refine vs_ ?_ | ((first | refine vr_ ?_ | (refine cs_ ?_ ?_ <;> intro hc) | refine cj_ ?_ | simp (disch := omega) only [encs_getN, qb]) <;> (try refine ev_ ?_)) | with_reducible exact ti_)
 exact ⟨rfl, rfl⟩
def qm2 (n : Int) (_ : Ty) (k : Int) : Int × Bool := (if k > n then k else n, true)
theorem qbgf (n : Int) (t : Ty) (k : Int) : VM Try.prog 132 (numE n) (numE (qm2 n t k).1) [encY t, .int .i64 k, .ptr 0 0] (.bool (qm2 n t k).2) := by
 refine qp c0by 1 (by simp) (by simp) ?_
 repeat' (first | refine vs_ ?_ | ((first | refine vr_ ?_ | (refine cs_ ?_ ?_ <;> intro hc) | refine cj_ ?_ | fail) <;> (try refine ev_ ?_)) | with_reducible exact ti_)
 exact ⟨rfl, rfl⟩
theorem qk4 {f : FuncId} {step : Int → Ty → Int → Int × Bool} (h : ∀ n t k, VM Try.prog f (numE n) (numE (step n t k).1) [encY t, .int .i64 k, .ptr 0 0] (.bool (step n t k).2)) (t : Ty) (n k : Int) :
 VM Try.prog 86 (numE n) (numE (qb7 step t n k).1) [encY t, .int .i64 k, .fn f [] [.ptr 0 0]] (.bool (qb7 step t n k).2) :=
 qqu (st := numE) (ok := fun _ _ => True) (fun _ => rfl) (fun _ _ _ _ _ => trivial) (fun _ _ _ => trivial) (fun n t k _ => h n t k) t n k trivial
def qta (t : Ty) : Bool := (qb7 qdy t 0 1).2
theorem qn4 (t : Ty) : qn Try.prog 48 [encY t] (.bool (qta t)) := by
 refine qd c0bz (by simp) (by simp only [go_sem]) rfl fun hw => ?_
 repeat' (first | refine vs_ ?_ | ((first | refine vr_ ?_ | refine qcu 1 (qk4 qbh7 t 0 1) ?_ | (refine cs_ ?_ ?_ <;> intro hc) | refine cj_ ?_ | fail) <;> (try refine ev_ ?_)) | with_reducible exact ti_)
 rfl
theorem qqw (t : Ty) : qn Try.prog 110 [encY t] (.int .i64 (qb7 qnc t 0 1).1) := by
 refine qd c0ca (by simp) (by simp only [go_sem]) rfl fun hw => ?_
 repeat' (first | refine vs_ ?_ | ((first | refine vr_ ?_ | refine qcu 1 (qk4 qbi3 t 0 1) ?_ | (refine cs_ ?_ ?_ <;> intro hc) | refine cj_ ?_ | fail) <;> (try refine ev_ ?_)) | with_reducible exact ti_)
theorem qnb (t : Ty) : qn Try.prog 111 [encY t] (.int .i64 (qb7 qm2 t 0 1).1) := by
 refine qd c0cb (by simp) (by simp only [go_sem]) rfl fun hw => ?_
 repeat' (first | refine vs_ ?_ | ((first | refine vr_ ?_ | refine qcu 1 (qk4 qbgf t 0 1) ?_ | (refine cs_ ?_ ?_ <;> intro hc) | refine cj_ ?_ | fail) <;> (try refine ev_ ?_)) | with_reducible exact ti_)

/-! the references -/
mutual
def qgk : Ty → Int
 | .mk _ _ l => qdw 1 l
def qdw : Int → List Ty → Int
 | a, [] => a
 | a, x :: r => qdw (IntKind.i64.wrap (a + qgk x)) r
end
theorem qs3 (t : Ty) : qgk t = qdw 1 t.args := by cases t; rw [qgk]; rfl
theorem qjs : ∀ t, qn Try.prog 112 [encY t] (.int .i64 (qgk t)) := by
 refine Ty.ind fun t ih => ?_
 refine qd c0cc (by simp) (by simp only [go_sem]) rfl fun hw => ?_
 have hk := qb4 hw.1
 repeat' (first | refine vs_ ?_ | ((first | refine vr_ ?_ | (refine cs_ ?_ ?_ <;> intro hc) | refine cj_ ?_ | simp (disch := omega) only [encs_getN, qb]) <;> (try refine ev_ ?_)) | with_reducible exact ti_)
 refine ql (S := Nat × Int) (fun s => s.1 ≤ t.args.length ∧ qdw s.2 (t.args.drop s.1) = qgk t) (fun s => (⟨[(1, .ptr 0 0), (3, .int .i64 s.2), (4, .int .i64 s.1)], []⟩, [.blk (yc t)])) (fun s => t.args.length - s.1) ?_ fun s hs => ?_
 ·refine qj (0, 1) [0] ⟨Nat.zero_le _, (qs3 t).symm⟩ rfl (by simp) ?_ ?_ ?_ <;> (try refine ev_ ?_) <;> (try with_reducible exact ti_) <;> (try simp (disch := omega) only [qb, and_true, true_and])
 ·obtain ⟨i, a⟩ := s
  obtain ⟨hi, ha⟩ := hs
  dsimp only at hi ha
  repeat' (first | refine vs_ ?_ | ((first | refine vr_ ?_ | fail) <;> (try simp (disch := first | omega | (simp only [List.length_set, List.length_append, List.length_cons, List.length_nil]; done) | (simp only [List.length_set, List.length_append, List.length_cons, List.length_nil]; omega)) only [qr, qb, go_sem, ↓reduceIte])) | ((first | (refine cs_ ?_ ?_ <;> intro hc) | refine cj_ ?_ | simp (disch := omega) only [encs_getN, qb] | refine qa (ih _ (q7 (by omega))) fun _ => ?_) <;> (try refine ev_ ?_)) | with_reducible exact ti_)
  ·refine qj (i + 1, IntKind.i64.wrap (a + qgk (t.args.getD i Y0))) [0] ⟨⟨by dsimp only; omega, ?_⟩, by dsimp only; omega⟩ rfl (by simp) ?_ ?_ ?_ <;> (try refine ev_ ?_) <;> (try with_reducible exact ti_) <;> (try simp (disch := omega) only [qb, and_true, true_and])
   rw [← ha, qkh (l := t.args) (i := i) (by omega), qdw]
  ·rw [← ha, List.drop_of_length_le (by omega)]; rfl
mutual
def qkv : Ty → Int
 | .mk _ _ l => IntKind.i64.wrap (qe2 0 l + 1)
def qe2 : Int → List Ty → Int
 | a, [] => a
 | a, x :: r => qe2 (if qkv x > a then qkv x else a) r
end
theorem qyz (t : Ty) : qkv t = IntKind.i64.wrap (qe2 0 t.args + 1) := by cases t; rw [qkv]; rfl
theorem qnr : ∀ t, qn Try.prog 113 [encY t] (.int .i64 (qkv t)) := by
 refine Ty.ind fun t ih => ?_
 refine qd c0cd (by simp) (by simp only [go_sem]) rfl fun hw => ?_
 have hk := qb4 hw.1
 repeat' (first | refine vs_ ?_ | ((first | refine vr_ ?_ | (refine cs_ ?_ ?_ <;> intro hc) | refine cj_ ?_ | simp (disch := omega) only [encs_getN, qb]) <;> (try refine ev_ ?_)) | with_reducible exact ti_)
 refine ql (S := Nat × Int) (fun s => s.1 ≤ t.args.length ∧ qe2 s.2 (t.args.drop s.1) = qe2 0 t.args) (fun s => (⟨[(1, .ptr 0 0), (3, .int .i64 s.2), (4, .int .i64 s.1)], []⟩, [.blk (yc t)])) (fun s => t.args.length - s.1) ?_ fun s hs => ?_
 ·refine qj (0, 0) [0] ⟨Nat.zero_le _, rfl⟩ rfl (by simp) ?_ ?_ ?_ <;> (try refine ev_ ?_) <;> (try with_reducible exact ti_) <;> (try simp (disch := omega) only [qb, and_true, true_and])
 ·obtain ⟨i, a⟩ := s
  obtain ⟨hi, ha⟩ := hs
  dsimp only at hi ha
  repeat' (first | refine vs_ ?_ | ((first | refine vr_ ?_ | fail) <;> (try simp (disch := first | omega | (simp only [List.length_set, List.length_append, List.length_cons, List.length_nil]; done) | (simp only [List.length_set, List.length_append, List.length_cons, List.length_nil]; omega)) only [qr, qb, go_sem, ↓reduceIte])) | ((first | (refine cs_ ?_ ?_ <;> intro hc) | refine cj_ ?_ | simp (disch := omega) only [encs_getN, qb] | refine qa (ih _ (q7 (by omega))) fun _ => ?_) <;> (try refine ev_ ?_)) | with_reducible exact ti_)
  ·refine qj (i + 1, if qkv (t.args.getD i Y0) > a then qkv (t.args.getD i Y0) else a) [0] ⟨⟨by dsimp only; omega, ?_⟩, by dsimp only; omega⟩ rfl (by simp) ?_ ?_ ?_ <;> (try refine ev_ ?_) <;> (try with_reducible exact ti_) <;> (try simp (disch := omega) only [qb, and_true, true_and])
   rw [← ha, qkh (l := t.args) (i := i) (by omega), qe2]
  ·rw [qyz, ← ha, List.drop_of_length_le (by omega)]; rfl
mutual
def qbt : Ty → Bool
 | .mk c v l => q8 l && mayW c v l.length
def q8 : List Ty → Bool
 | [] => true
 | x :: r => qbt x && q8 r
end
theorem qe4 (t : Ty) : qbt t = (q8 t.args && mayY t) := by cases t; rw [qbt]; rfl
theorem qgh {l : List Ty} {i : Nat} (h : i < l.length) : q8 (l.drop i) = (qbt (l.getD i Y0) && q8 (l.drop (i + 1))) := by rw [qkh h, q8]
theorem qnh : ∀ t, qn Try.prog 114 [encY t] (.bool (qbt t)) := by
 refine Ty.ind fun t ih => ?_
 refine qd c0ce (by simp) (by simp only [go_sem]) rfl fun hw => ?_
 have hk := qb4 hw.1
 repeat' (first | refine vs_ ?_ | ((first | refine vr_ ?_ | (refine cs_ ?_ ?_ <;> intro hc) | refine cj_ ?_ | simp (disch := omega) only [encs_getN, qb]) <;> (try refine ev_ ?_)) | with_reducible exact ti_)
 refine ql (S := Nat) (fun i => i ≤ t.args.length ∧ q8 (t.args.drop i) = q8 t.args) (fun i => (⟨[(1, .ptr 0 0), (3, .int .i64 i)], []⟩, [.blk (yc t)])) (fun i => t.args.length - i) ?_ fun i hi => ?_
 ·refine qj 0 [0] ⟨Nat.zero_le _, rfl⟩ rfl (by simp) ?_ ?_ ?_ <;> (try refine ev_ ?_) <;> (try with_reducible exact ti_) <;> (try simp (disch := omega) only [qb, and_true, true_and])
 ·obtain ⟨hi, ha⟩ := hi
  rw [qe4]
  repeat' (first | refine vs_ ?_ | ((first | refine vr_ ?_ | fail) <;> (try simp (disch := first | omega | (simp only [List.length_set, List.length_append, List.length_cons, List.length_nil]; done) | (simp only [List.length_set, List.length_append, List.length_cons, List.length_nil]; omega)) only [qr, qb, go_sem, ↓reduceIte])) | ((first | (refine cs_ ?_ ?_ <;> intro hc) | refine cj_ ?_ | simp (disch := omega) only [encs_getN, qb] | refine qa (ih _ (q7 (by omega))) fun _ => ?_ | refine qa (qn9 _) fun _ => ?_ | refine qa (qru _) fun _ => ?_) <;> (try refine ev_ ?_)) | with_reducible exact ti_)
  ·have : q8 t.args = false := by rw [← ha, qgh (by omega), hc]; rfl
   rw [this]; rfl
  ·refine qj (i + 1) [0] ⟨⟨by omega, ?_⟩, by omega⟩ rfl (by simp) ?_ ?_ ?_ <;> (try refine ev_ ?_) <;> (try with_reducible exact ti_) <;> (try simp (disch := omega) only [qb, and_true, true_and])
   rw [← ha, qgh (i := i) (by omega), hc, Bool.true_and]
  all_goals
   have hs : q8 t.args = true := by rw [← ha, List.drop_of_length_le (by omega)]; rfl
   rw [hs, Bool.true_and, mayY, mayW]
   simp only [arrW, *, if_true, if_false, decide_true, decide_false, Bool.and_true, Bool.and_false, Bool.false_eq_true]
   try rfl
/-! Few -/
mutual
def cntY : Ty → Int → Int → Int
 | .mk _ _ l, k, d => if d < 1 then -1 else qdd l (IntKind.i64.wrap (k - 1)) d
def qdd : List Ty → Int → Int → Int
 | [], a, _ => a
 | x :: r, a, d => if 0 ≤ a then qdd r (cntY x a (IntKind.i64.wrap (d - 1))) d else a
end
theorem qt7 (t : Ty) (k d : Int) : cntY t k d = if d < 1 then -1 else qdd t.args (IntKind.i64.wrap (k - 1)) d := by cases t; rw [cntY]; rfl
theorem qff {a : Int} (h : a < 0) (l : List Ty) (d : Int) : qdd l a d = a := by
 cases l with
 | nil => rw [qdd]
 | cons x r => rw [qdd, if_neg (by omega)]
theorem q8n : ∀ t k d, qn Try.prog 77 [encY t, .int .i64 k, .int .i64 d] (.int .i64 (cntY t k d)) := by
 refine Ty.ind fun t ih k d => ?_
 refine qd c0cf (by simp) (by simp only [go_sem]) rfl fun hw => ?_
 have hk := qb4 hw.1
 rw [qt7]
 repeat' (first | refine vs_ ?_ | ((first | refine vr_ ?_ | (refine cs_ ?_ ?_ <;> intro hc) | refine cj_ ?_ | simp (disch := omega) only [encs_getN, qb]) <;> (try refine ev_ ?_)) | with_reducible exact ti_)
 ·rw [if_pos (by assumption)]
 rw [if_neg (by assumption)]
 refine ql (S := Nat × Int) (fun s => s.1 ≤ t.args.length ∧ qdd (t.args.drop s.1) s.2 d = qdd t.args (IntKind.i64.wrap (k - 1)) d) (fun s => (⟨[(1, .int .i64 s.2), (2, .int .i64 d), (3, .ptr 0 0), (7, .int .i64 s.1)], []⟩, [.blk (yc t)])) (fun s => t.args.length - s.1) ?_ fun s hs => ?_
 ·refine qj (0, IntKind.i64.wrap (k - 1)) [0] ⟨Nat.zero_le _, rfl⟩ rfl (by simp) ?_ ?_ ?_ <;> (try refine ev_ ?_) <;> (try with_reducible exact ti_) <;> (try simp (disch := omega) only [qb, and_true, true_and])
 ·obtain ⟨i, a⟩ := s
  obtain ⟨hi, ha⟩ := hs
  dsimp only at hi ha
  repeat' (first | refine vs_ ?_ | ((first | refine vr_ ?_ | fail) <;> (try simp (disch := first | omega | (simp only [List.length_set, List.length_append, List.length_cons, List.length_nil]; done) | (simp only [List.length_set, List.length_append, List.length_cons, List.length_nil]; omega)) only [qr, qb, go_sem, ↓reduceIte])) | ((first | (refine cs_ ?_ ?_ <;> intro hc) | refine cj_ ?_ | simp (disch := omega) only [encs_getN, qb] | refine qa (ih _ (q7 (by omega)) _ _) fun _ => ?_) <;> (try refine ev_ ?_)) | with_reducible exact ti_)
  ·refine qj (i + 1, cntY (t.args.getD i Y0) a (IntKind.i64.wrap (d - 1))) [0] ⟨⟨by dsimp only; omega, ?_⟩, by dsimp only; omega⟩ rfl (by simp) ?_ ?_ ?_ <;> (try refine ev_ ?_) <;> (try with_reducible exact ti_) <;> (try simp (disch := omega) only [qb, and_true, true_and])
   rw [← ha, qkh (l := t.args) (i := i) (by omega), qdd, if_pos (by assumption)]
  ·rw [← ha, qff (by omega)]
  ·rw [← ha, List.drop_of_length_le (by omega)]; rfl
def qit (a : Int) : List Ty → Int
 | [] => a
 | x :: r => qit (cntY x a 300) r
def qjl (l : List Ty) : Bool := decide (0 ≤ qit 20000 l)
theorem qbi7 (l : List Ty) : qn Try.prog 31 [.sl 3 (qs l)] (.int .i64 (if qjl l = true then 1 else 0)) := by
 refine qd c0cg (by simp) (by simp only [go_sem]) rfl fun hw => ?_
 have hk : l.length ≤ maxLen := by have := hw.1.1; rwa [q6] at this
 repeat' (first | refine vs_ ?_ | ((first | refine vr_ ?_ | (refine cs_ ?_ ?_ <;> intro hc) | refine cj_ ?_ | simp (disch := omega) only [encs_getN, qb]) <;> (try refine ev_ ?_)) | with_reducible exact ti_)
 refine ql (S := Nat × Int) (fun s => s.1 ≤ l.length ∧ qit s.2 (l.drop s.1) = qit 20000 l) (fun s => (⟨[(0, .sl 3 (qs l)), (3, .int .i64 s.2), (4, .int .i64 s.1)], []⟩, [])) (fun s => l.length - s.1) ?_ fun s hs => ?_
 ·refine qj (0, 20000) [] ⟨Nat.zero_le _, rfl⟩ rfl (by simp) ?_ ?_ ?_ <;> (try refine ev_ ?_) <;> (try with_reducible exact ti_) <;> (try simp (disch := omega) only [qb, and_true, true_and])
 ·obtain ⟨i, a⟩ := s
  obtain ⟨hi, ha⟩ := hs
  dsimp only at hi ha
  repeat' (first | refine vs_ ?_ | ((first | refine vr_ ?_ | fail) <;> (try simp (disch := first | omega | (simp only [List.length_set, List.length_append, List.length_cons, List.length_nil]; done) | (simp only [List.length_set, List.length_append, List.length_cons, List.length_nil]; omega)) only [qr, qb, go_sem, ↓reduceIte])) | ((first | (refine cs_ ?_ ?_ <;> intro hc) | refine cj_ ?_ | simp (disch := omega) only [encs_getN, qb] | refine qa (q8n _ _ _) fun _ => ?_) <;> (try refine ev_ ?_)) | with_reducible exact ti_)
  ·refine qj (i + 1, cntY (l.getD i Y0) a 300) [] ⟨⟨by dsimp only; omega, ?_⟩, by dsimp only; omega⟩ rfl (by simp) ?_ ?_ ?_ <;> (try refine ev_ ?_) <;> (try with_reducible exact ti_) <;> (try simp (disch := omega) only [qb, and_true, true_and])
   rw [← ha, qkh (l := l) (i := i) (by omega), qit]
  all_goals
   have hf : qit 20000 l = a := by rw [← ha, List.drop_of_length_le (by omega)]; rfl
   rw [qjl, hf]
  ·rw [if_neg (by simp; omega)]
  ·rw [if_pos (by simp; omega)]

/-! the laws of sizes -/
mutual
theorem qsc : ∀ (t : Ty) (k d : Int), 0 ≤ k → k ≤ 20000 → d ≤ 300 → 0 ≤ cntY t k d → cntY t k d = k - szY t ∧ (dpY t : Int) ≤ d
 | .mk c v l, k, d, h0, h1, h2, h3 => by
   rw [cntY] at h3 ⊢
   by_cases hd : d < 1
   ·rw [if_pos hd] at h3; omega
   ·rw [if_neg hd] at h3 ⊢
    have hk : IntKind.i64.wrap (k - 1) = k - 1 := qba (by omega) (by omega)
    rw [hk] at h3 ⊢
    have h4 : 0 ≤ k - 1 := by
     by_cases h : 0 ≤ k - 1
     ·exact h
     ·rw [qff (by omega)] at h3; exact h3
    have := qos l (k - 1) d h4 (by omega) (by omega) h2 h3
    rw [szY, dpY]
    omega
theorem qos : ∀ (l : List Ty) (a d : Int), 0 ≤ a → a ≤ 20000 → 1 ≤ d → d ≤ 300 → 0 ≤ qdd l a d → qdd l a d = a - szYs l ∧ (dpYs l : Int) ≤ d - 1
 | [], a, d, h0, h1, h2, h3, h4 => by rw [qdd, szYs, dpYs]; omega
 | x :: r, a, d, h0, h1, h2, h3, h4 => by
   rw [qdd, if_pos h0] at h4 ⊢
   have hd : IntKind.i64.wrap (d - 1) = d - 1 := qba (by omega) (by omega)
   rw [hd] at h4 ⊢
   have h5 : 0 ≤ cntY x a (d - 1) := by
    by_cases h : 0 ≤ cntY x a (d - 1)
    ·exact h
    ·rw [qff (by omega)] at h4; exact absurd h4 h
   obtain ⟨h6, h7⟩ := qsc x a (d - 1) h0 h1 (by omega) h5
   obtain ⟨h8, h9⟩ := qos r _ d h5 (by omega) h2 h3 h4
   rw [szYs, dpYs]
   omega
end
mutual
theorem qt9 : ∀ (t : Ty) (k d : Int), 0 ≤ k → k ≤ 20000 → -1 ≤ cntY t k d
 | .mk c v l, k, d, h0, h1 => by
   rw [cntY]
   split
   ·omega
   ·rw [qba (z := k - 1) (by omega) (by omega)]
    exact qsi l (k - 1) d (by omega) (by omega)
theorem qsi : ∀ (l : List Ty) (a d : Int), -1 ≤ a → a ≤ 20000 → -1 ≤ qdd l a d
 | [], a, d, h0, _ => by rw [qdd]; exact h0
 | x :: r, a, d, h0, h1 => by
   rw [qdd]
   split
   ·rename_i h
    have h2 := qt9 x a (IntKind.i64.wrap (d - 1)) h h1
    have h3 := qz6 x a (IntKind.i64.wrap (d - 1)) h h1
    exact qsi r _ d h2 (by omega)
   ·exact h0
theorem qz6 : ∀ (t : Ty) (k d : Int), 0 ≤ k → k ≤ 20000 → cntY t k d ≤ k
 | .mk c v l, k, d, h0, h1 => by
   rw [cntY]
   split
   ·omega
   ·rw [qba (z := k - 1) (by omega) (by omega)]
    have := qua l (k - 1) d (by omega) (by omega)
    omega
theorem qua : ∀ (l : List Ty) (a d : Int), -1 ≤ a → a ≤ 20000 → qdd l a d ≤ a
 | [], a, d, h0, _ => by rw [qdd]; exact Int.le_refl _
 | x :: r, a, d, h0, h1 => by
   rw [qdd]
   split
   ·rename_i h
    have h2 := qt9 x a (IntKind.i64.wrap (d - 1)) h h1
    have h3 := qz6 x a (IntKind.i64.wrap (d - 1)) h h1
    have := qua r _ d h2 (by omega)
    omega
   ·exact Int.le_refl _
end
theorem qpy : ∀ (l : List Ty) {a : Int}, a < 0 → -9223372036854775808 ≤ a - l.length → qit a l < 0
 | [], a, h, _ => h
 | x :: r, a, h, h2 => by
   rw [qit]
   have h3 : cntY x a 300 = IntKind.i64.wrap (a - 1) := by
    rw [qt7, if_neg (by omega)]
    have hk : IntKind.i64.wrap (a - 1) = a - 1 := qba (by simp only [List.length_cons] at h2; omega) (by omega)
    rw [hk, qff (by omega)]
   have hk : IntKind.i64.wrap (a - 1) = a - 1 := qba (by simp only [List.length_cons] at h2; omega) (by omega)
   rw [h3, hk]
   exact qpy r (by omega) (by simp only [List.length_cons] at h2; omega)
theorem qo5 : ∀ (l : List Ty) (a : Int), 0 ≤ a → a ≤ 20000 → l.length ≤ 9223372036854775807 → 0 ≤ qit a l → (szYs l : Int) ≤ a ∧ (dpYs l : Int) ≤ 300
 | [], a, h0, h1, _, h2 => by rw [szYs, dpYs]; omega
 | x :: r, a, h0, h1, hl, h2 => by
   rw [qit] at h2
   simp only [List.length_cons] at hl
   have h5 : 0 ≤ cntY x a 300 := by
    by_cases h : 0 ≤ cntY x a 300
    ·exact h
    ·have : -1 ≤ cntY x a 300 := qt9 x a 300 h0 h1
     have := qpy r (a := cntY x a 300) (by omega) (by omega)
     omega
   obtain ⟨h6, h7⟩ := qsc x a 300 h0 h1 (by omega) h5
   obtain ⟨h8, h9⟩ := qo5 r _ h5 (by omega) (by omega) h2
   rw [szYs, dpYs]
   omega
theorem q7j {l : List Ty} (hl : l.length ≤ maxLen) (h : qjl l = true) : szYs l ≤ 20000 ∧ dpYs l ≤ 300 := by
 have := qo5 l 20000 (by omega) (by omega) (by unfold maxLen at hl; omega) (by simpa [qjl] using h)
 omega

mutual
theorem qfx : ∀ (t : Ty), szY t ≤ 1000000 → qgk t = szY t
 | .mk c v l, h => by
   rw [szY] at h
   rw [qgk, szY, qhe l 1 (by omega) (by omega)]
   omega
theorem qhe : ∀ (l : List Ty) (a : Int), 1 ≤ a → a + szYs l ≤ 1000001 → qdw a l = a + szYs l
 | [], a, _, _ => by rw [qdw, szYs]; omega
 | x :: r, a, h0, h => by
   rw [szYs] at h
   rw [qdw, qfx x (by omega), qba (by omega) (by omega), qhe r _ (by omega) (by omega), szYs]
   omega
end
mutual
theorem qlc : ∀ (t : Ty), dpY t ≤ 1000000 → qkv t = dpY t
 | .mk c v l, h => by
   rw [dpY] at h
   rw [qkv, dpY, qjk l 0 (by omega) (by omega), qba (by omega) (by omega)]
   omega
theorem qjk : ∀ (l : List Ty) (a : Int), dpYs l ≤ 1000000 → 0 ≤ a → qe2 a l = max a (dpYs l)
 | [], a, _, _ => by rw [qe2, dpYs]; omega
 | x :: r, a, h, h0 => by
   rw [dpYs] at h
   have h1 := qlc x (by omega)
   rw [qe2, h1]
   have h2 : (if (dpY x : Int) > a then (dpY x : Int) else a) = max a (dpY x) := by split <;> omega
   rw [h2, qjk r _ (by omega) (by omega), dpYs]
   omega
end
mutual
theorem qmn : ∀ (t : Ty) (n k : Int), 0 ≤ n → n + szY t ≤ 1000000 → qb7 qnc t n k = (n + szY t, true)
 | .mk c v l, n, k, h0, h => by
   rw [szY] at h
   rw [qb7, if_pos (show (qnc n (.mk c v l) k).2 = true from rfl)]
   have h1 : (qnc n (.mk c v l) k).1 = n + 1 := qba (by omega) (by omega)
   rw [h1, qji l _ _ (by omega) (by omega), szY]
   congr 1; omega
theorem qji : ∀ (l : List Ty) (n k : Int), 0 ≤ n → n + szYs l ≤ 1000000 → qbq qnc l n k = (n + szYs l, true)
 | [], n, k, _, _ => by rw [qbq, szYs]; congr 1; omega
 | x :: r, n, k, h0, h => by
   rw [szYs] at h
   rw [qbq, qmn x n k h0 (by omega), if_pos rfl, qji r _ k (by omega) (by omega), szYs]
   congr 1; omega
end
mutual
theorem qlu : ∀ (t : Ty) (n k : Int), 0 ≤ n → 1 ≤ k → k + dpY t ≤ 1000000 → qb7 qm2 t n k = (max n (k + dpY t - 1), true)
 | .mk c v l, n, k, h0, h1, h => by
   rw [dpY] at h
   rw [qb7, if_pos (show (qm2 n (.mk c v l) k).2 = true from rfl)]
   have h2 : (qm2 n (.mk c v l) k).1 = max n k := by simp only [qm2]; split <;> omega
   rw [h2, qba (z := k + 1) (by omega) (by omega), qjt l _ _ (by omega) (by omega) (by omega), dpY]
   congr 1; split <;> omega
theorem qjt : ∀ (l : List Ty) (n k : Int), 0 ≤ n → 1 ≤ k → k + dpYs l ≤ 1000000 → qbq qm2 l n k = (if dpYs l = 0 then n else max n (k + dpYs l - 1), true)
 | [], n, k, _, _, _ => by rw [qbq, dpYs, if_pos rfl]
 | x :: r, n, k, h0, h1, h => by
   rw [dpYs] at h
   have hp := q4y x
   rw [qbq, qlu x n k h0 h1 (by omega), if_pos rfl, qjt r _ k (by omega) h1 (by omega), dpYs]
   congr 1
   rw [if_neg (by omega : ¬ max (dpY x) (dpYs r) = 0)]
   split <;> omega
end
mutual
theorem qmr : ∀ (t : Ty) (n k : Int), 0 ≤ n → n + szY t ≤ 1000000 → 1 ≤ k → k + dpY t ≤ 1000000 →
 ((qb7 qdy t n k).2 = true ↔ n + szY t ≤ 4096 ∧ k + dpY t - 1 ≤ 100 ∧ qbt t = true) ∧ ((qb7 qdy t n k).2 = true → (qb7 qdy t n k).1 = n + szY t)
 | .mk c v l, n, k, h0, h1, h2, h3 => by
   rw [szY] at h1
   rw [dpY] at h3
   have e1 : IntKind.i64.wrap (n + 1) = n + 1 := qba (by omega) (by omega)
   have e2 : IntKind.i64.wrap (k + 1) = k + 1 := qba (by omega) (by omega)
   have e3 : (qdy n (.mk c v l) k).1 = n + 1 := e1
   have e4 : (qdy n (.mk c v l) k).2 = true ↔ n + 1 ≤ 4096 ∧ k ≤ 100 ∧ mayW c v l.length = true := by
    simp only [qdy, e1, Bool.and_eq_true, decide_eq_true_eq]; rfl
   rw [qb7, szY, dpY, qbt]
   by_cases hs : (qdy n (.mk c v l) k).2 = true
   ·rw [if_pos hs, e3, e2]
    obtain ⟨q1, q2, q3⟩ := e4.1 hs
    obtain ⟨r1, r2⟩ := qja l (n + 1) (k + 1) (by omega) (by omega) (by omega) (by omega) (by omega) (by omega)
    refine ⟨?_, fun h => by rw [r2 h]; omega⟩
    rw [r1, q3, Bool.and_true]
    constructor
    ·rintro ⟨a1, a2, a3⟩; exact ⟨by omega, by omega, a3⟩
    ·rintro ⟨a1, a2, a3⟩; exact ⟨by omega, by omega, a3⟩
   ·rw [if_neg hs]
    refine ⟨⟨fun h => (by cases h), fun ⟨a1, a2, a3⟩ => absurd (e4.2 ⟨by omega, by omega, (by rw [Bool.and_eq_true] at a3; exact a3.2)⟩) hs⟩, fun h => by cases h⟩
theorem qja : ∀ (l : List Ty) (n k : Int), 0 ≤ n → n + szYs l ≤ 1000000 → 1 ≤ k → k + dpYs l ≤ 1000000 → n ≤ 4096 → k - 1 ≤ 100 →
 ((qbq qdy l n k).2 = true ↔ n + szYs l ≤ 4096 ∧ k + dpYs l - 1 ≤ 100 ∧ q8 l = true) ∧ ((qbq qdy l n k).2 = true → (qbq qdy l n k).1 = n + szYs l)
 | [], n, k, h0, h1, h2, h3, h4, h5 => by
   rw [qbq, szYs, dpYs, q8]
   exact ⟨⟨fun _ => ⟨by omega, by omega, rfl⟩, fun _ => rfl⟩, fun _ => by simp⟩
 | x :: r, n, k, h0, h1, h2, h3, h4, h5 => by
   rw [szYs] at h1
   rw [dpYs] at h3
   obtain ⟨q1, q2⟩ := qmr x n k h0 (by omega) h2 (by omega)
   rw [qbq, szYs, dpYs, q8]
   by_cases hs : (qb7 qdy x n k).2 = true
   ·rw [if_pos hs, q2 hs]
    obtain ⟨a1, a2, a3⟩ := q1.1 hs
    obtain ⟨r1, r2⟩ := qja r (n + szY x) k (by omega) (by omega) h2 (by omega) (by omega) h5
    refine ⟨?_, fun h => by rw [r2 h]; omega⟩
    rw [r1, a3, Bool.true_and]
    constructor
    ·rintro ⟨b1, b2, b3⟩; exact ⟨by omega, by omega, b3⟩
    ·rintro ⟨b1, b2, b3⟩; exact ⟨by omega, by omega, b3⟩
   ·rw [if_neg hs]
    refine ⟨⟨fun h => (by cases h), fun ⟨a1, a2, a3⟩ => absurd (q1.2 ⟨by omega, by omega, ?_⟩) hs⟩, fun h => by cases h⟩
    rw [Bool.and_eq_true] at a3
    exact a3.1
end
def qu (t : Ty) : Bool := decide (szY t ≤ 4096) && (decide (dpY t ≤ 100) && qbt t)
theorem qr9 {t : Ty} (h1 : szY t ≤ 20000) (h2 : dpY t ≤ 300) : qta t = qu t := by
 have := (qmr t 0 1 (by omega) (by omega) (by omega) (by omega)).1
 rw [qta, Bool.eq_iff_iff, this, qu, Bool.and_eq_true, Bool.and_eq_true, decide_eq_true_eq, decide_eq_true_eq]
 constructor
 ·rintro ⟨a1, a2, a3⟩; exact ⟨by omega, by omega, a3⟩
 ·rintro ⟨a1, a2, a3⟩; exact ⟨by omega, by omega, a3⟩
theorem qek {t : Ty} (h1 : szY t ≤ 20000) (h2 : dpY t ≤ 300) : qn Try.prog 79 [encY t] (.bool (qu t)) := by
 refine qd c0ch (by simp) (by simp only [go_sem]) rfl fun hw => ?_
 have e1 := qjs t
 have e2 := qnr t
 rw [qfx t (by omega)] at e1
 rw [qlc t (by omega)] at e2
 repeat' (first | refine vs_ ?_ | ((first | refine vr_ ?_ | refine qa e1 fun _ => ?_ | refine qa e2 fun _ => ?_ | refine qa (qnh t) fun _ => ?_ | (refine cs_ ?_ ?_ <;> intro hc) | refine cj_ ?_ | fail) <;> (try refine ev_ ?_)) | with_reducible exact ti_)
 all_goals
  rw [qu]
 ·rw [decide_eq_true (by omega), decide_eq_true (by omega)]; rfl
 ·rw [decide_eq_false (p := dpY t ≤ 100) (by omega), Bool.false_and, Bool.and_false]
 ·rw [decide_eq_false (p := szY t ≤ 4096) (by omega)]; rfl
theorem qcv {t : Ty} (h1 : szY t ≤ 20000) (h2 : dpY t ≤ 300) : qn Try.prog 48 [encY t] (.bool (qu t)) := by
 rw [← qr9 h1 h2]; exact qn4 t
set_option maxRecDepth 4000

theorem qzf {t a b : Ty} (h1 : t.con = arrW) (h2 : t.args = [a, b]) : txtY t = parW (decide (a.con = arrW)) (txtY a) ++ ([32, 45, 62, 32] ++ txtY b) := by
 cases t with
 | mk c v l =>
   have h1' : c = arrW := h1
   have h2' : l = [a, b] := h2
   subst h1' h2'
   rw [txtY, if_pos rfl]
theorem qws {t : Ty} (h1 : ¬ t.con = arrW) : txtY t = qf0 t ++ argY t.args := by
 cases t with
 | mk c v l =>
   have h1' : ¬ c = arrW := h1
   rcases l with _ | ⟨a, _ | ⟨b, _ | ⟨d, r⟩⟩⟩ <;> (simp only [txtY, if_neg h1']; rfl)
theorem qil (l : List Ty) (i : Nat) (h : i < l.length) : argY (l.take (i + 1)) = argY (l.take i) ++ (32 :: parW (decide ((l.getD i Y0).args ≠ [])) (txtY (l.getD i Y0))) := by
 have h1 : l.take (i + 1) = l.take i ++ [l.getD i Y0] := by
  rw [List.take_add_one, List.getD_eq_getElem?_getD, List.getElem?_eq_getElem h]; rfl
 rw [h1]
 generalize l.take i = a
 generalize l.getD i Y0 = x
 induction a with
 | nil => simp [argY]
 | cons y a ih => simp only [List.cons_append, argY, ih, List.append_assoc]
theorem qfs (l : List Ty) (i : Nat) : (argY (l.take i)).length ≤ (argY l).length := by
 induction l generalizing i with
 | nil => simp
 | cons x r ih =>
   cases i with
   | zero => simp [argY]
   | succ i => rw [List.take_succ_cons, argY, argY, List.length_append, List.length_append]; have := ih i; omega
theorem qud {t : Ty} (h : qbt t = true) (h1 : t.con = arrW) : ∃ a b, t.args = [a, b] ∧ qbt a = true ∧ qbt b = true := by
 rw [qe4, Bool.and_eq_true] at h
 obtain ⟨h2, h3⟩ := h
 rw [mayY, mayW, h1, if_neg (by decide), if_pos rfl, Bool.and_eq_true, decide_eq_true_eq, decide_eq_true_eq] at h3
 have hl : t.args.length = 2 := by omega
 obtain ⟨a, b, hab⟩ : ∃ a b, t.args = [a, b] := by
  match hh : t.args, hl with
  | [a, b], _ => exact ⟨a, b, rfl⟩
 rw [hab] at h2
 simp only [q8, Bool.and_eq_true] at h2
 exact ⟨a, b, hab, h2.1, h2.2.1⟩
theorem qsj {t x : Ty} (h : qbt t = true) (hx : x ∈ t.args) : qbt x = true := by
 rw [qe4, Bool.and_eq_true] at h
 have h2 := h.1
 generalize t.args = l at hx h2
 induction l with
 | nil => cases hx
 | cons y r ih =>
   rw [q8, Bool.and_eq_true] at h2
   rcases List.mem_cons.1 hx with rfl | hx
   ·exact h2.1
   ·exact ih hx h2.2
theorem qow (b : Bool) (s : List UInt8) : s.length ≤ (parW b s).length ∧ (parW b s).length ≤ s.length + 2 := by
 rw [parW]; split <;> simp <;> omega
def Big : Nat := 140737488355328
theorem qhj {n : Nat} (h : n ≤ Big) : n ≤ maxLen := by unfold Big at h; unfold maxLen; omega

theorem qbda {v : Int} (h : (Lit.int .i64 v).wf = true) (h0 : v < 0) : IntKind.i64.wrap (-1 - v) = -1 - v := by
 have := qhs h
 exact qba (by omega) (by omega)
end Go.Proofs.Ytfpobiheiloamaa
