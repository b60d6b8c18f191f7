/- Texts of this proof, joined. -/
import Derived.Test.YtfpobiheiloamaaNaq

/- terms: how great, how deep, whether a type is one; Few -/
set_option maxRecDepth 4000
namespace Go.Proofs.Ytfpobiheiloamaa
open Go Go.RowKit Go.V
set_option linter.unusedVariables false
set_option linter.unusedSimpArgs false

/-! the program's -/
abbrev numE (n : Int) : Ent := .blk [.int .i64 n]
def qd1 (n : Int) (t : Ty) (k : Int) : Int × Bool := (IntKind.i64.wrap (n + 1), decide (IntKind.i64.wrap (n + 1) ≤ 4096) && (decide (k ≤ 100) && mayY t))
theorem qbhl (n : Int) (t : Ty) (k : Int) : VM Try.prog 87 (numE n) (numE (qd1 n t k).1) [encY t, .int .i64 k, .ptr 0 0] (.bool (qd1 n t k).2) := by
 refine qg8 (by kernel_rfl) fun hw => ?_
 have hk := qby hw.1
 refine qn c0bw 1 (by simp) (by simp) ?_
 repeat' (first | refine vs_ ?_ | ((first | refine vr_ ?_ | refine qa (qfi _) fun _ => ?_ | refine qa (qvy _ _ _) fun _ => ?_ | (refine cs_ ?_ ?_ <;> intro hc) | refine cj_ ?_ | simp (disch := omega) only [encs_getN, qb]) <;> (try refine ev_ ?_)) | with_reducible exact ti_)
 ·simp_all [qd1]
 ·exact ⟨rfl, by simp only [qd1, *, decide_true, decide_false, Bool.true_and, Bool.false_and]⟩
 ·exact ⟨rfl, by simp only [qd1, *, decide_true, decide_false, Bool.true_and, Bool.false_and]⟩
def qmy (n : Int) (_ : Ty) (_ : Int) : Int × Bool := (IntKind.i64.wrap (n + 1), true)
theorem qbig (n : Int) (t : Ty) (k : Int) : VM Try.prog 131 (numE n) (numE (qmy n t k).1) [encY t, .int .i64 k, .ptr 0 0] (.bool (qmy n t k).2) := by
 refine qn c0bx 1 (by simp) (by simp) ?_
 repeat' (first | refine vs_ ?_ | ((first | refine vr_ ?_ | (refine cs_ ?_ ?_ <;> intro hc) | refine cj_ ?_ | simp (disch := omega) only [encs_getN, qb]) <;> (try refine ev_ ?_)) | with_reducible exact ti_)
 exact ⟨rfl, rfl⟩
def qk5 (n : Int) (_ : Ty) (k : Int) : Int × Bool := (if k > n then k else n, true)
theorem qbh1 (n : Int) (t : Ty) (k : Int) : VM Try.prog 132 (numE n) (numE (qk5 n t k).1) [encY t, .int .i64 k, .ptr 0 0] (.bool (qk5 n t k).2) := by
 refine qn c0by 1 (by simp) (by simp) ?_
 repeat' (first | refine vs_ ?_ | ((first | refine vr_ ?_ | (refine cs_ ?_ ?_ <;> intro hc) | refine cj_ ?_ | fail) <;> (try refine ev_ ?_)) | with_reducible exact ti_)
 exact ⟨rfl, rfl⟩
theorem qj7 {f : FuncId} {step : Int → Ty → Int → Int × Bool} (h : ∀ n t k, VM Try.prog f (numE n) (numE (step n t k).1) [encY t, .int .i64 k, .ptr 0 0] (.bool (step n t k).2)) (t : Ty) (n k : Int) :
 VM Try.prog 86 (numE n) (numE (qb4 step t n k).1) [encY t, .int .i64 k, .fn f [] [.ptr 0 0]] (.bool (qb4 step t n k).2) :=
 qp3 (st := numE) (ok := fun _ _ => True) (fun _ => rfl) (fun _ _ _ _ _ => trivial) (fun _ _ _ => trivial) (fun n t k _ => h n t k) t n k trivial
def qsd (t : Ty) : Bool := (qb4 qd1 t 0 1).2
theorem qnq (t : Ty) : ql Try.prog 48 [encY t] (.bool (qsd t)) := by
 refine qd c0bz (by simp) (by simp only [go_sem]) rfl fun hw => ?_
 repeat' (first | refine vs_ ?_ | ((first | refine vr_ ?_ | refine qca 1 (qj7 qbhl t 0 1) ?_ | (refine cs_ ?_ ?_ <;> intro hc) | refine cj_ ?_ | fail) <;> (try refine ev_ ?_)) | with_reducible exact ti_)
 rfl
theorem qq6 (t : Ty) : ql Try.prog 110 [encY t] (.int .i64 (qb4 qmy t 0 1).1) := by
 refine qd c0ca (by simp) (by simp only [go_sem]) rfl fun hw => ?_
 repeat' (first | refine vs_ ?_ | ((first | refine vr_ ?_ | refine qca 1 (qj7 qbig t 0 1) ?_ | (refine cs_ ?_ ?_ <;> intro hc) | refine cj_ ?_ | fail) <;> (try refine ev_ ?_)) | with_reducible exact ti_)
theorem qm3 (t : Ty) : ql Try.prog 111 [encY t] (.int .i64 (qb4 qk5 t 0 1).1) := by
 refine qd c0cb (by simp) (by simp only [go_sem]) rfl fun hw => ?_
 repeat' (first | refine vs_ ?_ | ((first | refine vr_ ?_ | refine qca 1 (qj7 qbh1 t 0 1) ?_ | (refine cs_ ?_ ?_ <;> intro hc) | refine cj_ ?_ | fail) <;> (try refine ev_ ?_)) | with_reducible exact ti_)

/-! the references -/
mutual
def qgb : Ty → Int
 | .mk _ _ l => qdr 1 l
def qdr : Int → List Ty → Int
 | a, [] => a
 | a, x :: r => qdr (IntKind.i64.wrap (a + qgb x)) r
end
theorem qvc (t : Ty) : qgb t = qdr 1 t.args := by cases t; rw [qgb]; rfl
theorem qi8 : ∀ t, ql Try.prog 112 [encY t] (.int .i64 (qgb t)) := by
 refine Ty.ind fun t ih => ?_
 refine qd c0cc (by simp) (by simp only [go_sem]) rfl fun hw => ?_
 have hk := qby hw.1
 repeat' (first | refine vs_ ?_ | ((first | refine vr_ ?_ | (refine cs_ ?_ ?_ <;> intro hc) | refine cj_ ?_ | simp (disch := omega) only [encs_getN, qb]) <;> (try refine ev_ ?_)) | with_reducible exact ti_)
 refine qm (S := Nat × Int) (fun s => s.1 ≤ t.args.length ∧ qdr s.2 (t.args.drop s.1) = qgb t) (fun s => (⟨[(1, .ptr 0 0), (3, .int .i64 s.2), (4, .int .i64 s.1)], []⟩, [.blk (yc t)])) (fun s => t.args.length - s.1) ?_ fun s hs => ?_
 ·refine qj (0, 1) [0] ⟨Nat.zero_le _, (qvc t).symm⟩ rfl (by simp) ?_ ?_ ?_ <;> (try refine ev_ ?_) <;> (try with_reducible exact ti_) <;> (try simp (disch := omega) only [qb, and_true, true_and])
 ·obtain ⟨i, a⟩ := s
  obtain ⟨hi, ha⟩ := hs
  dsimp only at hi ha
  repeat' (first | refine vs_ ?_ | ((first | refine vr_ ?_ | fail) <;> (try simp (disch := first | omega | (simp only [List.length_set, List.length_append, List.length_cons, List.length_nil]; done) | (simp only [List.length_set, List.length_append, List.length_cons, List.length_nil]; omega)) only [qq, qb, go_sem, ↓reduceIte])) | ((first | (refine cs_ ?_ ?_ <;> intro hc) | refine cj_ ?_ | simp (disch := omega) only [encs_getN, qb] | refine qa (ih _ (q6 (by omega))) fun _ => ?_) <;> (try refine ev_ ?_)) | with_reducible exact ti_)
  ·refine qj (i + 1, IntKind.i64.wrap (a + qgb (t.args.getD i Y0))) [0] ⟨⟨by dsimp only; omega, ?_⟩, by dsimp only; omega⟩ rfl (by simp) ?_ ?_ ?_ <;> (try refine ev_ ?_) <;> (try with_reducible exact ti_) <;> (try simp (disch := omega) only [qb, and_true, true_and])
   rw [← ha, qkx (l := t.args) (i := i) (by omega), qdr]
  ·rw [← ha, List.drop_of_length_le (by omega)]; rfl
mutual
def qkm : Ty → Int
 | .mk _ _ l => IntKind.i64.wrap (qfl 0 l + 1)
def qfl : Int → List Ty → Int
 | a, [] => a
 | a, x :: r => qfl (if qkm x > a then qkm x else a) r
end
theorem qwe (t : Ty) : qkm t = IntKind.i64.wrap (qfl 0 t.args + 1) := by cases t; rw [qkm]; rfl
theorem qnn : ∀ t, ql Try.prog 113 [encY t] (.int .i64 (qkm t)) := by
 refine Ty.ind fun t ih => ?_
 refine qd c0cd (by simp) (by simp only [go_sem]) rfl fun hw => ?_
 have hk := qby hw.1
 repeat' (first | refine vs_ ?_ | ((first | refine vr_ ?_ | (refine cs_ ?_ ?_ <;> intro hc) | refine cj_ ?_ | simp (disch := omega) only [encs_getN, qb]) <;> (try refine ev_ ?_)) | with_reducible exact ti_)
 refine qm (S := Nat × Int) (fun s => s.1 ≤ t.args.length ∧ qfl s.2 (t.args.drop s.1) = qfl 0 t.args) (fun s => (⟨[(1, .ptr 0 0), (3, .int .i64 s.2), (4, .int .i64 s.1)], []⟩, [.blk (yc t)])) (fun s => t.args.length - s.1) ?_ fun s hs => ?_
 ·refine qj (0, 0) [0] ⟨Nat.zero_le _, rfl⟩ rfl (by simp) ?_ ?_ ?_ <;> (try refine ev_ ?_) <;> (try with_reducible exact ti_) <;> (try simp (disch := omega) only [qb, and_true, true_and])
 ·obtain ⟨i, a⟩ := s
  obtain ⟨hi, ha⟩ := hs
  dsimp only at hi ha
  repeat' (first | refine vs_ ?_ | ((first | refine vr_ ?_ | fail) <;> (try simp (disch := first | omega | (simp only [List.length_set, List.length_append, List.length_cons, List.length_nil]; done) | (simp only [List.length_set, List.length_append, List.length_cons, List.length_nil]; omega)) only [qq, qb, go_sem, ↓reduceIte])) | ((first | (refine cs_ ?_ ?_ <;> intro hc) | refine cj_ ?_ | simp (disch := omega) only [encs_getN, qb] | refine qa (ih _ (q6 (by omega))) fun _ => ?_) <;> (try refine ev_ ?_)) | with_reducible exact ti_)
  ·refine qj (i + 1, if qkm (t.args.getD i Y0) > a then qkm (t.args.getD i Y0) else a) [0] ⟨⟨by dsimp only; omega, ?_⟩, by dsimp only; omega⟩ rfl (by simp) ?_ ?_ ?_ <;> (try refine ev_ ?_) <;> (try with_reducible exact ti_) <;> (try simp (disch := omega) only [qb, and_true, true_and])
   rw [← ha, qkx (l := t.args) (i := i) (by omega), qfl]
  ·rw [qwe, ← ha, List.drop_of_length_le (by omega)]; rfl
mutual
def qbp : Ty → Bool
 | .mk c v l => q8 l && mayW c v l.length
def q8 : List Ty → Bool
 | [] => true
 | x :: r => qbp x && q8 r
end
theorem qeu (t : Ty) : qbp t = (q8 t.args && mayY t) := by cases t; rw [qbp]; rfl
theorem qgj {l : List Ty} {i : Nat} (h : i < l.length) : q8 (l.drop i) = (qbp (l.getD i Y0) && q8 (l.drop (i + 1))) := by rw [qkx h, q8]
theorem qnx : ∀ t, ql Try.prog 114 [encY t] (.bool (qbp t)) := by
 refine Ty.ind fun t ih => ?_
 refine qd c0ce (by simp) (by simp only [go_sem]) rfl fun hw => ?_
 have hk := qby hw.1
 repeat' (first | refine vs_ ?_ | ((first | refine vr_ ?_ | (refine cs_ ?_ ?_ <;> intro hc) | refine cj_ ?_ | simp (disch := omega) only [encs_getN, qb]) <;> (try refine ev_ ?_)) | with_reducible exact ti_)
 refine qm (S := Nat) (fun i => i ≤ t.args.length ∧ q8 (t.args.drop i) = q8 t.args) (fun i => (⟨[(1, .ptr 0 0), (3, .int .i64 i)], []⟩, [.blk (yc t)])) (fun i => t.args.length - i) ?_ fun i hi => ?_
 ·refine qj 0 [0] ⟨Nat.zero_le _, rfl⟩ rfl (by simp) ?_ ?_ ?_ <;> (try refine ev_ ?_) <;> (try with_reducible exact ti_) <;> (try simp (disch := omega) only [qb, and_true, true_and])
 ·obtain ⟨hi, ha⟩ := hi
  rw [qeu]
  repeat' (first | refine vs_ ?_ | ((first | refine vr_ ?_ | fail) <;> (try simp (disch := first | omega | (simp only [List.length_set, List.length_append, List.length_cons, List.length_nil]; done) | (simp only [List.length_set, List.length_append, List.length_cons, List.length_nil]; omega)) only [qq, qb, go_sem, ↓reduceIte])) | ((first | (refine cs_ ?_ ?_ <;> intro hc) | refine cj_ ?_ | simp (disch := omega) only [encs_getN, qb] | refine qa (ih _ (q6 (by omega))) fun _ => ?_ | refine qa (qnj _) fun _ => ?_ | refine qa (qtw _) fun _ => ?_) <;> (try refine ev_ ?_)) | with_reducible exact ti_)
  ·have : q8 t.args = false := by rw [← ha, qgj (by omega), hc]; rfl
   rw [this]; rfl
  ·refine qj (i + 1) [0] ⟨⟨by omega, ?_⟩, by omega⟩ rfl (by simp) ?_ ?_ ?_ <;> (try refine ev_ ?_) <;> (try with_reducible exact ti_) <;> (try simp (disch := omega) only [qb, and_true, true_and])
   rw [← ha, qgj (i := i) (by omega), hc, Bool.true_and]
  all_goals
   have hs : q8 t.args = true := by rw [← ha, List.drop_of_length_le (by omega)]; rfl
   rw [hs, Bool.true_and, mayY, mayW]
   simp only [arrW, *, if_true, if_false, decide_true, decide_false, Bool.and_true, Bool.and_false, Bool.false_eq_true]
   try rfl
/-! Few -/
mutual
def cntY : Ty → Int → Int → Int
 | .mk _ _ l, k, d => if d < 1 then -1 else qda l (IntKind.i64.wrap (k - 1)) d
def qda : List Ty → Int → Int → Int
 | [], a, _ => a
 | x :: r, a, d => if 0 ≤ a then qda r (cntY x a (IntKind.i64.wrap (d - 1))) d else a
end
theorem qto (t : Ty) (k d : Int) : cntY t k d = if d < 1 then -1 else qda t.args (IntKind.i64.wrap (k - 1)) d := by cases t; rw [cntY]; rfl
theorem qe2 {a : Int} (h : a < 0) (l : List Ty) (d : Int) : qda l a d = a := by
 cases l with
 | nil => rw [qda]
 | cons x r => rw [qda, if_neg (by omega)]
theorem q1h : ∀ t k d, ql Try.prog 77 [encY t, .int .i64 k, .int .i64 d] (.int .i64 (cntY t k d)) := by
 refine Ty.ind fun t ih k d => ?_
 refine qd c0cf (by simp) (by simp only [go_sem]) rfl fun hw => ?_
 have hk := qby hw.1
 rw [qto]
 repeat' (first | refine vs_ ?_ | ((first | refine vr_ ?_ | (refine cs_ ?_ ?_ <;> intro hc) | refine cj_ ?_ | simp (disch := omega) only [encs_getN, qb]) <;> (try refine ev_ ?_)) | with_reducible exact ti_)
 ·rw [if_pos (by assumption)]
 rw [if_neg (by assumption)]
 refine qm (S := Nat × Int) (fun s => s.1 ≤ t.args.length ∧ qda (t.args.drop s.1) s.2 d = qda t.args (IntKind.i64.wrap (k - 1)) d) (fun s => (⟨[(1, .int .i64 s.2), (2, .int .i64 d), (3, .ptr 0 0), (7, .int .i64 s.1)], []⟩, [.blk (yc t)])) (fun s => t.args.length - s.1) ?_ fun s hs => ?_
 ·refine qj (0, IntKind.i64.wrap (k - 1)) [0] ⟨Nat.zero_le _, rfl⟩ rfl (by simp) ?_ ?_ ?_ <;> (try refine ev_ ?_) <;> (try with_reducible exact ti_) <;> (try simp (disch := omega) only [qb, and_true, true_and])
 ·obtain ⟨i, a⟩ := s
  obtain ⟨hi, ha⟩ := hs
  dsimp only at hi ha
  repeat' (first | refine vs_ ?_ | ((first | refine vr_ ?_ | fail) <;> (try simp (disch := first | omega | (simp only [List.length_set, List.length_append, List.length_cons, List.length_nil]; done) | (simp only [List.length_set, List.length_append, List.length_cons, List.length_nil]; omega)) only [qq, qb, go_sem, ↓reduceIte])) | ((first | (refine cs_ ?_ ?_ <;> intro hc) | refine cj_ ?_ | simp (disch := omega) only [encs_getN, qb] | refine qa (ih _ (q6 (by omega)) _ _) fun _ => ?_) <;> (try refine ev_ ?_)) | with_reducible exact ti_)
  ·refine qj (i + 1, cntY (t.args.getD i Y0) a (IntKind.i64.wrap (d - 1))) [0] ⟨⟨by dsimp only; omega, ?_⟩, by dsimp only; omega⟩ rfl (by simp) ?_ ?_ ?_ <;> (try refine ev_ ?_) <;> (try with_reducible exact ti_) <;> (try simp (disch := omega) only [qb, and_true, true_and])
   rw [← ha, qkx (l := t.args) (i := i) (by omega), qda, if_pos (by assumption)]
  ·rw [← ha, qe2 (by omega)]
  ·rw [← ha, List.drop_of_length_le (by omega)]; rfl
def qij (a : Int) : List Ty → Int
 | [] => a
 | x :: r => qij (cntY x a 300) r
def qji (l : List Ty) : Bool := decide (0 ≤ qij 20000 l)
theorem qbii (l : List Ty) : ql Try.prog 31 [.sl 3 (qs l)] (.int .i64 (if qji l = true then 1 else 0)) := by
 refine qd c0cg (by simp) (by simp only [go_sem]) rfl fun hw => ?_
 have hk : l.length ≤ maxLen := by have := hw.1.1; rwa [qz] at this
 repeat' (first | refine vs_ ?_ | ((first | refine vr_ ?_ | (refine cs_ ?_ ?_ <;> intro hc) | refine cj_ ?_ | simp (disch := omega) only [encs_getN, qb]) <;> (try refine ev_ ?_)) | with_reducible exact ti_)
 refine qm (S := Nat × Int) (fun s => s.1 ≤ l.length ∧ qij s.2 (l.drop s.1) = qij 20000 l) (fun s => (⟨[(0, .sl 3 (qs l)), (3, .int .i64 s.2), (4, .int .i64 s.1)], []⟩, [])) (fun s => l.length - s.1) ?_ fun s hs => ?_
 ·refine qj (0, 20000) [] ⟨Nat.zero_le _, rfl⟩ rfl (by simp) ?_ ?_ ?_ <;> (try refine ev_ ?_) <;> (try with_reducible exact ti_) <;> (try simp (disch := omega) only [qb, and_true, true_and])
 ·obtain ⟨i, a⟩ := s
  obtain ⟨hi, ha⟩ := hs
  dsimp only at hi ha
  repeat' (first | refine vs_ ?_ | ((first | refine vr_ ?_ | fail) <;> (try simp (disch := first | omega | (simp only [List.length_set, List.length_append, List.length_cons, List.length_nil]; done) | (simp only [List.length_set, List.length_append, List.length_cons, List.length_nil]; omega)) only [qq, qb, go_sem, ↓reduceIte])) | ((first | (refine cs_ ?_ ?_ <;> intro hc) | refine cj_ ?_ | simp (disch := omega) only [encs_getN, qb] | refine qa (q1h _ _ _) fun _ => ?_) <;> (try refine ev_ ?_)) | with_reducible exact ti_)
  ·refine qj (i + 1, cntY (l.getD i Y0) a 300) [] ⟨⟨by dsimp only; omega, ?_⟩, by dsimp only; omega⟩ rfl (by simp) ?_ ?_ ?_ <;> (try refine ev_ ?_) <;> (try with_reducible exact ti_) <;> (try simp (disch := omega) only [qb, and_true, true_and])
   rw [← ha, qkx (l := l) (i := i) (by omega), qij]
  all_goals
   have hf : qij 20000 l = a := by rw [← ha, List.drop_of_length_le (by omega)]; rfl
   rw [qji, hf]
  ·rw [if_neg (by simp; omega)]
  ·rw [if_pos (by simp; omega)]

/-! the laws of sizes -/
mutual
theorem qup : ∀ (t : Ty) (k d : Int), 0 ≤ k → k ≤ 20000 → d ≤ 300 → 0 ≤ cntY t k d → cntY t k d = k - szY t ∧ (dpY t : Int) ≤ d
 | .mk c v l, k, d, h0, h1, h2, h3 => by
   rw [cntY] at h3 ⊢
   by_cases hd : d < 1
   ·rw [if_pos hd] at h3; omega
   ·rw [if_neg hd] at h3 ⊢
    have hk : IntKind.i64.wrap (k - 1) = k - 1 := q7 (by omega) (by omega)
    rw [hk] at h3 ⊢
    have h4 : 0 ≤ k - 1 := by
     by_cases h : 0 ≤ k - 1
     ·exact h
     ·rw [qe2 (by omega)] at h3; exact h3
    have := qpo l (k - 1) d h4 (by omega) (by omega) h2 h3
    rw [szY, dpY]
    omega
theorem qpo : ∀ (l : List Ty) (a d : Int), 0 ≤ a → a ≤ 20000 → 1 ≤ d → d ≤ 300 → 0 ≤ qda l a d → qda l a d = a - szYs l ∧ (dpYs l : Int) ≤ d - 1
 | [], a, d, h0, h1, h2, h3, h4 => by rw [qda, szYs, dpYs]; omega
 | x :: r, a, d, h0, h1, h2, h3, h4 => by
   rw [qda, if_pos h0] at h4 ⊢
   have hd : IntKind.i64.wrap (d - 1) = d - 1 := q7 (by omega) (by omega)
   rw [hd] at h4 ⊢
   have h5 : 0 ≤ cntY x a (d - 1) := by
    by_cases h : 0 ≤ cntY x a (d - 1)
    ·exact h
    ·rw [qe2 (by omega)] at h4; exact absurd h4 h
   obtain ⟨h6, h7⟩ := qup x a (d - 1) h0 h1 (by omega) h5
   obtain ⟨h8, h9⟩ := qpo r _ d h5 (by omega) h2 h3 h4
   rw [szYs, dpYs]
   omega
end
mutual
theorem quw : ∀ (t : Ty) (k d : Int), 0 ≤ k → k ≤ 20000 → -1 ≤ cntY t k d
 | .mk c v l, k, d, h0, h1 => by
   rw [cntY]
   split
   ·omega
   ·rw [q7 (z := k - 1) (by omega) (by omega)]
    exact qs5 l (k - 1) d (by omega) (by omega)
theorem qs5 : ∀ (l : List Ty) (a d : Int), -1 ≤ a → a ≤ 20000 → -1 ≤ qda l a d
 | [], a, d, h0, _ => by rw [qda]; exact h0
 | x :: r, a, d, h0, h1 => by
   rw [qda]
   split
   ·rename_i h
    have h2 := quw x a (IntKind.i64.wrap (d - 1)) h h1
    have h3 := qzw x a (IntKind.i64.wrap (d - 1)) h h1
    exact qs5 r _ d h2 (by omega)
   ·exact h0
theorem qzw : ∀ (t : Ty) (k d : Int), 0 ≤ k → k ≤ 20000 → cntY t k d ≤ k
 | .mk c v l, k, d, h0, h1 => by
   rw [cntY]
   split
   ·omega
   ·rw [q7 (z := k - 1) (by omega) (by omega)]
    have := qud l (k - 1) d (by omega) (by omega)
    omega
theorem qud : ∀ (l : List Ty) (a d : Int), -1 ≤ a → a ≤ 20000 → qda l a d ≤ a
 | [], a, d, h0, _ => by rw [qda]; exact Int.le_refl _
 | x :: r, a, d, h0, h1 => by
   rw [qda]
   split
   ·rename_i h
    have h2 := quw x a (IntKind.i64.wrap (d - 1)) h h1
    have h3 := qzw x a (IntKind.i64.wrap (d - 1)) h h1
    have := qud r _ d h2 (by omega)
    omega
   ·exact Int.le_refl _
end
theorem qok : ∀ (l : List Ty) {a : Int}, a < 0 → -9223372036854775808 ≤ a - l.length → qij a l < 0
 | [], a, h, _ => h
 | x :: r, a, h, h2 => by
   rw [qij]
   have h3 : cntY x a 300 = IntKind.i64.wrap (a - 1) := by
    rw [qto, if_neg (by omega)]
    have hk : IntKind.i64.wrap (a - 1) = a - 1 := q7 (by simp only [List.length_cons] at h2; omega) (by omega)
    rw [hk, qe2 (by omega)]
   have hk : IntKind.i64.wrap (a - 1) = a - 1 := q7 (by simp only [List.length_cons] at h2; omega) (by omega)
   rw [h3, hk]
   exact qok r (by omega) (by simp only [List.length_cons] at h2; omega)
theorem qoe : ∀ (l : List Ty) (a : Int), 0 ≤ a → a ≤ 20000 → l.length ≤ 9223372036854775807 → 0 ≤ qij a l → (szYs l : Int) ≤ a ∧ (dpYs l : Int) ≤ 300
 | [], a, h0, h1, _, h2 => by rw [szYs, dpYs]; omega
 | x :: r, a, h0, h1, hl, h2 => by
   rw [qij] at h2
   simp only [List.length_cons] at hl
   have h5 : 0 ≤ cntY x a 300 := by
    by_cases h : 0 ≤ cntY x a 300
    ·exact h
    ·have : -1 ≤ cntY x a 300 := quw x a 300 h0 h1
     have := qok r (a := cntY x a 300) (by omega) (by omega)
     omega
   obtain ⟨h6, h7⟩ := qup x a 300 h0 h1 (by omega) h5
   obtain ⟨h8, h9⟩ := qoe r _ h5 (by omega) (by omega) h2
   rw [szYs, dpYs]
   omega
theorem q46 {l : List Ty} (hl : l.length ≤ maxLen) (h : qji l = true) : szYs l ≤ 20000 ∧ dpYs l ≤ 300 := by
 have := qoe l 20000 (by omega) (by omega) (by unfold maxLen at hl; omega) (by simpa [qji] using h)
 omega

mutual
theorem qf4 : ∀ (t : Ty), szY t ≤ 1000000 → qgb t = szY t
 | .mk c v l, h => by
   rw [szY] at h
   rw [qgb, szY, qih l 1 (by omega) (by omega)]
   omega
theorem qih : ∀ (l : List Ty) (a : Int), 1 ≤ a → a + szYs l ≤ 1000001 → qdr a l = a + szYs l
 | [], a, _, _ => by rw [qdr, szYs]; omega
 | x :: r, a, h0, h => by
   rw [szYs] at h
   rw [qdr, qf4 x (by omega), q7 (by omega) (by omega), qih r _ (by omega) (by omega), szYs]
   omega
end
mutual
theorem ql2 : ∀ (t : Ty), dpY t ≤ 1000000 → qkm t = dpY t
 | .mk c v l, h => by
   rw [dpY] at h
   rw [qkm, dpY, qjj l 0 (by omega) (by omega), q7 (by omega) (by omega)]
   omega
theorem qjj : ∀ (l : List Ty) (a : Int), dpYs l ≤ 1000000 → 0 ≤ a → qfl a l = max a (dpYs l)
 | [], a, _, _ => by rw [qfl, dpYs]; omega
 | x :: r, a, h, h0 => by
   rw [dpYs] at h
   have h1 := ql2 x (by omega)
   rw [qfl, h1]
   have h2 : (if (dpY x : Int) > a then (dpY x : Int) else a) = max a (dpY x) := by split <;> omega
   rw [h2, qjj r _ (by omega) (by omega), dpYs]
   omega
end
mutual
theorem qml : ∀ (t : Ty) (n k : Int), 0 ≤ n → n + szY t ≤ 1000000 → qb4 qmy t n k = (n + szY t, true)
 | .mk c v l, n, k, h0, h => by
   rw [szY] at h
   rw [qb4, if_pos (show (qmy n (.mk c v l) k).2 = true from rfl)]
   have h1 : (qmy n (.mk c v l) k).1 = n + 1 := q7 (by omega) (by omega)
   rw [h1, qi4 l _ _ (by omega) (by omega), szY]
   congr 1; omega
theorem qi4 : ∀ (l : List Ty) (n k : Int), 0 ≤ n → n + szYs l ≤ 1000000 → qbn qmy l n k = (n + szYs l, true)
 | [], n, k, _, _ => by rw [qbn, szYs]; congr 1; omega
 | x :: r, n, k, h0, h => by
   rw [szYs] at h
   rw [qbn, qml x n k h0 (by omega), if_pos rfl, qi4 r _ k (by omega) (by omega), szYs]
   congr 1; omega
end
mutual
theorem qlt : ∀ (t : Ty) (n k : Int), 0 ≤ n → 1 ≤ k → k + dpY t ≤ 1000000 → qb4 qk5 t n k = (max n (k + dpY t - 1), true)
 | .mk c v l, n, k, h0, h1, h => by
   rw [dpY] at h
   rw [qb4, if_pos (show (qk5 n (.mk c v l) k).2 = true from rfl)]
   have h2 : (qk5 n (.mk c v l) k).1 = max n k := by simp only [qk5]; split <;> omega
   rw [h2, q7 (z := k + 1) (by omega) (by omega), qiu l _ _ (by omega) (by omega) (by omega), dpY]
   congr 1; split <;> omega
theorem qiu : ∀ (l : List Ty) (n k : Int), 0 ≤ n → 1 ≤ k → k + dpYs l ≤ 1000000 → qbn qk5 l n k = (if dpYs l = 0 then n else max n (k + dpYs l - 1), true)
 | [], n, k, _, _, _ => by rw [qbn, dpYs, if_pos rfl]
 | x :: r, n, k, h0, h1, h => by
   rw [dpYs] at h
   have hp := q6g x
   rw [qbn, qlt x n k h0 h1 (by omega), if_pos rfl, qiu r _ k (by omega) h1 (by omega), dpYs]
   congr 1
   rw [if_neg (by omega : ¬ max (dpY x) (dpYs r) = 0)]
   split <;> omega
end
mutual
theorem qlc : ∀ (t : Ty) (n k : Int), 0 ≤ n → n + szY t ≤ 1000000 → 1 ≤ k → k + dpY t ≤ 1000000 →
 ((qb4 qd1 t n k).2 = true ↔ n + szY t ≤ 4096 ∧ k + dpY t - 1 ≤ 100 ∧ qbp t = true) ∧ ((qb4 qd1 t n k).2 = true → (qb4 qd1 t n k).1 = n + szY t)
 | .mk c v l, n, k, h0, h1, h2, h3 => by
   rw [szY] at h1
   rw [dpY] at h3
   have e1 : IntKind.i64.wrap (n + 1) = n + 1 := q7 (by omega) (by omega)
   have e2 : IntKind.i64.wrap (k + 1) = k + 1 := q7 (by omega) (by omega)
   have e3 : (qd1 n (.mk c v l) k).1 = n + 1 := e1
   have e4 : (qd1 n (.mk c v l) k).2 = true ↔ n + 1 ≤ 4096 ∧ k ≤ 100 ∧ mayW c v l.length = true := by
    simp only [qd1, e1, Bool.and_eq_true, decide_eq_true_eq]; rfl
   rw [qb4, szY, dpY, qbp]
   by_cases hs : (qd1 n (.mk c v l) k).2 = true
   ·rw [if_pos hs, e3, e2]
    obtain ⟨q1, q2, q3⟩ := e4.1 hs
    obtain ⟨r1, r2⟩ := qi6 l (n + 1) (k + 1) (by omega) (by omega) (by omega) (by omega) (by omega) (by omega)
    refine ⟨?_, fun h => by rw [r2 h]; omega⟩
    rw [r1, q3, Bool.and_true]
    constructor
    ·rintro ⟨a1, a2, a3⟩; exact ⟨by omega, by omega, a3⟩
    ·rintro ⟨a1, a2, a3⟩; exact ⟨by omega, by omega, a3⟩
   ·rw [if_neg hs]
    refine ⟨⟨fun h => (by cases h), fun ⟨a1, a2, a3⟩ => absurd (e4.2 ⟨by omega, by omega, (by rw [Bool.and_eq_true] at a3; exact a3.2)⟩) hs⟩, fun h => by cases h⟩
theorem qi6 : ∀ (l : List Ty) (n k : Int), 0 ≤ n → n + szYs l ≤ 1000000 → 1 ≤ k → k + dpYs l ≤ 1000000 → n ≤ 4096 → k - 1 ≤ 100 →
 ((qbn qd1 l n k).2 = true ↔ n + szYs l ≤ 4096 ∧ k + dpYs l - 1 ≤ 100 ∧ q8 l = true) ∧ ((qbn qd1 l n k).2 = true → (qbn qd1 l n k).1 = n + szYs l)
 | [], n, k, h0, h1, h2, h3, h4, h5 => by
   rw [qbn, szYs, dpYs, q8]
   exact ⟨⟨fun _ => ⟨by omega, by omega, rfl⟩, fun _ => rfl⟩, fun _ => by simp⟩
 | x :: r, n, k, h0, h1, h2, h3, h4, h5 => by
   rw [szYs] at h1
   rw [dpYs] at h3
   obtain ⟨q1, q2⟩ := qlc x n k h0 (by omega) h2 (by omega)
   rw [qbn, szYs, dpYs, q8]
   by_cases hs : (qb4 qd1 x n k).2 = true
   ·rw [if_pos hs, q2 hs]
    obtain ⟨a1, a2, a3⟩ := q1.1 hs
    obtain ⟨r1, r2⟩ := qi6 r (n + szY x) k (by omega) (by omega) h2 (by omega) (by omega) h5
    refine ⟨?_, fun h => by rw [r2 h]; omega⟩
    rw [r1, a3, Bool.true_and]
    constructor
    ·rintro ⟨b1, b2, b3⟩; exact ⟨by omega, by omega, b3⟩
    ·rintro ⟨b1, b2, b3⟩; exact ⟨by omega, by omega, b3⟩
   ·rw [if_neg hs]
    refine ⟨⟨fun h => (by cases h), fun ⟨a1, a2, a3⟩ => absurd (q1.2 ⟨by omega, by omega, ?_⟩) hs⟩, fun h => by cases h⟩
    rw [Bool.and_eq_true] at a3
    exact a3.1
end
def qr (t : Ty) : Bool := decide (szY t ≤ 4096) && (decide (dpY t ≤ 100) && qbp t)
theorem qtx {t : Ty} (h1 : szY t ≤ 20000) (h2 : dpY t ≤ 300) : qsd t = qr t := by
 have := (qlc t 0 1 (by omega) (by omega) (by omega) (by omega)).1
 rw [qsd, Bool.eq_iff_iff, this, qr, Bool.and_eq_true, Bool.and_eq_true, decide_eq_true_eq, decide_eq_true_eq]
 constructor
 ·rintro ⟨a1, a2, a3⟩; exact ⟨by omega, by omega, a3⟩
 ·rintro ⟨a1, a2, a3⟩; exact ⟨by omega, by omega, a3⟩
theorem qen {t : Ty} (h1 : szY t ≤ 20000) (h2 : dpY t ≤ 300) : ql Try.prog 79 [encY t] (.bool (qr t)) := by
 refine qd c0ch (by simp) (by simp only [go_sem]) rfl fun hw => ?_
 have e1 := qi8 t
 have e2 := qnn t
 rw [qf4 t (by omega)] at e1
 rw [ql2 t (by omega)] at e2
 repeat' (first | refine vs_ ?_ | ((first | refine vr_ ?_ | refine qa e1 fun _ => ?_ | refine qa e2 fun _ => ?_ | refine qa (qnx t) fun _ => ?_ | (refine cs_ ?_ ?_ <;> intro hc) | refine cj_ ?_ | fail) <;> (try refine ev_ ?_)) | with_reducible exact ti_)
 all_goals
  rw [qr]
 ·rw [decide_eq_true (by omega), decide_eq_true (by omega)]; rfl
 ·rw [decide_eq_false (p := dpY t ≤ 100) (by omega), Bool.false_and, Bool.and_false]
 ·rw [decide_eq_false (p := szY t ≤ 4096) (by omega)]; rfl
theorem qb9 {t : Ty} (h1 : szY t ≤ 20000) (h2 : dpY t ≤ 300) : ql Try.prog 48 [encY t] (.bool (qr t)) := by
 rw [← qtx h1 h2]; exact qnq t
set_option maxRecDepth 4000

theorem qw9 {t a b : Ty} (h1 : t.con = arrW) (h2 : t.args = [a, b]) : txtY t = parW (decide (a.con = arrW)) (txtY a) ++ ([32, 45, 62, 32] ++ txtY b) := by
 cases t with
 | mk c v l =>
   have h1' : c = arrW := h1
   have h2' : l = [a, b] := h2
   subst h1' h2'
   rw [txtY, if_pos rfl]
theorem qvs {t : Ty} (h1 : ¬ t.con = arrW) : txtY t = qfq t ++ argY t.args := by
 cases t with
 | mk c v l =>
   have h1' : ¬ c = arrW := h1
   rcases l with _ | ⟨a, _ | ⟨b, _ | ⟨d, r⟩⟩⟩ <;> (simp only [txtY, if_neg h1']; rfl)
theorem qh0 (l : List Ty) (i : Nat) (h : i < l.length) : argY (l.take (i + 1)) = argY (l.take i) ++ (32 :: parW (decide ((l.getD i Y0).args ≠ [])) (txtY (l.getD i Y0))) := by
 have h1 : l.take (i + 1) = l.take i ++ [l.getD i Y0] := by
  rw [List.take_add_one, List.getD_eq_getElem?_getD, List.getElem?_eq_getElem h]; rfl
 rw [h1]
 generalize l.take i = a
 generalize l.getD i Y0 = x
 induction a with
 | nil => simp [argY]
 | cons y a ih => simp only [List.cons_append, argY, ih, List.append_assoc]
theorem qfa (l : List Ty) (i : Nat) : (argY (l.take i)).length ≤ (argY l).length := by
 induction l generalizing i with
 | nil => simp
 | cons x r ih =>
   cases i with
   | zero => simp [argY]
   | succ i => rw [List.take_succ_cons, argY, argY, List.length_append, List.length_append]; have := ih i; omega
theorem qsi {t : Ty} (h : qbp t = true) (h1 : t.con = arrW) : ∃ a b, t.args = [a, b] ∧ qbp a = true ∧ qbp b = true := by
 rw [qeu, Bool.and_eq_true] at h
 obtain ⟨h2, h3⟩ := h
 rw [mayY, mayW, h1, if_neg (by decide), if_pos rfl, Bool.and_eq_true, decide_eq_true_eq, decide_eq_true_eq] at h3
 have hl : t.args.length = 2 := by omega
 obtain ⟨a, b, hab⟩ : ∃ a b, t.args = [a, b] := by
  match hh : t.args, hl with
  | [a, b], _ => exact ⟨a, b, rfl⟩
 rw [hab] at h2
 simp only [q8, Bool.and_eq_true] at h2
 exact ⟨a, b, hab, h2.1, h2.2.1⟩
theorem qsk {t x : Ty} (h : qbp t = true) (hx : x ∈ t.args) : qbp x = true := by
 rw [qeu, Bool.and_eq_true] at h
 have h2 := h.1
 generalize t.args = l at hx h2
 induction l with
 | nil => cases hx
 | cons y r ih =>
   rw [q8, Bool.and_eq_true] at h2
   rcases List.mem_cons.1 hx with rfl | hx
   ·exact h2.1
   ·exact ih hx h2.2
theorem qps (b : Bool) (s : List UInt8) : s.length ≤ (parW b s).length ∧ (parW b s).length ≤ s.length + 2 := by
 rw [parW]; split <;> simp <;> omega
def Big : Nat := 140737488355328
theorem qhf {n : Nat} (h : n ≤ Big) : n ≤ maxLen := by unfold Big at h; unfold maxLen; omega

theorem qben {v : Int} (h : (Lit.int .i64 v).wf = true) (h0 : v < 0) : IntKind.i64.wrap (-1 - v) = -1 - v := by
 have := qg0 h
 exact q7 (by omega) (by omega)
end Go.Proofs.Ytfpobiheiloamaa
