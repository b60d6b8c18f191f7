/- Texts of this proof, joined. -/
import Derived.Test.YtbbjelfnocmaoaaAar

/- rows of integers: whether a number is there, each once -/
namespace Go.Proofs.Ytbbjelfnocmaoaa
open Go Go.RowKit Go.V
set_option linter.unusedVariables false
set_option linter.unusedSimpArgs false

attribute [go_sem] cond_false cond_true
/-! each once -/
theorem qch {H : List Ent} {n : Nat} : co H (.sl n) .nils = .sl n [] := Eq.trans rfl rfl
/-! all variables -/
/-! the program's: a walk that gathers -/
set_option maxRecDepth 4000

/-! the program's -/
abbrev numE (n : Int) : Ent := .blk [.int .i64 n]
def qdx (n : Int) (t : Ty) (k : Int) : Int × Bool := (IntKind.i64.wrap (n + 1), decide (IntKind.i64.wrap (n + 1) ≤ 4096) && (decide (k ≤ 100) && mayY t))
theorem qbbr (n : Int) (t : Ty) (k : Int) : VM Try.prog 40 (numE n) (numE (qdx n t k).1) [encY t, .int .i64 k, .ptr 0 0] (.bool (qdx n t k).2) := by
 refine qhm (by kernel_rfl) fun hw => ?_
 have hk := qf5 hw.1
 refine qn c0x 1 (by simp) (by simp) ?_
 repeat' (first | refine vs_ ?_ | ((first | refine vr_ ?_ | refine qa (qj5 _) fun _ => ?_ | refine qa (qys _ _ _) fun _ => ?_ | (refine cs_ ?_ ?_ <;> intro hc) | refine cj_ ?_ | simp (disch := omega) only [encs_getN, qb]) <;> (try refine ev_ ?_)) | with_reducible exact ti_)
 ·simp_all [qdx]
 ·exact ⟨rfl, by simp only [qdx, *, decide_true, decide_false, Bool.true_and, Bool.false_and]⟩
 ·exact ⟨rfl, by simp only [qdx, *, decide_true, decide_false, Bool.true_and, Bool.false_and]⟩
def qnr (n : Int) (_ : Ty) (_ : Int) : Int × Bool := (IntKind.i64.wrap (n + 1), true)
theorem qbhm (n : Int) (t : Ty) (k : Int) : VM Try.prog 73 (numE n) (numE (qnr n t k).1) [encY t, .int .i64 k, .ptr 0 0] (.bool (qnr n t k).2) := by
 refine qn c0y 1 (by simp) (by simp) ?_
 repeat' (first | refine vs_ ?_ | ((first | refine vr_ ?_ | (refine cs_ ?_ ?_ <;> intro hc) | refine cj_ ?_ | simp (disch := omega) only [encs_getN, qb]) <;> (try refine ev_ ?_)) | with_reducible exact ti_)
 exact ⟨rfl, rfl⟩
def qmg (n : Int) (_ : Ty) (k : Int) : Int × Bool := (if k > n then k else n, true)
theorem qbe5 (n : Int) (t : Ty) (k : Int) : VM Try.prog 74 (numE n) (numE (qmg n t k).1) [encY t, .int .i64 k, .ptr 0 0] (.bool (qmg n t k).2) := by
 refine qn c0z 1 (by simp) (by simp) ?_
 repeat' (first | refine vs_ ?_ | ((first | refine vr_ ?_ | (refine cs_ ?_ ?_ <;> intro hc) | refine cj_ ?_ | fail) <;> (try refine ev_ ?_)) | with_reducible exact ti_)
 exact ⟨rfl, rfl⟩
theorem qjv {f : FuncId} {step : Int → Ty → Int → Int × Bool} (h : ∀ n t k, VM Try.prog f (numE n) (numE (step n t k).1) [encY t, .int .i64 k, .ptr 0 0] (.bool (step n t k).2)) (t : Ty) (n k : Int) :
 VM Try.prog 39 (numE n) (numE (qbz step t n k).1) [encY t, .int .i64 k, .fn f [] [.ptr 0 0]] (.bool (qbz step t n k).2) :=
 qqs (st := numE) (ok := fun _ _ => True) (fun _ => rfl) (fun _ _ _ _ _ => trivial) (fun _ _ _ => trivial) (fun n t k _ => h n t k) t n k trivial
def quc (t : Ty) : Bool := (qbz qdx t 0 1).2
theorem qnp (t : Ty) : qk Try.prog 23 [encY t] (.bool (quc t)) := by
 refine qf c0ba (by simp) (by simp only [go_sem]) rfl fun hw => ?_
 repeat' (first | refine vs_ ?_ | ((first | refine vr_ ?_ | refine qbr 1 (qjv qbbr t 0 1) ?_ | (refine cs_ ?_ ?_ <;> intro hc) | refine cj_ ?_ | fail) <;> (try refine ev_ ?_)) | with_reducible exact ti_)
 rfl
theorem qpx (t : Ty) : qk Try.prog 60 [encY t] (.int .i64 (qbz qnr t 0 1).1) := by
 refine qf c0bb (by simp) (by simp only [go_sem]) rfl fun hw => ?_
 repeat' (first | refine vs_ ?_ | ((first | refine vr_ ?_ | refine qbr 1 (qjv qbhm t 0 1) ?_ | (refine cs_ ?_ ?_ <;> intro hc) | refine cj_ ?_ | fail) <;> (try refine ev_ ?_)) | with_reducible exact ti_)
theorem qm2 (t : Ty) : qk Try.prog 61 [encY t] (.int .i64 (qbz qmg t 0 1).1) := by
 refine qf c0bc (by simp) (by simp only [go_sem]) rfl fun hw => ?_
 repeat' (first | refine vs_ ?_ | ((first | refine vr_ ?_ | refine qbr 1 (qjv qbe5 t 0 1) ?_ | (refine cs_ ?_ ?_ <;> intro hc) | refine cj_ ?_ | fail) <;> (try refine ev_ ?_)) | with_reducible exact ti_)

/-! the references -/
mutual
def qu2 : Ty → Int
 | .mk _ _ l => qhx 1 l
def qhx : Int → List Ty → Int
 | a, [] => a
 | a, x :: r => qhx (IntKind.i64.wrap (a + qu2 x)) r
end
mutual
def qbk : Ty → Bool
 | .mk c v l => qy l && mayW c v l.length
def qy : List Ty → Bool
 | [] => true
 | x :: r => qbk x && qy r
end
theorem qhy (t : Ty) : qbk t = (qy t.args && mayY t) := by cases t; rw [qbk]; rfl
/-! Few -/
mutual
def cntY : Ty → Int → Int → Int
 | .mk _ _ l, k, d => if d < 1 then -1 else qdk l (IntKind.i64.wrap (k - 1)) d
def qdk : List Ty → Int → Int → Int
 | [], a, _ => a
 | x :: r, a, d => if 0 ≤ a then qdk r (cntY x a (IntKind.i64.wrap (d - 1))) d else a
end
theorem qs0 (t : Ty) (k d : Int) : cntY t k d = if d < 1 then -1 else qdk t.args (IntKind.i64.wrap (k - 1)) d := by cases t; rw [cntY]; rfl
theorem qe6 {a : Int} (h : a < 0) (l : List Ty) (d : Int) : qdk l a d = a := by
 cases l with
 | nil => rw [qdk]
 | cons x r => rw [qdk, if_neg (by omega)]
theorem q4h : ∀ t k d, qk Try.prog 10 [encY t, .int .i64 k, .int .i64 d] (.int .i64 (cntY t k d)) := by
 refine Ty.ind fun t ih k d => ?_
 refine qf c0bd (by simp) (by simp only [go_sem]) rfl fun hw => ?_
 have hk := qf5 hw.1
 rw [qs0]
 repeat' (first | refine vs_ ?_ | ((first | refine vr_ ?_ | (refine cs_ ?_ ?_ <;> intro hc) | refine cj_ ?_ | simp (disch := omega) only [encs_getN, qb]) <;> (try refine ev_ ?_)) | with_reducible exact ti_)
 ·rw [if_pos (by assumption)]
 rw [if_neg (by assumption)]
 refine qz (S := Nat × Int) (fun s => s.1 ≤ t.args.length ∧ qdk (t.args.drop s.1) s.2 d = qdk t.args (IntKind.i64.wrap (k - 1)) d) (fun s => (⟨[(1, .int .i64 s.2), (2, .int .i64 d), (3, .ptr 0 0), (7, .int .i64 s.1)], []⟩, [.blk (yc t)])) (fun s => t.args.length - s.1) ?_ fun s hs => ?_
 ·refine qp (0, IntKind.i64.wrap (k - 1)) [0] ⟨Nat.zero_le _, rfl⟩ rfl (by simp) ?_ ?_ ?_ <;> (try refine ev_ ?_) <;> (try with_reducible exact ti_) <;> (try simp (disch := omega) only [qb, and_true, true_and])
 ·obtain ⟨i, a⟩ := s
  obtain ⟨hi, ha⟩ := hs
  dsimp only at hi ha
  repeat' (first | refine vs_ ?_ | ((first | refine vr_ ?_ | fail) <;> (try simp (disch := first | omega | (simp only [List.length_set, List.length_append, List.length_cons, List.length_nil]; done) | (simp only [List.length_set, List.length_append, List.length_cons, List.length_nil]; omega)) only [qb1, qb, go_sem, ↓reduceIte])) | ((first | (refine cs_ ?_ ?_ <;> intro hc) | refine cj_ ?_ | simp (disch := omega) only [encs_getN, qb] | refine qa (ih _ (qdm (by omega)) _ _) fun _ => ?_) <;> (try refine ev_ ?_)) | with_reducible exact ti_)
  ·refine qp (i + 1, cntY (t.args.getD i Y0) a (IntKind.i64.wrap (d - 1))) [0] ⟨⟨by dsimp only; omega, ?_⟩, by dsimp only; omega⟩ rfl (by simp) ?_ ?_ ?_ <;> (try refine ev_ ?_) <;> (try with_reducible exact ti_) <;> (try simp (disch := omega) only [qb, and_true, true_and])
   rw [← ha, qyg (l := t.args) (i := i) (by omega), qdk, if_pos (by assumption)]
  ·rw [← ha, qe6 (by omega)]
  ·rw [← ha, List.drop_of_length_le (by omega)]; rfl
def qio (a : Int) : List Ty → Int
 | [] => a
 | x :: r => qio (cntY x a 300) r
def qel (l : List Ty) : Bool := decide (0 ≤ qio 20000 l)
theorem q44 (l : List Ty) : qk Try.prog 6 [.sl 3 (ql l)] (.int .i64 (if qel l = true then 1 else 0)) := by
 refine qf c0be (by simp) (by simp only [go_sem]) rfl fun hw => ?_
 have hk : l.length ≤ maxLen := by have := hw.1.1; rwa [qo] at this
 repeat' (first | refine vs_ ?_ | ((first | refine vr_ ?_ | (refine cs_ ?_ ?_ <;> intro hc) | refine cj_ ?_ | simp (disch := omega) only [encs_getN, qb]) <;> (try refine ev_ ?_)) | with_reducible exact ti_)
 refine qz (S := Nat × Int) (fun s => s.1 ≤ l.length ∧ qio s.2 (l.drop s.1) = qio 20000 l) (fun s => (⟨[(0, .sl 3 (ql l)), (3, .int .i64 s.2), (4, .int .i64 s.1)], []⟩, [])) (fun s => l.length - s.1) ?_ fun s hs => ?_
 ·refine qp (0, 20000) [] ⟨Nat.zero_le _, rfl⟩ rfl (by simp) ?_ ?_ ?_ <;> (try refine ev_ ?_) <;> (try with_reducible exact ti_) <;> (try simp (disch := omega) only [qb, and_true, true_and])
 ·obtain ⟨i, a⟩ := s
  obtain ⟨hi, ha⟩ := hs
  dsimp only at hi ha
  repeat' (first | refine vs_ ?_ | ((first | refine vr_ ?_ | fail) <;> (try simp (disch := first | omega | (simp only [List.length_set, List.length_append, List.length_cons, List.length_nil]; done) | (simp only [List.length_set, List.length_append, List.length_cons, List.length_nil]; omega)) only [qb1, qb, go_sem, ↓reduceIte])) | ((first | (refine cs_ ?_ ?_ <;> intro hc) | refine cj_ ?_ | simp (disch := omega) only [encs_getN, qb] | refine qa (q4h _ _ _) fun _ => ?_) <;> (try refine ev_ ?_)) | with_reducible exact ti_)
  ·refine qp (i + 1, cntY (l.getD i Y0) a 300) [] ⟨⟨by dsimp only; omega, ?_⟩, by dsimp only; omega⟩ rfl (by simp) ?_ ?_ ?_ <;> (try refine ev_ ?_) <;> (try with_reducible exact ti_) <;> (try simp (disch := omega) only [qb, and_true, true_and])
   rw [← ha, qyg (l := l) (i := i) (by omega), qio]
  all_goals
   have hf : qio 20000 l = a := by rw [← ha, List.drop_of_length_le (by omega)]; rfl
   rw [qel, hf]
  ·rw [if_neg (by simp; omega)]
  ·rw [if_pos (by simp; omega)]

/-! the laws of sizes -/
mutual
theorem qsw : ∀ (t : Ty) (k d : Int), 0 ≤ k → k ≤ 20000 → d ≤ 300 → 0 ≤ cntY t k d → cntY t k d = k - szY t ∧ (dpY t : Int) ≤ d
 | .mk c v l, k, d, h0, h1, h2, h3 => by
   rw [cntY] at h3 ⊢
   by_cases hd : d < 1
   ·rw [if_pos hd] at h3; omega
   ·rw [if_neg hd] at h3 ⊢
    have hk : IntKind.i64.wrap (k - 1) = k - 1 := qq (by omega) (by omega)
    rw [hk] at h3 ⊢
    have h4 : 0 ≤ k - 1 := by
     by_cases h : 0 ≤ k - 1
     ·exact h
     ·rw [qe6 (by omega)] at h3; exact h3
    have := qo8 l (k - 1) d h4 (by omega) (by omega) h2 h3
    rw [szY, dpY]
    omega
theorem qo8 : ∀ (l : List Ty) (a d : Int), 0 ≤ a → a ≤ 20000 → 1 ≤ d → d ≤ 300 → 0 ≤ qdk l a d → qdk l a d = a - szYs l ∧ (dpYs l : Int) ≤ d - 1
 | [], a, d, h0, h1, h2, h3, h4 => by rw [qdk, szYs, dpYs]; omega
 | x :: r, a, d, h0, h1, h2, h3, h4 => by
   rw [qdk, if_pos h0] at h4 ⊢
   have hd : IntKind.i64.wrap (d - 1) = d - 1 := qq (by omega) (by omega)
   rw [hd] at h4 ⊢
   have h5 : 0 ≤ cntY x a (d - 1) := by
    by_cases h : 0 ≤ cntY x a (d - 1)
    ·exact h
    ·rw [qe6 (by omega)] at h4; exact absurd h4 h
   obtain ⟨h6, h7⟩ := qsw x a (d - 1) h0 h1 (by omega) h5
   obtain ⟨h8, h9⟩ := qo8 r _ d h5 (by omega) h2 h3 h4
   rw [szYs, dpYs]
   omega
end
mutual
theorem qu4 : ∀ (t : Ty) (k d : Int), 0 ≤ k → k ≤ 20000 → -1 ≤ cntY t k d
 | .mk c v l, k, d, h0, h1 => by
   rw [cntY]
   split
   ·omega
   ·rw [qq (z := k - 1) (by omega) (by omega)]
    exact quf l (k - 1) d (by omega) (by omega)
theorem quf : ∀ (l : List Ty) (a d : Int), -1 ≤ a → a ≤ 20000 → -1 ≤ qdk l a d
 | [], a, d, h0, _ => by rw [qdk]; exact h0
 | x :: r, a, d, h0, h1 => by
   rw [qdk]
   split
   ·rename_i h
    have h2 := qu4 x a (IntKind.i64.wrap (d - 1)) h h1
    have h3 := q0c x a (IntKind.i64.wrap (d - 1)) h h1
    exact quf r _ d h2 (by omega)
   ·exact h0
theorem q0c : ∀ (t : Ty) (k d : Int), 0 ≤ k → k ≤ 20000 → cntY t k d ≤ k
 | .mk c v l, k, d, h0, h1 => by
   rw [cntY]
   split
   ·omega
   ·rw [qq (z := k - 1) (by omega) (by omega)]
    have := qr1 l (k - 1) d (by omega) (by omega)
    omega
theorem qr1 : ∀ (l : List Ty) (a d : Int), -1 ≤ a → a ≤ 20000 → qdk l a d ≤ a
 | [], a, d, h0, _ => by rw [qdk]; exact Int.le_refl _
 | x :: r, a, d, h0, h1 => by
   rw [qdk]
   split
   ·rename_i h
    have h2 := qu4 x a (IntKind.i64.wrap (d - 1)) h h1
    have h3 := q0c x a (IntKind.i64.wrap (d - 1)) h h1
    have := qr1 r _ d h2 (by omega)
    omega
   ·exact Int.le_refl _
end
theorem qob : ∀ (l : List Ty) {a : Int}, a < 0 → -9223372036854775808 ≤ a - l.length → qio a l < 0
 | [], a, h, _ => h
 | x :: r, a, h, h2 => by
   rw [qio]
   have h3 : cntY x a 300 = IntKind.i64.wrap (a - 1) := by
    rw [qs0, if_neg (by omega)]
    have hk : IntKind.i64.wrap (a - 1) = a - 1 := qq (by simp only [List.length_cons] at h2; omega) (by omega)
    rw [hk, qe6 (by omega)]
   have hk : IntKind.i64.wrap (a - 1) = a - 1 := qq (by simp only [List.length_cons] at h2; omega) (by omega)
   rw [h3, hk]
   exact qob r (by omega) (by simp only [List.length_cons] at h2; omega)
theorem qoh : ∀ (l : List Ty) (a : Int), 0 ≤ a → a ≤ 20000 → l.length ≤ 9223372036854775807 → 0 ≤ qio a l → (szYs l : Int) ≤ a ∧ (dpYs l : Int) ≤ 300
 | [], a, h0, h1, _, h2 => by rw [szYs, dpYs]; omega
 | x :: r, a, h0, h1, hl, h2 => by
   rw [qio] at h2
   simp only [List.length_cons] at hl
   have h5 : 0 ≤ cntY x a 300 := by
    by_cases h : 0 ≤ cntY x a 300
    ·exact h
    ·have : -1 ≤ cntY x a 300 := qu4 x a 300 h0 h1
     have := qob r (a := cntY x a 300) (by omega) (by omega)
     omega
   obtain ⟨h6, h7⟩ := qsw x a 300 h0 h1 (by omega) h5
   obtain ⟨h8, h9⟩ := qoh r _ h5 (by omega) (by omega) h2
   rw [szYs, dpYs]
   omega
theorem q59 {l : List Ty} (hl : l.length ≤ maxLen) (h : qel l = true) : szYs l ≤ 20000 ∧ dpYs l ≤ 300 := by
 have := qoh l 20000 (by omega) (by omega) (by unfold maxLen at hl; omega) (by simpa [qel] using h)
 omega

mutual
theorem qp1 : ∀ (t : Ty), szY t ≤ 1000000 → qu2 t = szY t
 | .mk c v l, h => by
   rw [szY] at h
   rw [qu2, szY, qhg l 1 (by omega) (by omega)]
   omega
theorem qhg : ∀ (l : List Ty) (a : Int), 1 ≤ a → a + szYs l ≤ 1000001 → qhx a l = a + szYs l
 | [], a, _, _ => by rw [qhx, szYs]; omega
 | x :: r, a, h0, h => by
   rw [szYs] at h
   rw [qhx, qp1 x (by omega), qq (by omega) (by omega), qhg r _ (by omega) (by omega), szYs]
   omega
end
mutual
theorem qls : ∀ (t : Ty) (n k : Int), 0 ≤ n → n + szY t ≤ 1000000 → qbz qnr t n k = (n + szY t, true)
 | .mk c v l, n, k, h0, h => by
   rw [szY] at h
   rw [qbz, if_pos (show (qnr n (.mk c v l) k).2 = true from rfl)]
   have h1 : (qnr n (.mk c v l) k).1 = n + 1 := qq (by omega) (by omega)
   rw [h1, qjs l _ _ (by omega) (by omega), szY]
   congr 1; omega
theorem qjs : ∀ (l : List Ty) (n k : Int), 0 ≤ n → n + szYs l ≤ 1000000 → qbg qnr l n k = (n + szYs l, true)
 | [], n, k, _, _ => by rw [qbg, szYs]; congr 1; omega
 | x :: r, n, k, h0, h => by
   rw [szYs] at h
   rw [qbg, qls x n k h0 (by omega), if_pos rfl, qjs r _ k (by omega) (by omega), szYs]
   congr 1; omega
end
mutual
theorem qld : ∀ (t : Ty) (n k : Int), 0 ≤ n → 1 ≤ k → k + dpY t ≤ 1000000 → qbz qmg t n k = (max n (k + dpY t - 1), true)
 | .mk c v l, n, k, h0, h1, h => by
   rw [dpY] at h
   rw [qbz, if_pos (show (qmg n (.mk c v l) k).2 = true from rfl)]
   have h2 : (qmg n (.mk c v l) k).1 = max n k := by simp only [qmg]; split <;> omega
   rw [h2, qq (z := k + 1) (by omega) (by omega), qji l _ _ (by omega) (by omega) (by omega), dpY]
   congr 1; split <;> omega
theorem qji : ∀ (l : List Ty) (n k : Int), 0 ≤ n → 1 ≤ k → k + dpYs l ≤ 1000000 → qbg qmg l n k = (if dpYs l = 0 then n else max n (k + dpYs l - 1), true)
 | [], n, k, _, _, _ => by rw [qbg, dpYs, if_pos rfl]
 | x :: r, n, k, h0, h1, h => by
   rw [dpYs] at h
   have hp := q7u x
   rw [qbg, qld x n k h0 h1 (by omega), if_pos rfl, qji r _ k (by omega) h1 (by omega), dpYs]
   congr 1
   rw [if_neg (by omega : ¬ max (dpY x) (dpYs r) = 0)]
   split <;> omega
end
mutual
theorem qli : ∀ (t : Ty) (n k : Int), 0 ≤ n → n + szY t ≤ 1000000 → 1 ≤ k → k + dpY t ≤ 1000000 →
 ((qbz qdx t n k).2 = true ↔ n + szY t ≤ 4096 ∧ k + dpY t - 1 ≤ 100 ∧ qbk t = true) ∧ ((qbz qdx t n k).2 = true → (qbz qdx t n k).1 = n + szY t)
 | .mk c v l, n, k, h0, h1, h2, h3 => by
   rw [szY] at h1
   rw [dpY] at h3
   have e1 : IntKind.i64.wrap (n + 1) = n + 1 := qq (by omega) (by omega)
   have e2 : IntKind.i64.wrap (k + 1) = k + 1 := qq (by omega) (by omega)
   have e3 : (qdx n (.mk c v l) k).1 = n + 1 := e1
   have e4 : (qdx n (.mk c v l) k).2 = true ↔ n + 1 ≤ 4096 ∧ k ≤ 100 ∧ mayW c v l.length = true := by
    simp only [qdx, e1, Bool.and_eq_true, decide_eq_true_eq]; rfl
   rw [qbz, szY, dpY, qbk]
   by_cases hs : (qdx n (.mk c v l) k).2 = true
   ·rw [if_pos hs, e3, e2]
    obtain ⟨q1, q2, q3⟩ := e4.1 hs
    obtain ⟨r1, r2⟩ := qjg l (n + 1) (k + 1) (by omega) (by omega) (by omega) (by omega) (by omega) (by omega)
    refine ⟨?_, fun h => by rw [r2 h]; omega⟩
    rw [r1, q3, Bool.and_true]
    constructor
    ·rintro ⟨a1, a2, a3⟩; exact ⟨by omega, by omega, a3⟩
    ·rintro ⟨a1, a2, a3⟩; exact ⟨by omega, by omega, a3⟩
   ·rw [if_neg hs]
    refine ⟨⟨fun h => (by cases h), fun ⟨a1, a2, a3⟩ => absurd (e4.2 ⟨by omega, by omega, (by rw [Bool.and_eq_true] at a3; exact a3.2)⟩) hs⟩, fun h => by cases h⟩
theorem qjg : ∀ (l : List Ty) (n k : Int), 0 ≤ n → n + szYs l ≤ 1000000 → 1 ≤ k → k + dpYs l ≤ 1000000 → n ≤ 4096 → k - 1 ≤ 100 →
 ((qbg qdx l n k).2 = true ↔ n + szYs l ≤ 4096 ∧ k + dpYs l - 1 ≤ 100 ∧ qy l = true) ∧ ((qbg qdx l n k).2 = true → (qbg qdx l n k).1 = n + szYs l)
 | [], n, k, h0, h1, h2, h3, h4, h5 => by
   rw [qbg, szYs, dpYs, qy]
   exact ⟨⟨fun _ => ⟨by omega, by omega, rfl⟩, fun _ => rfl⟩, fun _ => by simp⟩
 | x :: r, n, k, h0, h1, h2, h3, h4, h5 => by
   rw [szYs] at h1
   rw [dpYs] at h3
   obtain ⟨q1, q2⟩ := qli x n k h0 (by omega) h2 (by omega)
   rw [qbg, szYs, dpYs, qy]
   by_cases hs : (qbz qdx x n k).2 = true
   ·rw [if_pos hs, q2 hs]
    obtain ⟨a1, a2, a3⟩ := q1.1 hs
    obtain ⟨r1, r2⟩ := qjg r (n + szY x) k (by omega) (by omega) h2 (by omega) (by omega) h5
    refine ⟨?_, fun h => by rw [r2 h]; omega⟩
    rw [r1, a3, Bool.true_and]
    constructor
    ·rintro ⟨b1, b2, b3⟩; exact ⟨by omega, by omega, b3⟩
    ·rintro ⟨b1, b2, b3⟩; exact ⟨by omega, by omega, b3⟩
   ·rw [if_neg hs]
    refine ⟨⟨fun h => (by cases h), fun ⟨a1, a2, a3⟩ => absurd (q1.2 ⟨by omega, by omega, ?_⟩) hs⟩, fun h => by cases h⟩
    rw [Bool.and_eq_true] at a3
    exact a3.1
end
def q6 (t : Ty) : Bool := decide (szY t ≤ 4096) && (decide (dpY t ≤ 100) && qbk t)
theorem quj {t : Ty} (h1 : szY t ≤ 20000) (h2 : dpY t ≤ 300) : quc t = q6 t := by
 have := (qli t 0 1 (by omega) (by omega) (by omega) (by omega)).1
 rw [quc, Bool.eq_iff_iff, this, q6, Bool.and_eq_true, Bool.and_eq_true, decide_eq_true_eq, decide_eq_true_eq]
 constructor
 ·rintro ⟨a1, a2, a3⟩; exact ⟨by omega, by omega, a3⟩
 ·rintro ⟨a1, a2, a3⟩; exact ⟨by omega, by omega, a3⟩
theorem qb3 {t : Ty} (h1 : szY t ≤ 20000) (h2 : dpY t ≤ 300) : qk Try.prog 23 [encY t] (.bool (q6 t)) := by
 rw [← quj h1 h2]; exact qnp t

theorem qxc {t a b : Ty} (h1 : t.con = arrW) (h2 : t.args = [a, b]) : txtY t = parW (decide (a.con = arrW)) (txtY a) ++ ([32, 45, 62, 32] ++ txtY b) := by
 cases t with
 | mk c v l =>
   have h1' : c = arrW := h1
   have h2' : l = [a, b] := h2
   subst h1' h2'
   rw [txtY, if_pos rfl]
theorem qvy {t : Ty} (h1 : ¬ t.con = arrW) : txtY t = qf8 t ++ argY t.args := by
 cases t with
 | mk c v l =>
   have h1' : ¬ c = arrW := h1
   rcases l with _ | ⟨a, _ | ⟨b, _ | ⟨d, r⟩⟩⟩ <;> (simp only [txtY, if_neg h1']; rfl)
theorem qhd (l : List Ty) (i : Nat) (h : i < l.length) : argY (l.take (i + 1)) = argY (l.take i) ++ (32 :: parW (decide ((l.getD i Y0).args ≠ [])) (txtY (l.getD i Y0))) := by
 have h1 : l.take (i + 1) = l.take i ++ [l.getD i Y0] := by
  rw [List.take_add_one, List.getD_eq_getElem?_getD, List.getElem?_eq_getElem h]; rfl
 rw [h1]
 generalize l.take i = a
 generalize l.getD i Y0 = x
 induction a with
 | nil => simp [argY]
 | cons y a ih => simp only [List.cons_append, argY, ih, List.append_assoc]
theorem qe1 (l : List Ty) (i : Nat) : (argY (l.take i)).length ≤ (argY l).length := by
 induction l generalizing i with
 | nil => simp
 | cons x r ih =>
   cases i with
   | zero => simp [argY]
   | succ i => rw [List.take_succ_cons, argY, argY, List.length_append, List.length_append]; have := ih i; omega
theorem qun {t : Ty} (h : qbk t = true) (h1 : t.con = arrW) : ∃ a b, t.args = [a, b] ∧ qbk a = true ∧ qbk b = true := by
 rw [qhy, Bool.and_eq_true] at h
 obtain ⟨h2, h3⟩ := h
 rw [mayY, mayW, h1, if_neg (by decide), if_pos rfl, Bool.and_eq_true, decide_eq_true_eq, decide_eq_true_eq] at h3
 have hl : t.args.length = 2 := by omega
 obtain ⟨a, b, hab⟩ : ∃ a b, t.args = [a, b] := by
  match hh : t.args, hl with
  | [a, b], _ => exact ⟨a, b, rfl⟩
 rw [hab] at h2
 simp only [qy, Bool.and_eq_true] at h2
 exact ⟨a, b, hab, h2.1, h2.2.1⟩
theorem qsb {t x : Ty} (h : qbk t = true) (hx : x ∈ t.args) : qbk x = true := by
 rw [qhy, Bool.and_eq_true] at h
 have h2 := h.1
 generalize t.args = l at hx h2
 induction l with
 | nil => cases hx
 | cons y r ih =>
   rw [qy, Bool.and_eq_true] at h2
   rcases List.mem_cons.1 hx with rfl | hx
   ·exact h2.1
   ·exact ih hx h2.2
theorem qo5 (b : Bool) (s : List UInt8) : s.length ≤ (parW b s).length ∧ (parW b s).length ≤ s.length + 2 := by
 rw [parW]; split <;> simp <;> omega
def Big : Nat := 140737488355328
theorem qx {n : Nat} (h : n ≤ Big) : n ≤ maxLen := by unfold Big at h; unfold maxLen; omega

theorem qbaf {v : Int} (h : (Lit.int .i64 v).wf = true) (h0 : v < 0) : IntKind.i64.wrap (-1 - v) = -1 - v := by
 have := qmk h
 exact qq (by omega) (by omega)
end Go.Proofs.Ytbbjelfnocmaoaa
