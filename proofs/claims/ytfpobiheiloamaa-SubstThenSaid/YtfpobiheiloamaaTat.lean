/- Texts of this proof, joined. -/
import Derived.Test.YtfpobiheiloamaaTaq

/- terms: how great, how deep, whether a type is one; Few -/
set_option maxRecDepth 4000
namespace Go.Proofs.Ytfpobiheiloamaa
open Go Go.RowKit Go.V
set_option linter.unusedVariables false
set_option linter.unusedSimpArgs false

/-! the program's -/
abbrev numE (n : Int) : Ent := .blk [.int .i64 n]
def qdn (n : Int) (t : Ty) (k : Int) : Int × Bool := (IntKind.i64.wrap (n + 1), decide (IntKind.i64.wrap (n + 1) ≤ 4096) && (decide (k ≤ 100) && mayY t))
theorem q7e (n : Int) (t : Ty) (k : Int) : VM Try.prog 87 (numE n) (numE (qdn n t k).1) [encY t, .int .i64 k, .ptr 0 0] (.bool (qdn n t k).2) := by
 refine qhg (by kernel_rfl) fun hw => ?_
 have hk := qda hw.1
 refine qk c0bn 1 (by simp) (by simp) ?_
 repeat' (first | refine vs_ ?_ | ((first | refine vr_ ?_ | refine qa (qew _) fun _ => ?_ | refine qa (qvi _ _ _) fun _ => ?_ | (refine cs_ ?_ ?_ <;> intro hc) | refine cj_ ?_ | simp (disch := omega) only [encs_getN, qb]) <;> (try refine ev_ ?_)) | with_reducible exact ti_)
 ·simp_all [qdn]
 ·exact ⟨rfl, by simp only [qdn, *, decide_true, decide_false, Bool.true_and, Bool.false_and]⟩
 ·exact ⟨rfl, by simp only [qdn, *, decide_true, decide_false, Bool.true_and, Bool.false_and]⟩
def ql4 (n : Int) (_ : Ty) (_ : Int) : Int × Bool := (IntKind.i64.wrap (n + 1), true)
theorem qbdk (n : Int) (t : Ty) (k : Int) : VM Try.prog 131 (numE n) (numE (ql4 n t k).1) [encY t, .int .i64 k, .ptr 0 0] (.bool (ql4 n t k).2) := by
 refine qk c0bo 1 (by simp) (by simp) ?_
 repeat' (first | refine vs_ ?_ | ((first | refine vr_ ?_ | (refine cs_ ?_ ?_ <;> intro hc) | refine cj_ ?_ | simp (disch := omega) only [encs_getN, qb]) <;> (try refine ev_ ?_)) | with_reducible exact ti_)
 exact ⟨rfl, rfl⟩
def qkx (n : Int) (_ : Ty) (k : Int) : Int × Bool := (if k > n then k else n, true)
theorem qbbi (n : Int) (t : Ty) (k : Int) : VM Try.prog 132 (numE n) (numE (qkx n t k).1) [encY t, .int .i64 k, .ptr 0 0] (.bool (qkx n t k).2) := by
 refine qk c0bp 1 (by simp) (by simp) ?_
 repeat' (first | refine vs_ ?_ | ((first | refine vr_ ?_ | (refine cs_ ?_ ?_ <;> intro hc) | refine cj_ ?_ | fail) <;> (try refine ev_ ?_)) | with_reducible exact ti_)
 exact ⟨rfl, rfl⟩
theorem qj0 {f : FuncId} {step : Int → Ty → Int → Int × Bool} (h : ∀ n t k, VM Try.prog f (numE n) (numE (step n t k).1) [encY t, .int .i64 k, .ptr 0 0] (.bool (step n t k).2)) (t : Ty) (n k : Int) :
 VM Try.prog 86 (numE n) (numE (qbu step t n k).1) [encY t, .int .i64 k, .fn f [] [.ptr 0 0]] (.bool (qbu step t n k).2) :=
 qo6 (st := numE) (ok := fun _ _ => True) (fun _ => rfl) (fun _ _ _ _ _ => trivial) (fun _ _ _ => trivial) (fun n t k _ => h n t k) t n k trivial
def qr7 (t : Ty) : Bool := (qbu qdn t 0 1).2
theorem ql0 (t : Ty) : qm Try.prog 48 [encY t] (.bool (qr7 t)) := by
 refine qf c0bq (by simp) (by simp only [go_sem]) rfl fun hw => ?_
 repeat' (first | refine vs_ ?_ | ((first | refine vr_ ?_ | refine qcd 1 (qj0 q7e t 0 1) ?_ | (refine cs_ ?_ ?_ <;> intro hc) | refine cj_ ?_ | fail) <;> (try refine ev_ ?_)) | with_reducible exact ti_)
 rfl
theorem qp6 (t : Ty) : qm Try.prog 110 [encY t] (.int .i64 (qbu ql4 t 0 1).1) := by
 refine qf c0br (by simp) (by simp only [go_sem]) rfl fun hw => ?_
 repeat' (first | refine vs_ ?_ | ((first | refine vr_ ?_ | refine qcd 1 (qj0 qbdk t 0 1) ?_ | (refine cs_ ?_ ?_ <;> intro hc) | refine cj_ ?_ | fail) <;> (try refine ev_ ?_)) | with_reducible exact ti_)
theorem qmm (t : Ty) : qm Try.prog 111 [encY t] (.int .i64 (qbu qkx t 0 1).1) := by
 refine qf c0bs (by simp) (by simp only [go_sem]) rfl fun hw => ?_
 repeat' (first | refine vs_ ?_ | ((first | refine vr_ ?_ | refine qcd 1 (qj0 qbbi t 0 1) ?_ | (refine cs_ ?_ ?_ <;> intro hc) | refine cj_ ?_ | fail) <;> (try refine ev_ ?_)) | with_reducible exact ti_)

/-! the references -/
mutual
def qt5 : Ty → Int
 | .mk _ _ l => qg6 1 l
def qg6 : Int → List Ty → Int
 | a, [] => a
 | a, x :: r => qg6 (IntKind.i64.wrap (a + qt5 x)) r
end
mutual
def qbr : Ty → Bool
 | .mk c v l => qbn l && mayW c v l.length
def qbn : List Ty → Bool
 | [] => true
 | x :: r => qbr x && qbn r
end
theorem qg1 (t : Ty) : qbr t = (qbn t.args && mayY t) := by cases t; rw [qbr]; rfl
/-! Few -/
mutual
def cntY : Ty → Int → Int → Int
 | .mk _ _ l, k, d => if d < 1 then -1 else qc8 l (IntKind.i64.wrap (k - 1)) d
def qc8 : List Ty → Int → Int → Int
 | [], a, _ => a
 | x :: r, a, d => if 0 ≤ a then qc8 r (cntY x a (IntKind.i64.wrap (d - 1))) d else a
end
theorem qrn (t : Ty) (k d : Int) : cntY t k d = if d < 1 then -1 else qc8 t.args (IntKind.i64.wrap (k - 1)) d := by cases t; rw [cntY]; rfl
theorem qe5 {a : Int} (h : a < 0) (l : List Ty) (d : Int) : qc8 l a d = a := by
 cases l with
 | nil => rw [qc8]
 | cons x r => rw [qc8, if_neg (by omega)]
theorem qyk : ∀ t k d, qm Try.prog 77 [encY t, .int .i64 k, .int .i64 d] (.int .i64 (cntY t k d)) := by
 refine Ty.ind fun t ih k d => ?_
 refine qf c0bt (by simp) (by simp only [go_sem]) rfl fun hw => ?_
 have hk := qda hw.1
 rw [qrn]
 repeat' (first | refine vs_ ?_ | ((first | refine vr_ ?_ | (refine cs_ ?_ ?_ <;> intro hc) | refine cj_ ?_ | simp (disch := omega) only [encs_getN, qb]) <;> (try refine ev_ ?_)) | with_reducible exact ti_)
 ·rw [if_pos (by assumption)]
 rw [if_neg (by assumption)]
 refine qp (S := Nat × Int) (fun s => s.1 ≤ t.args.length ∧ qc8 (t.args.drop s.1) s.2 d = qc8 t.args (IntKind.i64.wrap (k - 1)) d) (fun s => (⟨[(1, .int .i64 s.2), (2, .int .i64 d), (3, .ptr 0 0), (7, .int .i64 s.1)], []⟩, [.blk (yc t)])) (fun s => t.args.length - s.1) ?_ fun s hs => ?_
 ·refine qn (0, IntKind.i64.wrap (k - 1)) [0] ⟨Nat.zero_le _, rfl⟩ rfl (by simp) ?_ ?_ ?_ <;> (try refine ev_ ?_) <;> (try with_reducible exact ti_) <;> (try simp (disch := omega) only [qb, and_true, true_and])
 ·obtain ⟨i, a⟩ := s
  obtain ⟨hi, ha⟩ := hs
  dsimp only at hi ha
  repeat' (first | refine vs_ ?_ | ((first | refine vr_ ?_ | fail) <;> (try simp (disch := first | omega | (simp only [List.length_set, List.length_append, List.length_cons, List.length_nil]; done) | (simp only [List.length_set, List.length_append, List.length_cons, List.length_nil]; omega)) only [qbq, qb, go_sem, ↓reduceIte])) | ((first | (refine cs_ ?_ ?_ <;> intro hc) | refine cj_ ?_ | simp (disch := omega) only [encs_getN, qb] | refine qa (ih _ (qbx (by omega)) _ _) fun _ => ?_) <;> (try refine ev_ ?_)) | with_reducible exact ti_)
  ·refine qn (i + 1, cntY (t.args.getD i Y0) a (IntKind.i64.wrap (d - 1))) [0] ⟨⟨by dsimp only; omega, ?_⟩, by dsimp only; omega⟩ rfl (by simp) ?_ ?_ ?_ <;> (try refine ev_ ?_) <;> (try with_reducible exact ti_) <;> (try simp (disch := omega) only [qb, and_true, true_and])
   rw [← ha, qpv (l := t.args) (i := i) (by omega), qc8, if_pos (by assumption)]
  ·rw [← ha, qe5 (by omega)]
  ·rw [← ha, List.drop_of_length_le (by omega)]; rfl
def qh0 (a : Int) : List Ty → Int
 | [] => a
 | x :: r => qh0 (cntY x a 300) r
def qdi (l : List Ty) : Bool := decide (0 ≤ qh0 20000 l)
theorem q1x (l : List Ty) : qm Try.prog 31 [.sl 3 (qs l)] (.int .i64 (if qdi l = true then 1 else 0)) := by
 refine qf c0bu (by simp) (by simp only [go_sem]) rfl fun hw => ?_
 have hk : l.length ≤ maxLen := by have := hw.1.1; rwa [qba] at this
 repeat' (first | refine vs_ ?_ | ((first | refine vr_ ?_ | (refine cs_ ?_ ?_ <;> intro hc) | refine cj_ ?_ | simp (disch := omega) only [encs_getN, qb]) <;> (try refine ev_ ?_)) | with_reducible exact ti_)
 refine qp (S := Nat × Int) (fun s => s.1 ≤ l.length ∧ qh0 s.2 (l.drop s.1) = qh0 20000 l) (fun s => (⟨[(0, .sl 3 (qs l)), (3, .int .i64 s.2), (4, .int .i64 s.1)], []⟩, [])) (fun s => l.length - s.1) ?_ fun s hs => ?_
 ·refine qn (0, 20000) [] ⟨Nat.zero_le _, rfl⟩ rfl (by simp) ?_ ?_ ?_ <;> (try refine ev_ ?_) <;> (try with_reducible exact ti_) <;> (try simp (disch := omega) only [qb, and_true, true_and])
 ·obtain ⟨i, a⟩ := s
  obtain ⟨hi, ha⟩ := hs
  dsimp only at hi ha
  repeat' (first | refine vs_ ?_ | ((first | refine vr_ ?_ | fail) <;> (try simp (disch := first | omega | (simp only [List.length_set, List.length_append, List.length_cons, List.length_nil]; done) | (simp only [List.length_set, List.length_append, List.length_cons, List.length_nil]; omega)) only [qbq, qb, go_sem, ↓reduceIte])) | ((first | (refine cs_ ?_ ?_ <;> intro hc) | refine cj_ ?_ | simp (disch := omega) only [encs_getN, qb] | refine qa (qyk _ _ _) fun _ => ?_) <;> (try refine ev_ ?_)) | with_reducible exact ti_)
  ·refine qn (i + 1, cntY (l.getD i Y0) a 300) [] ⟨⟨by dsimp only; omega, ?_⟩, by dsimp only; omega⟩ rfl (by simp) ?_ ?_ ?_ <;> (try refine ev_ ?_) <;> (try with_reducible exact ti_) <;> (try simp (disch := omega) only [qb, and_true, true_and])
   rw [← ha, qpv (l := l) (i := i) (by omega), qh0]
  all_goals
   have hf : qh0 20000 l = a := by rw [← ha, List.drop_of_length_le (by omega)]; rfl
   rw [qdi, hf]
  ·rw [if_neg (by simp; omega)]
  ·rw [if_pos (by simp; omega)]

/-! the laws of sizes -/
mutual
theorem qr5 : ∀ (t : Ty) (k d : Int), 0 ≤ k → k ≤ 20000 → d ≤ 300 → 0 ≤ cntY t k d → cntY t k d = k - szY t ∧ (dpY t : Int) ≤ d
 | .mk c v l, k, d, h0, h1, h2, h3 => by
   rw [cntY] at h3 ⊢
   by_cases hd : d < 1
   ·rw [if_pos hd] at h3; omega
   ·rw [if_neg hd] at h3 ⊢
    have hk : IntKind.i64.wrap (k - 1) = k - 1 := q9 (by omega) (by omega)
    rw [hk] at h3 ⊢
    have h4 : 0 ≤ k - 1 := by
     by_cases h : 0 ≤ k - 1
     ·exact h
     ·rw [qe5 (by omega)] at h3; exact h3
    have := qnj l (k - 1) d h4 (by omega) (by omega) h2 h3
    rw [szY, dpY]
    omega
theorem qnj : ∀ (l : List Ty) (a d : Int), 0 ≤ a → a ≤ 20000 → 1 ≤ d → d ≤ 300 → 0 ≤ qc8 l a d → qc8 l a d = a - szYs l ∧ (dpYs l : Int) ≤ d - 1
 | [], a, d, h0, h1, h2, h3, h4 => by rw [qc8, szYs, dpYs]; omega
 | x :: r, a, d, h0, h1, h2, h3, h4 => by
   rw [qc8, if_pos h0] at h4 ⊢
   have hd : IntKind.i64.wrap (d - 1) = d - 1 := q9 (by omega) (by omega)
   rw [hd] at h4 ⊢
   have h5 : 0 ≤ cntY x a (d - 1) := by
    by_cases h : 0 ≤ cntY x a (d - 1)
    ·exact h
    ·rw [qe5 (by omega)] at h4; exact absurd h4 h
   obtain ⟨h6, h7⟩ := qr5 x a (d - 1) h0 h1 (by omega) h5
   obtain ⟨h8, h9⟩ := qnj r _ d h5 (by omega) h2 h3 h4
   rw [szYs, dpYs]
   omega
end
mutual
theorem qqj : ∀ (t : Ty) (k d : Int), 0 ≤ k → k ≤ 20000 → -1 ≤ cntY t k d
 | .mk c v l, k, d, h0, h1 => by
   rw [cntY]
   split
   ·omega
   ·rw [q9 (z := k - 1) (by omega) (by omega)]
    exact qq6 l (k - 1) d (by omega) (by omega)
theorem qq6 : ∀ (l : List Ty) (a d : Int), -1 ≤ a → a ≤ 20000 → -1 ≤ qc8 l a d
 | [], a, d, h0, _ => by rw [qc8]; exact h0
 | x :: r, a, d, h0, h1 => by
   rw [qc8]
   split
   ·rename_i h
    have h2 := qqj x a (IntKind.i64.wrap (d - 1)) h h1
    have h3 := qxp x a (IntKind.i64.wrap (d - 1)) h h1
    exact qq6 r _ d h2 (by omega)
   ·exact h0
theorem qxp : ∀ (t : Ty) (k d : Int), 0 ≤ k → k ≤ 20000 → cntY t k d ≤ k
 | .mk c v l, k, d, h0, h1 => by
   rw [cntY]
   split
   ·omega
   ·rw [q9 (z := k - 1) (by omega) (by omega)]
    have := qtm l (k - 1) d (by omega) (by omega)
    omega
theorem qtm : ∀ (l : List Ty) (a d : Int), -1 ≤ a → a ≤ 20000 → qc8 l a d ≤ a
 | [], a, d, h0, _ => by rw [qc8]; exact Int.le_refl _
 | x :: r, a, d, h0, h1 => by
   rw [qc8]
   split
   ·rename_i h
    have h2 := qqj x a (IntKind.i64.wrap (d - 1)) h h1
    have h3 := qxp x a (IntKind.i64.wrap (d - 1)) h h1
    have := qtm r _ d h2 (by omega)
    omega
   ·exact Int.le_refl _
end
theorem qnr : ∀ (l : List Ty) {a : Int}, a < 0 → -9223372036854775808 ≤ a - l.length → qh0 a l < 0
 | [], a, h, _ => h
 | x :: r, a, h, h2 => by
   rw [qh0]
   have h3 : cntY x a 300 = IntKind.i64.wrap (a - 1) := by
    rw [qrn, if_neg (by omega)]
    have hk : IntKind.i64.wrap (a - 1) = a - 1 := q9 (by simp only [List.length_cons] at h2; omega) (by omega)
    rw [hk, qe5 (by omega)]
   have hk : IntKind.i64.wrap (a - 1) = a - 1 := q9 (by simp only [List.length_cons] at h2; omega) (by omega)
   rw [h3, hk]
   exact qnr r (by omega) (by simp only [List.length_cons] at h2; omega)
theorem qnh : ∀ (l : List Ty) (a : Int), 0 ≤ a → a ≤ 20000 → l.length ≤ 9223372036854775807 → 0 ≤ qh0 a l → (szYs l : Int) ≤ a ∧ (dpYs l : Int) ≤ 300
 | [], a, h0, h1, _, h2 => by rw [szYs, dpYs]; omega
 | x :: r, a, h0, h1, hl, h2 => by
   rw [qh0] at h2
   simp only [List.length_cons] at hl
   have h5 : 0 ≤ cntY x a 300 := by
    by_cases h : 0 ≤ cntY x a 300
    ·exact h
    ·have : -1 ≤ cntY x a 300 := qqj x a 300 h0 h1
     have := qnr r (a := cntY x a 300) (by omega) (by omega)
     omega
   obtain ⟨h6, h7⟩ := qr5 x a 300 h0 h1 (by omega) h5
   obtain ⟨h8, h9⟩ := qnh r _ h5 (by omega) (by omega) h2
   rw [szYs, dpYs]
   omega
theorem qr1 {l : List Ty} (hl : l.length ≤ maxLen) (h : qdi l = true) : szYs l ≤ 20000 ∧ dpYs l ≤ 300 := by
 have := qnh l 20000 (by omega) (by omega) (by unfold maxLen at hl; omega) (by simpa [qdi] using h)
 omega

mutual
theorem qpm : ∀ (t : Ty), szY t ≤ 1000000 → qt5 t = szY t
 | .mk c v l, h => by
   rw [szY] at h
   rw [qt5, szY, qg3 l 1 (by omega) (by omega)]
   omega
theorem qg3 : ∀ (l : List Ty) (a : Int), 1 ≤ a → a + szYs l ≤ 1000001 → qg6 a l = a + szYs l
 | [], a, _, _ => by rw [qg6, szYs]; omega
 | x :: r, a, h0, h => by
   rw [szYs] at h
   rw [qg6, qpm x (by omega), q9 (by omega) (by omega), qg3 r _ (by omega) (by omega), szYs]
   omega
end
mutual
theorem qli : ∀ (t : Ty) (n k : Int), 0 ≤ n → n + szY t ≤ 1000000 → qbu ql4 t n k = (n + szY t, true)
 | .mk c v l, n, k, h0, h => by
   rw [szY] at h
   rw [qbu, if_pos (show (ql4 n (.mk c v l) k).2 = true from rfl)]
   have h1 : (ql4 n (.mk c v l) k).1 = n + 1 := q9 (by omega) (by omega)
   rw [h1, qh3 l _ _ (by omega) (by omega), szY]
   congr 1; omega
theorem qh3 : ∀ (l : List Ty) (n k : Int), 0 ≤ n → n + szYs l ≤ 1000000 → qbg ql4 l n k = (n + szYs l, true)
 | [], n, k, _, _ => by rw [qbg, szYs]; congr 1; omega
 | x :: r, n, k, h0, h => by
   rw [szYs] at h
   rw [qbg, qli x n k h0 (by omega), if_pos rfl, qh3 r _ k (by omega) (by omega), szYs]
   congr 1; omega
end
mutual
theorem qj3 : ∀ (t : Ty) (n k : Int), 0 ≤ n → 1 ≤ k → k + dpY t ≤ 1000000 → qbu qkx t n k = (max n (k + dpY t - 1), true)
 | .mk c v l, n, k, h0, h1, h => by
   rw [dpY] at h
   rw [qbu, if_pos (show (qkx n (.mk c v l) k).2 = true from rfl)]
   have h2 : (qkx n (.mk c v l) k).1 = max n k := by simp only [qkx]; split <;> omega
   rw [h2, q9 (z := k + 1) (by omega) (by omega), qig l _ _ (by omega) (by omega) (by omega), dpY]
   congr 1; split <;> omega
theorem qig : ∀ (l : List Ty) (n k : Int), 0 ≤ n → 1 ≤ k → k + dpYs l ≤ 1000000 → qbg qkx l n k = (if dpYs l = 0 then n else max n (k + dpYs l - 1), true)
 | [], n, k, _, _, _ => by rw [qbg, dpYs, if_pos rfl]
 | x :: r, n, k, h0, h1, h => by
   rw [dpYs] at h
   have hp := qyr x
   rw [qbg, qj3 x n k h0 h1 (by omega), if_pos rfl, qig r _ k (by omega) h1 (by omega), dpYs]
   congr 1
   rw [if_neg (by omega : ¬ max (dpY x) (dpYs r) = 0)]
   split <;> omega
end
mutual
theorem qki : ∀ (t : Ty) (n k : Int), 0 ≤ n → n + szY t ≤ 1000000 → 1 ≤ k → k + dpY t ≤ 1000000 →
 ((qbu qdn t n k).2 = true ↔ n + szY t ≤ 4096 ∧ k + dpY t - 1 ≤ 100 ∧ qbr t = true) ∧ ((qbu qdn t n k).2 = true → (qbu qdn t n k).1 = n + szY t)
 | .mk c v l, n, k, h0, h1, h2, h3 => by
   rw [szY] at h1
   rw [dpY] at h3
   have e1 : IntKind.i64.wrap (n + 1) = n + 1 := q9 (by omega) (by omega)
   have e2 : IntKind.i64.wrap (k + 1) = k + 1 := q9 (by omega) (by omega)
   have e3 : (qdn n (.mk c v l) k).1 = n + 1 := e1
   have e4 : (qdn n (.mk c v l) k).2 = true ↔ n + 1 ≤ 4096 ∧ k ≤ 100 ∧ mayW c v l.length = true := by
    simp only [qdn, e1, Bool.and_eq_true, decide_eq_true_eq]; rfl
   rw [qbu, szY, dpY, qbr]
   by_cases hs : (qdn n (.mk c v l) k).2 = true
   ·rw [if_pos hs, e3, e2]
    obtain ⟨q1, q2, q3⟩ := e4.1 hs
    obtain ⟨r1, r2⟩ := qir l (n + 1) (k + 1) (by omega) (by omega) (by omega) (by omega) (by omega) (by omega)
    refine ⟨?_, fun h => by rw [r2 h]; omega⟩
    rw [r1, q3, Bool.and_true]
    constructor
    ·rintro ⟨a1, a2, a3⟩; exact ⟨by omega, by omega, a3⟩
    ·rintro ⟨a1, a2, a3⟩; exact ⟨by omega, by omega, a3⟩
   ·rw [if_neg hs]
    refine ⟨⟨fun h => (by cases h), fun ⟨a1, a2, a3⟩ => absurd (e4.2 ⟨by omega, by omega, (by rw [Bool.and_eq_true] at a3; exact a3.2)⟩) hs⟩, fun h => by cases h⟩
theorem qir : ∀ (l : List Ty) (n k : Int), 0 ≤ n → n + szYs l ≤ 1000000 → 1 ≤ k → k + dpYs l ≤ 1000000 → n ≤ 4096 → k - 1 ≤ 100 →
 ((qbg qdn l n k).2 = true ↔ n + szYs l ≤ 4096 ∧ k + dpYs l - 1 ≤ 100 ∧ qbn l = true) ∧ ((qbg qdn l n k).2 = true → (qbg qdn l n k).1 = n + szYs l)
 | [], n, k, h0, h1, h2, h3, h4, h5 => by
   rw [qbg, szYs, dpYs, qbn]
   exact ⟨⟨fun _ => ⟨by omega, by omega, rfl⟩, fun _ => rfl⟩, fun _ => by simp⟩
 | x :: r, n, k, h0, h1, h2, h3, h4, h5 => by
   rw [szYs] at h1
   rw [dpYs] at h3
   obtain ⟨q1, q2⟩ := qki x n k h0 (by omega) h2 (by omega)
   rw [qbg, szYs, dpYs, qbn]
   by_cases hs : (qbu qdn x n k).2 = true
   ·rw [if_pos hs, q2 hs]
    obtain ⟨a1, a2, a3⟩ := q1.1 hs
    obtain ⟨r1, r2⟩ := qir r (n + szY x) k (by omega) (by omega) h2 (by omega) (by omega) h5
    refine ⟨?_, fun h => by rw [r2 h]; omega⟩
    rw [r1, a3, Bool.true_and]
    constructor
    ·rintro ⟨b1, b2, b3⟩; exact ⟨by omega, by omega, b3⟩
    ·rintro ⟨b1, b2, b3⟩; exact ⟨by omega, by omega, b3⟩
   ·rw [if_neg hs]
    refine ⟨⟨fun h => (by cases h), fun ⟨a1, a2, a3⟩ => absurd (q1.2 ⟨by omega, by omega, ?_⟩) hs⟩, fun h => by cases h⟩
    rw [Bool.and_eq_true] at a3
    exact a3.1
end
def qu (t : Ty) : Bool := decide (szY t ≤ 4096) && (decide (dpY t ≤ 100) && qbr t)
theorem qr2 {t : Ty} (h1 : szY t ≤ 20000) (h2 : dpY t ≤ 300) : qr7 t = qu t := by
 have := (qki t 0 1 (by omega) (by omega) (by omega) (by omega)).1
 rw [qr7, Bool.eq_iff_iff, this, qu, Bool.and_eq_true, Bool.and_eq_true, decide_eq_true_eq, decide_eq_true_eq]
 constructor
 ·rintro ⟨a1, a2, a3⟩; exact ⟨by omega, by omega, a3⟩
 ·rintro ⟨a1, a2, a3⟩; exact ⟨by omega, by omega, a3⟩
theorem qck {t : Ty} (h1 : szY t ≤ 20000) (h2 : dpY t ≤ 300) : qm Try.prog 48 [encY t] (.bool (qu t)) := by
 rw [← qr2 h1 h2]; exact ql0 t
set_option maxRecDepth 4000

theorem qwe {t a b : Ty} (h1 : t.con = arrW) (h2 : t.args = [a, b]) : txtY t = parW (decide (a.con = arrW)) (txtY a) ++ ([32, 45, 62, 32] ++ txtY b) := by
 cases t with
 | mk c v l =>
   have h1' : c = arrW := h1
   have h2' : l = [a, b] := h2
   subst h1' h2'
   rw [txtY, if_pos rfl]
theorem qxf {t : Ty} (h1 : ¬ t.con = arrW) : txtY t = qfa t ++ argY t.args := by
 cases t with
 | mk c v l =>
   have h1' : ¬ c = arrW := h1
   rcases l with _ | ⟨a, _ | ⟨b, _ | ⟨d, r⟩⟩⟩ <;> (simp only [txtY, if_neg h1']; rfl)
theorem qg5 (l : List Ty) (i : Nat) (h : i < l.length) : argY (l.take (i + 1)) = argY (l.take i) ++ (32 :: parW (decide ((l.getD i Y0).args ≠ [])) (txtY (l.getD i Y0))) := by
 have h1 : l.take (i + 1) = l.take i ++ [l.getD i Y0] := by
  rw [List.take_add_one, List.getD_eq_getElem?_getD, List.getElem?_eq_getElem h]; rfl
 rw [h1]
 generalize l.take i = a
 generalize l.getD i Y0 = x
 induction a with
 | nil => simp [argY]
 | cons y a ih => simp only [List.cons_append, argY, ih, List.append_assoc]
theorem qe1 (l : List Ty) (i : Nat) : (argY (l.take i)).length ≤ (argY l).length := by
 induction l generalizing i with
 | nil => simp
 | cons x r ih =>
   cases i with
   | zero => simp [argY]
   | succ i => rw [List.take_succ_cons, argY, argY, List.length_append, List.length_append]; have := ih i; omega
theorem qs7 {t : Ty} (h : qbr t = true) (h1 : t.con = arrW) : ∃ a b, t.args = [a, b] ∧ qbr a = true ∧ qbr b = true := by
 rw [qg1, Bool.and_eq_true] at h
 obtain ⟨h2, h3⟩ := h
 rw [mayY, mayW, h1, if_neg (by decide), if_pos rfl, Bool.and_eq_true, decide_eq_true_eq, decide_eq_true_eq] at h3
 have hl : t.args.length = 2 := by omega
 obtain ⟨a, b, hab⟩ : ∃ a b, t.args = [a, b] := by
  match hh : t.args, hl with
  | [a, b], _ => exact ⟨a, b, rfl⟩
 rw [hab] at h2
 simp only [qbn, Bool.and_eq_true] at h2
 exact ⟨a, b, hab, h2.1, h2.2.1⟩
theorem qtn {t x : Ty} (h : qbr t = true) (hx : x ∈ t.args) : qbr x = true := by
 rw [qg1, Bool.and_eq_true] at h
 have h2 := h.1
 generalize t.args = l at hx h2
 induction l with
 | nil => cases hx
 | cons y r ih =>
   rw [qbn, Bool.and_eq_true] at h2
   rcases List.mem_cons.1 hx with rfl | hx
   ·exact h2.1
   ·exact ih hx h2.2
theorem qnf (b : Bool) (s : List UInt8) : s.length ≤ (parW b s).length ∧ (parW b s).length ≤ s.length + 2 := by
 rw [parW]; split <;> simp <;> omega
def Big : Nat := 140737488355328
theorem qhp {n : Nat} (h : n ≤ Big) : n ≤ maxLen := by unfold Big at h; unfold maxLen; omega

theorem q6a {v : Int} (h : (Lit.int .i64 v).wf = true) (h0 : v < 0) : IntKind.i64.wrap (-1 - v) = -1 - v := by
 have := qgm h
 exact q9 (by omega) (by omega)
end Go.Proofs.Ytfpobiheiloamaa
