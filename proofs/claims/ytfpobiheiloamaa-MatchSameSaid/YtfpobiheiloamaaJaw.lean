/- Texts of this proof, joined. -/
import Derived.Test.YtfpobiheiloamaaJar

/- terms: how great, how deep, whether a type is one; Few -/
set_option maxRecDepth 4000
namespace Go.Proofs.Ytfpobiheiloamaa
open Go Go.RowKit Go.V
set_option linter.unusedVariables false
set_option linter.unusedSimpArgs false

/-! the program's -/
abbrev numE (n : Int) : Ent := .blk [.int .i64 n]
def qdz (n : Int) (t : Ty) (k : Int) : Int × Bool := (IntKind.i64.wrap (n + 1), decide (IntKind.i64.wrap (n + 1) ≤ 4096) && (decide (k ≤ 100) && mayY t))
theorem qbhp (n : Int) (t : Ty) (k : Int) : VM Try.prog 87 (numE n) (numE (qdz n t k).1) [encY t, .int .i64 k, .ptr 0 0] (.bool (qdz n t k).2) := by
 refine qfr (by kernel_rfl) fun hw => ?_
 have hk := qc3 hw.1
 refine qg c0bv 1 (by simp) (by simp) ?_
 repeat' (first | refine vs_ ?_ | ((first | refine vr_ ?_ | refine qa (qe7 _) fun _ => ?_ | refine qa (qv8 _ _ _) fun _ => ?_ | (refine cs_ ?_ ?_ <;> intro hc) | refine cj_ ?_ | simp (disch := omega) only [encs_getN, qb]) <;> (try refine ev_ ?_)) | with_reducible exact ti_)
 ·simp_all [qdz]
 ·exact ⟨rfl, by simp only [qdz, *, decide_true, decide_false, Bool.true_and, Bool.false_and]⟩
 ·exact ⟨rfl, by simp only [qdz, *, decide_true, decide_false, Bool.true_and, Bool.false_and]⟩
def qno (n : Int) (_ : Ty) (_ : Int) : Int × Bool := (IntKind.i64.wrap (n + 1), true)
theorem qbjb (n : Int) (t : Ty) (k : Int) : VM Try.prog 131 (numE n) (numE (qno n t k).1) [encY t, .int .i64 k, .ptr 0 0] (.bool (qno n t k).2) := by
 refine qg c0bw 1 (by simp) (by simp) ?_
 repeat' (first | refine vs_ ?_ | ((first | refine vr_ ?_ | (refine cs_ ?_ ?_ <;> intro hc) | refine cj_ ?_ | simp (disch := omega) only [encs_getN, qb]) <;> (try refine ev_ ?_)) | with_reducible exact ti_)
 exact ⟨rfl, rfl⟩
def qle (n : Int) (_ : Ty) (k : Int) : Int × Bool := (if k > n then k else n, true)
theorem qbgo (n : Int) (t : Ty) (k : Int) : VM Try.prog 132 (numE n) (numE (qle n t k).1) [encY t, .int .i64 k, .ptr 0 0] (.bool (qle n t k).2) := by
 refine qg c0bx 1 (by simp) (by simp) ?_
 repeat' (first | refine vs_ ?_ | ((first | refine vr_ ?_ | (refine cs_ ?_ ?_ <;> intro hc) | refine cj_ ?_ | fail) <;> (try refine ev_ ?_)) | with_reducible exact ti_)
 exact ⟨rfl, rfl⟩
theorem qkf {f : FuncId} {step : Int → Ty → Int → Int × Bool} (h : ∀ n t k, VM Try.prog f (numE n) (numE (step n t k).1) [encY t, .int .i64 k, .ptr 0 0] (.bool (step n t k).2)) (t : Ty) (n k : Int) :
 VM Try.prog 86 (numE n) (numE (qbz step t n k).1) [encY t, .int .i64 k, .fn f [] [.ptr 0 0]] (.bool (qbz step t n k).2) :=
 qqs (st := numE) (ok := fun _ _ => True) (fun _ => rfl) (fun _ _ _ _ _ => trivial) (fun _ _ _ => trivial) (fun n t k _ => h n t k) t n k trivial
def qu0 (t : Ty) : Bool := (qbz qdz t 0 1).2
theorem qnj (t : Ty) : qm Try.prog 48 [encY t] (.bool (qu0 t)) := by
 refine qf c0by (by simp) (by simp only [go_sem]) rfl fun hw => ?_
 repeat' (first | refine vs_ ?_ | ((first | refine vr_ ?_ | refine qbi 1 (qkf qbhp t 0 1) ?_ | (refine cs_ ?_ ?_ <;> intro hc) | refine cj_ ?_ | fail) <;> (try refine ev_ ?_)) | with_reducible exact ti_)
 rfl
theorem qrw (t : Ty) : qm Try.prog 110 [encY t] (.int .i64 (qbz qno t 0 1).1) := by
 refine qf c0bz (by simp) (by simp only [go_sem]) rfl fun hw => ?_
 repeat' (first | refine vs_ ?_ | ((first | refine vr_ ?_ | refine qbi 1 (qkf qbjb t 0 1) ?_ | (refine cs_ ?_ ?_ <;> intro hc) | refine cj_ ?_ | fail) <;> (try refine ev_ ?_)) | with_reducible exact ti_)
theorem qn7 (t : Ty) : qm Try.prog 111 [encY t] (.int .i64 (qbz qle t 0 1).1) := by
 refine qf c0ca (by simp) (by simp only [go_sem]) rfl fun hw => ?_
 repeat' (first | refine vs_ ?_ | ((first | refine vr_ ?_ | refine qbi 1 (qkf qbgo t 0 1) ?_ | (refine cs_ ?_ ?_ <;> intro hc) | refine cj_ ?_ | fail) <;> (try refine ev_ ?_)) | with_reducible exact ti_)

/-! the references -/
mutual
def qr8 : Ty → Int
 | .mk _ _ l => qhr 1 l
def qhr : Int → List Ty → Int
 | a, [] => a
 | a, x :: r => qhr (IntKind.i64.wrap (a + qr8 x)) r
end
mutual
def qbc : Ty → Bool
 | .mk c v l => q7 l && mayW c v l.length
def q7 : List Ty → Bool
 | [] => true
 | x :: r => qbc x && q7 r
end
theorem qdt (t : Ty) : qbc t = (q7 t.args && mayY t) := by cases t; rw [qbc]; rfl
/-! Few -/
mutual
def cntY : Ty → Int → Int → Int
 | .mk _ _ l, k, d => if d < 1 then -1 else qdd l (IntKind.i64.wrap (k - 1)) d
def qdd : List Ty → Int → Int → Int
 | [], a, _ => a
 | x :: r, a, d => if 0 ≤ a then qdd r (cntY x a (IntKind.i64.wrap (d - 1))) d else a
end
theorem qvd (t : Ty) (k d : Int) : cntY t k d = if d < 1 then -1 else qdd t.args (IntKind.i64.wrap (k - 1)) d := by cases t; rw [cntY]; rfl
theorem qfh {a : Int} (h : a < 0) (l : List Ty) (d : Int) : qdd l a d = a := by
 cases l with
 | nil => rw [qdd]
 | cons x r => rw [qdd, if_neg (by omega)]
theorem q6h : ∀ t k d, qm Try.prog 77 [encY t, .int .i64 k, .int .i64 d] (.int .i64 (cntY t k d)) := by
 refine Ty.ind fun t ih k d => ?_
 refine qf c0cb (by simp) (by simp only [go_sem]) rfl fun hw => ?_
 have hk := qc3 hw.1
 rw [qvd]
 repeat' (first | refine vs_ ?_ | ((first | refine vr_ ?_ | (refine cs_ ?_ ?_ <;> intro hc) | refine cj_ ?_ | simp (disch := omega) only [encs_getN, qb]) <;> (try refine ev_ ?_)) | with_reducible exact ti_)
 ·rw [if_pos (by assumption)]
 rw [if_neg (by assumption)]
 refine qs (S := Nat × Int) (fun s => s.1 ≤ t.args.length ∧ qdd (t.args.drop s.1) s.2 d = qdd t.args (IntKind.i64.wrap (k - 1)) d) (fun s => (⟨[(1, .int .i64 s.2), (2, .int .i64 d), (3, .ptr 0 0), (7, .int .i64 s.1)], []⟩, [.blk (yc t)])) (fun s => t.args.length - s.1) ?_ fun s hs => ?_
 ·refine qo (0, IntKind.i64.wrap (k - 1)) [0] ⟨Nat.zero_le _, rfl⟩ rfl (by simp) ?_ ?_ ?_ <;> (try refine ev_ ?_) <;> (try with_reducible exact ti_) <;> (try simp (disch := omega) only [qb, and_true, true_and])
 ·obtain ⟨i, a⟩ := s
  obtain ⟨hi, ha⟩ := hs
  dsimp only at hi ha
  repeat' (first | refine vs_ ?_ | ((first | refine vr_ ?_ | fail) <;> (try simp (disch := first | omega | (simp only [List.length_set, List.length_append, List.length_cons, List.length_nil]; done) | (simp only [List.length_set, List.length_append, List.length_cons, List.length_nil]; omega)) only [qr, qb, go_sem, ↓reduceIte])) | ((first | (refine cs_ ?_ ?_ <;> intro hc) | refine cj_ ?_ | simp (disch := omega) only [encs_getN, qb] | refine qa (ih _ (qbf (by omega)) _ _) fun _ => ?_) <;> (try refine ev_ ?_)) | with_reducible exact ti_)
  ·refine qo (i + 1, cntY (t.args.getD i Y0) a (IntKind.i64.wrap (d - 1))) [0] ⟨⟨by dsimp only; omega, ?_⟩, by dsimp only; omega⟩ rfl (by simp) ?_ ?_ ?_ <;> (try refine ev_ ?_) <;> (try with_reducible exact ti_) <;> (try simp (disch := omega) only [qb, and_true, true_and])
   rw [← ha, qi4 (l := t.args) (i := i) (by omega), qdd, if_pos (by assumption)]
  ·rw [← ha, qfh (by omega)]
  ·rw [← ha, List.drop_of_length_le (by omega)]; rfl
def qiy (a : Int) : List Ty → Int
 | [] => a
 | x :: r => qiy (cntY x a 300) r
def qej (l : List Ty) : Bool := decide (0 ≤ qiy 20000 l)
theorem qbf2 (l : List Ty) : qm Try.prog 31 [.sl 3 (qp l)] (.int .i64 (if qej l = true then 1 else 0)) := by
 refine qf c0cc (by simp) (by simp only [go_sem]) rfl fun hw => ?_
 have hk : l.length ≤ maxLen := by have := hw.1.1; rwa [qbg] at this
 repeat' (first | refine vs_ ?_ | ((first | refine vr_ ?_ | (refine cs_ ?_ ?_ <;> intro hc) | refine cj_ ?_ | simp (disch := omega) only [encs_getN, qb]) <;> (try refine ev_ ?_)) | with_reducible exact ti_)
 refine qs (S := Nat × Int) (fun s => s.1 ≤ l.length ∧ qiy s.2 (l.drop s.1) = qiy 20000 l) (fun s => (⟨[(0, .sl 3 (qp l)), (3, .int .i64 s.2), (4, .int .i64 s.1)], []⟩, [])) (fun s => l.length - s.1) ?_ fun s hs => ?_
 ·refine qo (0, 20000) [] ⟨Nat.zero_le _, rfl⟩ rfl (by simp) ?_ ?_ ?_ <;> (try refine ev_ ?_) <;> (try with_reducible exact ti_) <;> (try simp (disch := omega) only [qb, and_true, true_and])
 ·obtain ⟨i, a⟩ := s
  obtain ⟨hi, ha⟩ := hs
  dsimp only at hi ha
  repeat' (first | refine vs_ ?_ | ((first | refine vr_ ?_ | fail) <;> (try simp (disch := first | omega | (simp only [List.length_set, List.length_append, List.length_cons, List.length_nil]; done) | (simp only [List.length_set, List.length_append, List.length_cons, List.length_nil]; omega)) only [qr, qb, go_sem, ↓reduceIte])) | ((first | (refine cs_ ?_ ?_ <;> intro hc) | refine cj_ ?_ | simp (disch := omega) only [encs_getN, qb] | refine qa (q6h _ _ _) fun _ => ?_) <;> (try refine ev_ ?_)) | with_reducible exact ti_)
  ·refine qo (i + 1, cntY (l.getD i Y0) a 300) [] ⟨⟨by dsimp only; omega, ?_⟩, by dsimp only; omega⟩ rfl (by simp) ?_ ?_ ?_ <;> (try refine ev_ ?_) <;> (try with_reducible exact ti_) <;> (try simp (disch := omega) only [qb, and_true, true_and])
   rw [← ha, qi4 (l := l) (i := i) (by omega), qiy]
  all_goals
   have hf : qiy 20000 l = a := by rw [← ha, List.drop_of_length_le (by omega)]; rfl
   rw [qej, hf]
  ·rw [if_neg (by simp; omega)]
  ·rw [if_pos (by simp; omega)]

/-! the laws of sizes -/
mutual
theorem qud : ∀ (t : Ty) (k d : Int), 0 ≤ k → k ≤ 20000 → d ≤ 300 → 0 ≤ cntY t k d → cntY t k d = k - szY t ∧ (dpY t : Int) ≤ d
 | .mk c v l, k, d, h0, h1, h2, h3 => by
   rw [cntY] at h3 ⊢
   by_cases hd : d < 1
   ·rw [if_pos hd] at h3; omega
   ·rw [if_neg hd] at h3 ⊢
    have hk : IntKind.i64.wrap (k - 1) = k - 1 := qw (by omega) (by omega)
    rw [hk] at h3 ⊢
    have h4 : 0 ≤ k - 1 := by
     by_cases h : 0 ≤ k - 1
     ·exact h
     ·rw [qfh (by omega)] at h3; exact h3
    have := qpi l (k - 1) d h4 (by omega) (by omega) h2 h3
    rw [szY, dpY]
    omega
theorem qpi : ∀ (l : List Ty) (a d : Int), 0 ≤ a → a ≤ 20000 → 1 ≤ d → d ≤ 300 → 0 ≤ qdd l a d → qdd l a d = a - szYs l ∧ (dpYs l : Int) ≤ d - 1
 | [], a, d, h0, h1, h2, h3, h4 => by rw [qdd, szYs, dpYs]; omega
 | x :: r, a, d, h0, h1, h2, h3, h4 => by
   rw [qdd, if_pos h0] at h4 ⊢
   have hd : IntKind.i64.wrap (d - 1) = d - 1 := qw (by omega) (by omega)
   rw [hd] at h4 ⊢
   have h5 : 0 ≤ cntY x a (d - 1) := by
    by_cases h : 0 ≤ cntY x a (d - 1)
    ·exact h
    ·rw [qfh (by omega)] at h4; exact absurd h4 h
   obtain ⟨h6, h7⟩ := qud x a (d - 1) h0 h1 (by omega) h5
   obtain ⟨h8, h9⟩ := qpi r _ d h5 (by omega) h2 h3 h4
   rw [szYs, dpYs]
   omega
end
mutual
theorem qvj : ∀ (t : Ty) (k d : Int), 0 ≤ k → k ≤ 20000 → -1 ≤ cntY t k d
 | .mk c v l, k, d, h0, h1 => by
   rw [cntY]
   split
   ·omega
   ·rw [qw (z := k - 1) (by omega) (by omega)]
    exact qvl l (k - 1) d (by omega) (by omega)
theorem qvl : ∀ (l : List Ty) (a d : Int), -1 ≤ a → a ≤ 20000 → -1 ≤ qdd l a d
 | [], a, d, h0, _ => by rw [qdd]; exact h0
 | x :: r, a, d, h0, h1 => by
   rw [qdd]
   split
   ·rename_i h
    have h2 := qvj x a (IntKind.i64.wrap (d - 1)) h h1
    have h3 := q0f x a (IntKind.i64.wrap (d - 1)) h h1
    exact qvl r _ d h2 (by omega)
   ·exact h0
theorem q0f : ∀ (t : Ty) (k d : Int), 0 ≤ k → k ≤ 20000 → cntY t k d ≤ k
 | .mk c v l, k, d, h0, h1 => by
   rw [cntY]
   split
   ·omega
   ·rw [qw (z := k - 1) (by omega) (by omega)]
    have := quh l (k - 1) d (by omega) (by omega)
    omega
theorem quh : ∀ (l : List Ty) (a d : Int), -1 ≤ a → a ≤ 20000 → qdd l a d ≤ a
 | [], a, d, h0, _ => by rw [qdd]; exact Int.le_refl _
 | x :: r, a, d, h0, h1 => by
   rw [qdd]
   split
   ·rename_i h
    have h2 := qvj x a (IntKind.i64.wrap (d - 1)) h h1
    have h3 := q0f x a (IntKind.i64.wrap (d - 1)) h h1
    have := quh r _ d h2 (by omega)
    omega
   ·exact Int.le_refl _
end
theorem qo4 : ∀ (l : List Ty) {a : Int}, a < 0 → -9223372036854775808 ≤ a - l.length → qiy a l < 0
 | [], a, h, _ => h
 | x :: r, a, h, h2 => by
   rw [qiy]
   have h3 : cntY x a 300 = IntKind.i64.wrap (a - 1) := by
    rw [qvd, if_neg (by omega)]
    have hk : IntKind.i64.wrap (a - 1) = a - 1 := qw (by simp only [List.length_cons] at h2; omega) (by omega)
    rw [hk, qfh (by omega)]
   have hk : IntKind.i64.wrap (a - 1) = a - 1 := qw (by simp only [List.length_cons] at h2; omega) (by omega)
   rw [h3, hk]
   exact qo4 r (by omega) (by simp only [List.length_cons] at h2; omega)
theorem qo2 : ∀ (l : List Ty) (a : Int), 0 ≤ a → a ≤ 20000 → l.length ≤ 9223372036854775807 → 0 ≤ qiy a l → (szYs l : Int) ≤ a ∧ (dpYs l : Int) ≤ 300
 | [], a, h0, h1, _, h2 => by rw [szYs, dpYs]; omega
 | x :: r, a, h0, h1, hl, h2 => by
   rw [qiy] at h2
   simp only [List.length_cons] at hl
   have h5 : 0 ≤ cntY x a 300 := by
    by_cases h : 0 ≤ cntY x a 300
    ·exact h
    ·have : -1 ≤ cntY x a 300 := qvj x a 300 h0 h1
     have := qo4 r (a := cntY x a 300) (by omega) (by omega)
     omega
   obtain ⟨h6, h7⟩ := qud x a 300 h0 h1 (by omega) h5
   obtain ⟨h8, h9⟩ := qo2 r _ h5 (by omega) (by omega) h2
   rw [szYs, dpYs]
   omega
theorem qbaq {l : List Ty} (hl : l.length ≤ maxLen) (h : qej l = true) : szYs l ≤ 20000 ∧ dpYs l ≤ 300 := by
 have := qo2 l 20000 (by omega) (by omega) (by unfold maxLen at hl; omega) (by simpa [qej] using h)
 omega

mutual
theorem qrg : ∀ (t : Ty), szY t ≤ 1000000 → qr8 t = szY t
 | .mk c v l, h => by
   rw [szY] at h
   rw [qr8, szY, qhn l 1 (by omega) (by omega)]
   omega
theorem qhn : ∀ (l : List Ty) (a : Int), 1 ≤ a → a + szYs l ≤ 1000001 → qhr a l = a + szYs l
 | [], a, _, _ => by rw [qhr, szYs]; omega
 | x :: r, a, h0, h => by
   rw [szYs] at h
   rw [qhr, qrg x (by omega), qw (by omega) (by omega), qhn r _ (by omega) (by omega), szYs]
   omega
end
mutual
theorem ql1 : ∀ (t : Ty) (n k : Int), 0 ≤ n → n + szY t ≤ 1000000 → qbz qno t n k = (n + szY t, true)
 | .mk c v l, n, k, h0, h => by
   rw [szY] at h
   rw [qbz, if_pos (show (qno n (.mk c v l) k).2 = true from rfl)]
   have h1 : (qno n (.mk c v l) k).1 = n + 1 := qw (by omega) (by omega)
   rw [h1, qjt l _ _ (by omega) (by omega), szY]
   congr 1; omega
theorem qjt : ∀ (l : List Ty) (n k : Int), 0 ≤ n → n + szYs l ≤ 1000000 → qbm qno l n k = (n + szYs l, true)
 | [], n, k, _, _ => by rw [qbm, szYs]; congr 1; omega
 | x :: r, n, k, h0, h => by
   rw [szYs] at h
   rw [qbm, ql1 x n k h0 (by omega), if_pos rfl, qjt r _ k (by omega) (by omega), szYs]
   congr 1; omega
end
mutual
theorem qma : ∀ (t : Ty) (n k : Int), 0 ≤ n → 1 ≤ k → k + dpY t ≤ 1000000 → qbz qle t n k = (max n (k + dpY t - 1), true)
 | .mk c v l, n, k, h0, h1, h => by
   rw [dpY] at h
   rw [qbz, if_pos (show (qle n (.mk c v l) k).2 = true from rfl)]
   have h2 : (qle n (.mk c v l) k).1 = max n k := by simp only [qle]; split <;> omega
   rw [h2, qw (z := k + 1) (by omega) (by omega), qjp l _ _ (by omega) (by omega) (by omega), dpY]
   congr 1; split <;> omega
theorem qjp : ∀ (l : List Ty) (n k : Int), 0 ≤ n → 1 ≤ k → k + dpYs l ≤ 1000000 → qbm qle l n k = (if dpYs l = 0 then n else max n (k + dpYs l - 1), true)
 | [], n, k, _, _, _ => by rw [qbm, dpYs, if_pos rfl]
 | x :: r, n, k, h0, h1, h => by
   rw [dpYs] at h
   have hp := q9e x
   rw [qbm, qma x n k h0 h1 (by omega), if_pos rfl, qjp r _ k (by omega) h1 (by omega), dpYs]
   congr 1
   rw [if_neg (by omega : ¬ max (dpY x) (dpYs r) = 0)]
   split <;> omega
end
mutual
theorem qll : ∀ (t : Ty) (n k : Int), 0 ≤ n → n + szY t ≤ 1000000 → 1 ≤ k → k + dpY t ≤ 1000000 →
 ((qbz qdz t n k).2 = true ↔ n + szY t ≤ 4096 ∧ k + dpY t - 1 ≤ 100 ∧ qbc t = true) ∧ ((qbz qdz t n k).2 = true → (qbz qdz t n k).1 = n + szY t)
 | .mk c v l, n, k, h0, h1, h2, h3 => by
   rw [szY] at h1
   rw [dpY] at h3
   have e1 : IntKind.i64.wrap (n + 1) = n + 1 := qw (by omega) (by omega)
   have e2 : IntKind.i64.wrap (k + 1) = k + 1 := qw (by omega) (by omega)
   have e3 : (qdz n (.mk c v l) k).1 = n + 1 := e1
   have e4 : (qdz n (.mk c v l) k).2 = true ↔ n + 1 ≤ 4096 ∧ k ≤ 100 ∧ mayW c v l.length = true := by
    simp only [qdz, e1, Bool.and_eq_true, decide_eq_true_eq]; rfl
   rw [qbz, szY, dpY, qbc]
   by_cases hs : (qdz n (.mk c v l) k).2 = true
   ·rw [if_pos hs, e3, e2]
    obtain ⟨q1, q2, q3⟩ := e4.1 hs
    obtain ⟨r1, r2⟩ := qi9 l (n + 1) (k + 1) (by omega) (by omega) (by omega) (by omega) (by omega) (by omega)
    refine ⟨?_, fun h => by rw [r2 h]; omega⟩
    rw [r1, q3, Bool.and_true]
    constructor
    ·rintro ⟨a1, a2, a3⟩; exact ⟨by omega, by omega, a3⟩
    ·rintro ⟨a1, a2, a3⟩; exact ⟨by omega, by omega, a3⟩
   ·rw [if_neg hs]
    refine ⟨⟨fun h => (by cases h), fun ⟨a1, a2, a3⟩ => absurd (e4.2 ⟨by omega, by omega, (by rw [Bool.and_eq_true] at a3; exact a3.2)⟩) hs⟩, fun h => by cases h⟩
theorem qi9 : ∀ (l : List Ty) (n k : Int), 0 ≤ n → n + szYs l ≤ 1000000 → 1 ≤ k → k + dpYs l ≤ 1000000 → n ≤ 4096 → k - 1 ≤ 100 →
 ((qbm qdz l n k).2 = true ↔ n + szYs l ≤ 4096 ∧ k + dpYs l - 1 ≤ 100 ∧ q7 l = true) ∧ ((qbm qdz l n k).2 = true → (qbm qdz l n k).1 = n + szYs l)
 | [], n, k, h0, h1, h2, h3, h4, h5 => by
   rw [qbm, szYs, dpYs, q7]
   exact ⟨⟨fun _ => ⟨by omega, by omega, rfl⟩, fun _ => rfl⟩, fun _ => by simp⟩
 | x :: r, n, k, h0, h1, h2, h3, h4, h5 => by
   rw [szYs] at h1
   rw [dpYs] at h3
   obtain ⟨q1, q2⟩ := qll x n k h0 (by omega) h2 (by omega)
   rw [qbm, szYs, dpYs, q7]
   by_cases hs : (qbz qdz x n k).2 = true
   ·rw [if_pos hs, q2 hs]
    obtain ⟨a1, a2, a3⟩ := q1.1 hs
    obtain ⟨r1, r2⟩ := qi9 r (n + szY x) k (by omega) (by omega) h2 (by omega) (by omega) h5
    refine ⟨?_, fun h => by rw [r2 h]; omega⟩
    rw [r1, a3, Bool.true_and]
    constructor
    ·rintro ⟨b1, b2, b3⟩; exact ⟨by omega, by omega, b3⟩
    ·rintro ⟨b1, b2, b3⟩; exact ⟨by omega, by omega, b3⟩
   ·rw [if_neg hs]
    refine ⟨⟨fun h => (by cases h), fun ⟨a1, a2, a3⟩ => absurd (q1.2 ⟨by omega, by omega, ?_⟩) hs⟩, fun h => by cases h⟩
    rw [Bool.and_eq_true] at a3
    exact a3.1
end
def qk (t : Ty) : Bool := decide (szY t ≤ 4096) && (decide (dpY t ≤ 100) && qbc t)
theorem qsy {t : Ty} (h1 : szY t ≤ 20000) (h2 : dpY t ≤ 300) : qu0 t = qk t := by
 have := (qll t 0 1 (by omega) (by omega) (by omega) (by omega)).1
 rw [qu0, Bool.eq_iff_iff, this, qk, Bool.and_eq_true, Bool.and_eq_true, decide_eq_true_eq, decide_eq_true_eq]
 constructor
 ·rintro ⟨a1, a2, a3⟩; exact ⟨by omega, by omega, a3⟩
 ·rintro ⟨a1, a2, a3⟩; exact ⟨by omega, by omega, a3⟩
theorem qb5 {t : Ty} (h1 : szY t ≤ 20000) (h2 : dpY t ≤ 300) : qm Try.prog 48 [encY t] (.bool (qk t)) := by
 rw [← qsy h1 h2]; exact qnj t
set_option maxRecDepth 4000

theorem qx7 {t a b : Ty} (h1 : t.con = arrW) (h2 : t.args = [a, b]) : txtY t = parW (decide (a.con = arrW)) (txtY a) ++ ([32, 45, 62, 32] ++ txtY b) := by
 cases t with
 | mk c v l =>
   have h1' : c = arrW := h1
   have h2' : l = [a, b] := h2
   subst h1' h2'
   rw [txtY, if_pos rfl]
theorem qzl {t : Ty} (h1 : ¬ t.con = arrW) : txtY t = qgj t ++ argY t.args := by
 cases t with
 | mk c v l =>
   have h1' : ¬ c = arrW := h1
   rcases l with _ | ⟨a, _ | ⟨b, _ | ⟨d, r⟩⟩⟩ <;> (simp only [txtY, if_neg h1']; rfl)
theorem qh1 (l : List Ty) (i : Nat) (h : i < l.length) : argY (l.take (i + 1)) = argY (l.take i) ++ (32 :: parW (decide ((l.getD i Y0).args ≠ [])) (txtY (l.getD i Y0))) := by
 have h1 : l.take (i + 1) = l.take i ++ [l.getD i Y0] := by
  rw [List.take_add_one, List.getD_eq_getElem?_getD, List.getElem?_eq_getElem h]; rfl
 rw [h1]
 generalize l.take i = a
 generalize l.getD i Y0 = x
 induction a with
 | nil => simp [argY]
 | cons y a ih => simp only [List.cons_append, argY, ih, List.append_assoc]
theorem qe8 (l : List Ty) (i : Nat) : (argY (l.take i)).length ≤ (argY l).length := by
 induction l generalizing i with
 | nil => simp
 | cons x r ih =>
   cases i with
   | zero => simp [argY]
   | succ i => rw [List.take_succ_cons, argY, argY, List.length_append, List.length_append]; have := ih i; omega
theorem qv0 {t : Ty} (h : qbc t = true) (h1 : t.con = arrW) : ∃ a b, t.args = [a, b] ∧ qbc a = true ∧ qbc b = true := by
 rw [qdt, Bool.and_eq_true] at h
 obtain ⟨h2, h3⟩ := h
 rw [mayY, mayW, h1, if_neg (by decide), if_pos rfl, Bool.and_eq_true, decide_eq_true_eq, decide_eq_true_eq] at h3
 have hl : t.args.length = 2 := by omega
 obtain ⟨a, b, hab⟩ : ∃ a b, t.args = [a, b] := by
  match hh : t.args, hl with
  | [a, b], _ => exact ⟨a, b, rfl⟩
 rw [hab] at h2
 simp only [q7, Bool.and_eq_true] at h2
 exact ⟨a, b, hab, h2.1, h2.2.1⟩
theorem qsk {t x : Ty} (h : qbc t = true) (hx : x ∈ t.args) : qbc x = true := by
 rw [qdt, Bool.and_eq_true] at h
 have h2 := h.1
 generalize t.args = l at hx h2
 induction l with
 | nil => cases hx
 | cons y r ih =>
   rw [q7, Bool.and_eq_true] at h2
   rcases List.mem_cons.1 hx with rfl | hx
   ·exact h2.1
   ·exact ih hx h2.2
theorem qoz (b : Bool) (s : List UInt8) : s.length ≤ (parW b s).length ∧ (parW b s).length ≤ s.length + 2 := by
 rw [parW]; split <;> simp <;> omega
def Big : Nat := 140737488355328
theorem qh0 {n : Nat} (h : n ≤ Big) : n ≤ maxLen := by unfold Big at h; unfold maxLen; omega

theorem qbbx {v : Int} (h : (Lit.int .i64 v).wf = true) (h0 : v < 0) : IntKind.i64.wrap (-1 - v) = -1 - v := by
 have := qis h
 exact qw (by omega) (by omega)
end Go.Proofs.Ytfpobiheiloamaa
