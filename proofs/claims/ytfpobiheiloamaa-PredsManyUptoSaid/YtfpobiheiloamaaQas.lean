/- Texts of this proof, joined. -/
import Derived.Test.YtfpobiheiloamaaQar
import Derived.Test.YtfpobiheiloamaaQai

/- predicates: sameness, whether one is there, each once -/
set_option maxRecDepth 4000
namespace Go.Proofs.Ytfpobiheiloamaa
open Go Go.RowKit Go.V
set_option linter.unusedVariables false
set_option linter.unusedSimpArgs false

def qfj (a b : Pd) : Bool := decide (a.cls = b.cls) && qfk a.ty b.ty
theorem qgj (a b : Pd) : qfj a b = true ↔ a = b := by
 rw [qfj, Bool.and_eq_true, decide_eq_true_eq, qno]
 cases a; cases b; simp
theorem qc1 (p : Pd) : AV.agg [.str p.ty.con, .int .i64 p.ty.var, .sl 3 (q8 p.ty.args)] = encY p.ty := qbk _
theorem qix (a b : Pd) : ql Try.prog 29 [encP a, encP b] (.bool (qfj a b)) := by
 refine qc c0cm (by simp) (by simp only [go_sem]) rfl fun hw => ?_
 repeat' (first | refine vs_ ?_ | ((first | refine vr_ ?_ | refine qa (qov _ _) fun _ => ?_ | (refine cs_ ?_ ?_ <;> intro hc) | refine cj_ ?_ | fail) <;> (try refine ev_ ?_)) | with_reducible exact ti_)
 all_goals simp [qfj, *]
theorem qea (a b : Pd) : ql Try.prog 62 [encP a, encP b] (.bool (qfj a b)) := by
 refine qc c0cn (by simp) (by simp only [go_sem]) rfl fun hw => ?_
 repeat' (first | refine vs_ ?_ | ((first | refine vr_ ?_ | refine qa (qo5 _ _) fun _ => ?_ | (refine cs_ ?_ ?_ <;> intro hc) | refine cj_ ?_ | fail) <;> (try refine ev_ ?_)) | with_reducible exact ti_)
 all_goals simp [qfj, *]
theorem qiz (a b : Pd) : qfj a b = qfj b a := by rw [Bool.eq_iff_iff, qgj, qgj]; exact ⟨Eq.symm, Eq.symm⟩
abbrev pdE (p : Pd) : Ent := .blk (pdc p)
theorem qik (p : Pd) (k : Nat) : (pdE p).bd k = true := by simp [Ent.bd, AV.bds, AV.bd, qex]
theorem has1 (p q : Pd) : VM Try.prog 64 (pdE p) (pdE p) [encP q, .ptr 0 0] (.bool (qfj p q)) := by
 refine qc5 c0co 1 (by simp) (by simp) ?_
 repeat' (first | refine vs_ ?_ | ((first | refine vr_ ?_ | refine qa (qix _ _) fun _ => ?_ | (refine cs_ ?_ ?_ <;> intro hc) | refine cj_ ?_ | fail) <;> (try refine ev_ ?_)) | with_reducible exact ti_)
def idxF (g : Pd → Bool) : List Pd → Int → Int
 | [], _ => -1
 | x :: r, k => if g x = true then k else idxF g r (k + 1)
theorem qq2 (g : Pd → Bool) : ∀ (l : List Pd) (k : Int), 0 ≤ k → decide (0 ≤ idxF g l k) = l.any g
 | [], k, h => by simp [idxF]
 | x :: r, k, h => by
   rw [idxF, List.any_cons]
   by_cases hx : g x = true
   ·rw [if_pos hx, hx]; simp [h]
   ·rw [if_neg hx, qq2 g r (k + 1) (by omega)]; simp [hx]
theorem qfw {f : FuncId} {p : Pd} {g : Pd → Bool} (hs : ∀ q, VM Try.prog f (pdE p) (pdE p) [encP q, .ptr 0 0] (.bool (g q))) (l : List Pd) (hl : l.length ≤ maxLen) :
 VM Try.prog 98 (pdE p) (pdE p) [.sl 4 (qt l), .fn f [] [.ptr 0 0]] (.int .i64 (idxF g l 0)) := by
 refine qc5 c0cp 1 (by simp) (by simp) ?_
 repeat' (first | refine vs_ ?_ | ((first | refine vr_ ?_ | (refine cs_ ?_ ?_ <;> intro hc) | refine cj_ ?_ | simp (disch := omega) only [encs_getN, qb]) <;> (try refine ev_ ?_)) | with_reducible exact ti_)
 refine qo (S := Nat) (fun i => i ≤ l.length ∧ idxF g (l.drop i) i = idxF g l 0) (fun i => (⟨[(0, .sl 4 (qt l)), (1, .fn f [] [.ptr 0 0]), (7, .int .i64 l.length), (8, .int .i64 i)], []⟩, [pdE p])) (fun i => l.length - i) ?_ fun i hi => ?_
 ·refine qi 0 [0] ⟨Nat.zero_le _, rfl⟩ rfl (by simp) ?_ ?_ ?_ <;> (try refine ev_ ?_) <;> (try with_reducible exact ti_) <;> (try simp (disch := omega) only [qb, and_true, true_and])
 ·obtain ⟨hi, ha⟩ := hi
  repeat' (first | refine vs_ ?_ | ((first | refine vr_ ?_ | fail) <;> (try simp (disch := first | omega | (simp only [List.length_set, List.length_append, List.length_cons, List.length_nil]; done) | (simp only [List.length_set, List.length_append, List.length_cons, List.length_nil]; omega)) only [qp, qb, go_sem, ↓reduceIte])) | ((first | (refine cs_ ?_ ?_ <;> intro hc) | refine cj_ ?_ | simp (disch := omega) only [encs_getN, qb] | refine qh2 0 (hs (l.getD i P0)) ?_ (qik _ _) (qik _ _)) <;> (try refine ev_ ?_)) | with_reducible exact ti_)
  ·rename_i hc; rw [← ha, qjk (by omega), idxF, if_pos hc]
  ·rename_i hc
   refine qi (i + 1) [0] ⟨⟨by omega, ?_⟩, by omega⟩ rfl (by simp) ?_ ?_ ?_ <;> (try refine ev_ ?_) <;> (try with_reducible exact ti_) <;> (try simp (disch := omega) only [qb, and_true, true_and])
   rw [← ha, qjk (l := l) (i := i) (by omega), idxF, if_neg (by rw [hc]; simp)]; rfl
  ·rw [← ha, List.drop_of_length_le (by omega)]; rfl
theorem qec {f : FuncId} {p : Pd} {g : Pd → Bool} (hs : ∀ q, VM Try.prog f (pdE p) (pdE p) [encP q, .ptr 0 0] (.bool (g q))) (l : List Pd) (hl : l.length ≤ maxLen) :
 VM Try.prog 63 (pdE p) (pdE p) [.sl 4 (qt l), .fn f [] [.ptr 0 0]] (.bool (l.any g)) := by
 refine qc5 c0cq 1 (by simp) (by simp) ?_
 repeat' (first | refine vs_ ?_ | ((first | refine vr_ ?_ | refine qh2 0 (qfw hs l hl) ?_ (qik _ _) (qik _ _) | (refine cs_ ?_ ?_ <;> intro hc) | refine cj_ ?_ | fail) <;> (try refine ev_ ?_)) | with_reducible exact ti_)
 rw [qq2 g l 0 (by omega)]
def hasP (l : List Pd) (p : Pd) : Bool := l.any fun q => qfj p q
theorem qcp (l : List Pd) (p : Pd) : ql Try.prog 20 [.sl 4 (qt l), encP p] (.bool (hasP l p)) := by
 refine qc c0cr (by simp) (by simp only [go_sem]) rfl fun hw => ?_
 have hl := (qbj hw.1).1
 repeat' (first | refine vs_ ?_ | ((first | refine vr_ ?_ | refine qh2 0 (qec (has1 p) l hl) ?_ (qik _ _) (qik _ _) | (refine cs_ ?_ ?_ <;> intro hc) | refine cj_ ?_ | fail) <;> (try refine ev_ ?_)) | with_reducible exact ti_)
 rfl
theorem qgo (l : List Pd) (p : Pd) : ql Try.prog 21 [.sl 4 (qt l), encP p] (.bool (hasP l p)) := by
 refine qc c0cs (by simp) (by simp only [go_sem]) rfl fun hw => ?_
 have hl := (qbj hw.1).1
 repeat' (first | refine vs_ ?_ | ((first | refine vr_ ?_ | (refine cs_ ?_ ?_ <;> intro hc) | refine cj_ ?_ | simp (disch := omega) only [encs_getN, qb]) <;> (try refine ev_ ?_)) | with_reducible exact ti_)
 refine qo (S := Nat) (fun i => i ≤ l.length ∧ hasP (l.drop i) p = hasP l p) (fun i => (⟨[(0, .sl 4 (qt l)), (3, .ptr 0 0), (5, .int .i64 i)], []⟩, [pdE p])) (fun i => l.length - i) ?_ fun i hi => ?_
 ·refine qi 0 [0] ⟨Nat.zero_le _, rfl⟩ rfl (by simp) ?_ ?_ ?_ <;> (try refine ev_ ?_) <;> (try with_reducible exact ti_) <;> (try simp (disch := omega) only [qb, and_true, true_and])
 ·obtain ⟨hi, ha⟩ := hi
  repeat' (first | refine vs_ ?_ | ((first | refine vr_ ?_ | fail) <;> (try simp (disch := first | omega | (simp only [List.length_set, List.length_append, List.length_cons, List.length_nil]; done) | (simp only [List.length_set, List.length_append, List.length_cons, List.length_nil]; omega)) only [qp, qb, go_sem, ↓reduceIte])) | ((first | (refine cs_ ?_ ?_ <;> intro hc) | refine cj_ ?_ | simp (disch := omega) only [encs_getN, qb] | refine qa (qea _ _) fun _ => ?_ | refine qe (qea _ _) ?_) <;> (try refine ev_ ?_)) | with_reducible exact ti_)
  ·rename_i hc; rw [← ha, qjk (by omega), hasP, List.any_cons, qiz, hc]; rfl
  ·rename_i hc
   refine qi (i + 1) [0] ⟨⟨by omega, ?_⟩, by omega⟩ rfl (by simp) ?_ ?_ ?_ <;> (try refine ev_ ?_) <;> (try with_reducible exact ti_) <;> (try simp (disch := omega) only [qb, and_true, true_and])
   rw [← ha, qjk (l := l) (i := i) (by omega), hasP, hasP, List.any_cons, qiz, hc, Bool.false_or]
  ·rw [← ha, List.drop_of_length_le (by omega)]; rfl
def qej (acc : List Pd) : List Pd → List Pd
 | [] => acc
 | x :: r => if hasP acc x = true then qej acc r else qej (acc ++ [x]) r
theorem qcj (acc : List Pd) {l : List Pd} {i : Nat} (h : i < l.length) : qej acc (l.drop i) = if hasP acc (l.getD i P0) = true then qej acc (l.drop (i + 1)) else qej (acc ++ [l.getD i P0]) (l.drop (i + 1)) := by
 rw [qjk h, qej]
theorem capP {k : Nat} (h : k ≤ 1000000000) : qb3 k 64 := by unfold qb3; omega
def qfo (l : List Pd) (x : Nat × List Pd) : AF × List Ent := (⟨[(3, accV 0 (qt x.2)), (6, .sl 4 (qt l)), (7, .int .i64 l.length), (8, .int .i64 x.1)], []⟩, accE 4 (qt x.2))
theorem qio (l : List Pd) (hb : l.length ≤ 1000000) : ql Try.prog 18 [.sl 4 (qt l)] (.sl 4 (qt (qej [] l))) := by
 refine qc c0ct (by simp) (by simp only [go_sem]) (qd3 0 _) fun hw => ?_
 have hl := (qbj hw.1).1
 repeat' (first | refine vs_ ?_ | ((first | refine vr_ ?_ | (refine cs_ ?_ ?_ <;> intro hc) | refine cj_ ?_ | simp (disch := omega) only [encs_getN, qb]) <;> (try refine ev_ ?_)) | with_reducible exact ti_)
 refine qo (S := Nat × List Pd) (fun x => x.1 ≤ l.length ∧ qej x.2 (l.drop x.1) = qej [] l ∧ x.2.length ≤ x.1) (qfo l) (fun x => l.length - x.1) ?_ fun x hx => ?_
 ·refine qi (0, []) [] ⟨Nat.zero_le _, rfl, Nat.le_refl _⟩ rfl (by simp) ?_ ?_ ?_ <;> simp only [qfo, qfc, qk, qj] <;> (try refine ev_ ?_) <;> (try with_reducible exact ti_) <;> (try simp (disch := omega) only [qb, and_true, true_and])
 ·obtain ⟨i, acc⟩ := x
  obtain ⟨hi, ha, hc⟩ := hx
  dsimp only at hi ha hc
  have hcap : qb3 (acc.length + 1) 64 = True := eq_true (capP (by omega))
  unfold qfo
  by_cases h0 : acc = []
  ·subst h0
   simp only [qfc, qk, qj]
   repeat' (first | refine vs_ ?_ | ((first | refine vr_ ?_ | fail) <;> (try simp (disch := first | omega | (simp only [List.length_set, List.length_append, List.length_cons, List.length_nil]; done) | (simp only [List.length_set, List.length_append, List.length_cons, List.length_nil]; omega)) only [qp, qb, qbf, go_sem, ↓reduceIte])) | ((first | simp (disch := omega) only [hcap] | (refine cs_ ?_ ?_ <;> intro hc) | refine cj_ ?_ | simp (disch := omega) only [encs_getN, qb] | refine qa (qcp [] _) fun _ => ?_ | refine qe (qcp [] _) ?_) <;> (try refine ev_ ?_)) | with_reducible exact ti_)
   ·rename_i hc
    refine qi (i + 1, [] ++ [l.getD i P0]) [1] ⟨⟨by dsimp only; omega, ?_, by simp⟩, by dsimp only; omega⟩ rfl (by simp) ?_ ?_ ?_ <;> simp only [qfo, List.nil_append, ← qkw, qdd, qdh] <;> (try refine ev_ ?_) <;> (try with_reducible exact ti_) <;> (try simp (disch := omega) only [qb, and_true, true_and])
    rw [← ha, qcj (i := i) _ (by omega), if_neg (by rw [hc]; simp)]; rfl
   ·rename_i hc
    exact absurd hc (by simp [hasP])
   ·rw [← ha, List.drop_of_length_le (by omega)]; rfl
  ·simp only [qr (qcz h0), qq (qcz h0)]
   repeat' (first | refine vs_ ?_ | ((first | refine vr_ ?_ | fail) <;> (try simp (disch := first | omega | (simp only [List.length_set, List.length_append, List.length_cons, List.length_nil]; done) | (simp only [List.length_set, List.length_append, List.length_cons, List.length_nil]; omega)) only [qp, qb, go_sem, ↓reduceIte])) | ((first | simp (disch := omega) only [List.take_length] | simp (disch := omega) only [hcap] | (refine cs_ ?_ ?_ <;> intro hc) | refine cj_ ?_ | simp (disch := omega) only [encs_getN, qb] | refine qa (qcp acc _) fun _ => ?_ | refine qe (qcp acc _) ?_) <;> (try refine ev_ ?_)) | with_reducible exact ti_)
   ·rename_i hc
    refine qi (i + 1, acc ++ [l.getD i P0]) [2] ⟨⟨by dsimp only; omega, ?_, by simp; omega⟩, by dsimp only; omega⟩ rfl (by simp) ?_ ?_ ?_ <;> simp only [qfo, ← qd2, qct, qcm, qe0, List.take_length] <;> (try refine ev_ ?_) <;> (try with_reducible exact ti_) <;> (try simp (disch := omega) only [qb, and_true, true_and])
    ·rw [← ha, qcj (i := i) _ (by omega), if_neg (by rw [hc]; simp)]
    all_goals (simp only [qd2]; exact ⟨qd3 _ _, by rw [qg3]⟩)
   ·rename_i hc
    refine qi (i + 1, acc) [0] ⟨⟨by dsimp only; omega, ?_, by dsimp only; omega⟩, by dsimp only; omega⟩ rfl (by simp) ?_ ?_ ?_ <;> simp only [qfo, qr (qcz h0), qq (qcz h0)] <;> (try refine ev_ ?_) <;> (try with_reducible exact ti_) <;> (try simp (disch := omega) only [qb, and_true, true_and])
    rw [← ha, qcj (i := i) _ (by omega), if_pos hc]
   ·rw [← ha, List.drop_of_length_le (by omega)]; rfl
def qfl (l : List Pd) (x : Nat × List Pd) : AF × List Ent := (⟨[(0, .sl 4 (qt l)), (3, accV 0 (qt x.2)), (4, .int .i64 x.1)], []⟩, accE 4 (qt x.2))
theorem qo6 (l : List Pd) (hb : l.length ≤ 1000000) : ql Try.prog 19 [.sl 4 (qt l)] (.sl 4 (qt (qej [] l))) := by
 refine qc c0cu (by simp) (by simp only [go_sem]) (qd3 0 _) fun hw => ?_
 have hl := (qbj hw.1).1
 repeat' (first | refine vs_ ?_ | ((first | refine vr_ ?_ | (refine cs_ ?_ ?_ <;> intro hc) | refine cj_ ?_ | simp (disch := omega) only [encs_getN, qb]) <;> (try refine ev_ ?_)) | with_reducible exact ti_)
 refine qo (S := Nat × List Pd) (fun x => x.1 ≤ l.length ∧ qej x.2 (l.drop x.1) = qej [] l ∧ x.2.length ≤ x.1) (qfl l) (fun x => l.length - x.1) ?_ fun x hx => ?_
 ·refine qi (0, []) [] ⟨Nat.zero_le _, rfl, Nat.le_refl _⟩ rfl (by simp) ?_ ?_ ?_ <;> simp only [qfl, qfc, qk, qj] <;> (try refine ev_ ?_) <;> (try with_reducible exact ti_) <;> (try simp (disch := omega) only [qb, and_true, true_and])
 ·obtain ⟨i, acc⟩ := x
  obtain ⟨hi, ha, hc⟩ := hx
  dsimp only at hi ha hc
  have hcap : qb3 (acc.length + 1) 64 = True := eq_true (capP (by omega))
  unfold qfl
  by_cases h0 : acc = []
  ·subst h0
   simp only [qfc, qk, qj]
   repeat' (first | refine vs_ ?_ | ((first | refine vr_ ?_ | fail) <;> (try simp (disch := first | omega | (simp only [List.length_set, List.length_append, List.length_cons, List.length_nil]; done) | (simp only [List.length_set, List.length_append, List.length_cons, List.length_nil]; omega)) only [qp, qb, qbf, go_sem, ↓reduceIte])) | ((first | simp (disch := omega) only [hcap] | (refine cs_ ?_ ?_ <;> intro hc) | refine cj_ ?_ | simp (disch := omega) only [encs_getN, qb] | refine qa (qgo [] _) fun _ => ?_) <;> (try refine ev_ ?_)) | with_reducible exact ti_)
   ·rename_i hc
    refine qi (i + 1, [] ++ [l.getD i P0]) [0] ⟨⟨by dsimp only; omega, ?_, by simp⟩, by dsimp only; omega⟩ rfl (by simp) ?_ ?_ ?_ <;> simp only [qfl, List.nil_append, ← qkw, qdd, qdh] <;> (try refine ev_ ?_) <;> (try with_reducible exact ti_) <;> (try simp (disch := omega) only [qb, and_true, true_and])
    rw [← ha, qcj (i := i) _ (by omega), if_neg (by rw [hc]; simp)]; rfl
   ·rename_i hc
    exact absurd hc (by simp [hasP])
   ·rw [← ha, List.drop_of_length_le (by omega)]; rfl
  ·simp only [qr (qcz h0), qq (qcz h0)]
   repeat' (first | refine vs_ ?_ | ((first | refine vr_ ?_ | fail) <;> (try simp (disch := first | omega | (simp only [List.length_set, List.length_append, List.length_cons, List.length_nil]; done) | (simp only [List.length_set, List.length_append, List.length_cons, List.length_nil]; omega)) only [qp, qb, go_sem, ↓reduceIte])) | ((first | simp (disch := omega) only [hcap] | (refine cs_ ?_ ?_ <;> intro hc) | refine cj_ ?_ | simp (disch := omega) only [encs_getN, qb] | refine qa (qgo acc _) fun _ => ?_) <;> (try refine ev_ ?_)) | with_reducible exact ti_)
   ·rename_i hc
    refine qi (i + 1, acc ++ [l.getD i P0]) [1] ⟨⟨by dsimp only; omega, ?_, by simp; omega⟩, by dsimp only; omega⟩ rfl (by simp) ?_ ?_ ?_ <;> simp only [qfl, ← qd2, qct, qcm, qe0, List.take_length] <;> (try refine ev_ ?_) <;> (try with_reducible exact ti_) <;> (try simp (disch := omega) only [qb, and_true, true_and])
    ·rw [← ha, qcj (i := i) _ (by omega), if_neg (by rw [hc]; simp)]
    all_goals (simp only [qd2]; exact ⟨qd3 _ _, by rw [qg3]⟩)
   ·rename_i hc
    refine qi (i + 1, acc) [0] ⟨⟨by dsimp only; omega, ?_, by dsimp only; omega⟩, by dsimp only; omega⟩ rfl (by simp) ?_ ?_ ?_ <;> simp only [qfl, qr (qcz h0), qq (qcz h0)] <;> (try refine ev_ ?_) <;> (try with_reducible exact ti_) <;> (try simp (disch := omega) only [qb, and_true, true_and])
    rw [← ha, qcj (i := i) _ (by omega), if_pos hc]
   ·rw [← ha, List.drop_of_length_le (by omega)]; rfl
set_option maxRecDepth 4000

def qez : List Pd → List Pd → Bool
 | [], [] => true
 | x :: r, y :: r' => qfj x y && qez r r'
 | _, _ => false
theorem qgz : ∀ l m, qez l m = true ↔ l = m
 | [], [] => by simp [qez]
 | [], y :: r => by rw [qez] <;> simp
 | x :: r, [] => by rw [qez] <;> simp
 | x :: r, y :: r' => by rw [qez, Bool.and_eq_true, qgj, qgz r r']; simp
theorem qq7 {l m : List Pd} (h : l.length ≠ m.length) : qez l m = false := by
 cases hh : qez l m with
 | false => rfl
 | true => rw [(qgz l m).1 hh] at h; exact absurd rfl h
theorem qih {l m : List Pd} {i : Nat} (h : i < l.length) (h' : i < m.length) : qez (l.drop i) (m.drop i) = (qfj (l.getD i P0) (m.getD i P0) && qez (l.drop (i + 1)) (m.drop (i + 1))) := by
 rw [qjk h, qjk h', qez]
theorem qoj (l m : List Pd) : ql Try.prog 17 [.sl 4 (qt l), .sl 4 (qt m)] (.bool (qez l m)) := by
 refine qc c0cg (by simp) (by simp only [go_sem]) rfl fun hw => ?_
 have hl := (qbj hw.1).1
 repeat' (first | refine vs_ ?_ | ((first | refine vr_ ?_ | (refine cs_ ?_ ?_ <;> intro hc) | refine cj_ ?_ | simp (disch := omega) only [encs_getN, qb]) <;> (try refine ev_ ?_)) | with_reducible exact ti_)
 ·rw [qq7 (by omega)]
 have hlm : l.length = m.length := by omega
 refine qo (S := Nat) (fun i => i ≤ l.length ∧ qez (l.drop i) (m.drop i) = qez l m) (fun i => (⟨[(0, .sl 4 (qt l)), (1, .sl 4 (qt m)), (5, .int .i64 i)], []⟩, [])) (fun i => l.length - i) ?_ fun i hi => ?_
 ·refine qi 0 [] ⟨Nat.zero_le _, rfl⟩ rfl (by simp) ?_ ?_ ?_ <;> (try refine ev_ ?_) <;> (try with_reducible exact ti_) <;> (try simp (disch := omega) only [qb, and_true, true_and])
 ·obtain ⟨hi, ha⟩ := hi
  repeat' (first | refine vs_ ?_ | ((first | refine vr_ ?_ | fail) <;> (try simp (disch := first | omega | (simp only [List.length_set, List.length_append, List.length_cons, List.length_nil]; done) | (simp only [List.length_set, List.length_append, List.length_cons, List.length_nil]; omega)) only [qp, qb, go_sem, ↓reduceIte])) | ((first | (refine cs_ ?_ ?_ <;> intro hc) | refine cj_ ?_ | simp (disch := omega) only [encs_getN, qb] | refine qa (qea _ _) fun _ => ?_ | refine qe (qea _ _) ?_) <;> (try refine ev_ ?_)) | with_reducible exact ti_)
  ·rename_i hc; rw [← ha, qih (by omega) (by omega), hc]; rfl
  ·rename_i hc
   refine qi (i + 1) [] ⟨⟨by omega, ?_⟩, by omega⟩ rfl (by simp) ?_ ?_ ?_ <;> (try refine ev_ ?_) <;> (try with_reducible exact ti_) <;> (try simp (disch := omega) only [qb, and_true, true_and])
   rw [← ha, qih (l := l) (m := m) (i := i) (by omega) (by omega), hc, Bool.true_and]
  ·rw [← ha, List.drop_of_length_le (by omega), List.drop_of_length_le (by omega)]; rfl
theorem qhe (p : Pd) : ql Try.prog 61 [encP p] (.bool (decide (p.ty.con = []))) := by
 refine qc c0ch (by simp) (by simp only [go_sem]) rfl fun hw => ?_
 repeat' (first | refine vs_ ?_ | ((first | refine vr_ ?_ | (refine cs_ ?_ ?_ <;> intro hc) | refine cj_ ?_ | fail) <;> (try refine ev_ ?_)) | with_reducible exact ti_)
def qb7 (p : Pd) : Bool := conW p.cls && qdm p.ty
theorem qeo {p : Pd} (h1 : szY p.ty ≤ 20000) (h2 : dpY p.ty ≤ 300) : ql Try.prog 27 [encP p] (.bool (qb7 p)) := by
 refine qc c0ci (by simp) (by simp only [go_sem]) rfl fun hw => ?_
 repeat' (first | refine vs_ ?_ | ((first | refine vr_ ?_ | refine qa (qkl _) fun _ => ?_ | refine qa (qf3 h1 h2) fun _ => ?_ | (refine cs_ ?_ ?_ <;> intro hc) | refine cj_ ?_ | fail) <;> (try refine ev_ ?_)) | with_reducible exact ti_)
 all_goals simp [qb7, *]
theorem qhv {p : Pd} (h1 : szY p.ty ≤ 20000) (h2 : dpY p.ty ≤ 300) : ql Try.prog 104 [encP p] (.bool (qb7 p)) := by
 refine qc c0cj (by simp) (by simp only [go_sem]) rfl fun hw => ?_
 repeat' (first | refine vs_ ?_ | ((first | refine vr_ ?_ | refine qa (qli _) fun _ => ?_ | refine qa (qmt h1 h2) fun _ => ?_ | (refine cs_ ?_ ?_ <;> intro hc) | refine cj_ ?_ | fail) <;> (try refine ev_ ?_)) | with_reducible exact ti_)
 all_goals simp [qb7, *]
theorem qsj (l : List Pd) (h : ∀ p ∈ l, szY p.ty ≤ 20000 ∧ dpY p.ty ≤ 300) : ql Try.prog 70 [.sl 4 (qt l)] (.bool (l.all qb7)) := by
 refine qc c0ck (by simp) (by simp only [go_sem]) rfl fun hw => ?_
 have hl := (qbj hw.1).1
 repeat' (first | refine vs_ ?_ | ((first | refine vr_ ?_ | (refine cs_ ?_ ?_ <;> intro hc) | refine cj_ ?_ | simp (disch := omega) only [encs_getN, qb]) <;> (try refine ev_ ?_)) | with_reducible exact ti_)
 refine qo (S := Nat) (fun i => i ≤ l.length ∧ (l.drop i).all qb7 = l.all qb7) (fun i => (⟨[(0, .sl 4 (qt l)), (3, .int .i64 i)], []⟩, [])) (fun i => l.length - i) ?_ fun i hi => ?_
 ·refine qi 0 [] ⟨Nat.zero_le _, rfl⟩ rfl (by simp) ?_ ?_ ?_ <;> (try refine ev_ ?_) <;> (try with_reducible exact ti_) <;> (try simp (disch := omega) only [qb, and_true, true_and])
 ·obtain ⟨hi, ha⟩ := hi
  repeat' (first | refine vs_ ?_ | ((first | refine vr_ ?_ | fail) <;> (try simp (disch := first | omega | (simp only [List.length_set, List.length_append, List.length_cons, List.length_nil]; done) | (simp only [List.length_set, List.length_append, List.length_cons, List.length_nil]; omega)) only [qp, qb, go_sem, ↓reduceIte])) | ((first | (refine cs_ ?_ ?_ <;> intro hc) | refine cj_ ?_ | simp (disch := omega) only [encs_getN, qb] | refine qa (qhv (h _ (qb1 (by omega))).1 (h _ (qb1 (by omega))).2) fun _ => ?_ | refine qe (qhv (h _ (qb1 (by omega))).1 (h _ (qb1 (by omega))).2) ?_) <;> (try refine ev_ ?_)) | with_reducible exact ti_)
  ·rename_i hc; rw [← ha, qjk (by omega), List.all_cons, hc]; rfl
  ·rename_i hc
   refine qi (i + 1) [] ⟨⟨by omega, ?_⟩, by omega⟩ rfl (by simp) ?_ ?_ ?_ <;> (try refine ev_ ?_) <;> (try with_reducible exact ti_) <;> (try simp (disch := omega) only [qb, and_true, true_and])
   rw [← ha, qjk (l := l) (i := i) (by omega), List.all_cons, hc, Bool.true_and]
  ·rw [← ha, List.drop_of_length_le (by omega)]; rfl
def fewP (l : List Pd) : Bool := decide (l.length ≤ 30) && qi9 (l.map Pd.ty)
theorem qgh {l : List Ty} (h : l ≠ []) : q8 l ≠ [] := by cases l with | nil => exact absurd rfl h | cons _ _ => simp [q8]
theorem qhd : q8 [] = [] := by rw [q8]
theorem qok (t : Ty) : [encY t] = q8 [t] := by rw [q8, q8]
theorem qjm (l : List Pd) (i : Nat) (h : i < l.length) : (l.map Pd.ty).take (i + 1) = (l.map Pd.ty).take i ++ [(l.getD i P0).ty] := by
 rw [List.take_add_one, List.getElem?_map, List.getElem?_eq_getElem h, List.getD_eq_getElem?_getD, List.getElem?_eq_getElem h]; rfl
theorem capY {k : Nat} (h : k ≤ 1000000000) : qb3 k 48 := by unfold qb3; omega
def qsl (l : List Pd) (i : Nat) : AF × List Ent := (⟨[(0, .sl 4 (qt l)), (3, accV 0 (q8 ((l.map Pd.ty).take i))), (4, .int .i64 i)], []⟩, accE 3 (q8 ((l.map Pd.ty).take i)))
theorem qbco (l : List Pd) : ql Try.prog 15 [.sl 4 (qt l)] (.int .i64 (if fewP l = true then 1 else 0)) := by
 refine qc c0cl (by simp) (by simp only [go_sem]) rfl fun hw => ?_
 have hl := (qbj hw.1).1
 repeat' (first | refine vs_ ?_ | ((first | refine vr_ ?_ | (refine cs_ ?_ ?_ <;> intro hc) | refine cj_ ?_ | simp (disch := omega) only [encs_getN, qb]) <;> (try refine ev_ ?_)) | with_reducible exact ti_)
 ·rw [if_neg (by simp [fewP]; omega)]
 have h30 : l.length ≤ 30 := by omega
 refine qo (S := Nat) (fun i => i ≤ l.length) (qsl l) (fun i => l.length - i) ?_ fun i hi => ?_
 ·refine qi 0 [] (Nat.zero_le _) rfl (by simp) ?_ ?_ ?_ <;> simp only [qsl, List.take_zero, qhd, qk, qj] <;> (try refine ev_ ?_) <;> (try with_reducible exact ti_) <;> (try simp (disch := omega) only [qb, and_true, true_and])
 ·have hfin : fewP l = qi9 (l.map Pd.ty) := by rw [fewP, decide_eq_true h30, Bool.true_and]
  have hlm : ((l.map Pd.ty).take i).length = i := by rw [List.length_take, List.length_map]; omega
  have hcap : qb3 (i + 1) 48 = True := eq_true (capY (by omega))
  unfold qsl
  by_cases hlt : i < l.length
  ·have hs := qjm l i hlt
   by_cases h0 : i = 0
   ·subst h0
    simp only [List.take_zero, qhd, qk, qj]
    repeat' (first | refine vs_ ?_ | ((first | refine vr_ ?_ | fail) <;> (try simp (disch := first | omega | (simp only [List.length_set, List.length_append, List.length_cons, List.length_nil]; done) | (simp only [List.length_set, List.length_append, List.length_cons, List.length_nil]; omega)) only [qp, qb, qc1, go_sem, ↓reduceIte])) | ((first | simp (disch := omega) only [(show qb3 1 48 = True from eq_true (capY (by omega)))] | (refine cs_ ?_ ?_ <;> intro hc) | refine cj_ ?_ | simp (disch := omega) only [encs_getN, qb]) <;> (try refine ev_ ?_)) | with_reducible exact ti_)
    ·refine qi 1 [0] ⟨by omega, by omega⟩ rfl (by simp) ?_ ?_ ?_ <;> simp only [qsl, hs, List.take_zero, List.nil_append, ← qok, qdd, qdh] <;> (try refine ev_ ?_) <;> (try with_reducible exact ti_) <;> (try simp (disch := omega) only [qb, and_true, true_and])
     all_goals (rw [qm1])
    ·omega
   ·have hne : (l.map Pd.ty).take i ≠ [] := fun h => h0 (by rw [← hlm, h]; rfl)
    simp only [qr (qgh hne), qq (qgh hne), qb5, hlm]
    repeat' (first | refine vs_ ?_ | ((first | refine vr_ ?_ | fail) <;> (try simp (disch := first | omega | (simp only [List.length_set, List.length_append, List.length_cons, List.length_nil]; done) | (simp only [List.length_set, List.length_append, List.length_cons, List.length_nil]; omega)) only [qp, qb, qc1, qb5, hlm, go_sem, ↓reduceIte])) | ((first | simp (disch := omega) only [hcap] | (refine cs_ ?_ ?_ <;> intro hc) | refine cj_ ?_ | simp (disch := omega) only [encs_getN, qb]) <;> (try refine ev_ ?_)) | with_reducible exact ti_)
    ·have hl2 : q8 ((l.map Pd.ty).take (i + 1)) = q8 ((l.map Pd.ty).take i) ++ [encY (l.getD i P0).ty] := by rw [hs, qkx]
     refine qi (i + 1) [1] ⟨by omega, by omega⟩ rfl (by simp) ?_ ?_ ?_ <;> simp only [qsl, hl2, qct, qcm, qb5, hlm] <;> (try refine ev_ ?_) <;> (try with_reducible exact ti_) <;> (try simp (disch := omega) only [qb, and_true, true_and])
     all_goals (simp only [qkx]; exact ⟨qex _ _, by rw [qky]⟩)
    ·omega
  ·have hend : (l.map Pd.ty).take i = l.map Pd.ty := List.take_of_length_le (by rw [List.length_map]; omega)
   have hf := qbfv (l.map Pd.ty)
   rw [hend, hfin]
   by_cases h0 : l.map Pd.ty = []
   ·rw [h0] at hf ⊢
    simp only [qhd, qk, qj]
    repeat' (first | refine vs_ ?_ | ((first | refine vr_ ?_ | fail) <;> (try simp only [qbf, go_sem, ↓reduceIte])) | ((first | (refine cs_ ?_ ?_ <;> intro hc) | refine cj_ ?_ | simp (disch := omega) only [encs_getN, qb] | refine qa hf fun _ => ?_) <;> (try refine ev_ ?_)) | with_reducible exact ti_)
    all_goals omega
   ·simp only [qr (qgh h0), qq (qgh h0), qb5]
    repeat' (first | refine vs_ ?_ | ((first | refine vr_ ?_ | fail) <;> (try simp only [qb5, go_sem, ↓reduceIte])) | ((first | (refine cs_ ?_ ?_ <;> intro hc) | refine cj_ ?_ | simp (disch := omega) only [encs_getN, qb] | refine qa hf fun _ => ?_) <;> (try refine ev_ ?_)) | with_reducible exact ti_)
    all_goals omega
set_option maxRecDepth 4000

theorem qd8 (acc : List Int) : ∀ (l b : List Int), qs acc (qs b l) = qs (qs acc b) l
 | [], b => rfl
 | x :: l, b => by
   rw [qs]
   by_cases hx : x ∈ b
   ·rw [if_pos hx, qd8 acc l b, qs, if_pos ((qr4 b acc x).2 (.inr hx))]
   ·rw [if_neg hx, qd8 acc l (b ++ [x]), qc3]
    show qs (qs (qs acc b) [x]) l = qs (qs acc b) ([x] ++ l)
    rw [qc3]
def qch (l : List Pd) : List Int := l.flatMap fun p => varY p.ty
theorem qo7 (l : List Pd) (i : Nat) (h : i < l.length) : qch (l.take (i + 1)) = qch (l.take i) ++ varY (l.getD i P0).ty := by
 have h1 : l.take (i + 1) = l.take i ++ [l.getD i P0] := by
  rw [List.take_add_one, List.getD_eq_getElem?_getD, List.getElem?_eq_getElem h]; rfl
 rw [h1]; simp [qch]
theorem qtd (l : List Pd) : (qch l).length ≤ szYs (l.map Pd.ty) := by
 induction l with
 | nil => simp [qch]
 | cons x r ih =>
   have := qfb x.ty
   simp only [qch, List.flatMap_cons, List.length_append, List.map_cons, szYs] at ih ⊢
   omega
def qme (l : List Pd) (x : Nat × List Int) : AF × List Ent := (⟨[(3, accV 0 (ints x.2)), (8, .sl 4 (qt l)), (9, .int .i64 l.length), (10, .int .i64 x.1)], []⟩, accE 1 (ints x.2))
def qdl (l : List Pd) (i : Nat) (vs : List Int) (x : Nat × List Int) : AF × List Ent :=
 (⟨[(3, accV 0 (ints x.2)), (8, .sl 4 (qt l)), (9, .int .i64 l.length), (10, .int .i64 i), (16, .sl 1 (ints vs)), (17, .int .i64 vs.length), (18, .int .i64 x.1)], []⟩, accE 1 (ints x.2))
theorem qi1 (l : List Pd) (i : Nat) (vs : List Int) (hv : vs.length ≤ maxLen) (acc0 : List Int) (hb : acc0.length + vs.length ≤ 1000000) {Q : VE → AF → List Ent → Prop} (hQ : Q (.ext 2) ⟨(19, .bool false) :: (qdl l i vs (vs.length, qs acc0 vs)).1.tm, []⟩ (qdl l i vs (vs.length, qs acc0 vs)).2)
 (x : Nat × List Int) (hx : x.1 ≤ vs.length ∧ qs x.2 (vs.drop x.1) = qs acc0 vs ∧ x.2.length ≤ acc0.length + x.1) :
 VI Try.prog none 33 0 qqa (lq (fun s' => (s'.1 ≤ vs.length ∧ qs s'.2 (vs.drop s'.1) = qs acc0 vs ∧ s'.2.length ≤ acc0.length + s'.1) ∧ vs.length - s'.1 < vs.length - x.1) (qdl l i vs) 0 Q) (qdl l i vs x).1 (qdl l i vs x).2 := by
 obtain ⟨j, acc⟩ := x
 obtain ⟨hj, ha, hc⟩ := hx
 dsimp only at hj ha hc
 have hcap : qb3 (acc.length + 1) 8 = True := eq_true (capI (by omega))
 have hend : ¬ j < vs.length → j = vs.length ∧ acc = qs acc0 vs := fun h => ⟨by omega, by rw [← ha, List.drop_of_length_le (by omega)]; rfl⟩
 unfold qdl
 by_cases h0 : acc = []
 ·simp only [h0, qu, qk, qj]
  repeat' (first | refine vs_ ?_ | ((first | refine vr_ ?_ | fail) <;> (try simp (disch := first | omega | (simp only [List.length_set, List.length_append, List.length_cons, List.length_nil]; done) | (simp only [List.length_set, List.length_append, List.length_cons, List.length_nil]; omega)) only [qb2, qb, qbf, go_sem, ↓reduceIte])) | ((first | simp (disch := omega) only [hcap] | (refine cs_ ?_ ?_ <;> intro hc) | refine cj_ ?_ | simp (disch := omega) only [encs_getN, qb] | refine qa (qbe [] _) fun _ => ?_ | refine qe (qbe [] _) ?_) <;> (try refine ev_ ?_)) | with_reducible exact ti_)
  ·refine qi (j + 1, [] ++ [vs.getD j 0]) [0] ⟨⟨by dsimp only; omega, ?_, by simp; omega⟩, by dsimp only; omega⟩ rfl (by simp) ?_ ?_ ?_ <;> simp only [qdl, List.nil_append, ← qj8, qdd, qdh] <;> (try refine ev_ ?_) <;> (try with_reducible exact ti_) <;> (try simp (disch := omega) only [qb, and_true, true_and])
   rw [← ha, h0, qci (i := j) _ (by omega), if_neg (by assumption)]; rfl
  ·exact absurd (by assumption : vs.getD j 0 ∈ []) (by simp)
  ·obtain ⟨e1, e2⟩ := hend (by omega)
   rw [h0] at e2
   rw [← e2, ← e1] at hQ
   simpa only [qdl, qu, qk, qj, ← e1] using hQ
 ·simp only [qr (qg h0), qq (qg h0)]
  repeat' (first | refine vs_ ?_ | ((first | refine vr_ ?_ | fail) <;> (try simp (disch := first | omega | (simp only [List.length_set, List.length_append, List.length_cons, List.length_nil]; done) | (simp only [List.length_set, List.length_append, List.length_cons, List.length_nil]; omega)) only [qb2, qb, go_sem, ↓reduceIte])) | ((first | simp (disch := omega) only [hcap] | (refine cs_ ?_ ?_ <;> intro hc) | refine cj_ ?_ | simp (disch := omega) only [encs_getN, qb] | refine qa (qbe acc _) fun _ => ?_ | refine qe (qbe acc _) ?_) <;> (try refine ev_ ?_)) | with_reducible exact ti_)
  ·refine qi (j + 1, acc ++ [vs.getD j 0]) [1] ⟨⟨by dsimp only; omega, ?_, by simp; omega⟩, by dsimp only; omega⟩ rfl (by simp) ?_ ?_ ?_ <;> simp only [qdl, ← qds, qct, qcm, qy] <;> (try refine ev_ ?_) <;> (try with_reducible exact ti_) <;> (try simp (disch := omega) only [qb, and_true, true_and])
   ·rw [← ha, qci (i := j) _ (by omega), if_neg (by assumption)]
   all_goals (simp only [qds]; exact ⟨qco _ _, by rw [qgc]⟩)
  ·refine qi (j + 1, acc) [0] ⟨⟨by dsimp only; omega, ?_, by dsimp only; omega⟩, by dsimp only; omega⟩ rfl (by simp) ?_ ?_ ?_ <;> simp only [qdl, qr (qg h0), qq (qg h0)] <;> (try refine ev_ ?_) <;> (try with_reducible exact ti_) <;> (try simp (disch := omega) only [qb, and_true, true_and])
   rw [← ha, qci (i := j) _ (by omega), if_pos (by assumption)]
  ·obtain ⟨e1, e2⟩ := hend (by omega)
   rw [← e2, ← e1] at hQ
   simpa only [qdl, qr (qg h0), qq (qg h0), qy, ← e1] using hQ
theorem qii (l : List Pd) (hb : szYs (l.map Pd.ty) ≤ 500000) : ql Try.prog 23 [.sl 4 (qt l)] (.sl 1 (ints (qs [] (qch l)))) := by
 refine qc c0ce (by simp) (by simp only [go_sem]) (qco 0 _) fun hw => ?_
 have hl := (qbj hw.1).1
 have hvl := qtd l
 repeat' (first | refine vs_ ?_ | ((first | refine vr_ ?_ | (refine cs_ ?_ ?_ <;> intro hc) | refine cj_ ?_ | simp (disch := omega) only [encs_getN, qb]) <;> (try refine ev_ ?_)) | with_reducible exact ti_)
 refine qo (S := Nat × List Int) (fun x => x.1 ≤ l.length ∧ x.2 = qs [] (qch (l.take x.1))) (qme l) (fun x => l.length - x.1) ?_ fun x hx => ?_
 ·refine qi (0, []) [] ⟨Nat.zero_le _, by simp [qch, qs]⟩ rfl (by simp) ?_ ?_ ?_ <;> simp only [qme, qu, qk, qj] <;> (try refine ev_ ?_) <;> (try with_reducible exact ti_) <;> (try simp (disch := omega) only [qb, and_true, true_and])
 ·obtain ⟨i, acc⟩ := x
  obtain ⟨hi, ha⟩ := hx
  dsimp only at hi ha
  unfold qme
  by_cases hlt : i < l.length
  ·have hsz : szY (l.getD i P0).ty ≤ szYs (l.map Pd.ty) := qjn (List.mem_map_of_mem (qb1 hlt))
   have hv := qn7 (l.getD i P0).ty (by omega)
   generalize hvs : qs [] (varY (l.getD i P0).ty) = vs at hv
   have hvl2 : vs.length ≤ szY (l.getD i P0).ty := by rw [← hvs]; have := qg0 (varY (l.getD i P0).ty) []; have := qfb (l.getD i P0).ty; simp only [List.length_nil] at *; omega
   have hal : acc.length ≤ 500000 := by
    rw [ha]
    have h1 := qg0 (qch (l.take i)) []
    have h3 : qch l = qch (l.take i) ++ qch (l.drop i) := by rw [qch, qch, qch, ← List.flatMap_append, List.take_append_drop]
    have h2 := congrArg List.length h3
    rw [List.length_append] at h2
    simp only [List.length_nil] at h1
    omega
   have hnext : qs acc vs = qs [] (qch (l.take (i + 1))) := by rw [qo7 l i hlt, qc3, ← ha, ← hvs, qd8]; rfl
   have hm : vs.length ≤ maxLen := by unfold maxLen; omega
   by_cases h0 : acc = []
   ·simp only [h0, qu, qk, qj]
    repeat' (first | refine vs_ ?_ | ((first | refine vr_ ?_ | fail) <;> (try simp (disch := first | omega | (simp only [List.length_set, List.length_append, List.length_cons, List.length_nil]; done) | (simp only [List.length_set, List.length_append, List.length_cons, List.length_nil]; omega)) only [qp, qb, qc1, go_sem, ↓reduceIte])) | ((first | (refine cs_ ?_ ?_ <;> intro hc) | refine cj_ ?_ | simp (disch := omega) only [encs_getN, qb] | refine qa hv fun _ => ?_) <;> (try refine ev_ ?_)) | with_reducible exact ti_)
    ·refine qo (S := Nat × List Int) (fun s' => s'.1 ≤ vs.length ∧ qs s'.2 (vs.drop s'.1) = qs acc vs ∧ s'.2.length ≤ acc.length + s'.1) (qdl l i vs) (fun x => vs.length - x.1) ?_ fun x hx => ?_
     ·refine qi (0, acc) [] ⟨Nat.zero_le _, rfl, Nat.le_refl _⟩ rfl (by simp) ?_ ?_ ?_ <;> simp only [qdl, h0, qu, qk, qj] <;> (try refine ev_ ?_) <;> (try with_reducible exact ti_) <;> (try simp (disch := omega) only [qb, and_true, true_and])
     ·refine qi1 l i vs hm acc (by omega) ?_ x hx
      by_cases h1 : qs acc vs = []
      ·simp only [qdl, h1, qu, qk, qj]
       (refine ev_ ?_; (try with_reducible exact ti_))
       repeat' (first | refine vs_ ?_ | ((first | refine vr_ ?_ | fail) <;> (try simp (disch := first | omega | (simp only [List.length_set, List.length_append, List.length_cons, List.length_nil]; done) | (simp only [List.length_set, List.length_append, List.length_cons, List.length_nil]; omega)) only [qb, go_sem, ↓reduceIte])) | ((first | (refine cs_ ?_ ?_ <;> intro hc) | refine cj_ ?_ | simp (disch := omega) only [encs_getN, qb]) <;> (try refine ev_ ?_)) | with_reducible exact ti_)
       refine qi (i + 1, qs acc vs) [] ⟨⟨by dsimp only; omega, hnext⟩, by dsimp only; omega⟩ rfl (by simp) ?_ ?_ ?_ <;> simp only [qme, h1, qu, qk, qj] <;> (try refine ev_ ?_) <;> (try with_reducible exact ti_) <;> (try simp (disch := omega) only [qb, and_true, true_and])
      ·simp only [qdl, qr (qg h1), qq (qg h1), qy]
       (refine ev_ ?_; (try with_reducible exact ti_))
       repeat' (first | refine vs_ ?_ | ((first | refine vr_ ?_ | fail) <;> (try simp (disch := first | omega | (simp only [List.length_set, List.length_append, List.length_cons, List.length_nil]; done) | (simp only [List.length_set, List.length_append, List.length_cons, List.length_nil]; omega)) only [qb, go_sem, ↓reduceIte])) | ((first | (refine cs_ ?_ ?_ <;> intro hc) | refine cj_ ?_ | simp (disch := omega) only [encs_getN, qb]) <;> (try refine ev_ ?_)) | with_reducible exact ti_)
       refine qi (i + 1, qs acc vs) [0] ⟨⟨by dsimp only; omega, hnext⟩, by dsimp only; omega⟩ rfl (by simp) ?_ ?_ ?_ <;> simp only [qme, qr (qg h1), qq (qg h1), qy] <;> (try refine ev_ ?_) <;> (try with_reducible exact ti_) <;> (try simp (disch := omega) only [qb, and_true, true_and])
    ·omega
   ·simp only [qr (qg h0), qq (qg h0)]
    repeat' (first | refine vs_ ?_ | ((first | refine vr_ ?_ | fail) <;> (try simp (disch := first | omega | (simp only [List.length_set, List.length_append, List.length_cons, List.length_nil]; done) | (simp only [List.length_set, List.length_append, List.length_cons, List.length_nil]; omega)) only [qp, qb, qc1, go_sem, ↓reduceIte])) | ((first | (refine cs_ ?_ ?_ <;> intro hc) | refine cj_ ?_ | simp (disch := omega) only [encs_getN, qb] | refine qa hv fun _ => ?_) <;> (try refine ev_ ?_)) | with_reducible exact ti_)
    ·refine qo (S := Nat × List Int) (fun s' => s'.1 ≤ vs.length ∧ qs s'.2 (vs.drop s'.1) = qs acc vs ∧ s'.2.length ≤ acc.length + s'.1) (qdl l i vs) (fun x => vs.length - x.1) ?_ fun x hx => ?_
     ·refine qi (0, acc) [0] ⟨Nat.zero_le _, rfl, Nat.le_refl _⟩ rfl (by simp) ?_ ?_ ?_ <;> simp only [qdl, qr (qg h0), qq (qg h0), qy] <;> (try refine ev_ ?_) <;> (try with_reducible exact ti_) <;> (try simp (disch := omega) only [qb, and_true, true_and])
     ·refine qi1 l i vs hm acc (by omega) ?_ x hx
      by_cases h1 : qs acc vs = []
      ·simp only [qdl, h1, qu, qk, qj]
       (refine ev_ ?_; (try with_reducible exact ti_))
       repeat' (first | refine vs_ ?_ | ((first | refine vr_ ?_ | fail) <;> (try simp (disch := first | omega | (simp only [List.length_set, List.length_append, List.length_cons, List.length_nil]; done) | (simp only [List.length_set, List.length_append, List.length_cons, List.length_nil]; omega)) only [qb, go_sem, ↓reduceIte])) | ((first | (refine cs_ ?_ ?_ <;> intro hc) | refine cj_ ?_ | simp (disch := omega) only [encs_getN, qb]) <;> (try refine ev_ ?_)) | with_reducible exact ti_)
       refine qi (i + 1, qs acc vs) [] ⟨⟨by dsimp only; omega, hnext⟩, by dsimp only; omega⟩ rfl (by simp) ?_ ?_ ?_ <;> simp only [qme, h1, qu, qk, qj] <;> (try refine ev_ ?_) <;> (try with_reducible exact ti_) <;> (try simp (disch := omega) only [qb, and_true, true_and])
      ·simp only [qdl, qr (qg h1), qq (qg h1), qy]
       (refine ev_ ?_; (try with_reducible exact ti_))
       repeat' (first | refine vs_ ?_ | ((first | refine vr_ ?_ | fail) <;> (try simp (disch := first | omega | (simp only [List.length_set, List.length_append, List.length_cons, List.length_nil]; done) | (simp only [List.length_set, List.length_append, List.length_cons, List.length_nil]; omega)) only [qb, go_sem, ↓reduceIte])) | ((first | (refine cs_ ?_ ?_ <;> intro hc) | refine cj_ ?_ | simp (disch := omega) only [encs_getN, qb]) <;> (try refine ev_ ?_)) | with_reducible exact ti_)
       refine qi (i + 1, qs acc vs) [0] ⟨⟨by dsimp only; omega, hnext⟩, by dsimp only; omega⟩ rfl (by simp) ?_ ?_ ?_ <;> simp only [qme, qr (qg h1), qq (qg h1), qy] <;> (try refine ev_ ?_) <;> (try with_reducible exact ti_) <;> (try simp (disch := omega) only [qb, and_true, true_and])
    ·omega
  ·have hend : acc = qs [] (qch l) := by rw [ha, List.take_of_length_le (by omega)]
   rw [← hend]
   by_cases h0 : acc = []
   ·simp only [h0, qu, qk, qj]
    repeat' (first | refine vs_ ?_ | ((first | refine vr_ ?_ | (refine cs_ ?_ ?_ <;> intro hc) | refine cj_ ?_ | simp (disch := omega) only [encs_getN, qb]) <;> (try refine ev_ ?_)) | with_reducible exact ti_)
    all_goals omega
   ·simp only [qr (qg h0), qq (qg h0)]
    repeat' (first | refine vs_ ?_ | ((first | refine vr_ ?_ | (refine cs_ ?_ ?_ <;> intro hc) | refine cj_ ?_ | simp (disch := omega) only [encs_getN, qb]) <;> (try refine ev_ ?_)) | with_reducible exact ti_)
    all_goals omega
/-! the reference's -/
def ovsP (l : List Pd) : List Int := l.flatMap fun p => qs [] (varY p.ty)
theorem qlc : ∀ (l : List Pd) (acc : List Int), qs acc (ovsP l) = qs acc (qch l)
 | [], acc => rfl
 | p :: r, acc => by
   simp only [ovsP, qch, List.flatMap_cons, qc3]
   rw [qd8]
   exact qlc r _
theorem qse (l : List Pd) (i : Nat) (h : i < l.length) : ovsP (l.take (i + 1)) = ovsP (l.take i) ++ qs [] (varY (l.getD i P0).ty) := by
 have h1 : l.take (i + 1) = l.take i ++ [l.getD i P0] := by
  rw [List.take_add_one, List.getD_eq_getElem?_getD, List.getElem?_eq_getElem h]; rfl
 rw [h1]; simp [ovsP]
theorem qnl (l : List Pd) : (ovsP l).length ≤ szYs (l.map Pd.ty) := by
 induction l with
 | nil => simp [ovsP]
 | cons x r ih =>
   have h1 := qfb x.ty
   have h2 := qg0 (varY x.ty) []
   simp only [ovsP, List.flatMap_cons, List.length_append, List.map_cons, szYs, List.length_nil] at ih h2 ⊢
   omega
def ovSt (l : List Pd) (i : Nat) : AF × List Ent := (⟨[(0, .sl 4 (qt l)), (3, accV 0 (ints (ovsP (l.take i)))), (4, .int .i64 i)], []⟩, accE 1 (ints (ovsP (l.take i))))
set_option maxHeartbeats 2000000 in
theorem qo2 (l : List Pd) (hb : szYs (l.map Pd.ty) ≤ 500000) : ql Try.prog 24 [.sl 4 (qt l)] (.sl 1 (ints (qs [] (qch l)))) := by
 refine qc c0cf (by simp) (by simp only [go_sem]) (qco 0 _) fun hw => ?_
 have hl := (qbj hw.1).1
 repeat' (first | refine vs_ ?_ | ((first | refine vr_ ?_ | (refine cs_ ?_ ?_ <;> intro hc) | refine cj_ ?_ | simp (disch := omega) only [encs_getN, qb]) <;> (try refine ev_ ?_)) | with_reducible exact ti_)
 refine qo (S := Nat) (fun i => i ≤ l.length) (ovSt l) (fun i => l.length - i) ?_ fun i hi => ?_
 ·refine qi 0 [] (Nat.zero_le _) rfl (by simp) ?_ ?_ ?_ <;> simp only [ovSt, List.take_zero, ovsP, List.flatMap_nil, qu, qk, qj] <;> (try refine ev_ ?_) <;> (try with_reducible exact ti_) <;> (try simp (disch := omega) only [qb, and_true, true_and])
 ·unfold ovSt
  by_cases hlt : i < l.length
  ·have hsz : szY (l.getD i P0).ty ≤ szYs (l.map Pd.ty) := qjn (List.mem_map_of_mem (qb1 hlt))
   have hv := qpu (l.getD i P0).ty (by omega)
   have hn := qse l i hlt
   have hl2 := congrArg List.length hn
   have h3 : ovsP l = ovsP (l.take (i + 1)) ++ ovsP (l.drop (i + 1)) := by rw [ovsP, ovsP, ovsP, ← List.flatMap_append, List.take_append_drop]
   have h4 := congrArg List.length h3
   have h5 := qnl l
   rw [List.length_append] at hl2 h4
   generalize qs [] (varY (l.getD i P0).ty) = ys at hv hn hl2
   have hcap : qb3 ((ovsP (l.take i)).length + ys.length) 8 = True := eq_true (capI (by omega))
   have hcap1 : qb3 ys.length 8 = True := eq_true (capI (by omega))
   generalize ovsP (l.take i) = acc at hn hl2 hcap ⊢
   by_cases h0 : acc = []
   ·simp only [h0, qu, qk, qj]
    by_cases hy : ys = []
    ·have hy0 : ys.length = 0 := by rw [hy]; rfl
     have hn' : ovsP (l.take (i + 1)) = [] := by rw [hn, h0, hy]; rfl
     repeat' (first | refine vs_ ?_ | ((first | refine vr_ ?_ | fail) <;> (try simp (disch := first | omega | (simp only [List.length_set, List.length_append, List.length_cons, List.length_nil]; done) | (simp only [List.length_set, List.length_append, List.length_cons, List.length_nil]; omega)) only [qp, qb, qc1, go_sem, ↓reduceIte])) | ((first | simp (disch := omega) only [hy0] | simp (disch := omega) only [hcap1] | (refine cs_ ?_ ?_ <;> intro hc) | refine cj_ ?_ | simp (disch := omega) only [encs_getN, qb] | refine qa hv fun _ => ?_) <;> (try refine ev_ ?_)) | with_reducible exact ti_)
     ·refine qi (i + 1) [] ⟨by omega, by omega⟩ rfl (by simp) ?_ ?_ ?_ <;> simp only [ovSt, hn', qu, qk, qj] <;> (try refine ev_ ?_) <;> (try with_reducible exact ti_) <;> (try simp (disch := omega) only [qb, and_true, true_and])
     ·omega
    ·have hy0 : (ys.length = 0) = False := eq_false fun h => hy (List.length_eq_zero_iff.1 h)
     have hn' : ovsP (l.take (i + 1)) = ys := by rw [hn, h0]; rfl
     repeat' (first | refine vs_ ?_ | ((first | refine vr_ ?_ | fail) <;> (try simp (disch := first | omega | (simp only [List.length_set, List.length_append, List.length_cons, List.length_nil]; done) | (simp only [List.length_set, List.length_append, List.length_cons, List.length_nil]; omega)) only [qp, qb, qc1, go_sem, ↓reduceIte])) | ((first | simp (disch := omega) only [hy0] | simp (disch := omega) only [hcap1] | (refine cs_ ?_ ?_ <;> intro hc) | refine cj_ ?_ | simp (disch := omega) only [encs_getN, qb] | refine qa hv fun _ => ?_) <;> (try refine ev_ ?_)) | with_reducible exact ti_)
     ·refine qi (i + 1) [0] ⟨by omega, by omega⟩ rfl (by simp) ?_ ?_ ?_ <;> simp only [ovSt, hn', qr (qg hy), qq (qg hy), qy] <;> (try refine ev_ ?_) <;> (try with_reducible exact ti_) <;> (try simp (disch := omega) only [qb, and_true, true_and])
     ·omega
   ·have hne : ovsP (l.take (i + 1)) ≠ [] := fun h => h0 (List.append_eq_nil_iff.1 (hn.symm.trans h)).1
    simp only [qr (qg h0), qq (qg h0)]
    repeat' (first | refine vs_ ?_ | ((first | refine vr_ ?_ | fail) <;> (try simp (disch := first | omega | (simp only [List.length_set, List.length_append, List.length_cons, List.length_nil]; done) | (simp only [List.length_set, List.length_append, List.length_cons, List.length_nil]; omega)) only [qp, qb, qc1, go_sem, ↓reduceIte])) | ((first | simp (disch := omega) only [hcap] | (refine cs_ ?_ ?_ <;> intro hc) | refine cj_ ?_ | simp (disch := omega) only [encs_getN, qb] | refine qa hv fun _ => ?_) <;> (try refine ev_ ?_)) | with_reducible exact ti_)
    ·refine qi (i + 1) [1] ⟨by omega, by omega⟩ rfl (by simp) ?_ ?_ ?_ <;> simp only [ovSt, qr (qg hne), qq (qg hne), qj9, ← hn, ← hl2, qy] <;> (try refine ev_ ?_) <;> (try with_reducible exact ti_) <;> (try simp (disch := omega) only [qb, and_true, true_and])
    ·omega
  ·have hend : ovsP (l.take i) = ovsP l := by rw [List.take_of_length_le (by omega)]
   have hon := qi0 (ovsP l) (by have := qnl l; omega)
   rw [qlc] at hon
   rw [hend]
   by_cases h0 : ovsP l = []
   ·rw [h0] at hon ⊢
    simp only [qu, qk, qj]
    repeat' (first | refine vs_ ?_ | ((first | refine vr_ ?_ | fail) <;> (try simp only [qbf, go_sem, ↓reduceIte])) | ((first | (refine cs_ ?_ ?_ <;> intro hc) | refine cj_ ?_ | simp (disch := omega) only [encs_getN, qb] | refine qa hon fun _ => ?_) <;> (try refine ev_ ?_)) | with_reducible exact ti_)
    all_goals omega
   ·simp only [qr (qg h0), qq (qg h0)]
    repeat' (first | refine vs_ ?_ | ((first | refine vr_ ?_ | fail) <;> (try simp only [qy, go_sem, ↓reduceIte])) | ((first | (refine cs_ ?_ ?_ <;> intro hc) | refine cj_ ?_ | simp (disch := omega) only [encs_getN, qb] | refine qa hon fun _ => ?_) <;> (try refine ev_ ?_)) | with_reducible exact ti_)
    all_goals omega
set_option maxRecDepth 4000

theorem qqg (s : List UInt8) : ql Try.prog 108 [.str s] (.bool false) := by
 refine qc c0ca (by simp) (by simp only [go_sem]) rfl fun hw => ?_
 repeat' (first | refine vs_ ?_ | ((first | refine vr_ ?_ | (refine cs_ ?_ ?_ <;> intro hc) | refine cj_ ?_ | fail) <;> (try refine ev_ ?_)) | with_reducible exact ti_)
def cmpW (a b : List UInt8) : Int := if Op.bytesLess a b = true then -1 else if a = b then 0 else 1
theorem qgp (a b : List UInt8) : ql Try.prog 74 [.str a, .str b] (.int .i64 (cmpW a b)) := by
 refine qc c0cb (by simp) (by simp only [go_sem]) rfl fun hw => ?_
 repeat' (first | refine vs_ ?_ | ((first | refine vr_ ?_ | refine qa (qqg _) fun _ => ?_ | (refine cs_ ?_ ?_ <;> intro hc) | refine cj_ ?_ | fail) <;> (try refine ev_ ?_)) | with_reducible exact ti_)
 ·rw [cmpW, if_pos (by assumption)]
 ·have h1 : Op.bytesLess a b = false := by assumption
  have h2 : (Op.bytesLess a b || decide (a = b)) = false := by assumption
  rw [h1, Bool.false_or, decide_eq_false_iff_not] at h2; rw [cmpW, if_neg (by rw [h1]; simp), if_neg h2]
 ·have h1 : Op.bytesLess a b = false := by assumption
  have h2 : (Op.bytesLess a b || decide (a = b)) = true := by assumption
  rw [h1, Bool.false_or, decide_eq_true_eq] at h2; rw [cmpW, if_neg (by rw [h1]; simp), if_pos h2]
def orW : List Int → Int
 | [] => 0
 | x :: r => if x = 0 then orW r else x
theorem qnk {l : List Int} {i : Nat} (h : i < l.length) : orW (l.drop i) = if l.getD i 0 = 0 then orW (l.drop (i + 1)) else l.getD i 0 := by rw [qj1 h, orW]
theorem qbau (l : List Int) : ql Try.prog 73 [.sl 1 (ints l)] (.int .i64 (orW l)) := by
 refine qc c0cc (by simp) (by simp only [go_sem]) rfl fun hw => ?_
 have hl : l.length ≤ maxLen := by have := hw.1.1; rwa [qy] at this
 repeat' (first | refine vs_ ?_ | ((first | refine vr_ ?_ | (refine cs_ ?_ ?_ <;> intro hc) | refine cj_ ?_ | simp (disch := omega) only [encs_getN, qb]) <;> (try refine ev_ ?_)) | with_reducible exact ti_)
 refine qo (S := Nat) (fun i => i ≤ l.length ∧ orW (l.drop i) = orW l) (fun i => (⟨[(3, .int .i64 0), (6, .sl 1 (ints l)), (7, .int .i64 l.length), (8, .int .i64 i)], []⟩, [])) (fun i => l.length - i) ?_ fun i hi => ?_
 ·refine qi 0 [] ⟨Nat.zero_le _, rfl⟩ rfl (by simp) ?_ ?_ ?_ <;> (try refine ev_ ?_) <;> (try with_reducible exact ti_) <;> (try simp (disch := omega) only [qb, and_true, true_and])
 ·obtain ⟨hi, ha⟩ := hi
  repeat' (first | refine vs_ ?_ | ((first | refine vr_ ?_ | fail) <;> (try simp (disch := first | omega | (simp only [List.length_set, List.length_append, List.length_cons, List.length_nil]; done) | (simp only [List.length_set, List.length_append, List.length_cons, List.length_nil]; omega)) only [qb2, qb, go_sem, ↓reduceIte])) | ((first | (refine cs_ ?_ ?_ <;> intro hc) | refine cj_ ?_ | simp (disch := omega) only [encs_getN, qb]) <;> (try refine ev_ ?_)) | with_reducible exact ti_)
  ·rw [← ha, qnk (by omega), if_neg (by assumption)]
  ·refine qi (i + 1) [] ⟨⟨by omega, ?_⟩, by omega⟩ rfl (by simp) ?_ ?_ ?_ <;> (try refine ev_ ?_) <;> (try with_reducible exact ti_) <;> (try simp (disch := omega) only [qb, and_true, true_and])
   rw [← ha, qnk (i := i) (by omega), if_pos (by assumption)]
  ·rw [← ha, List.drop_of_length_le (by omega)]; rfl
def cmpP (a b : Pd) : Int := orW [cmpW a.cls b.cls, cmpW (qbx a.ty) (qbx b.ty)]
theorem qk3 {a b : Pd} (h1 : szY a.ty ≤ 20000) (h2 : dpY a.ty ≤ 300) (h3 : szY b.ty ≤ 20000) (h4 : dpY b.ty ≤ 300) (h5 : (qbx a.ty).length ≤ Big) (h6 : (qbx b.ty).length ≤ Big) : ql Try.prog 28 [encP a, encP b] (.int .i64 (cmpP a b)) := by
 refine qc c0cd (by simp) (by simp only [go_sem]) rfl fun hw => ?_
 have e := qbau [cmpW a.cls b.cls, cmpW (qbx a.ty) (qbx b.ty)]
 simp only [ints, List.map_cons, List.map_nil] at e
 repeat' (first | refine vs_ ?_ | ((first | refine vr_ ?_ | fail) <;> (try simp only [qc1, go_sem, ↓reduceIte])) | ((first | (refine cs_ ?_ ?_ <;> intro hc) | refine cj_ ?_ | fail | refine qa (qgp _ _) fun _ => ?_ | refine qa (qc2 h1 h2 h5) fun _ => ?_ | refine qa (qc2 h3 h4 h6) fun _ => ?_ | refine qa e fun _ => ?_ | refine qe (qgp _ _) ?_ | refine qe (qc2 h1 h2 h5) ?_ | refine qe (qc2 h3 h4 h6) ?_ | refine qe e ?_) <;> (try refine ev_ ?_)) | with_reducible exact ti_)
 rfl
end Go.Proofs.Ytfpobiheiloamaa
