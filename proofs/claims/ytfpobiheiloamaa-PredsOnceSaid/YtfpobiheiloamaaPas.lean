/- Texts of this proof, joined. -/
import Derived.Test.YtfpobiheiloamaaPar
import Derived.Test.YtfpobiheiloamaaPai

/- predicates: sameness, whether one is there, each once -/
set_option maxRecDepth 4000
namespace Go.Proofs.Ytfpobiheiloamaa
open Go Go.RowKit Go.V
set_option linter.unusedVariables false
set_option linter.unusedSimpArgs false

def qez (a b : Pd) : Bool := decide (a.cls = b.cls) && qev a.ty b.ty
theorem qd8 (a b : Pd) : qez a b = true ↔ a = b := by
 rw [qez, Bool.and_eq_true, decide_eq_true_eq, qlp]
 cases a; cases b; simp
theorem qet (p : Pd) : AV.agg [.str p.ty.con, .int .i64 p.ty.var, .sl 3 (qba p.ty.args)] = encY p.ty := qbq _
theorem qhl (a b : Pd) : qm Try.prog 29 [encP a, encP b] (.bool (qez a b)) := by
 refine qd c0n (by simp) (by simp only [go_sem]) rfl fun hw => ?_
 repeat' (first | refine vs_ ?_ | ((first | refine vr_ ?_ | refine qa (qmk _ _) fun _ => ?_ | (refine cs_ ?_ ?_ <;> intro hc) | refine cj_ ?_ | fail) <;> (try refine ev_ ?_)) | with_reducible exact ti_)
 all_goals simp [qez, *]
theorem qdo (a b : Pd) : qm Try.prog 62 [encP a, encP b] (.bool (qez a b)) := by
 refine qd c0o (by simp) (by simp only [go_sem]) rfl fun hw => ?_
 repeat' (first | refine vs_ ?_ | ((first | refine vr_ ?_ | refine qa (qmh _ _) fun _ => ?_ | (refine cs_ ?_ ?_ <;> intro hc) | refine cj_ ?_ | fail) <;> (try refine ev_ ?_)) | with_reducible exact ti_)
 all_goals simp [qez, *]
theorem qhn (a b : Pd) : qez a b = qez b a := by rw [Bool.eq_iff_iff, qd8, qd8]; exact ⟨Eq.symm, Eq.symm⟩
abbrev pdE (p : Pd) : Ent := .blk (pdc p)
theorem qhr (p : Pd) (k : Nat) : (pdE p).bd k = true := by simp [Ent.bd, AV.bds, AV.bd, qea]
theorem has1 (p q : Pd) : VM Try.prog 64 (pdE p) (pdE p) [encP q, .ptr 0 0] (.bool (qez p q)) := by
 refine qcn c0p 1 (by simp) (by simp) ?_
 repeat' (first | refine vs_ ?_ | ((first | refine vr_ ?_ | refine qa (qhl _ _) fun _ => ?_ | (refine cs_ ?_ ?_ <;> intro hc) | refine cj_ ?_ | fail) <;> (try refine ev_ ?_)) | with_reducible exact ti_)
def idxF (g : Pd → Bool) : List Pd → Int → Int
 | [], _ => -1
 | x :: r, k => if g x = true then k else idxF g r (k + 1)
theorem qod (g : Pd → Bool) : ∀ (l : List Pd) (k : Int), 0 ≤ k → decide (0 ≤ idxF g l k) = l.any g
 | [], k, h => by simp [idxF]
 | x :: r, k, h => by
   rw [idxF, List.any_cons]
   by_cases hx : g x = true
   ·rw [if_pos hx, hx]; simp [h]
   ·rw [if_neg hx, qod g r (k + 1) (by omega)]; simp [hx]
theorem qe4 {f : FuncId} {p : Pd} {g : Pd → Bool} (hs : ∀ q, VM Try.prog f (pdE p) (pdE p) [encP q, .ptr 0 0] (.bool (g q))) (l : List Pd) (hl : l.length ≤ maxLen) :
 VM Try.prog 98 (pdE p) (pdE p) [.sl 4 (qt l), .fn f [] [.ptr 0 0]] (.int .i64 (idxF g l 0)) := by
 refine qcn c0q 1 (by simp) (by simp) ?_
 repeat' (first | refine vs_ ?_ | ((first | refine vr_ ?_ | (refine cs_ ?_ ?_ <;> intro hc) | refine cj_ ?_ | simp (disch := omega) only [encs_getN, qb]) <;> (try refine ev_ ?_)) | with_reducible exact ti_)
 refine qs (S := Nat) (fun i => i ≤ l.length ∧ idxF g (l.drop i) i = idxF g l 0) (fun i => (⟨[(0, .sl 4 (qt l)), (1, .fn f [] [.ptr 0 0]), (7, .int .i64 l.length), (8, .int .i64 i)], []⟩, [pdE p])) (fun i => l.length - i) ?_ fun i hi => ?_
 ·refine qk 0 [0] ⟨Nat.zero_le _, rfl⟩ rfl (by simp) ?_ ?_ ?_ <;> (try refine ev_ ?_) <;> (try with_reducible exact ti_) <;> (try simp (disch := omega) only [qb, and_true, true_and])
 ·obtain ⟨hi, ha⟩ := hi
  repeat' (first | refine vs_ ?_ | ((first | refine vr_ ?_ | fail) <;> (try simp (disch := first | omega | (simp only [List.length_set, List.length_append, List.length_cons, List.length_nil]; done) | (simp only [List.length_set, List.length_append, List.length_cons, List.length_nil]; omega)) only [qj, qb, go_sem, ↓reduceIte])) | ((first | (refine cs_ ?_ ?_ <;> intro hc) | refine cj_ ?_ | simp (disch := omega) only [encs_getN, qb] | refine qg3 0 (hs (l.getD i P0)) ?_ (qhr _ _) (qhr _ _)) <;> (try refine ev_ ?_)) | with_reducible exact ti_)
  ·rename_i hc; rw [← ha, qkn (by omega), idxF, if_pos hc]
  ·rename_i hc
   refine qk (i + 1) [0] ⟨⟨by omega, ?_⟩, by omega⟩ rfl (by simp) ?_ ?_ ?_ <;> (try refine ev_ ?_) <;> (try with_reducible exact ti_) <;> (try simp (disch := omega) only [qb, and_true, true_and])
   rw [← ha, qkn (l := l) (i := i) (by omega), idxF, if_neg (by rw [hc]; simp)]; rfl
  ·rw [← ha, List.drop_of_length_le (by omega)]; rfl
theorem qdq {f : FuncId} {p : Pd} {g : Pd → Bool} (hs : ∀ q, VM Try.prog f (pdE p) (pdE p) [encP q, .ptr 0 0] (.bool (g q))) (l : List Pd) (hl : l.length ≤ maxLen) :
 VM Try.prog 63 (pdE p) (pdE p) [.sl 4 (qt l), .fn f [] [.ptr 0 0]] (.bool (l.any g)) := by
 refine qcn c0r 1 (by simp) (by simp) ?_
 repeat' (first | refine vs_ ?_ | ((first | refine vr_ ?_ | refine qg3 0 (qe4 hs l hl) ?_ (qhr _ _) (qhr _ _) | (refine cs_ ?_ ?_ <;> intro hc) | refine cj_ ?_ | fail) <;> (try refine ev_ ?_)) | with_reducible exact ti_)
 rw [qod g l 0 (by omega)]
def hasP (l : List Pd) (p : Pd) : Bool := l.any fun q => qez p q
theorem qbp (l : List Pd) (p : Pd) : qm Try.prog 20 [.sl 4 (qt l), encP p] (.bool (hasP l p)) := by
 refine qd c0s (by simp) (by simp only [go_sem]) rfl fun hw => ?_
 have hl := (qcb hw.1).1
 repeat' (first | refine vs_ ?_ | ((first | refine vr_ ?_ | refine qg3 0 (qdq (has1 p) l hl) ?_ (qhr _ _) (qhr _ _) | (refine cs_ ?_ ?_ <;> intro hc) | refine cj_ ?_ | fail) <;> (try refine ev_ ?_)) | with_reducible exact ti_)
 rfl
theorem q5p (l : List Pd) (p : Pd) : qm Try.prog 21 [.sl 4 (qt l), encP p] (.bool (hasP l p)) := by
 refine qd c0t (by simp) (by simp only [go_sem]) rfl fun hw => ?_
 have hl := (qcb hw.1).1
 repeat' (first | refine vs_ ?_ | ((first | refine vr_ ?_ | (refine cs_ ?_ ?_ <;> intro hc) | refine cj_ ?_ | simp (disch := omega) only [encs_getN, qb]) <;> (try refine ev_ ?_)) | with_reducible exact ti_)
 refine qs (S := Nat) (fun i => i ≤ l.length ∧ hasP (l.drop i) p = hasP l p) (fun i => (⟨[(0, .sl 4 (qt l)), (3, .ptr 0 0), (5, .int .i64 i)], []⟩, [pdE p])) (fun i => l.length - i) ?_ fun i hi => ?_
 ·refine qk 0 [0] ⟨Nat.zero_le _, rfl⟩ rfl (by simp) ?_ ?_ ?_ <;> (try refine ev_ ?_) <;> (try with_reducible exact ti_) <;> (try simp (disch := omega) only [qb, and_true, true_and])
 ·obtain ⟨hi, ha⟩ := hi
  repeat' (first | refine vs_ ?_ | ((first | refine vr_ ?_ | fail) <;> (try simp (disch := first | omega | (simp only [List.length_set, List.length_append, List.length_cons, List.length_nil]; done) | (simp only [List.length_set, List.length_append, List.length_cons, List.length_nil]; omega)) only [qj, qb, go_sem, ↓reduceIte])) | ((first | (refine cs_ ?_ ?_ <;> intro hc) | refine cj_ ?_ | simp (disch := omega) only [encs_getN, qb] | refine qa (qdo _ _) fun _ => ?_ | refine qf (qdo _ _) ?_) <;> (try refine ev_ ?_)) | with_reducible exact ti_)
  ·rename_i hc; rw [← ha, qkn (by omega), hasP, List.any_cons, qhn, hc]; rfl
  ·rename_i hc
   refine qk (i + 1) [0] ⟨⟨by omega, ?_⟩, by omega⟩ rfl (by simp) ?_ ?_ ?_ <;> (try refine ev_ ?_) <;> (try with_reducible exact ti_) <;> (try simp (disch := omega) only [qb, and_true, true_and])
   rw [← ha, qkn (l := l) (i := i) (by omega), hasP, hasP, List.any_cons, qhn, hc, Bool.false_or]
  ·rw [← ha, List.drop_of_length_le (by omega)]; rfl
def qbu (acc : List Pd) : List Pd → List Pd
 | [] => acc
 | x :: r => if hasP acc x = true then qbu acc r else qbu (acc ++ [x]) r
theorem qem (acc : List Pd) {l : List Pd} {i : Nat} (h : i < l.length) : qbu acc (l.drop i) = if hasP acc (l.getD i P0) = true then qbu acc (l.drop (i + 1)) else qbu (acc ++ [l.getD i P0]) (l.drop (i + 1)) := by
 rw [qkn h, qbu]
theorem capP {k : Nat} (h : k ≤ 1000000000) : qch k 64 := by unfold qch; omega
def qe6 (l : List Pd) (x : Nat × List Pd) : AF × List Ent := (⟨[(3, accV 0 (qt x.2)), (6, .sl 4 (qt l)), (7, .int .i64 l.length), (8, .int .i64 x.1)], []⟩, accE 4 (qt x.2))
theorem qeq (l : List Pd) (hb : l.length ≤ 1000000) : qm Try.prog 18 [.sl 4 (qt l)] (.sl 4 (qt (qbu [] l))) := by
 refine qd c0u (by simp) (by simp only [go_sem]) (qfp 0 _) fun hw => ?_
 have hl := (qcb hw.1).1
 repeat' (first | refine vs_ ?_ | ((first | refine vr_ ?_ | (refine cs_ ?_ ?_ <;> intro hc) | refine cj_ ?_ | simp (disch := omega) only [encs_getN, qb]) <;> (try refine ev_ ?_)) | with_reducible exact ti_)
 refine qs (S := Nat × List Pd) (fun x => x.1 ≤ l.length ∧ qbu x.2 (l.drop x.1) = qbu [] l ∧ x.2.length ≤ x.1) (qe6 l) (fun x => l.length - x.1) ?_ fun x hx => ?_
 ·refine qk (0, []) [] ⟨Nat.zero_le _, rfl, Nat.le_refl _⟩ rfl (by simp) ?_ ?_ ?_ <;> simp only [qe6, qi3, qo, qp] <;> (try refine ev_ ?_) <;> (try with_reducible exact ti_) <;> (try simp (disch := omega) only [qb, and_true, true_and])
 ·obtain ⟨i, acc⟩ := x
  obtain ⟨hi, ha, hc⟩ := hx
  dsimp only at hi ha hc
  have hcap : qch (acc.length + 1) 64 = True := eq_true (capP (by omega))
  unfold qe6
  by_cases h0 : acc = []
  ·subst h0
   simp only [qi3, qo, qp]
   repeat' (first | refine vs_ ?_ | ((first | refine vr_ ?_ | fail) <;> (try simp (disch := first | omega | (simp only [List.length_set, List.length_append, List.length_cons, List.length_nil]; done) | (simp only [List.length_set, List.length_append, List.length_cons, List.length_nil]; omega)) only [qj, qb, qbn, go_sem, ↓reduceIte])) | ((first | simp (disch := omega) only [hcap] | (refine cs_ ?_ ?_ <;> intro hc) | refine cj_ ?_ | simp (disch := omega) only [encs_getN, qb] | refine qa (qbp [] _) fun _ => ?_ | refine qf (qbp [] _) ?_) <;> (try refine ev_ ?_)) | with_reducible exact ti_)
   ·rename_i hc
    refine qk (i + 1, [] ++ [l.getD i P0]) [1] ⟨⟨by dsimp only; omega, ?_, by simp⟩, by dsimp only; omega⟩ rfl (by simp) ?_ ?_ ?_ <;> simp only [qe6, List.nil_append, ← qp8, qeb, qed] <;> (try refine ev_ ?_) <;> (try with_reducible exact ti_) <;> (try simp (disch := omega) only [qb, and_true, true_and])
    rw [← ha, qem (i := i) _ (by omega), if_neg (by rw [hc]; simp)]; rfl
   ·rename_i hc
    exact absurd hc (by simp [hasP])
   ·rw [← ha, List.drop_of_length_le (by omega)]; rfl
  ·simp only [q9 (qfo h0), q8 (qfo h0)]
   repeat' (first | refine vs_ ?_ | ((first | refine vr_ ?_ | fail) <;> (try simp (disch := first | omega | (simp only [List.length_set, List.length_append, List.length_cons, List.length_nil]; done) | (simp only [List.length_set, List.length_append, List.length_cons, List.length_nil]; omega)) only [qj, qb, go_sem, ↓reduceIte])) | ((first | simp (disch := omega) only [List.take_length] | simp (disch := omega) only [hcap] | (refine cs_ ?_ ?_ <;> intro hc) | refine cj_ ?_ | simp (disch := omega) only [encs_getN, qb] | refine qa (qbp acc _) fun _ => ?_ | refine qf (qbp acc _) ?_) <;> (try refine ev_ ?_)) | with_reducible exact ti_)
   ·rename_i hc
    refine qk (i + 1, acc ++ [l.getD i P0]) [2] ⟨⟨by dsimp only; omega, ?_, by simp; omega⟩, by dsimp only; omega⟩ rfl (by simp) ?_ ?_ ?_ <;> simp only [qe6, ← qhs, qc7, qda, qgn, List.take_length] <;> (try refine ev_ ?_) <;> (try with_reducible exact ti_) <;> (try simp (disch := omega) only [qb, and_true, true_and])
    ·rw [← ha, qem (i := i) _ (by omega), if_neg (by rw [hc]; simp)]
    all_goals (simp only [qhs]; exact ⟨qfp _ _, by rw [qjx]⟩)
   ·rename_i hc
    refine qk (i + 1, acc) [0] ⟨⟨by dsimp only; omega, ?_, by dsimp only; omega⟩, by dsimp only; omega⟩ rfl (by simp) ?_ ?_ ?_ <;> simp only [qe6, q9 (qfo h0), q8 (qfo h0)] <;> (try refine ev_ ?_) <;> (try with_reducible exact ti_) <;> (try simp (disch := omega) only [qb, and_true, true_and])
    rw [← ha, qem (i := i) _ (by omega), if_pos hc]
   ·rw [← ha, List.drop_of_length_le (by omega)]; rfl
set_option maxRecDepth 4000

def qd9 : List Pd → List Pd → Bool
 | [], [] => true
 | x :: r, y :: r' => qez x y && qd9 r r'
 | _, _ => false
theorem qge : ∀ l m, qd9 l m = true ↔ l = m
 | [], [] => by simp [qd9]
 | [], y :: r => by rw [qd9] <;> simp
 | x :: r, [] => by rw [qd9] <;> simp
 | x :: r, y :: r' => by rw [qd9, Bool.and_eq_true, qd8, qge r r']; simp
theorem qom {l m : List Pd} (h : l.length ≠ m.length) : qd9 l m = false := by
 cases hh : qd9 l m with
 | false => rfl
 | true => rw [(qge l m).1 hh] at h; exact absurd rfl h
theorem qhh {l m : List Pd} {i : Nat} (h : i < l.length) (h' : i < m.length) : qd9 (l.drop i) (m.drop i) = (qez (l.getD i P0) (m.getD i P0) && qd9 (l.drop (i + 1)) (m.drop (i + 1))) := by
 rw [qkn h, qkn h', qd9]
theorem qny (l m : List Pd) : qm Try.prog 17 [.sl 4 (qt l), .sl 4 (qt m)] (.bool (qd9 l m)) := by
 refine qd c0j (by simp) (by simp only [go_sem]) rfl fun hw => ?_
 have hl := (qcb hw.1).1
 repeat' (first | refine vs_ ?_ | ((first | refine vr_ ?_ | (refine cs_ ?_ ?_ <;> intro hc) | refine cj_ ?_ | simp (disch := omega) only [encs_getN, qb]) <;> (try refine ev_ ?_)) | with_reducible exact ti_)
 ·rw [qom (by omega)]
 have hlm : l.length = m.length := by omega
 refine qs (S := Nat) (fun i => i ≤ l.length ∧ qd9 (l.drop i) (m.drop i) = qd9 l m) (fun i => (⟨[(0, .sl 4 (qt l)), (1, .sl 4 (qt m)), (5, .int .i64 i)], []⟩, [])) (fun i => l.length - i) ?_ fun i hi => ?_
 ·refine qk 0 [] ⟨Nat.zero_le _, rfl⟩ rfl (by simp) ?_ ?_ ?_ <;> (try refine ev_ ?_) <;> (try with_reducible exact ti_) <;> (try simp (disch := omega) only [qb, and_true, true_and])
 ·obtain ⟨hi, ha⟩ := hi
  repeat' (first | refine vs_ ?_ | ((first | refine vr_ ?_ | fail) <;> (try simp (disch := first | omega | (simp only [List.length_set, List.length_append, List.length_cons, List.length_nil]; done) | (simp only [List.length_set, List.length_append, List.length_cons, List.length_nil]; omega)) only [qj, qb, go_sem, ↓reduceIte])) | ((first | (refine cs_ ?_ ?_ <;> intro hc) | refine cj_ ?_ | simp (disch := omega) only [encs_getN, qb] | refine qa (qdo _ _) fun _ => ?_ | refine qf (qdo _ _) ?_) <;> (try refine ev_ ?_)) | with_reducible exact ti_)
  ·rename_i hc; rw [← ha, qhh (by omega) (by omega), hc]; rfl
  ·rename_i hc
   refine qk (i + 1) [] ⟨⟨by omega, ?_⟩, by omega⟩ rfl (by simp) ?_ ?_ ?_ <;> (try refine ev_ ?_) <;> (try with_reducible exact ti_) <;> (try simp (disch := omega) only [qb, and_true, true_and])
   rw [← ha, qhh (l := l) (m := m) (i := i) (by omega) (by omega), hc, Bool.true_and]
  ·rw [← ha, List.drop_of_length_le (by omega), List.drop_of_length_le (by omega)]; rfl
theorem qgz (p : Pd) : qm Try.prog 61 [encP p] (.bool (decide (p.ty.con = []))) := by
 refine qd c0k (by simp) (by simp only [go_sem]) rfl fun hw => ?_
 repeat' (first | refine vs_ ?_ | ((first | refine vr_ ?_ | (refine cs_ ?_ ?_ <;> intro hc) | refine cj_ ?_ | fail) <;> (try refine ev_ ?_)) | with_reducible exact ti_)
def qd6 (p : Pd) : Bool := conW p.cls && qfb p.ty
theorem qdw {p : Pd} (h1 : szY p.ty ≤ 20000) (h2 : dpY p.ty ≤ 300) : qm Try.prog 27 [encP p] (.bool (qd6 p)) := by
 refine qd c0l (by simp) (by simp only [go_sem]) rfl fun hw => ?_
 repeat' (first | refine vs_ ?_ | ((first | refine vr_ ?_ | refine qa (qjo _) fun _ => ?_ | refine qa (qfd h1 h2) fun _ => ?_ | (refine cs_ ?_ ?_ <;> intro hc) | refine cj_ ?_ | fail) <;> (try refine ev_ ?_)) | with_reducible exact ti_)
 all_goals simp [qd6, *]
def fewP (l : List Pd) : Bool := decide (l.length ≤ 30) && qll (l.map Pd.ty)
theorem qfl {l : List Ty} (h : l ≠ []) : qba l ≠ [] := by cases l with | nil => exact absurd rfl h | cons _ _ => simp [qba]
theorem qgk : qba [] = [] := by rw [qba]
theorem qmo (t : Ty) : [encY t] = qba [t] := by rw [qba, qba]
theorem qir (l : List Pd) (i : Nat) (h : i < l.length) : (l.map Pd.ty).take (i + 1) = (l.map Pd.ty).take i ++ [(l.getD i P0).ty] := by
 rw [List.take_add_one, List.getElem?_map, List.getElem?_eq_getElem h, List.getD_eq_getElem?_getD, List.getElem?_eq_getElem h]; rfl
theorem capY {k : Nat} (h : k ≤ 1000000000) : qch k 48 := by unfold qch; omega
def qpu (l : List Pd) (i : Nat) : AF × List Ent := (⟨[(0, .sl 4 (qt l)), (3, accV 0 (qba ((l.map Pd.ty).take i))), (4, .int .i64 i)], []⟩, accE 3 (qba ((l.map Pd.ty).take i)))
theorem q38 (l : List Pd) : qm Try.prog 15 [.sl 4 (qt l)] (.int .i64 (if fewP l = true then 1 else 0)) := by
 refine qd c0m (by simp) (by simp only [go_sem]) rfl fun hw => ?_
 have hl := (qcb hw.1).1
 repeat' (first | refine vs_ ?_ | ((first | refine vr_ ?_ | (refine cs_ ?_ ?_ <;> intro hc) | refine cj_ ?_ | simp (disch := omega) only [encs_getN, qb]) <;> (try refine ev_ ?_)) | with_reducible exact ti_)
 ·rw [if_neg (by simp [fewP]; omega)]
 have h30 : l.length ≤ 30 := by omega
 refine qs (S := Nat) (fun i => i ≤ l.length) (qpu l) (fun i => l.length - i) ?_ fun i hi => ?_
 ·refine qk 0 [] (Nat.zero_le _) rfl (by simp) ?_ ?_ ?_ <;> simp only [qpu, List.take_zero, qgk, qo, qp] <;> (try refine ev_ ?_) <;> (try with_reducible exact ti_) <;> (try simp (disch := omega) only [qb, and_true, true_and])
 ·have hfin : fewP l = qll (l.map Pd.ty) := by rw [fewP, decide_eq_true h30, Bool.true_and]
  have hlm : ((l.map Pd.ty).take i).length = i := by rw [List.length_take, List.length_map]; omega
  have hcap : qch (i + 1) 48 = True := eq_true (capY (by omega))
  unfold qpu
  by_cases hlt : i < l.length
  ·have hs := qir l i hlt
   by_cases h0 : i = 0
   ·subst h0
    simp only [List.take_zero, qgk, qo, qp]
    repeat' (first | refine vs_ ?_ | ((first | refine vr_ ?_ | fail) <;> (try simp (disch := first | omega | (simp only [List.length_set, List.length_append, List.length_cons, List.length_nil]; done) | (simp only [List.length_set, List.length_append, List.length_cons, List.length_nil]; omega)) only [qj, qb, qet, go_sem, ↓reduceIte])) | ((first | simp (disch := omega) only [(show qch 1 48 = True from eq_true (capY (by omega)))] | (refine cs_ ?_ ?_ <;> intro hc) | refine cj_ ?_ | simp (disch := omega) only [encs_getN, qb]) <;> (try refine ev_ ?_)) | with_reducible exact ti_)
    ·refine qk 1 [0] ⟨by omega, by omega⟩ rfl (by simp) ?_ ?_ ?_ <;> simp only [qpu, hs, List.take_zero, List.nil_append, ← qmo, qeb, qed] <;> (try refine ev_ ?_) <;> (try with_reducible exact ti_) <;> (try simp (disch := omega) only [qb, and_true, true_and])
     all_goals (rw [qkq])
    ·omega
   ·have hne : (l.map Pd.ty).take i ≠ [] := fun h => h0 (by rw [← hlm, h]; rfl)
    simp only [q9 (qfl hne), q8 (qfl hne), qbv, hlm]
    repeat' (first | refine vs_ ?_ | ((first | refine vr_ ?_ | fail) <;> (try simp (disch := first | omega | (simp only [List.length_set, List.length_append, List.length_cons, List.length_nil]; done) | (simp only [List.length_set, List.length_append, List.length_cons, List.length_nil]; omega)) only [qj, qb, qet, qbv, hlm, go_sem, ↓reduceIte])) | ((first | simp (disch := omega) only [hcap] | (refine cs_ ?_ ?_ <;> intro hc) | refine cj_ ?_ | simp (disch := omega) only [encs_getN, qb]) <;> (try refine ev_ ?_)) | with_reducible exact ti_)
    ·have hl2 : qba ((l.map Pd.ty).take (i + 1)) = qba ((l.map Pd.ty).take i) ++ [encY (l.getD i P0).ty] := by rw [hs, qjc]
     refine qk (i + 1) [1] ⟨by omega, by omega⟩ rfl (by simp) ?_ ?_ ?_ <;> simp only [qpu, hl2, qc7, qda, qbv, hlm] <;> (try refine ev_ ?_) <;> (try with_reducible exact ti_) <;> (try simp (disch := omega) only [qb, and_true, true_and])
     all_goals (simp only [qjc]; exact ⟨qea _ _, by rw [qj4]⟩)
    ·omega
  ·have hend : (l.map Pd.ty).take i = l.map Pd.ty := List.take_of_length_le (by rw [List.length_map]; omega)
   have hf := q84 (l.map Pd.ty)
   rw [hend, hfin]
   by_cases h0 : l.map Pd.ty = []
   ·rw [h0] at hf ⊢
    simp only [qgk, qo, qp]
    repeat' (first | refine vs_ ?_ | ((first | refine vr_ ?_ | fail) <;> (try simp only [qbn, go_sem, ↓reduceIte])) | ((first | (refine cs_ ?_ ?_ <;> intro hc) | refine cj_ ?_ | simp (disch := omega) only [encs_getN, qb] | refine qa hf fun _ => ?_) <;> (try refine ev_ ?_)) | with_reducible exact ti_)
    all_goals omega
   ·simp only [q9 (qfl h0), q8 (qfl h0), qbv]
    repeat' (first | refine vs_ ?_ | ((first | refine vr_ ?_ | fail) <;> (try simp only [qbv, go_sem, ↓reduceIte])) | ((first | (refine cs_ ?_ ?_ <;> intro hc) | refine cj_ ?_ | simp (disch := omega) only [encs_getN, qb] | refine qa hf fun _ => ?_) <;> (try refine ev_ ?_)) | with_reducible exact ti_)
    all_goals omega
set_option maxRecDepth 4000

theorem qey (acc : List Int) : ∀ (l b : List Int), qn acc (qn b l) = qn (qn acc b) l
 | [], b => rfl
 | x :: l, b => by
   rw [qn]
   by_cases hx : x ∈ b
   ·rw [if_pos hx, qey acc l b, qn, if_pos ((qpv b acc x).2 (.inr hx))]
   ·rw [if_neg hx, qey acc l (b ++ [x]), qc4]
    show qn (qn (qn acc b) [x]) l = qn (qn acc b) ([x] ++ l)
    rw [qc4]
def qcx (l : List Pd) : List Int := l.flatMap fun p => varY p.ty
theorem qm0 (l : List Pd) (i : Nat) (h : i < l.length) : qcx (l.take (i + 1)) = qcx (l.take i) ++ varY (l.getD i P0).ty := by
 have h1 : l.take (i + 1) = l.take i ++ [l.getD i P0] := by
  rw [List.take_add_one, List.getD_eq_getElem?_getD, List.getElem?_eq_getElem h]; rfl
 rw [h1]; simp [qcx]
theorem qqm (l : List Pd) : (qcx l).length ≤ szYs (l.map Pd.ty) := by
 induction l with
 | nil => simp [qcx]
 | cons x r ih =>
   have := qh6 x.ty
   simp only [qcx, List.flatMap_cons, List.length_append, List.map_cons, szYs] at ih ⊢
   omega
def qk4 (l : List Pd) (x : Nat × List Int) : AF × List Ent := (⟨[(3, accV 0 (ints x.2)), (8, .sl 4 (qt l)), (9, .int .i64 l.length), (10, .int .i64 x.1)], []⟩, accE 1 (ints x.2))
def qcr (l : List Pd) (i : Nat) (vs : List Int) (x : Nat × List Int) : AF × List Ent :=
 (⟨[(3, accV 0 (ints x.2)), (8, .sl 4 (qt l)), (9, .int .i64 l.length), (10, .int .i64 i), (16, .sl 1 (ints vs)), (17, .int .i64 vs.length), (18, .int .i64 x.1)], []⟩, accE 1 (ints x.2))
theorem qhg (l : List Pd) (i : Nat) (vs : List Int) (hv : vs.length ≤ maxLen) (acc0 : List Int) (hb : acc0.length + vs.length ≤ 1000000) {Q : VE → AF → List Ent → Prop} (hQ : Q (.ext 2) ⟨(19, .bool false) :: (qcr l i vs (vs.length, qn acc0 vs)).1.tm, []⟩ (qcr l i vs (vs.length, qn acc0 vs)).2)
 (x : Nat × List Int) (hx : x.1 ≤ vs.length ∧ qn x.2 (vs.drop x.1) = qn acc0 vs ∧ x.2.length ≤ acc0.length + x.1) :
 VI Try.prog none 33 0 qu4 (lq (fun s' => (s'.1 ≤ vs.length ∧ qn s'.2 (vs.drop s'.1) = qn acc0 vs ∧ s'.2.length ≤ acc0.length + s'.1) ∧ vs.length - s'.1 < vs.length - x.1) (qcr l i vs) 0 Q) (qcr l i vs x).1 (qcr l i vs x).2 := by
 obtain ⟨j, acc⟩ := x
 obtain ⟨hj, ha, hc⟩ := hx
 dsimp only at hj ha hc
 have hcap : qch (acc.length + 1) 8 = True := eq_true (capI (by omega))
 have hend : ¬ j < vs.length → j = vs.length ∧ acc = qn acc0 vs := fun h => ⟨by omega, by rw [← ha, List.drop_of_length_le (by omega)]; rfl⟩
 unfold qcr
 by_cases h0 : acc = []
 ·simp only [h0, qbj, qo, qp]
  repeat' (first | refine vs_ ?_ | ((first | refine vr_ ?_ | fail) <;> (try simp (disch := first | omega | (simp only [List.length_set, List.length_append, List.length_cons, List.length_nil]; done) | (simp only [List.length_set, List.length_append, List.length_cons, List.length_nil]; omega)) only [qdg, qb, qbn, go_sem, ↓reduceIte])) | ((first | simp (disch := omega) only [hcap] | (refine cs_ ?_ ?_ <;> intro hc) | refine cj_ ?_ | simp (disch := omega) only [encs_getN, qb] | refine qa (q7 [] _) fun _ => ?_ | refine qf (q7 [] _) ?_) <;> (try refine ev_ ?_)) | with_reducible exact ti_)
  ·refine qk (j + 1, [] ++ [vs.getD j 0]) [0] ⟨⟨by dsimp only; omega, ?_, by simp; omega⟩, by dsimp only; omega⟩ rfl (by simp) ?_ ?_ ?_ <;> simp only [qcr, List.nil_append, ← quh, qeb, qed] <;> (try refine ev_ ?_) <;> (try with_reducible exact ti_) <;> (try simp (disch := omega) only [qb, and_true, true_and])
   rw [← ha, h0, qex (i := j) _ (by omega), if_neg (by assumption)]; rfl
  ·exact absurd (by assumption : vs.getD j 0 ∈ []) (by simp)
  ·obtain ⟨e1, e2⟩ := hend (by omega)
   rw [h0] at e2
   rw [← e2, ← e1] at hQ
   simpa only [qcr, qbj, qo, qp, ← e1] using hQ
 ·simp only [q9 (qr h0), q8 (qr h0)]
  repeat' (first | refine vs_ ?_ | ((first | refine vr_ ?_ | fail) <;> (try simp (disch := first | omega | (simp only [List.length_set, List.length_append, List.length_cons, List.length_nil]; done) | (simp only [List.length_set, List.length_append, List.length_cons, List.length_nil]; omega)) only [qdg, qb, go_sem, ↓reduceIte])) | ((first | simp (disch := omega) only [hcap] | (refine cs_ ?_ ?_ <;> intro hc) | refine cj_ ?_ | simp (disch := omega) only [encs_getN, qb] | refine qa (q7 acc _) fun _ => ?_ | refine qf (q7 acc _) ?_) <;> (try refine ev_ ?_)) | with_reducible exact ti_)
  ·refine qk (j + 1, acc ++ [vs.getD j 0]) [1] ⟨⟨by dsimp only; omega, ?_, by simp; omega⟩, by dsimp only; omega⟩ rfl (by simp) ?_ ?_ ?_ <;> simp only [qcr, ← qgh, qc7, qda, qbi] <;> (try refine ev_ ?_) <;> (try with_reducible exact ti_) <;> (try simp (disch := omega) only [qb, and_true, true_and])
   ·rw [← ha, qex (i := j) _ (by omega), if_neg (by assumption)]
   all_goals (simp only [qgh]; exact ⟨qe5 _ _, by rw [qh3]⟩)
  ·refine qk (j + 1, acc) [0] ⟨⟨by dsimp only; omega, ?_, by dsimp only; omega⟩, by dsimp only; omega⟩ rfl (by simp) ?_ ?_ ?_ <;> simp only [qcr, q9 (qr h0), q8 (qr h0)] <;> (try refine ev_ ?_) <;> (try with_reducible exact ti_) <;> (try simp (disch := omega) only [qb, and_true, true_and])
   rw [← ha, qex (i := j) _ (by omega), if_pos (by assumption)]
  ·obtain ⟨e1, e2⟩ := hend (by omega)
   rw [← e2, ← e1] at hQ
   simpa only [qcr, q9 (qr h0), q8 (qr h0), qbi, ← e1] using hQ
theorem qnl (l : List Pd) (hb : szYs (l.map Pd.ty) ≤ 500000) : qm Try.prog 23 [.sl 4 (qt l)] (.sl 1 (ints (qn [] (qcx l)))) := by
 refine qd c0i (by simp) (by simp only [go_sem]) (qe5 0 _) fun hw => ?_
 have hl := (qcb hw.1).1
 have hvl := qqm l
 repeat' (first | refine vs_ ?_ | ((first | refine vr_ ?_ | (refine cs_ ?_ ?_ <;> intro hc) | refine cj_ ?_ | simp (disch := omega) only [encs_getN, qb]) <;> (try refine ev_ ?_)) | with_reducible exact ti_)
 refine qs (S := Nat × List Int) (fun x => x.1 ≤ l.length ∧ x.2 = qn [] (qcx (l.take x.1))) (qk4 l) (fun x => l.length - x.1) ?_ fun x hx => ?_
 ·refine qk (0, []) [] ⟨Nat.zero_le _, by simp [qcx, qn]⟩ rfl (by simp) ?_ ?_ ?_ <;> simp only [qk4, qbj, qo, qp] <;> (try refine ev_ ?_) <;> (try with_reducible exact ti_) <;> (try simp (disch := omega) only [qb, and_true, true_and])
 ·obtain ⟨i, acc⟩ := x
  obtain ⟨hi, ha⟩ := hx
  dsimp only at hi ha
  unfold qk4
  by_cases hlt : i < l.length
  ·have hsz : szY (l.getD i P0).ty ≤ szYs (l.map Pd.ty) := qxu (List.mem_map_of_mem (qd3 hlt))
   have hv := qmn (l.getD i P0).ty (by omega)
   generalize hvs : qn [] (varY (l.getD i P0).ty) = vs at hv
   have hvl2 : vs.length ≤ szY (l.getD i P0).ty := by rw [← hvs]; have := qi7 (varY (l.getD i P0).ty) []; have := qh6 (l.getD i P0).ty; simp only [List.length_nil] at *; omega
   have hal : acc.length ≤ 500000 := by
    rw [ha]
    have h1 := qi7 (qcx (l.take i)) []
    have h3 : qcx l = qcx (l.take i) ++ qcx (l.drop i) := by rw [qcx, qcx, qcx, ← List.flatMap_append, List.take_append_drop]
    have h2 := congrArg List.length h3
    rw [List.length_append] at h2
    simp only [List.length_nil] at h1
    omega
   have hnext : qn acc vs = qn [] (qcx (l.take (i + 1))) := by rw [qm0 l i hlt, qc4, ← ha, ← hvs, qey]; rfl
   have hm : vs.length ≤ maxLen := by unfold maxLen; omega
   by_cases h0 : acc = []
   ·simp only [h0, qbj, qo, qp]
    repeat' (first | refine vs_ ?_ | ((first | refine vr_ ?_ | fail) <;> (try simp (disch := first | omega | (simp only [List.length_set, List.length_append, List.length_cons, List.length_nil]; done) | (simp only [List.length_set, List.length_append, List.length_cons, List.length_nil]; omega)) only [qj, qb, qet, go_sem, ↓reduceIte])) | ((first | (refine cs_ ?_ ?_ <;> intro hc) | refine cj_ ?_ | simp (disch := omega) only [encs_getN, qb] | refine qa hv fun _ => ?_) <;> (try refine ev_ ?_)) | with_reducible exact ti_)
    ·refine qs (S := Nat × List Int) (fun s' => s'.1 ≤ vs.length ∧ qn s'.2 (vs.drop s'.1) = qn acc vs ∧ s'.2.length ≤ acc.length + s'.1) (qcr l i vs) (fun x => vs.length - x.1) ?_ fun x hx => ?_
     ·refine qk (0, acc) [] ⟨Nat.zero_le _, rfl, Nat.le_refl _⟩ rfl (by simp) ?_ ?_ ?_ <;> simp only [qcr, h0, qbj, qo, qp] <;> (try refine ev_ ?_) <;> (try with_reducible exact ti_) <;> (try simp (disch := omega) only [qb, and_true, true_and])
     ·refine qhg l i vs hm acc (by omega) ?_ x hx
      by_cases h1 : qn acc vs = []
      ·simp only [qcr, h1, qbj, qo, qp]
       (refine ev_ ?_; (try with_reducible exact ti_))
       repeat' (first | refine vs_ ?_ | ((first | refine vr_ ?_ | fail) <;> (try simp (disch := first | omega | (simp only [List.length_set, List.length_append, List.length_cons, List.length_nil]; done) | (simp only [List.length_set, List.length_append, List.length_cons, List.length_nil]; omega)) only [qb, go_sem, ↓reduceIte])) | ((first | (refine cs_ ?_ ?_ <;> intro hc) | refine cj_ ?_ | simp (disch := omega) only [encs_getN, qb]) <;> (try refine ev_ ?_)) | with_reducible exact ti_)
       refine qk (i + 1, qn acc vs) [] ⟨⟨by dsimp only; omega, hnext⟩, by dsimp only; omega⟩ rfl (by simp) ?_ ?_ ?_ <;> simp only [qk4, h1, qbj, qo, qp] <;> (try refine ev_ ?_) <;> (try with_reducible exact ti_) <;> (try simp (disch := omega) only [qb, and_true, true_and])
      ·simp only [qcr, q9 (qr h1), q8 (qr h1), qbi]
       (refine ev_ ?_; (try with_reducible exact ti_))
       repeat' (first | refine vs_ ?_ | ((first | refine vr_ ?_ | fail) <;> (try simp (disch := first | omega | (simp only [List.length_set, List.length_append, List.length_cons, List.length_nil]; done) | (simp only [List.length_set, List.length_append, List.length_cons, List.length_nil]; omega)) only [qb, go_sem, ↓reduceIte])) | ((first | (refine cs_ ?_ ?_ <;> intro hc) | refine cj_ ?_ | simp (disch := omega) only [encs_getN, qb]) <;> (try refine ev_ ?_)) | with_reducible exact ti_)
       refine qk (i + 1, qn acc vs) [0] ⟨⟨by dsimp only; omega, hnext⟩, by dsimp only; omega⟩ rfl (by simp) ?_ ?_ ?_ <;> simp only [qk4, q9 (qr h1), q8 (qr h1), qbi] <;> (try refine ev_ ?_) <;> (try with_reducible exact ti_) <;> (try simp (disch := omega) only [qb, and_true, true_and])
    ·omega
   ·simp only [q9 (qr h0), q8 (qr h0)]
    repeat' (first | refine vs_ ?_ | ((first | refine vr_ ?_ | fail) <;> (try simp (disch := first | omega | (simp only [List.length_set, List.length_append, List.length_cons, List.length_nil]; done) | (simp only [List.length_set, List.length_append, List.length_cons, List.length_nil]; omega)) only [qj, qb, qet, go_sem, ↓reduceIte])) | ((first | (refine cs_ ?_ ?_ <;> intro hc) | refine cj_ ?_ | simp (disch := omega) only [encs_getN, qb] | refine qa hv fun _ => ?_) <;> (try refine ev_ ?_)) | with_reducible exact ti_)
    ·refine qs (S := Nat × List Int) (fun s' => s'.1 ≤ vs.length ∧ qn s'.2 (vs.drop s'.1) = qn acc vs ∧ s'.2.length ≤ acc.length + s'.1) (qcr l i vs) (fun x => vs.length - x.1) ?_ fun x hx => ?_
     ·refine qk (0, acc) [0] ⟨Nat.zero_le _, rfl, Nat.le_refl _⟩ rfl (by simp) ?_ ?_ ?_ <;> simp only [qcr, q9 (qr h0), q8 (qr h0), qbi] <;> (try refine ev_ ?_) <;> (try with_reducible exact ti_) <;> (try simp (disch := omega) only [qb, and_true, true_and])
     ·refine qhg l i vs hm acc (by omega) ?_ x hx
      by_cases h1 : qn acc vs = []
      ·simp only [qcr, h1, qbj, qo, qp]
       (refine ev_ ?_; (try with_reducible exact ti_))
       repeat' (first | refine vs_ ?_ | ((first | refine vr_ ?_ | fail) <;> (try simp (disch := first | omega | (simp only [List.length_set, List.length_append, List.length_cons, List.length_nil]; done) | (simp only [List.length_set, List.length_append, List.length_cons, List.length_nil]; omega)) only [qb, go_sem, ↓reduceIte])) | ((first | (refine cs_ ?_ ?_ <;> intro hc) | refine cj_ ?_ | simp (disch := omega) only [encs_getN, qb]) <;> (try refine ev_ ?_)) | with_reducible exact ti_)
       refine qk (i + 1, qn acc vs) [] ⟨⟨by dsimp only; omega, hnext⟩, by dsimp only; omega⟩ rfl (by simp) ?_ ?_ ?_ <;> simp only [qk4, h1, qbj, qo, qp] <;> (try refine ev_ ?_) <;> (try with_reducible exact ti_) <;> (try simp (disch := omega) only [qb, and_true, true_and])
      ·simp only [qcr, q9 (qr h1), q8 (qr h1), qbi]
       (refine ev_ ?_; (try with_reducible exact ti_))
       repeat' (first | refine vs_ ?_ | ((first | refine vr_ ?_ | fail) <;> (try simp (disch := first | omega | (simp only [List.length_set, List.length_append, List.length_cons, List.length_nil]; done) | (simp only [List.length_set, List.length_append, List.length_cons, List.length_nil]; omega)) only [qb, go_sem, ↓reduceIte])) | ((first | (refine cs_ ?_ ?_ <;> intro hc) | refine cj_ ?_ | simp (disch := omega) only [encs_getN, qb]) <;> (try refine ev_ ?_)) | with_reducible exact ti_)
       refine qk (i + 1, qn acc vs) [0] ⟨⟨by dsimp only; omega, hnext⟩, by dsimp only; omega⟩ rfl (by simp) ?_ ?_ ?_ <;> simp only [qk4, q9 (qr h1), q8 (qr h1), qbi] <;> (try refine ev_ ?_) <;> (try with_reducible exact ti_) <;> (try simp (disch := omega) only [qb, and_true, true_and])
    ·omega
  ·have hend : acc = qn [] (qcx l) := by rw [ha, List.take_of_length_le (by omega)]
   rw [← hend]
   by_cases h0 : acc = []
   ·simp only [h0, qbj, qo, qp]
    repeat' (first | refine vs_ ?_ | ((first | refine vr_ ?_ | (refine cs_ ?_ ?_ <;> intro hc) | refine cj_ ?_ | simp (disch := omega) only [encs_getN, qb]) <;> (try refine ev_ ?_)) | with_reducible exact ti_)
    all_goals omega
   ·simp only [q9 (qr h0), q8 (qr h0)]
    repeat' (first | refine vs_ ?_ | ((first | refine vr_ ?_ | (refine cs_ ?_ ?_ <;> intro hc) | refine cj_ ?_ | simp (disch := omega) only [encs_getN, qb]) <;> (try refine ev_ ?_)) | with_reducible exact ti_)
    all_goals omega
/-! the reference's -/
set_option maxRecDepth 4000

theorem qoc (s : List UInt8) : qm Try.prog 108 [.str s] (.bool false) := by
 refine qd c0e (by simp) (by simp only [go_sem]) rfl fun hw => ?_
 repeat' (first | refine vs_ ?_ | ((first | refine vr_ ?_ | (refine cs_ ?_ ?_ <;> intro hc) | refine cj_ ?_ | fail) <;> (try refine ev_ ?_)) | with_reducible exact ti_)
def cmpW (a b : List UInt8) : Int := if Op.bytesLess a b = true then -1 else if a = b then 0 else 1
theorem qgq (a b : List UInt8) : qm Try.prog 74 [.str a, .str b] (.int .i64 (cmpW a b)) := by
 refine qd c0f (by simp) (by simp only [go_sem]) rfl fun hw => ?_
 repeat' (first | refine vs_ ?_ | ((first | refine vr_ ?_ | refine qa (qoc _) fun _ => ?_ | (refine cs_ ?_ ?_ <;> intro hc) | refine cj_ ?_ | fail) <;> (try refine ev_ ?_)) | with_reducible exact ti_)
 ·rw [cmpW, if_pos (by assumption)]
 ·have h1 : Op.bytesLess a b = false := by assumption
  have h2 : (Op.bytesLess a b || decide (a = b)) = false := by assumption
  rw [h1, Bool.false_or, decide_eq_false_iff_not] at h2; rw [cmpW, if_neg (by rw [h1]; simp), if_neg h2]
 ·have h1 : Op.bytesLess a b = false := by assumption
  have h2 : (Op.bytesLess a b || decide (a = b)) = true := by assumption
  rw [h1, Bool.false_or, decide_eq_true_eq] at h2; rw [cmpW, if_neg (by rw [h1]; simp), if_pos h2]
def orW : List Int → Int
 | [] => 0
 | x :: r => if x = 0 then orW r else x
theorem qmc {l : List Int} {i : Nat} (h : i < l.length) : orW (l.drop i) = if l.getD i 0 = 0 then orW (l.drop (i + 1)) else l.getD i 0 := by rw [qjg h, orW]
theorem q75 (l : List Int) : qm Try.prog 73 [.sl 1 (ints l)] (.int .i64 (orW l)) := by
 refine qd c0g (by simp) (by simp only [go_sem]) rfl fun hw => ?_
 have hl : l.length ≤ maxLen := by have := hw.1.1; rwa [qbi] at this
 repeat' (first | refine vs_ ?_ | ((first | refine vr_ ?_ | (refine cs_ ?_ ?_ <;> intro hc) | refine cj_ ?_ | simp (disch := omega) only [encs_getN, qb]) <;> (try refine ev_ ?_)) | with_reducible exact ti_)
 refine qs (S := Nat) (fun i => i ≤ l.length ∧ orW (l.drop i) = orW l) (fun i => (⟨[(3, .int .i64 0), (6, .sl 1 (ints l)), (7, .int .i64 l.length), (8, .int .i64 i)], []⟩, [])) (fun i => l.length - i) ?_ fun i hi => ?_
 ·refine qk 0 [] ⟨Nat.zero_le _, rfl⟩ rfl (by simp) ?_ ?_ ?_ <;> (try refine ev_ ?_) <;> (try with_reducible exact ti_) <;> (try simp (disch := omega) only [qb, and_true, true_and])
 ·obtain ⟨hi, ha⟩ := hi
  repeat' (first | refine vs_ ?_ | ((first | refine vr_ ?_ | fail) <;> (try simp (disch := first | omega | (simp only [List.length_set, List.length_append, List.length_cons, List.length_nil]; done) | (simp only [List.length_set, List.length_append, List.length_cons, List.length_nil]; omega)) only [qdg, qb, go_sem, ↓reduceIte])) | ((first | (refine cs_ ?_ ?_ <;> intro hc) | refine cj_ ?_ | simp (disch := omega) only [encs_getN, qb]) <;> (try refine ev_ ?_)) | with_reducible exact ti_)
  ·rw [← ha, qmc (by omega), if_neg (by assumption)]
  ·refine qk (i + 1) [] ⟨⟨by omega, ?_⟩, by omega⟩ rfl (by simp) ?_ ?_ ?_ <;> (try refine ev_ ?_) <;> (try with_reducible exact ti_) <;> (try simp (disch := omega) only [qb, and_true, true_and])
   rw [← ha, qmc (i := i) (by omega), if_pos (by assumption)]
  ·rw [← ha, List.drop_of_length_le (by omega)]; rfl
def cmpP (a b : Pd) : Int := orW [cmpW a.cls b.cls, cmpW (qc3 a.ty) (qc3 b.ty)]
theorem qj1 {a b : Pd} (h1 : szY a.ty ≤ 20000) (h2 : dpY a.ty ≤ 300) (h3 : szY b.ty ≤ 20000) (h4 : dpY b.ty ≤ 300) (h5 : (qc3 a.ty).length ≤ Big) (h6 : (qc3 b.ty).length ≤ Big) : qm Try.prog 28 [encP a, encP b] (.int .i64 (cmpP a b)) := by
 refine qd c0h (by simp) (by simp only [go_sem]) rfl fun hw => ?_
 have e := q75 [cmpW a.cls b.cls, cmpW (qc3 a.ty) (qc3 b.ty)]
 simp only [ints, List.map_cons, List.map_nil] at e
 repeat' (first | refine vs_ ?_ | ((first | refine vr_ ?_ | fail) <;> (try simp only [qet, go_sem, ↓reduceIte])) | ((first | (refine cs_ ?_ ?_ <;> intro hc) | refine cj_ ?_ | fail | refine qa (qgq _ _) fun _ => ?_ | refine qa (qcj h1 h2 h5) fun _ => ?_ | refine qa (qcj h3 h4 h6) fun _ => ?_ | refine qa e fun _ => ?_ | refine qf (qgq _ _) ?_ | refine qf (qcj h1 h2 h5) ?_ | refine qf (qcj h3 h4 h6) ?_ | refine qf e ?_) <;> (try refine ev_ ?_)) | with_reducible exact ti_)
 rfl
end Go.Proofs.Ytfpobiheiloamaa
