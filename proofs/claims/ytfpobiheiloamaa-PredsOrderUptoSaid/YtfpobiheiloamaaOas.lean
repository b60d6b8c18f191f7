/- Texts of this proof, joined. -/
import Derived.Test.YtfpobiheiloamaaOar
import Derived.Test.YtfpobiheiloamaaOai

/- predicates: sameness, whether one is there, each once -/
set_option maxRecDepth 4000
namespace Go.Proofs.Ytfpobiheiloamaa
open Go Go.RowKit Go.V
set_option linter.unusedVariables false
set_option linter.unusedSimpArgs false

def qea (a b : Pd) : Bool := decide (a.cls = b.cls) && qff a.ty b.ty
theorem qex (a b : Pd) : qea a b = true ↔ a = b := by
 rw [qea, Bool.and_eq_true, decide_eq_true_eq, qmv]
 cases a; cases b; simp
theorem qfm (p : Pd) : AV.agg [.str p.ty.con, .int .i64 p.ty.var, .sl 3 (q8 p.ty.args)] = encY p.ty := qbh _
theorem qfx (a b : Pd) : ql Try.prog 29 [encP a, encP b] (.bool (qea a b)) := by
 refine qe c0bq (by simp) (by simp only [go_sem]) rfl fun hw => ?_
 repeat' (first | refine vs_ ?_ | ((first | refine vr_ ?_ | refine qa (qn2 _ _) fun _ => ?_ | (refine cs_ ?_ ?_ <;> intro hc) | refine cj_ ?_ | fail) <;> (try refine ev_ ?_)) | with_reducible exact ti_)
 all_goals simp [qea, *]
theorem qd6 (a b : Pd) : ql Try.prog 62 [encP a, encP b] (.bool (qea a b)) := by
 refine qe c0br (by simp) (by simp only [go_sem]) rfl fun hw => ?_
 repeat' (first | refine vs_ ?_ | ((first | refine vr_ ?_ | refine qa (qop _ _) fun _ => ?_ | (refine cs_ ?_ ?_ <;> intro hc) | refine cj_ ?_ | fail) <;> (try refine ev_ ?_)) | with_reducible exact ti_)
 all_goals simp [qea, *]
theorem qih (a b : Pd) : qea a b = qea b a := by rw [Bool.eq_iff_iff, qex, qex]; exact ⟨Eq.symm, Eq.symm⟩
abbrev pdE (p : Pd) : Ent := .blk (pdc p)
theorem qiu (p : Pd) (k : Nat) : (pdE p).bd k = true := by simp [Ent.bd, AV.bds, AV.bd, qer]
theorem has1 (p q : Pd) : VM Try.prog 64 (pdE p) (pdE p) [encP q, .ptr 0 0] (.bool (qea p q)) := by
 refine qcs c0bs 1 (by simp) (by simp) ?_
 repeat' (first | refine vs_ ?_ | ((first | refine vr_ ?_ | refine qa (qfx _ _) fun _ => ?_ | (refine cs_ ?_ ?_ <;> intro hc) | refine cj_ ?_ | fail) <;> (try refine ev_ ?_)) | with_reducible exact ti_)
def idxF (g : Pd → Bool) : List Pd → Int → Int
 | [], _ => -1
 | x :: r, k => if g x = true then k else idxF g r (k + 1)
theorem qr9 (g : Pd → Bool) : ∀ (l : List Pd) (k : Int), 0 ≤ k → decide (0 ≤ idxF g l k) = l.any g
 | [], k, h => by simp [idxF]
 | x :: r, k, h => by
   rw [idxF, List.any_cons]
   by_cases hx : g x = true
   ·rw [if_pos hx, hx]; simp [h]
   ·rw [if_neg hx, qr9 g r (k + 1) (by omega)]; simp [hx]
theorem qfv {f : FuncId} {p : Pd} {g : Pd → Bool} (hs : ∀ q, VM Try.prog f (pdE p) (pdE p) [encP q, .ptr 0 0] (.bool (g q))) (l : List Pd) (hl : l.length ≤ maxLen) :
 VM Try.prog 98 (pdE p) (pdE p) [.sl 4 (qu l), .fn f [] [.ptr 0 0]] (.int .i64 (idxF g l 0)) := by
 refine qcs c0bt 1 (by simp) (by simp) ?_
 repeat' (first | refine vs_ ?_ | ((first | refine vr_ ?_ | (refine cs_ ?_ ?_ <;> intro hc) | refine cj_ ?_ | simp (disch := omega) only [encs_getN, qb]) <;> (try refine ev_ ?_)) | with_reducible exact ti_)
 refine qs (S := Nat) (fun i => i ≤ l.length ∧ idxF g (l.drop i) i = idxF g l 0) (fun i => (⟨[(0, .sl 4 (qu l)), (1, .fn f [] [.ptr 0 0]), (7, .int .i64 l.length), (8, .int .i64 i)], []⟩, [pdE p])) (fun i => l.length - i) ?_ fun i hi => ?_
 ·refine qk 0 [0] ⟨Nat.zero_le _, rfl⟩ rfl (by simp) ?_ ?_ ?_ <;> (try refine ev_ ?_) <;> (try with_reducible exact ti_) <;> (try simp (disch := omega) only [qb, and_true, true_and])
 ·obtain ⟨hi, ha⟩ := hi
  repeat' (first | refine vs_ ?_ | ((first | refine vr_ ?_ | fail) <;> (try simp (disch := first | omega | (simp only [List.length_set, List.length_append, List.length_cons, List.length_nil]; done) | (simp only [List.length_set, List.length_append, List.length_cons, List.length_nil]; omega)) only [qbd, qb, go_sem, ↓reduceIte])) | ((first | (refine cs_ ?_ ?_ <;> intro hc) | refine cj_ ?_ | simp (disch := omega) only [encs_getN, qb] | refine qib 0 (hs (l.getD i P0)) ?_ (qiu _ _) (qiu _ _)) <;> (try refine ev_ ?_)) | with_reducible exact ti_)
  ·rename_i hc; rw [← ha, qmj (by omega), idxF, if_pos hc]
  ·rename_i hc
   refine qk (i + 1) [0] ⟨⟨by omega, ?_⟩, by omega⟩ rfl (by simp) ?_ ?_ ?_ <;> (try refine ev_ ?_) <;> (try with_reducible exact ti_) <;> (try simp (disch := omega) only [qb, and_true, true_and])
   rw [← ha, qmj (l := l) (i := i) (by omega), idxF, if_neg (by rw [hc]; simp)]; rfl
  ·rw [← ha, List.drop_of_length_le (by omega)]; rfl
theorem qeb {f : FuncId} {p : Pd} {g : Pd → Bool} (hs : ∀ q, VM Try.prog f (pdE p) (pdE p) [encP q, .ptr 0 0] (.bool (g q))) (l : List Pd) (hl : l.length ≤ maxLen) :
 VM Try.prog 63 (pdE p) (pdE p) [.sl 4 (qu l), .fn f [] [.ptr 0 0]] (.bool (l.any g)) := by
 refine qcs c0bu 1 (by simp) (by simp) ?_
 repeat' (first | refine vs_ ?_ | ((first | refine vr_ ?_ | refine qib 0 (qfv hs l hl) ?_ (qiu _ _) (qiu _ _) | (refine cs_ ?_ ?_ <;> intro hc) | refine cj_ ?_ | fail) <;> (try refine ev_ ?_)) | with_reducible exact ti_)
 rw [qr9 g l 0 (by omega)]
def hasP (l : List Pd) (p : Pd) : Bool := l.any fun q => qea p q
theorem qcr (l : List Pd) (p : Pd) : ql Try.prog 20 [.sl 4 (qu l), encP p] (.bool (hasP l p)) := by
 refine qe c0bv (by simp) (by simp only [go_sem]) rfl fun hw => ?_
 have hl := (qc9 hw.1).1
 repeat' (first | refine vs_ ?_ | ((first | refine vr_ ?_ | refine qib 0 (qeb (has1 p) l hl) ?_ (qiu _ _) (qiu _ _) | (refine cs_ ?_ ?_ <;> intro hc) | refine cj_ ?_ | fail) <;> (try refine ev_ ?_)) | with_reducible exact ti_)
 rfl
theorem q7e (l : List Pd) (p : Pd) : ql Try.prog 21 [.sl 4 (qu l), encP p] (.bool (hasP l p)) := by
 refine qe c0bw (by simp) (by simp only [go_sem]) rfl fun hw => ?_
 have hl := (qc9 hw.1).1
 repeat' (first | refine vs_ ?_ | ((first | refine vr_ ?_ | (refine cs_ ?_ ?_ <;> intro hc) | refine cj_ ?_ | simp (disch := omega) only [encs_getN, qb]) <;> (try refine ev_ ?_)) | with_reducible exact ti_)
 refine qs (S := Nat) (fun i => i ≤ l.length ∧ hasP (l.drop i) p = hasP l p) (fun i => (⟨[(0, .sl 4 (qu l)), (3, .ptr 0 0), (5, .int .i64 i)], []⟩, [pdE p])) (fun i => l.length - i) ?_ fun i hi => ?_
 ·refine qk 0 [0] ⟨Nat.zero_le _, rfl⟩ rfl (by simp) ?_ ?_ ?_ <;> (try refine ev_ ?_) <;> (try with_reducible exact ti_) <;> (try simp (disch := omega) only [qb, and_true, true_and])
 ·obtain ⟨hi, ha⟩ := hi
  repeat' (first | refine vs_ ?_ | ((first | refine vr_ ?_ | fail) <;> (try simp (disch := first | omega | (simp only [List.length_set, List.length_append, List.length_cons, List.length_nil]; done) | (simp only [List.length_set, List.length_append, List.length_cons, List.length_nil]; omega)) only [qbd, qb, go_sem, ↓reduceIte])) | ((first | (refine cs_ ?_ ?_ <;> intro hc) | refine cj_ ?_ | simp (disch := omega) only [encs_getN, qb] | refine qa (qd6 _ _) fun _ => ?_ | refine qf (qd6 _ _) ?_) <;> (try refine ev_ ?_)) | with_reducible exact ti_)
  ·rename_i hc; rw [← ha, qmj (by omega), hasP, List.any_cons, qih, hc]; rfl
  ·rename_i hc
   refine qk (i + 1) [0] ⟨⟨by omega, ?_⟩, by omega⟩ rfl (by simp) ?_ ?_ ?_ <;> (try refine ev_ ?_) <;> (try with_reducible exact ti_) <;> (try simp (disch := omega) only [qb, and_true, true_and])
   rw [← ha, qmj (l := l) (i := i) (by omega), hasP, hasP, List.any_cons, qih, hc, Bool.false_or]
  ·rw [← ha, List.drop_of_length_le (by omega)]; rfl
def qh5 (acc : List Pd) : List Pd → List Pd
 | [] => acc
 | x :: r => if hasP acc x = true then qh5 acc r else qh5 (acc ++ [x]) r
theorem qfq (acc : List Pd) {l : List Pd} {i : Nat} (h : i < l.length) : qh5 acc (l.drop i) = if hasP acc (l.getD i P0) = true then qh5 acc (l.drop (i + 1)) else qh5 (acc ++ [l.getD i P0]) (l.drop (i + 1)) := by
 rw [qmj h, qh5]
theorem capP {k : Nat} (h : k ≤ 1000000000) : qc1 k 64 := by unfold qc1; omega
def qfc (l : List Pd) (x : Nat × List Pd) : AF × List Ent := (⟨[(3, accV 0 (qu x.2)), (6, .sl 4 (qu l)), (7, .int .i64 l.length), (8, .int .i64 x.1)], []⟩, accE 4 (qu x.2))
theorem qpf (l : List Pd) (hb : l.length ≤ 1000000) : ql Try.prog 18 [.sl 4 (qu l)] (.sl 4 (qu (qh5 [] l))) := by
 refine qe c0bx (by simp) (by simp only [go_sem]) (qf9 0 _) fun hw => ?_
 have hl := (qc9 hw.1).1
 repeat' (first | refine vs_ ?_ | ((first | refine vr_ ?_ | (refine cs_ ?_ ?_ <;> intro hc) | refine cj_ ?_ | simp (disch := omega) only [encs_getN, qb]) <;> (try refine ev_ ?_)) | with_reducible exact ti_)
 refine qs (S := Nat × List Pd) (fun x => x.1 ≤ l.length ∧ qh5 x.2 (l.drop x.1) = qh5 [] l ∧ x.2.length ≤ x.1) (qfc l) (fun x => l.length - x.1) ?_ fun x hx => ?_
 ·refine qk (0, []) [] ⟨Nat.zero_le _, rfl, Nat.le_refl _⟩ rfl (by simp) ?_ ?_ ?_ <;> simp only [qfc, qkf, qo, qn] <;> (try refine ev_ ?_) <;> (try with_reducible exact ti_) <;> (try simp (disch := omega) only [qb, and_true, true_and])
 ·obtain ⟨i, acc⟩ := x
  obtain ⟨hi, ha, hc⟩ := hx
  dsimp only at hi ha hc
  have hcap : qc1 (acc.length + 1) 64 = True := eq_true (capP (by omega))
  unfold qfc
  by_cases h0 : acc = []
  ·subst h0
   simp only [qkf, qo, qn]
   repeat' (first | refine vs_ ?_ | ((first | refine vr_ ?_ | fail) <;> (try simp (disch := first | omega | (simp only [List.length_set, List.length_append, List.length_cons, List.length_nil]; done) | (simp only [List.length_set, List.length_append, List.length_cons, List.length_nil]; omega)) only [qbd, qb, qbs, go_sem, ↓reduceIte])) | ((first | simp (disch := omega) only [hcap] | (refine cs_ ?_ ?_ <;> intro hc) | refine cj_ ?_ | simp (disch := omega) only [encs_getN, qb] | refine qa (qcr [] _) fun _ => ?_ | refine qf (qcr [] _) ?_) <;> (try refine ev_ ?_)) | with_reducible exact ti_)
   ·rename_i hc
    refine qk (i + 1, [] ++ [l.getD i P0]) [1] ⟨⟨by dsimp only; omega, ?_, by simp⟩, by dsimp only; omega⟩ rfl (by simp) ?_ ?_ ?_ <;> simp only [qfc, List.nil_append, ← qpu, qem, qez] <;> (try refine ev_ ?_) <;> (try with_reducible exact ti_) <;> (try simp (disch := omega) only [qb, and_true, true_and])
    rw [← ha, qfq (i := i) _ (by omega), if_neg (by rw [hc]; simp)]; rfl
   ·rename_i hc
    exact absurd hc (by simp [hasP])
   ·rw [← ha, List.drop_of_length_le (by omega)]; rfl
  ·simp only [qbb (qge h0), qbc (qge h0)]
   repeat' (first | refine vs_ ?_ | ((first | refine vr_ ?_ | fail) <;> (try simp (disch := first | omega | (simp only [List.length_set, List.length_append, List.length_cons, List.length_nil]; done) | (simp only [List.length_set, List.length_append, List.length_cons, List.length_nil]; omega)) only [qbd, qb, go_sem, ↓reduceIte])) | ((first | simp (disch := omega) only [List.take_length] | simp (disch := omega) only [hcap] | (refine cs_ ?_ ?_ <;> intro hc) | refine cj_ ?_ | simp (disch := omega) only [encs_getN, qb] | refine qa (qcr acc _) fun _ => ?_ | refine qf (qcr acc _) ?_) <;> (try refine ev_ ?_)) | with_reducible exact ti_)
   ·rename_i hc
    refine qk (i + 1, acc ++ [l.getD i P0]) [2] ⟨⟨by dsimp only; omega, ?_, by simp; omega⟩, by dsimp only; omega⟩ rfl (by simp) ?_ ?_ ?_ <;> simp only [qfc, ← qi3, qdu, qdr, qhl, List.take_length] <;> (try refine ev_ ?_) <;> (try with_reducible exact ti_) <;> (try simp (disch := omega) only [qb, and_true, true_and])
    ·rw [← ha, qfq (i := i) _ (by omega), if_neg (by rw [hc]; simp)]
    all_goals (simp only [qi3]; exact ⟨qf9 _ _, by rw [qkc]⟩)
   ·rename_i hc
    refine qk (i + 1, acc) [0] ⟨⟨by dsimp only; omega, ?_, by dsimp only; omega⟩, by dsimp only; omega⟩ rfl (by simp) ?_ ?_ ?_ <;> simp only [qfc, qbb (qge h0), qbc (qge h0)] <;> (try refine ev_ ?_) <;> (try with_reducible exact ti_) <;> (try simp (disch := omega) only [qb, and_true, true_and])
    rw [← ha, qfq (i := i) _ (by omega), if_pos hc]
   ·rw [← ha, List.drop_of_length_le (by omega)]; rfl
set_option maxRecDepth 4000

def qe4 : List Pd → List Pd → Bool
 | [], [] => true
 | x :: r, y :: r' => qea x y && qe4 r r'
 | _, _ => false
theorem qkp : ∀ l m, qe4 l m = true ↔ l = m
 | [], [] => by simp [qe4]
 | [], y :: r => by rw [qe4] <;> simp
 | x :: r, [] => by rw [qe4] <;> simp
 | x :: r, y :: r' => by rw [qe4, Bool.and_eq_true, qex, qkp r r']; simp
theorem qqq {l m : List Pd} (h : l.length ≠ m.length) : qe4 l m = false := by
 cases hh : qe4 l m with
 | false => rfl
 | true => rw [(qkp l m).1 hh] at h; exact absurd rfl h
theorem qij {l m : List Pd} {i : Nat} (h : i < l.length) (h' : i < m.length) : qe4 (l.drop i) (m.drop i) = (qea (l.getD i P0) (m.getD i P0) && qe4 (l.drop (i + 1)) (m.drop (i + 1))) := by
 rw [qmj h, qmj h', qe4]
theorem q30 (l m : List Pd) : ql Try.prog 17 [.sl 4 (qu l), .sl 4 (qu m)] (.bool (qe4 l m)) := by
 refine qe c0bm (by simp) (by simp only [go_sem]) rfl fun hw => ?_
 have hl := (qc9 hw.1).1
 repeat' (first | refine vs_ ?_ | ((first | refine vr_ ?_ | (refine cs_ ?_ ?_ <;> intro hc) | refine cj_ ?_ | simp (disch := omega) only [encs_getN, qb]) <;> (try refine ev_ ?_)) | with_reducible exact ti_)
 ·rw [qqq (by omega)]
 have hlm : l.length = m.length := by omega
 refine qs (S := Nat) (fun i => i ≤ l.length ∧ qe4 (l.drop i) (m.drop i) = qe4 l m) (fun i => (⟨[(0, .sl 4 (qu l)), (1, .sl 4 (qu m)), (5, .int .i64 i)], []⟩, [])) (fun i => l.length - i) ?_ fun i hi => ?_
 ·refine qk 0 [] ⟨Nat.zero_le _, rfl⟩ rfl (by simp) ?_ ?_ ?_ <;> (try refine ev_ ?_) <;> (try with_reducible exact ti_) <;> (try simp (disch := omega) only [qb, and_true, true_and])
 ·obtain ⟨hi, ha⟩ := hi
  repeat' (first | refine vs_ ?_ | ((first | refine vr_ ?_ | fail) <;> (try simp (disch := first | omega | (simp only [List.length_set, List.length_append, List.length_cons, List.length_nil]; done) | (simp only [List.length_set, List.length_append, List.length_cons, List.length_nil]; omega)) only [qbd, qb, go_sem, ↓reduceIte])) | ((first | (refine cs_ ?_ ?_ <;> intro hc) | refine cj_ ?_ | simp (disch := omega) only [encs_getN, qb] | refine qa (qd6 _ _) fun _ => ?_ | refine qf (qd6 _ _) ?_) <;> (try refine ev_ ?_)) | with_reducible exact ti_)
  ·rename_i hc; rw [← ha, qij (by omega) (by omega), hc]; rfl
  ·rename_i hc
   refine qk (i + 1) [] ⟨⟨by omega, ?_⟩, by omega⟩ rfl (by simp) ?_ ?_ ?_ <;> (try refine ev_ ?_) <;> (try with_reducible exact ti_) <;> (try simp (disch := omega) only [qb, and_true, true_and])
   rw [← ha, qij (l := l) (m := m) (i := i) (by omega) (by omega), hc, Bool.true_and]
  ·rw [← ha, List.drop_of_length_le (by omega), List.drop_of_length_le (by omega)]; rfl
theorem qhf (p : Pd) : ql Try.prog 61 [encP p] (.bool (decide (p.ty.con = []))) := by
 refine qe c0bn (by simp) (by simp only [go_sem]) rfl fun hw => ?_
 repeat' (first | refine vs_ ?_ | ((first | refine vr_ ?_ | (refine cs_ ?_ ?_ <;> intro hc) | refine cj_ ?_ | fail) <;> (try refine ev_ ?_)) | with_reducible exact ti_)
def qck (p : Pd) : Bool := conW p.cls && qf4 p.ty
theorem qbx {p : Pd} (h1 : szY p.ty ≤ 20000) (h2 : dpY p.ty ≤ 300) : ql Try.prog 27 [encP p] (.bool (qck p)) := by
 refine qe c0bo (by simp) (by simp only [go_sem]) rfl fun hw => ?_
 repeat' (first | refine vs_ ?_ | ((first | refine vr_ ?_ | refine qa (qk4 _) fun _ => ?_ | refine qa (qf1 h1 h2) fun _ => ?_ | (refine cs_ ?_ ?_ <;> intro hc) | refine cj_ ?_ | fail) <;> (try refine ev_ ?_)) | with_reducible exact ti_)
 all_goals simp [qck, *]
def fewP (l : List Pd) : Bool := decide (l.length ≤ 30) && qi5 (l.map Pd.ty)
theorem qgc {l : List Ty} (h : l ≠ []) : q8 l ≠ [] := by cases l with | nil => exact absurd rfl h | cons _ _ => simp [q8]
theorem qg6 : q8 [] = [] := by rw [q8]
theorem qpb (t : Ty) : [encY t] = q8 [t] := by rw [q8, q8]
theorem qjt (l : List Pd) (i : Nat) (h : i < l.length) : (l.map Pd.ty).take (i + 1) = (l.map Pd.ty).take i ++ [(l.getD i P0).ty] := by
 rw [List.take_add_one, List.getElem?_map, List.getElem?_eq_getElem h, List.getD_eq_getElem?_getD, List.getElem?_eq_getElem h]; rfl
theorem capY {k : Nat} (h : k ≤ 1000000000) : qc1 k 48 := by unfold qc1; omega
def qq6 (l : List Pd) (i : Nat) : AF × List Ent := (⟨[(0, .sl 4 (qu l)), (3, accV 0 (q8 ((l.map Pd.ty).take i))), (4, .int .i64 i)], []⟩, accE 3 (q8 ((l.map Pd.ty).take i)))
theorem qbbf (l : List Pd) : ql Try.prog 15 [.sl 4 (qu l)] (.int .i64 (if fewP l = true then 1 else 0)) := by
 refine qe c0bp (by simp) (by simp only [go_sem]) rfl fun hw => ?_
 have hl := (qc9 hw.1).1
 repeat' (first | refine vs_ ?_ | ((first | refine vr_ ?_ | (refine cs_ ?_ ?_ <;> intro hc) | refine cj_ ?_ | simp (disch := omega) only [encs_getN, qb]) <;> (try refine ev_ ?_)) | with_reducible exact ti_)
 ·rw [if_neg (by simp [fewP]; omega)]
 have h30 : l.length ≤ 30 := by omega
 refine qs (S := Nat) (fun i => i ≤ l.length) (qq6 l) (fun i => l.length - i) ?_ fun i hi => ?_
 ·refine qk 0 [] (Nat.zero_le _) rfl (by simp) ?_ ?_ ?_ <;> simp only [qq6, List.take_zero, qg6, qo, qn] <;> (try refine ev_ ?_) <;> (try with_reducible exact ti_) <;> (try simp (disch := omega) only [qb, and_true, true_and])
 ·have hfin : fewP l = qi5 (l.map Pd.ty) := by rw [fewP, decide_eq_true h30, Bool.true_and]
  have hlm : ((l.map Pd.ty).take i).length = i := by rw [List.length_take, List.length_map]; omega
  have hcap : qc1 (i + 1) 48 = True := eq_true (capY (by omega))
  unfold qq6
  by_cases hlt : i < l.length
  ·have hs := qjt l i hlt
   by_cases h0 : i = 0
   ·subst h0
    simp only [List.take_zero, qg6, qo, qn]
    repeat' (first | refine vs_ ?_ | ((first | refine vr_ ?_ | fail) <;> (try simp (disch := first | omega | (simp only [List.length_set, List.length_append, List.length_cons, List.length_nil]; done) | (simp only [List.length_set, List.length_append, List.length_cons, List.length_nil]; omega)) only [qbd, qb, qfm, go_sem, ↓reduceIte])) | ((first | simp (disch := omega) only [(show qc1 1 48 = True from eq_true (capY (by omega)))] | (refine cs_ ?_ ?_ <;> intro hc) | refine cj_ ?_ | simp (disch := omega) only [encs_getN, qb]) <;> (try refine ev_ ?_)) | with_reducible exact ti_)
    ·refine qk 1 [0] ⟨by omega, by omega⟩ rfl (by simp) ?_ ?_ ?_ <;> simp only [qq6, hs, List.take_zero, List.nil_append, ← qpb, qem, qez] <;> (try refine ev_ ?_) <;> (try with_reducible exact ti_) <;> (try simp (disch := omega) only [qb, and_true, true_and])
     all_goals (rw [qmd])
    ·omega
   ·have hne : (l.map Pd.ty).take i ≠ [] := fun h => h0 (by rw [← hlm, h]; rfl)
    simp only [qbb (qgc hne), qbc (qgc hne), qb0, hlm]
    repeat' (first | refine vs_ ?_ | ((first | refine vr_ ?_ | fail) <;> (try simp (disch := first | omega | (simp only [List.length_set, List.length_append, List.length_cons, List.length_nil]; done) | (simp only [List.length_set, List.length_append, List.length_cons, List.length_nil]; omega)) only [qbd, qb, qfm, qb0, hlm, go_sem, ↓reduceIte])) | ((first | simp (disch := omega) only [hcap] | (refine cs_ ?_ ?_ <;> intro hc) | refine cj_ ?_ | simp (disch := omega) only [encs_getN, qb]) <;> (try refine ev_ ?_)) | with_reducible exact ti_)
    ·have hl2 : q8 ((l.map Pd.ty).take (i + 1)) = q8 ((l.map Pd.ty).take i) ++ [encY (l.getD i P0).ty] := by rw [hs, qlh]
     refine qk (i + 1) [1] ⟨by omega, by omega⟩ rfl (by simp) ?_ ?_ ?_ <;> simp only [qq6, hl2, qdu, qdr, qb0, hlm] <;> (try refine ev_ ?_) <;> (try with_reducible exact ti_) <;> (try simp (disch := omega) only [qb, and_true, true_and])
     all_goals (simp only [qlh]; exact ⟨qer _ _, by rw [qkw]⟩)
    ·omega
  ·have hend : (l.map Pd.ty).take i = l.map Pd.ty := List.take_of_length_le (by rw [List.length_map]; omega)
   have hf := qbbh (l.map Pd.ty)
   rw [hend, hfin]
   by_cases h0 : l.map Pd.ty = []
   ·rw [h0] at hf ⊢
    simp only [qg6, qo, qn]
    repeat' (first | refine vs_ ?_ | ((first | refine vr_ ?_ | fail) <;> (try simp only [qbs, go_sem, ↓reduceIte])) | ((first | (refine cs_ ?_ ?_ <;> intro hc) | refine cj_ ?_ | simp (disch := omega) only [encs_getN, qb] | refine qa hf fun _ => ?_) <;> (try refine ev_ ?_)) | with_reducible exact ti_)
    all_goals omega
   ·simp only [qbb (qgc h0), qbc (qgc h0), qb0]
    repeat' (first | refine vs_ ?_ | ((first | refine vr_ ?_ | fail) <;> (try simp only [qb0, go_sem, ↓reduceIte])) | ((first | (refine cs_ ?_ ?_ <;> intro hc) | refine cj_ ?_ | simp (disch := omega) only [encs_getN, qb] | refine qa hf fun _ => ?_) <;> (try refine ev_ ?_)) | with_reducible exact ti_)
    all_goals omega
set_option maxRecDepth 4000

theorem qft (acc : List Int) : ∀ (l b : List Int), qm acc (qm b l) = qm (qm acc b) l
 | [], b => rfl
 | x :: l, b => by
   rw [qm]
   by_cases hx : x ∈ b
   ·rw [if_pos hx, qft acc l b, qm, if_pos ((qsp b acc x).2 (.inr hx))]
   ·rw [if_neg hx, qft acc l (b ++ [x]), qdp]
    show qm (qm (qm acc b) [x]) l = qm (qm acc b) ([x] ++ l)
    rw [qdp]
def qde (l : List Pd) : List Int := l.flatMap fun p => varY p.ty
theorem qoj (l : List Pd) (i : Nat) (h : i < l.length) : qde (l.take (i + 1)) = qde (l.take i) ++ varY (l.getD i P0).ty := by
 have h1 : l.take (i + 1) = l.take i ++ [l.getD i P0] := by
  rw [List.take_add_one, List.getD_eq_getElem?_getD, List.getElem?_eq_getElem h]; rfl
 rw [h1]; simp [qde]
theorem qsg (l : List Pd) : (qde l).length ≤ szYs (l.map Pd.ty) := by
 induction l with
 | nil => simp [qde]
 | cons x r ih =>
   have := qjz x.ty
   simp only [qde, List.flatMap_cons, List.length_append, List.map_cons, szYs] at ih ⊢
   omega
def qml (l : List Pd) (x : Nat × List Int) : AF × List Ent := (⟨[(3, accV 0 (ints x.2)), (8, .sl 4 (qu l)), (9, .int .i64 l.length), (10, .int .i64 x.1)], []⟩, accE 1 (ints x.2))
def qc6 (l : List Pd) (i : Nat) (vs : List Int) (x : Nat × List Int) : AF × List Ent :=
 (⟨[(3, accV 0 (ints x.2)), (8, .sl 4 (qu l)), (9, .int .i64 l.length), (10, .int .i64 i), (16, .sl 1 (ints vs)), (17, .int .i64 vs.length), (18, .int .i64 x.1)], []⟩, accE 1 (ints x.2))
theorem qi1 (l : List Pd) (i : Nat) (vs : List Int) (hv : vs.length ≤ maxLen) (acc0 : List Int) (hb : acc0.length + vs.length ≤ 1000000) {Q : VE → AF → List Ent → Prop} (hQ : Q (.ext 2) ⟨(19, .bool false) :: (qc6 l i vs (vs.length, qm acc0 vs)).1.tm, []⟩ (qc6 l i vs (vs.length, qm acc0 vs)).2)
 (x : Nat × List Int) (hx : x.1 ≤ vs.length ∧ qm x.2 (vs.drop x.1) = qm acc0 vs ∧ x.2.length ≤ acc0.length + x.1) :
 VI Try.prog none 33 0 qp0 (lq (fun s' => (s'.1 ≤ vs.length ∧ qm s'.2 (vs.drop s'.1) = qm acc0 vs ∧ s'.2.length ≤ acc0.length + s'.1) ∧ vs.length - s'.1 < vs.length - x.1) (qc6 l i vs) 0 Q) (qc6 l i vs x).1 (qc6 l i vs x).2 := by
 obtain ⟨j, acc⟩ := x
 obtain ⟨hj, ha, hc⟩ := hx
 dsimp only at hj ha hc
 have hcap : qc1 (acc.length + 1) 8 = True := eq_true (capI (by omega))
 have hend : ¬ j < vs.length → j = vs.length ∧ acc = qm acc0 vs := fun h => ⟨by omega, by rw [← ha, List.drop_of_length_le (by omega)]; rfl⟩
 unfold qc6
 by_cases h0 : acc = []
 ·simp only [h0, qbn, qo, qn]
  repeat' (first | refine vs_ ?_ | ((first | refine vr_ ?_ | fail) <;> (try simp (disch := first | omega | (simp only [List.length_set, List.length_append, List.length_cons, List.length_nil]; done) | (simp only [List.length_set, List.length_append, List.length_cons, List.length_nil]; omega)) only [qdy, qb, qbs, go_sem, ↓reduceIte])) | ((first | simp (disch := omega) only [hcap] | (refine cs_ ?_ ?_ <;> intro hc) | refine cj_ ?_ | simp (disch := omega) only [encs_getN, qb] | refine qa (qba [] _) fun _ => ?_ | refine qf (qba [] _) ?_) <;> (try refine ev_ ?_)) | with_reducible exact ti_)
  ·refine qk (j + 1, [] ++ [vs.getD j 0]) [0] ⟨⟨by dsimp only; omega, ?_, by simp; omega⟩, by dsimp only; omega⟩ rfl (by simp) ?_ ?_ ?_ <;> simp only [qc6, List.nil_append, ← qvv, qem, qez] <;> (try refine ev_ ?_) <;> (try with_reducible exact ti_) <;> (try simp (disch := omega) only [qb, and_true, true_and])
   rw [← ha, h0, qfj (i := j) _ (by omega), if_neg (by assumption)]; rfl
  ·exact absurd (by assumption : vs.getD j 0 ∈ []) (by simp)
  ·obtain ⟨e1, e2⟩ := hend (by omega)
   rw [h0] at e2
   rw [← e2, ← e1] at hQ
   simpa only [qc6, qbn, qo, qn, ← e1] using hQ
 ·simp only [qbb (qp h0), qbc (qp h0)]
  repeat' (first | refine vs_ ?_ | ((first | refine vr_ ?_ | fail) <;> (try simp (disch := first | omega | (simp only [List.length_set, List.length_append, List.length_cons, List.length_nil]; done) | (simp only [List.length_set, List.length_append, List.length_cons, List.length_nil]; omega)) only [qdy, qb, go_sem, ↓reduceIte])) | ((first | simp (disch := omega) only [hcap] | (refine cs_ ?_ ?_ <;> intro hc) | refine cj_ ?_ | simp (disch := omega) only [encs_getN, qb] | refine qa (qba acc _) fun _ => ?_ | refine qf (qba acc _) ?_) <;> (try refine ev_ ?_)) | with_reducible exact ti_)
  ·refine qk (j + 1, acc ++ [vs.getD j 0]) [1] ⟨⟨by dsimp only; omega, ?_, by simp; omega⟩, by dsimp only; omega⟩ rfl (by simp) ?_ ?_ ?_ <;> simp only [qc6, ← qhp, qdu, qdr, qbo] <;> (try refine ev_ ?_) <;> (try with_reducible exact ti_) <;> (try simp (disch := omega) only [qb, and_true, true_and])
   ·rw [← ha, qfj (i := j) _ (by omega), if_neg (by assumption)]
   all_goals (simp only [qhp]; exact ⟨qfl _ _, by rw [qj5]⟩)
  ·refine qk (j + 1, acc) [0] ⟨⟨by dsimp only; omega, ?_, by dsimp only; omega⟩, by dsimp only; omega⟩ rfl (by simp) ?_ ?_ ?_ <;> simp only [qc6, qbb (qp h0), qbc (qp h0)] <;> (try refine ev_ ?_) <;> (try with_reducible exact ti_) <;> (try simp (disch := omega) only [qb, and_true, true_and])
   rw [← ha, qfj (i := j) _ (by omega), if_pos (by assumption)]
  ·obtain ⟨e1, e2⟩ := hend (by omega)
   rw [← e2, ← e1] at hQ
   simpa only [qc6, qbb (qp h0), qbc (qp h0), qbo, ← e1] using hQ
theorem qov (l : List Pd) (hb : szYs (l.map Pd.ty) ≤ 500000) : ql Try.prog 23 [.sl 4 (qu l)] (.sl 1 (ints (qm [] (qde l)))) := by
 refine qe c0bl (by simp) (by simp only [go_sem]) (qfl 0 _) fun hw => ?_
 have hl := (qc9 hw.1).1
 have hvl := qsg l
 repeat' (first | refine vs_ ?_ | ((first | refine vr_ ?_ | (refine cs_ ?_ ?_ <;> intro hc) | refine cj_ ?_ | simp (disch := omega) only [encs_getN, qb]) <;> (try refine ev_ ?_)) | with_reducible exact ti_)
 refine qs (S := Nat × List Int) (fun x => x.1 ≤ l.length ∧ x.2 = qm [] (qde (l.take x.1))) (qml l) (fun x => l.length - x.1) ?_ fun x hx => ?_
 ·refine qk (0, []) [] ⟨Nat.zero_le _, by simp [qde, qm]⟩ rfl (by simp) ?_ ?_ ?_ <;> simp only [qml, qbn, qo, qn] <;> (try refine ev_ ?_) <;> (try with_reducible exact ti_) <;> (try simp (disch := omega) only [qb, and_true, true_and])
 ·obtain ⟨i, acc⟩ := x
  obtain ⟨hi, ha⟩ := hx
  dsimp only at hi ha
  unfold qml
  by_cases hlt : i < l.length
  ·have hsz : szY (l.getD i P0).ty ≤ szYs (l.map Pd.ty) := qyg (List.mem_map_of_mem (qja hlt))
   have hv := qo0 (l.getD i P0).ty (by omega)
   generalize hvs : qm [] (varY (l.getD i P0).ty) = vs at hv
   have hvl2 : vs.length ≤ szY (l.getD i P0).ty := by rw [← hvs]; have := qlf (varY (l.getD i P0).ty) []; have := qjz (l.getD i P0).ty; simp only [List.length_nil] at *; omega
   have hal : acc.length ≤ 500000 := by
    rw [ha]
    have h1 := qlf (qde (l.take i)) []
    have h3 : qde l = qde (l.take i) ++ qde (l.drop i) := by rw [qde, qde, qde, ← List.flatMap_append, List.take_append_drop]
    have h2 := congrArg List.length h3
    rw [List.length_append] at h2
    simp only [List.length_nil] at h1
    omega
   have hnext : qm acc vs = qm [] (qde (l.take (i + 1))) := by rw [qoj l i hlt, qdp, ← ha, ← hvs, qft]; rfl
   have hm : vs.length ≤ maxLen := by unfold maxLen; omega
   by_cases h0 : acc = []
   ·simp only [h0, qbn, qo, qn]
    repeat' (first | refine vs_ ?_ | ((first | refine vr_ ?_ | fail) <;> (try simp (disch := first | omega | (simp only [List.length_set, List.length_append, List.length_cons, List.length_nil]; done) | (simp only [List.length_set, List.length_append, List.length_cons, List.length_nil]; omega)) only [qbd, qb, qfm, go_sem, ↓reduceIte])) | ((first | (refine cs_ ?_ ?_ <;> intro hc) | refine cj_ ?_ | simp (disch := omega) only [encs_getN, qb] | refine qa hv fun _ => ?_) <;> (try refine ev_ ?_)) | with_reducible exact ti_)
    ·refine qs (S := Nat × List Int) (fun s' => s'.1 ≤ vs.length ∧ qm s'.2 (vs.drop s'.1) = qm acc vs ∧ s'.2.length ≤ acc.length + s'.1) (qc6 l i vs) (fun x => vs.length - x.1) ?_ fun x hx => ?_
     ·refine qk (0, acc) [] ⟨Nat.zero_le _, rfl, Nat.le_refl _⟩ rfl (by simp) ?_ ?_ ?_ <;> simp only [qc6, h0, qbn, qo, qn] <;> (try refine ev_ ?_) <;> (try with_reducible exact ti_) <;> (try simp (disch := omega) only [qb, and_true, true_and])
     ·refine qi1 l i vs hm acc (by omega) ?_ x hx
      by_cases h1 : qm acc vs = []
      ·simp only [qc6, h1, qbn, qo, qn]
       (refine ev_ ?_; (try with_reducible exact ti_))
       repeat' (first | refine vs_ ?_ | ((first | refine vr_ ?_ | fail) <;> (try simp (disch := first | omega | (simp only [List.length_set, List.length_append, List.length_cons, List.length_nil]; done) | (simp only [List.length_set, List.length_append, List.length_cons, List.length_nil]; omega)) only [qb, go_sem, ↓reduceIte])) | ((first | (refine cs_ ?_ ?_ <;> intro hc) | refine cj_ ?_ | simp (disch := omega) only [encs_getN, qb]) <;> (try refine ev_ ?_)) | with_reducible exact ti_)
       refine qk (i + 1, qm acc vs) [] ⟨⟨by dsimp only; omega, hnext⟩, by dsimp only; omega⟩ rfl (by simp) ?_ ?_ ?_ <;> simp only [qml, h1, qbn, qo, qn] <;> (try refine ev_ ?_) <;> (try with_reducible exact ti_) <;> (try simp (disch := omega) only [qb, and_true, true_and])
      ·simp only [qc6, qbb (qp h1), qbc (qp h1), qbo]
       (refine ev_ ?_; (try with_reducible exact ti_))
       repeat' (first | refine vs_ ?_ | ((first | refine vr_ ?_ | fail) <;> (try simp (disch := first | omega | (simp only [List.length_set, List.length_append, List.length_cons, List.length_nil]; done) | (simp only [List.length_set, List.length_append, List.length_cons, List.length_nil]; omega)) only [qb, go_sem, ↓reduceIte])) | ((first | (refine cs_ ?_ ?_ <;> intro hc) | refine cj_ ?_ | simp (disch := omega) only [encs_getN, qb]) <;> (try refine ev_ ?_)) | with_reducible exact ti_)
       refine qk (i + 1, qm acc vs) [0] ⟨⟨by dsimp only; omega, hnext⟩, by dsimp only; omega⟩ rfl (by simp) ?_ ?_ ?_ <;> simp only [qml, qbb (qp h1), qbc (qp h1), qbo] <;> (try refine ev_ ?_) <;> (try with_reducible exact ti_) <;> (try simp (disch := omega) only [qb, and_true, true_and])
    ·omega
   ·simp only [qbb (qp h0), qbc (qp h0)]
    repeat' (first | refine vs_ ?_ | ((first | refine vr_ ?_ | fail) <;> (try simp (disch := first | omega | (simp only [List.length_set, List.length_append, List.length_cons, List.length_nil]; done) | (simp only [List.length_set, List.length_append, List.length_cons, List.length_nil]; omega)) only [qbd, qb, qfm, go_sem, ↓reduceIte])) | ((first | (refine cs_ ?_ ?_ <;> intro hc) | refine cj_ ?_ | simp (disch := omega) only [encs_getN, qb] | refine qa hv fun _ => ?_) <;> (try refine ev_ ?_)) | with_reducible exact ti_)
    ·refine qs (S := Nat × List Int) (fun s' => s'.1 ≤ vs.length ∧ qm s'.2 (vs.drop s'.1) = qm acc vs ∧ s'.2.length ≤ acc.length + s'.1) (qc6 l i vs) (fun x => vs.length - x.1) ?_ fun x hx => ?_
     ·refine qk (0, acc) [0] ⟨Nat.zero_le _, rfl, Nat.le_refl _⟩ rfl (by simp) ?_ ?_ ?_ <;> simp only [qc6, qbb (qp h0), qbc (qp h0), qbo] <;> (try refine ev_ ?_) <;> (try with_reducible exact ti_) <;> (try simp (disch := omega) only [qb, and_true, true_and])
     ·refine qi1 l i vs hm acc (by omega) ?_ x hx
      by_cases h1 : qm acc vs = []
      ·simp only [qc6, h1, qbn, qo, qn]
       (refine ev_ ?_; (try with_reducible exact ti_))
       repeat' (first | refine vs_ ?_ | ((first | refine vr_ ?_ | fail) <;> (try simp (disch := first | omega | (simp only [List.length_set, List.length_append, List.length_cons, List.length_nil]; done) | (simp only [List.length_set, List.length_append, List.length_cons, List.length_nil]; omega)) only [qb, go_sem, ↓reduceIte])) | ((first | (refine cs_ ?_ ?_ <;> intro hc) | refine cj_ ?_ | simp (disch := omega) only [encs_getN, qb]) <;> (try refine ev_ ?_)) | with_reducible exact ti_)
       refine qk (i + 1, qm acc vs) [] ⟨⟨by dsimp only; omega, hnext⟩, by dsimp only; omega⟩ rfl (by simp) ?_ ?_ ?_ <;> simp only [qml, h1, qbn, qo, qn] <;> (try refine ev_ ?_) <;> (try with_reducible exact ti_) <;> (try simp (disch := omega) only [qb, and_true, true_and])
      ·simp only [qc6, qbb (qp h1), qbc (qp h1), qbo]
       (refine ev_ ?_; (try with_reducible exact ti_))
       repeat' (first | refine vs_ ?_ | ((first | refine vr_ ?_ | fail) <;> (try simp (disch := first | omega | (simp only [List.length_set, List.length_append, List.length_cons, List.length_nil]; done) | (simp only [List.length_set, List.length_append, List.length_cons, List.length_nil]; omega)) only [qb, go_sem, ↓reduceIte])) | ((first | (refine cs_ ?_ ?_ <;> intro hc) | refine cj_ ?_ | simp (disch := omega) only [encs_getN, qb]) <;> (try refine ev_ ?_)) | with_reducible exact ti_)
       refine qk (i + 1, qm acc vs) [0] ⟨⟨by dsimp only; omega, hnext⟩, by dsimp only; omega⟩ rfl (by simp) ?_ ?_ ?_ <;> simp only [qml, qbb (qp h1), qbc (qp h1), qbo] <;> (try refine ev_ ?_) <;> (try with_reducible exact ti_) <;> (try simp (disch := omega) only [qb, and_true, true_and])
    ·omega
  ·have hend : acc = qm [] (qde l) := by rw [ha, List.take_of_length_le (by omega)]
   rw [← hend]
   by_cases h0 : acc = []
   ·simp only [h0, qbn, qo, qn]
    repeat' (first | refine vs_ ?_ | ((first | refine vr_ ?_ | (refine cs_ ?_ ?_ <;> intro hc) | refine cj_ ?_ | simp (disch := omega) only [encs_getN, qb]) <;> (try refine ev_ ?_)) | with_reducible exact ti_)
    all_goals omega
   ·simp only [qbb (qp h0), qbc (qp h0)]
    repeat' (first | refine vs_ ?_ | ((first | refine vr_ ?_ | (refine cs_ ?_ ?_ <;> intro hc) | refine cj_ ?_ | simp (disch := omega) only [encs_getN, qb]) <;> (try refine ev_ ?_)) | with_reducible exact ti_)
    all_goals omega
/-! the reference's -/
set_option maxRecDepth 4000

theorem qp9 (s : List UInt8) : ql Try.prog 108 [.str s] (.bool false) := by
 refine qe c0bh (by simp) (by simp only [go_sem]) rfl fun hw => ?_
 repeat' (first | refine vs_ ?_ | ((first | refine vr_ ?_ | (refine cs_ ?_ ?_ <;> intro hc) | refine cj_ ?_ | fail) <;> (try refine ev_ ?_)) | with_reducible exact ti_)
def cmpW (a b : List UInt8) : Int := if Op.bytesLess a b = true then -1 else if a = b then 0 else 1
theorem qhc (a b : List UInt8) : ql Try.prog 74 [.str a, .str b] (.int .i64 (cmpW a b)) := by
 refine qe c0bi (by simp) (by simp only [go_sem]) rfl fun hw => ?_
 repeat' (first | refine vs_ ?_ | ((first | refine vr_ ?_ | refine qa (qp9 _) fun _ => ?_ | (refine cs_ ?_ ?_ <;> intro hc) | refine cj_ ?_ | fail) <;> (try refine ev_ ?_)) | with_reducible exact ti_)
 ·rw [cmpW, if_pos (by assumption)]
 ·have h1 : Op.bytesLess a b = false := by assumption
  have h2 : (Op.bytesLess a b || decide (a = b)) = false := by assumption
  rw [h1, Bool.false_or, decide_eq_false_iff_not] at h2; rw [cmpW, if_neg (by rw [h1]; simp), if_neg h2]
 ·have h1 : Op.bytesLess a b = false := by assumption
  have h2 : (Op.bytesLess a b || decide (a = b)) = true := by assumption
  rw [h1, Bool.false_or, decide_eq_true_eq] at h2; rw [cmpW, if_neg (by rw [h1]; simp), if_pos h2]
def orW : List Int → Int
 | [] => 0
 | x :: r => if x = 0 then orW r else x
theorem qnl {l : List Int} {i : Nat} (h : i < l.length) : orW (l.drop i) = if l.getD i 0 = 0 then orW (l.drop (i + 1)) else l.getD i 0 := by rw [qln h, orW]
theorem qbah (l : List Int) : ql Try.prog 73 [.sl 1 (ints l)] (.int .i64 (orW l)) := by
 refine qe c0bj (by simp) (by simp only [go_sem]) rfl fun hw => ?_
 have hl : l.length ≤ maxLen := by have := hw.1.1; rwa [qbo] at this
 repeat' (first | refine vs_ ?_ | ((first | refine vr_ ?_ | (refine cs_ ?_ ?_ <;> intro hc) | refine cj_ ?_ | simp (disch := omega) only [encs_getN, qb]) <;> (try refine ev_ ?_)) | with_reducible exact ti_)
 refine qs (S := Nat) (fun i => i ≤ l.length ∧ orW (l.drop i) = orW l) (fun i => (⟨[(3, .int .i64 0), (6, .sl 1 (ints l)), (7, .int .i64 l.length), (8, .int .i64 i)], []⟩, [])) (fun i => l.length - i) ?_ fun i hi => ?_
 ·refine qk 0 [] ⟨Nat.zero_le _, rfl⟩ rfl (by simp) ?_ ?_ ?_ <;> (try refine ev_ ?_) <;> (try with_reducible exact ti_) <;> (try simp (disch := omega) only [qb, and_true, true_and])
 ·obtain ⟨hi, ha⟩ := hi
  repeat' (first | refine vs_ ?_ | ((first | refine vr_ ?_ | fail) <;> (try simp (disch := first | omega | (simp only [List.length_set, List.length_append, List.length_cons, List.length_nil]; done) | (simp only [List.length_set, List.length_append, List.length_cons, List.length_nil]; omega)) only [qdy, qb, go_sem, ↓reduceIte])) | ((first | (refine cs_ ?_ ?_ <;> intro hc) | refine cj_ ?_ | simp (disch := omega) only [encs_getN, qb]) <;> (try refine ev_ ?_)) | with_reducible exact ti_)
  ·rw [← ha, qnl (by omega), if_neg (by assumption)]
  ·refine qk (i + 1) [] ⟨⟨by omega, ?_⟩, by omega⟩ rfl (by simp) ?_ ?_ ?_ <;> (try refine ev_ ?_) <;> (try with_reducible exact ti_) <;> (try simp (disch := omega) only [qb, and_true, true_and])
   rw [← ha, qnl (i := i) (by omega), if_pos (by assumption)]
  ·rw [← ha, List.drop_of_length_le (by omega)]; rfl
def cmpP (a b : Pd) : Int := orW [cmpW a.cls b.cls, cmpW (qbi a.ty) (qbi b.ty)]
theorem qc0 {a b : Pd} (h1 : szY a.ty ≤ 20000) (h2 : dpY a.ty ≤ 300) (h3 : szY b.ty ≤ 20000) (h4 : dpY b.ty ≤ 300) (h5 : (qbi a.ty).length ≤ Big) (h6 : (qbi b.ty).length ≤ Big) : ql Try.prog 28 [encP a, encP b] (.int .i64 (cmpP a b)) := by
 refine qe c0bk (by simp) (by simp only [go_sem]) rfl fun hw => ?_
 have e := qbah [cmpW a.cls b.cls, cmpW (qbi a.ty) (qbi b.ty)]
 simp only [ints, List.map_cons, List.map_nil] at e
 repeat' (first | refine vs_ ?_ | ((first | refine vr_ ?_ | fail) <;> (try simp only [qfm, go_sem, ↓reduceIte])) | ((first | (refine cs_ ?_ ?_ <;> intro hc) | refine cj_ ?_ | fail | refine qa (qhc _ _) fun _ => ?_ | refine qa (qcy h1 h2 h5) fun _ => ?_ | refine qa (qcy h3 h4 h6) fun _ => ?_ | refine qa e fun _ => ?_ | refine qf (qhc _ _) ?_ | refine qf (qcy h1 h2 h5) ?_ | refine qf (qcy h3 h4 h6) ?_ | refine qf e ?_) <;> (try refine ev_ ?_)) | with_reducible exact ti_)
 rfl
end Go.Proofs.Ytfpobiheiloamaa
