/- Texts of this proof, joined. -/
import Derived.Test.YtlahgbhhejkgbaaRaq

/- rows of integers: whether a number is there, each once -/
set_option maxRecDepth 4000
namespace Go.Proofs.Ytlahgbhhejkgbaa
open Go Go.RowKit Go.V
set_option linter.unusedVariables false
set_option linter.unusedSimpArgs false

def ints (l : List Int) : List AV := l.map (AV.int .i64)
theorem qlc (l : List Int) : (ints l).length = l.length := by simp [ints]
theorem qmc (k : Nat) (l : List Int) : AV.bds k (ints l) = true := by rw [ints, qcy]; simp [AV.bd]
theorem qqt (σ : Nat → Nat) (l : List Int) : AV.rens σ (ints l) = ints l := qm (m := 0) (fun i hi => by omega) _ (qmc 0 l)
theorem qmy {l : List Int} {i : Nat} (h : i < l.length) : (ints l).getD i .junk = .int .i64 (l.getD i 0) := by
 rw [ints, List.getD_eq_getElem?_getD, List.getElem?_map, List.getElem?_eq_getElem h, List.getD_eq_getElem?_getD, List.getElem?_eq_getElem h]; rfl
theorem qx4 (l : List Int) (v : Int) : ints l ++ [.int .i64 v] = ints (l ++ [v]) := by simp [ints]
theorem qry : ints [] = [] := rfl
theorem qhh {l : List Int} (h : l ≠ []) : ints l ≠ [] := by cases l with | nil => exact absurd rfl h | cons _ _ => simp [ints]
attribute [go_sem] qlc qmc qqt cond_false cond_true
theorem qbkg {l : List Int} {i : Nat} (h : i < l.length) : l.drop i = l.getD i 0 :: l.drop (i + 1) := by
 rw [List.drop_eq_getElem_cons h, List.getD_eq_getElem?_getD, List.getElem?_eq_getElem h]; rfl
theorem capI {k : Nat} (h : k ≤ 1000000000) : qc8 k 8 := by unfold qc8; omega

def idxW (v : Int) : List Int → Int → Int
 | [], _ => -1
 | x :: r, k => if v = x then k else idxW v r (k + 1)
theorem qv6 (v : Int) : ∀ (l : List Int) (k : Int), 0 ≤ k → (decide (0 ≤ idxW v l k) = decide (v ∈ l))
 | [], k, h => by simp [idxW]
 | x :: r, k, h => by
   rw [idxW]
   by_cases hx : v = x
   ·simp [hx, h]
   ·rw [if_neg hx, qv6 v r (k + 1) (by omega)]; simp [hx]
theorem qn3 (l : List Int) (v : Int) : qp Try.prog 69 [.sl 1 (ints l), .int .i64 v] (.int .i64 (idxW v l 0)) := by
 refine qh c0bo (by simp) (by simp only [go_sem]) rfl fun hw => ?_
 have hl : l.length ≤ maxLen := by have := hw.1.1; rwa [qlc] at this
 repeat' (first | refine vs_ ?_ | ((first | refine vr_ ?_ | (refine cs_ ?_ ?_ <;> intro hc) | refine cj_ ?_ | simp (disch := omega) only [encs_getN, qb]) <;> (try refine ev_ ?_)) | with_reducible exact ti_)
 refine qu (S := Nat) (fun i => i ≤ l.length ∧ idxW v (l.drop i) i = idxW v l 0) (fun i => (⟨[(0, .sl 1 (ints l)), (1, .int .i64 v), (7, .int .i64 l.length), (8, .int .i64 i)], []⟩, [])) (fun i => l.length - i) ?_ fun i hi => ?_
 ·refine qn 0 [] ⟨Nat.zero_le _, rfl⟩ rfl (by simp) ?_ ?_ ?_ <;> (try refine ev_ ?_) <;> (try with_reducible exact ti_) <;> (try simp (disch := omega) only [qb, and_true, true_and])
 ·obtain ⟨hi, ha⟩ := hi
  repeat' (first | refine vs_ ?_ | ((first | refine vr_ ?_ | fail) <;> (try simp (disch := first | omega | (simp only [List.length_set, List.length_append, List.length_cons, List.length_nil]; done) | (simp only [List.length_set, List.length_append, List.length_cons, List.length_nil]; omega)) only [qmy, qb, go_sem, ↓reduceIte])) | ((first | (refine cs_ ?_ ?_ <;> intro hc) | refine cj_ ?_ | simp (disch := omega) only [encs_getN, qb]) <;> (try refine ev_ ?_)) | with_reducible exact ti_)
  ·rw [← ha, qbkg (by omega), idxW, if_pos (by assumption)]
  ·refine qn (i + 1) [] ⟨⟨by omega, ?_⟩, by omega⟩ rfl (by simp) ?_ ?_ ?_ <;> (try refine ev_ ?_) <;> (try with_reducible exact ti_) <;> (try simp (disch := omega) only [qb, and_true, true_and])
   rw [← ha, qbkg (l := l) (i := i) (by omega), idxW, if_neg (by assumption)]; rfl
  ·rw [← ha, List.drop_of_length_le (by omega)]; rfl
theorem qew (l : List Int) (v : Int) : qp Try.prog 46 [.sl 1 (ints l), .int .i64 v] (.bool (decide (v ∈ l))) := by
 refine qh c0bp (by simp) (by simp only [go_sem]) rfl fun hw => ?_
 repeat' (first | refine vs_ ?_ | ((first | refine vr_ ?_ | refine qa (qn3 _ _) fun _ => ?_ | (refine cs_ ?_ ?_ <;> intro hc) | refine cj_ ?_ | fail) <;> (try refine ev_ ?_)) | with_reducible exact ti_)
 rw [qv6 v l 0 (by omega)]
/-! each once -/
theorem qgt {H : List Ent} {n : Nat} : co H (.sl n) .nils = .sl n [] := Eq.trans rfl rfl
/-! all variables -/
/-! the program's: a walk that gathers -/
def outE (l : List Int) : Ent := bun (.blk [accV 1 (ints l)] :: accE 1 (ints l))
def outN (l : List Int) (t : Ty) : List Int := if t.con = [] then (if t.var ∈ l then l else l ++ [t.var]) else l
theorem qe5 {H' : List Ent} {l : List Int} {r : AV} (k : Nat) (h0 : l ≠ []) (hk : 0 < k) (hl : k < H'.length) (e0 : ent H' 0 = .blk [.row k l.length]) (e1 : ent H' k = .app 1 (ints l)) (hr : r.bd 1 = true) :
 qcc (fun H' o => H' = [outE l] ∧ o = .val r) H' (.val r) := by
 refine ⟨[.blk [.row 1 l.length], .app 1 (ints l)], [0, k], rfl, by simp, by simp; omega, ?_, hr, ?_, rfl⟩
 ·simp only [qer, List.length_cons, List.length_nil, Ent.bd, AV.bds, AV.bd, Ent.ren, AV.rens, AV.ren, e0, e1, qmc, qqt]
  exact ⟨⟨by omega, rfl, rfl⟩, ⟨hl, trivial, trivial⟩, trivial⟩
 ·rw [outE, qlh (qhh h0), qmi (qhh h0), qlc]
theorem qsv {H' : List Ent} {r : AV} (hl : 0 < H'.length) (e0 : ent H' 0 = .blk [.nils]) (hr : r.bd 1 = true) :
 qcc (fun H' o => H' = [outE []] ∧ o = .val r) H' (.val r) := by
 refine ⟨[.blk [.nils]], [0], rfl, by simp, by simp, ?_, hr, rfl, rfl⟩
 exact ⟨⟨hl, rfl, by rw [e0]; rfl⟩, trivial⟩
theorem qbo7 (l : List Int) (t : Ty) (k : Int) (hb : l.length ≤ 1000000) : VM Try.prog 45 (outE l) (outE (outN l t)) [encY t, .int .i64 k, .ptr 0 0] (.bool true) := by
 refine qff ?_ (by simp [AV.bds, AV.bd, qx])
 have hcap : qc8 (l.length + 1) 8 = True := eq_true (capI (by omega))
 refine qog c0bq (by simp) ?_
 by_cases h0 : l = []
 ·subst h0
  simp only [qry, ql1, qli]
  repeat' (first | refine vs_ ?_ | ((first | refine vr_ ?_ | fail) <;> (try simp only [qgt, go_sem, ↓reduceIte])) | ((first | simp (disch := omega) only [hcap] | (refine cs_ ?_ ?_ <;> intro hc) | refine cj_ ?_ | fail | refine qa (qew [] _) fun _ => ?_) <;> (try refine ev_ ?_)) | with_reducible exact ti_)
  ·have : outN [] t = [t.var] := by rw [outN, if_pos (by assumption), if_neg (by assumption)]; rfl
   rw [this]
   exact qe5 (l := [t.var]) 2 (by simp) (by omega) (by simp) rfl rfl rfl
  ·exact absurd (by assumption : t.var ∈ []) (by simp)
  ·have : outN [] t = [] := by rw [outN, if_neg (by assumption)]
   rw [this]
   exact qsv (by simp) rfl rfl
 ·simp only [qlh (qhh h0), qmi (qhh h0)]
  repeat' (first | refine vs_ ?_ | ((first | refine vr_ ?_ | refine qa (qew l _) fun _ => ?_ | simp (disch := omega) only [hcap] | (refine cs_ ?_ ?_ <;> intro hc) | refine cj_ ?_ | fail) <;> (try refine ev_ ?_)) | with_reducible exact ti_)
  ·have : outN l t = l ++ [t.var] := by rw [outN, if_pos (by assumption), if_neg (by assumption)]
   rw [this, qx4]
   exact qe5 (l := l ++ [t.var]) 3 (by simp) (by omega) (by simp) (by simp [ent]) rfl rfl
  ·have : outN l t = l := by rw [outN, if_pos (by assumption), if_pos (by assumption)]
   rw [this]
   exact qe5 (l := l) 1 h0 (by omega) (by simp) rfl rfl rfl
  ·have : outN l t = l := by rw [outN, if_neg (by assumption)]
   rw [this]
   exact qe5 (l := l) 1 h0 (by omega) (by simp) rfl rfl rfl
def qu6 (l : List Int) (t : Ty) (_ : Int) : List Int × Bool := (outN l t, true)
theorem qx6 (l : List Int) (c : List UInt8) (v : Int) (a : List Ty) : outN l (.mk c v a) = qdw l (if c = [] then [v] else []) := by
 unfold outN
 by_cases hcn : c = []
 ·rw [if_pos (show (Ty.mk c v a).con = [] from hcn), if_pos hcn]; rfl
 ·rw [if_neg (show ¬ (Ty.mk c v a).con = [] from hcn), if_neg hcn]; rfl
mutual
theorem qbhy : ∀ (t : Ty) (l : List Int) (k : Int), qb2 qu6 t l k = (qdw l (varY t), true)
 | .mk c v a, l, k => by
   rw [qb2, if_pos (show (qu6 l (.mk c v a) k).2 = true from rfl), q3z, varY, qm1]
   congr 2
   exact qx6 l c v a
theorem q3z : ∀ (a : List Ty) (l : List Int) (k : Int), qbf qu6 a l k = (qdw l (qb4 a), true)
 | [], l, k => by rw [qbf, qb4]; rfl
 | x :: r, l, k => by
   rw [qbf, qbhy x, if_pos rfl, q3z r, qb4, qm1]
end
theorem q11 (l : List Int) (t : Ty) : (outN l t).length ≤ l.length + 1 := by
 rw [outN]; split
 ·split
  ·omega
  ·simp
 ·omega
theorem qs0 (t : Ty) (hb : szY t ≤ 1000000) : qp Try.prog 18 [encY t] (.sl 1 (ints (qdw [] (varY t)))) := by
 refine qh c0br (by simp) (by simp only [go_sem]) (qmc 0 _) fun hw => ?_
 have hwalk := qha (st := outE) (step := qu6) (f := 45) (ok := fun n l => l.length + n ≤ 1000000) (fun _ => rfl) (fun n l t k h => by have := q11 l t; simp only [qu6]; omega) (fun n l h => by omega) (fun l t k h => qbo7 l t k (by omega)) t [] 1 (by simpa using hb)
 rw [qbhy] at hwalk
 unfold k0br
 refine qb3 (qd5 ?_)
 (refine ev_ ?_; (try with_reducible exact ti_))
 refine qb3 (qd5 ?_)
 (refine ev_ ?_; (try with_reducible exact ti_))
 refine qpi 1 rfl rfl ?_
 refine qb3 (qd5 ?_)
 simp only [List.set_cons_succ, List.set_cons_zero]
 (refine ev_ ?_; (try with_reducible exact ti_))
 refine qbh 1 hwalk ?_
 simp only [List.set_cons_succ, List.set_cons_zero]
 (refine ev_ ?_; (try with_reducible exact ti_))
 refine qba9 1 rfl (by simp) ?_
 simp only [List.set_cons_succ, List.set_cons_zero]
 by_cases h0 : qdw [] (varY t) = []
 ·simp only [h0, qry, ql1, qli]
  repeat' (first | refine vs_ ?_ | ((first | refine vr_ ?_ | (refine cs_ ?_ ?_ <;> intro hc) | refine cj_ ?_ | fail) <;> (try refine ev_ ?_)) | with_reducible exact ti_)
 ·simp only [qlh (qhh h0), qmi (qhh h0)]
  repeat' (first | refine vs_ ?_ | ((first | refine vr_ ?_ | (refine cs_ ?_ ?_ <;> intro hc) | refine cj_ ?_ | fail) <;> (try refine ev_ ?_)) | with_reducible exact ti_)
set_option maxRecDepth 4000

/-! the program's -/
abbrev numE (n : Int) : Ent := .blk [.int .i64 n]
def qeo (n : Int) (t : Ty) (k : Int) : Int × Bool := (IntKind.i64.wrap (n + 1), decide (IntKind.i64.wrap (n + 1) ≤ 4096) && (decide (k ≤ 100) && mayY t))
theorem qbl9 (n : Int) (t : Ty) (k : Int) : VM Try.prog 39 (numE n) (numE (qeo n t k).1) [encY t, .int .i64 k, .ptr 0 0] (.bool (qeo n t k).2) := by
 refine qju (by kernel_rfl) fun hw => ?_
 have hk := qdg hw.1
 refine qe c0bf 1 (by simp) (by simp) ?_
 repeat' (first | refine vs_ ?_ | ((first | refine vr_ ?_ | refine qa (qgc _) fun _ => ?_ | refine qa (qzx _ _ _) fun _ => ?_ | (refine cs_ ?_ ?_ <;> intro hc) | refine cj_ ?_ | simp (disch := omega) only [encs_getN, qb]) <;> (try refine ev_ ?_)) | with_reducible exact ti_)
 ·simp_all [qeo]
 ·exact ⟨rfl, by simp only [qeo, *, decide_true, decide_false, Bool.true_and, Bool.false_and]⟩
 ·exact ⟨rfl, by simp only [qeo, *, decide_true, decide_false, Bool.true_and, Bool.false_and]⟩
def qpm (n : Int) (_ : Ty) (_ : Int) : Int × Bool := (IntKind.i64.wrap (n + 1), true)
theorem qbpc (n : Int) (t : Ty) (k : Int) : VM Try.prog 43 (numE n) (numE (qpm n t k).1) [encY t, .int .i64 k, .ptr 0 0] (.bool (qpm n t k).2) := by
 refine qe c0bg 1 (by simp) (by simp) ?_
 repeat' (first | refine vs_ ?_ | ((first | refine vr_ ?_ | (refine cs_ ?_ ?_ <;> intro hc) | refine cj_ ?_ | simp (disch := omega) only [encs_getN, qb]) <;> (try refine ev_ ?_)) | with_reducible exact ti_)
 exact ⟨rfl, rfl⟩
def qm8 (n : Int) (_ : Ty) (k : Int) : Int × Bool := (if k > n then k else n, true)
theorem qbjl (n : Int) (t : Ty) (k : Int) : VM Try.prog 44 (numE n) (numE (qm8 n t k).1) [encY t, .int .i64 k, .ptr 0 0] (.bool (qm8 n t k).2) := by
 refine qe c0bh 1 (by simp) (by simp) ?_
 repeat' (first | refine vs_ ?_ | ((first | refine vr_ ?_ | (refine cs_ ?_ ?_ <;> intro hc) | refine cj_ ?_ | fail) <;> (try refine ev_ ?_)) | with_reducible exact ti_)
 exact ⟨rfl, rfl⟩
theorem qlq {f : FuncId} {step : Int → Ty → Int → Int × Bool} (h : ∀ n t k, VM Try.prog f (numE n) (numE (step n t k).1) [encY t, .int .i64 k, .ptr 0 0] (.bool (step n t k).2)) (t : Ty) (n k : Int) :
 VM Try.prog 38 (numE n) (numE (qb2 step t n k).1) [encY t, .int .i64 k, .fn f [] [.ptr 0 0]] (.bool (qb2 step t n k).2) :=
 qha (st := numE) (ok := fun _ _ => True) (fun _ => rfl) (fun _ _ _ _ _ => trivial) (fun _ _ _ => trivial) (fun n t k _ => h n t k) t n k trivial
def qwb (t : Ty) : Bool := (qb2 qeo t 0 1).2
theorem qo9 (t : Ty) : qp Try.prog 11 [encY t] (.bool (qwb t)) := by
 refine qh c0bi (by simp) (by simp only [go_sem]) rfl fun hw => ?_
 repeat' (first | refine vs_ ?_ | ((first | refine vr_ ?_ | refine qbh 1 (qlq qbl9 t 0 1) ?_ | (refine cs_ ?_ ?_ <;> intro hc) | refine cj_ ?_ | fail) <;> (try refine ev_ ?_)) | with_reducible exact ti_)
 rfl
theorem qtd (t : Ty) : qp Try.prog 13 [encY t] (.int .i64 (qb2 qpm t 0 1).1) := by
 refine qh c0bj (by simp) (by simp only [go_sem]) rfl fun hw => ?_
 repeat' (first | refine vs_ ?_ | ((first | refine vr_ ?_ | refine qbh 1 (qlq qbpc t 0 1) ?_ | (refine cs_ ?_ ?_ <;> intro hc) | refine cj_ ?_ | fail) <;> (try refine ev_ ?_)) | with_reducible exact ti_)
theorem qpz (t : Ty) : qp Try.prog 15 [encY t] (.int .i64 (qb2 qm8 t 0 1).1) := by
 refine qh c0bk (by simp) (by simp only [go_sem]) rfl fun hw => ?_
 repeat' (first | refine vs_ ?_ | ((first | refine vr_ ?_ | refine qbh 1 (qlq qbjl t 0 1) ?_ | (refine cs_ ?_ ?_ <;> intro hc) | refine cj_ ?_ | fail) <;> (try refine ev_ ?_)) | with_reducible exact ti_)

/-! the references -/
mutual
def qhq : Ty → Int
 | .mk _ _ l => qeh 1 l
def qeh : Int → List Ty → Int
 | a, [] => a
 | a, x :: r => qeh (IntKind.i64.wrap (a + qhq x)) r
end
theorem qvh (t : Ty) : qhq t = qeh 1 t.args := by cases t; rw [qhq]; rfl
theorem qtr : ∀ t, qp Try.prog 14 [encY t] (.int .i64 (qhq t)) := by
 refine Ty.ind fun t ih => ?_
 refine qh c0bl (by simp) (by simp only [go_sem]) rfl fun hw => ?_
 have hk := qdg hw.1
 repeat' (first | refine vs_ ?_ | ((first | refine vr_ ?_ | (refine cs_ ?_ ?_ <;> intro hc) | refine cj_ ?_ | simp (disch := omega) only [encs_getN, qb]) <;> (try refine ev_ ?_)) | with_reducible exact ti_)
 refine qu (S := Nat × Int) (fun s => s.1 ≤ t.args.length ∧ qeh s.2 (t.args.drop s.1) = qhq t) (fun s => (⟨[(1, .ptr 0 0), (3, .int .i64 s.2), (4, .int .i64 s.1)], []⟩, [.blk (yc t)])) (fun s => t.args.length - s.1) ?_ fun s hs => ?_
 ·refine qn (0, 1) [0] ⟨Nat.zero_le _, (qvh t).symm⟩ rfl (by simp) ?_ ?_ ?_ <;> (try refine ev_ ?_) <;> (try with_reducible exact ti_) <;> (try simp (disch := omega) only [qb, and_true, true_and])
 ·obtain ⟨i, a⟩ := s
  obtain ⟨hi, ha⟩ := hs
  dsimp only at hi ha
  repeat' (first | refine vs_ ?_ | ((first | refine vr_ ?_ | fail) <;> (try simp (disch := first | omega | (simp only [List.length_set, List.length_append, List.length_cons, List.length_nil]; done) | (simp only [List.length_set, List.length_append, List.length_cons, List.length_nil]; omega)) only [qbe, qb, go_sem, ↓reduceIte])) | ((first | (refine cs_ ?_ ?_ <;> intro hc) | refine cj_ ?_ | simp (disch := omega) only [encs_getN, qb] | refine qa (ih _ (qbw (by omega))) fun _ => ?_) <;> (try refine ev_ ?_)) | with_reducible exact ti_)
  ·refine qn (i + 1, IntKind.i64.wrap (a + qhq (t.args.getD i Y0))) [0] ⟨⟨by dsimp only; omega, ?_⟩, by dsimp only; omega⟩ rfl (by simp) ?_ ?_ ?_ <;> (try refine ev_ ?_) <;> (try with_reducible exact ti_) <;> (try simp (disch := omega) only [qb, and_true, true_and])
   rw [← ha, qm0 (l := t.args) (i := i) (by omega), qeh]
  ·rw [← ha, List.drop_of_length_le (by omega)]; rfl
mutual
def qbx : Ty → Bool
 | .mk c v l => qbt l && mayW c v l.length
def qbt : List Ty → Bool
 | [] => true
 | x :: r => qbx x && qbt r
end
theorem qeg (t : Ty) : qbx t = (qbt t.args && mayY t) := by cases t; rw [qbx]; rfl
/-! Few -/
mutual
def cntY : Ty → Int → Int → Int
 | .mk _ _ l, k, d => if d < 1 then -1 else qdz l (IntKind.i64.wrap (k - 1)) d
def qdz : List Ty → Int → Int → Int
 | [], a, _ => a
 | x :: r, a, d => if 0 ≤ a then qdz r (cntY x a (IntKind.i64.wrap (d - 1))) d else a
end
theorem qwn (t : Ty) (k d : Int) : cntY t k d = if d < 1 then -1 else qdz t.args (IntKind.i64.wrap (k - 1)) d := by cases t; rw [cntY]; rfl
theorem qfx {a : Int} (h : a < 0) (l : List Ty) (d : Int) : qdz l a d = a := by
 cases l with
 | nil => rw [qdz]
 | cons x r => rw [qdz, if_neg (by omega)]
theorem qbe3 : ∀ t k d, qp Try.prog 37 [encY t, .int .i64 k, .int .i64 d] (.int .i64 (cntY t k d)) := by
 refine Ty.ind fun t ih k d => ?_
 refine qh c0bm (by simp) (by simp only [go_sem]) rfl fun hw => ?_
 have hk := qdg hw.1
 rw [qwn]
 repeat' (first | refine vs_ ?_ | ((first | refine vr_ ?_ | (refine cs_ ?_ ?_ <;> intro hc) | refine cj_ ?_ | simp (disch := omega) only [encs_getN, qb]) <;> (try refine ev_ ?_)) | with_reducible exact ti_)
 ·rw [if_pos (by assumption)]
 rw [if_neg (by assumption)]
 refine qu (S := Nat × Int) (fun s => s.1 ≤ t.args.length ∧ qdz (t.args.drop s.1) s.2 d = qdz t.args (IntKind.i64.wrap (k - 1)) d) (fun s => (⟨[(1, .int .i64 s.2), (2, .int .i64 d), (3, .ptr 0 0), (7, .int .i64 s.1)], []⟩, [.blk (yc t)])) (fun s => t.args.length - s.1) ?_ fun s hs => ?_
 ·refine qn (0, IntKind.i64.wrap (k - 1)) [0] ⟨Nat.zero_le _, rfl⟩ rfl (by simp) ?_ ?_ ?_ <;> (try refine ev_ ?_) <;> (try with_reducible exact ti_) <;> (try simp (disch := omega) only [qb, and_true, true_and])
 ·obtain ⟨i, a⟩ := s
  obtain ⟨hi, ha⟩ := hs
  dsimp only at hi ha
  repeat' (first | refine vs_ ?_ | ((first | refine vr_ ?_ | fail) <;> (try simp (disch := first | omega | (simp only [List.length_set, List.length_append, List.length_cons, List.length_nil]; done) | (simp only [List.length_set, List.length_append, List.length_cons, List.length_nil]; omega)) only [qbe, qb, go_sem, ↓reduceIte])) | ((first | (refine cs_ ?_ ?_ <;> intro hc) | refine cj_ ?_ | simp (disch := omega) only [encs_getN, qb] | refine qa (ih _ (qbw (by omega)) _ _) fun _ => ?_) <;> (try refine ev_ ?_)) | with_reducible exact ti_)
  ·refine qn (i + 1, cntY (t.args.getD i Y0) a (IntKind.i64.wrap (d - 1))) [0] ⟨⟨by dsimp only; omega, ?_⟩, by dsimp only; omega⟩ rfl (by simp) ?_ ?_ ?_ <;> (try refine ev_ ?_) <;> (try with_reducible exact ti_) <;> (try simp (disch := omega) only [qb, and_true, true_and])
   rw [← ha, qm0 (l := t.args) (i := i) (by omega), qdz, if_pos (by assumption)]
  ·rw [← ha, qfx (by omega)]
  ·rw [← ha, List.drop_of_length_le (by omega)]; rfl
def qjy (a : Int) : List Ty → Int
 | [] => a
 | x :: r => qjy (cntY x a 300) r
def qf0 (l : List Ty) : Bool := decide (0 ≤ qjy 20000 l)
theorem qbg7 (l : List Ty) : qp Try.prog 9 [.sl 3 (qs l)] (.int .i64 (if qf0 l = true then 1 else 0)) := by
 refine qh c0bn (by simp) (by simp only [go_sem]) rfl fun hw => ?_
 have hk : l.length ≤ maxLen := by have := hw.1.1; rwa [qbs] at this
 repeat' (first | refine vs_ ?_ | ((first | refine vr_ ?_ | (refine cs_ ?_ ?_ <;> intro hc) | refine cj_ ?_ | simp (disch := omega) only [encs_getN, qb]) <;> (try refine ev_ ?_)) | with_reducible exact ti_)
 refine qu (S := Nat × Int) (fun s => s.1 ≤ l.length ∧ qjy s.2 (l.drop s.1) = qjy 20000 l) (fun s => (⟨[(0, .sl 3 (qs l)), (3, .int .i64 s.2), (4, .int .i64 s.1)], []⟩, [])) (fun s => l.length - s.1) ?_ fun s hs => ?_
 ·refine qn (0, 20000) [] ⟨Nat.zero_le _, rfl⟩ rfl (by simp) ?_ ?_ ?_ <;> (try refine ev_ ?_) <;> (try with_reducible exact ti_) <;> (try simp (disch := omega) only [qb, and_true, true_and])
 ·obtain ⟨i, a⟩ := s
  obtain ⟨hi, ha⟩ := hs
  dsimp only at hi ha
  repeat' (first | refine vs_ ?_ | ((first | refine vr_ ?_ | fail) <;> (try simp (disch := first | omega | (simp only [List.length_set, List.length_append, List.length_cons, List.length_nil]; done) | (simp only [List.length_set, List.length_append, List.length_cons, List.length_nil]; omega)) only [qbe, qb, go_sem, ↓reduceIte])) | ((first | (refine cs_ ?_ ?_ <;> intro hc) | refine cj_ ?_ | simp (disch := omega) only [encs_getN, qb] | refine qa (qbe3 _ _ _) fun _ => ?_) <;> (try refine ev_ ?_)) | with_reducible exact ti_)
  ·refine qn (i + 1, cntY (l.getD i Y0) a 300) [] ⟨⟨by dsimp only; omega, ?_⟩, by dsimp only; omega⟩ rfl (by simp) ?_ ?_ ?_ <;> (try refine ev_ ?_) <;> (try with_reducible exact ti_) <;> (try simp (disch := omega) only [qb, and_true, true_and])
   rw [← ha, qm0 (l := l) (i := i) (by omega), qjy]
  all_goals
   have hf : qjy 20000 l = a := by rw [← ha, List.drop_of_length_le (by omega)]; rfl
   rw [qf0, hf]
  ·rw [if_neg (by simp; omega)]
  ·rw [if_pos (by simp; omega)]

/-! the laws of sizes -/
mutual
theorem qu0 : ∀ (t : Ty) (k d : Int), 0 ≤ k → k ≤ 20000 → d ≤ 300 → 0 ≤ cntY t k d → cntY t k d = k - szY t ∧ (dpY t : Int) ≤ d
 | .mk c v l, k, d, h0, h1, h2, h3 => by
   rw [cntY] at h3 ⊢
   by_cases hd : d < 1
   ·rw [if_pos hd] at h3; omega
   ·rw [if_neg hd] at h3 ⊢
    have hk : IntKind.i64.wrap (k - 1) = k - 1 := qt (by omega) (by omega)
    rw [hk] at h3 ⊢
    have h4 : 0 ≤ k - 1 := by
     by_cases h : 0 ≤ k - 1
     ·exact h
     ·rw [qfx (by omega)] at h3; exact h3
    have := qr4 l (k - 1) d h4 (by omega) (by omega) h2 h3
    rw [szY, dpY]
    omega
theorem qr4 : ∀ (l : List Ty) (a d : Int), 0 ≤ a → a ≤ 20000 → 1 ≤ d → d ≤ 300 → 0 ≤ qdz l a d → qdz l a d = a - szYs l ∧ (dpYs l : Int) ≤ d - 1
 | [], a, d, h0, h1, h2, h3, h4 => by rw [qdz, szYs, dpYs]; omega
 | x :: r, a, d, h0, h1, h2, h3, h4 => by
   rw [qdz, if_pos h0] at h4 ⊢
   have hd : IntKind.i64.wrap (d - 1) = d - 1 := qt (by omega) (by omega)
   rw [hd] at h4 ⊢
   have h5 : 0 ≤ cntY x a (d - 1) := by
    by_cases h : 0 ≤ cntY x a (d - 1)
    ·exact h
    ·rw [qfx (by omega)] at h4; exact absurd h4 h
   obtain ⟨h6, h7⟩ := qu0 x a (d - 1) h0 h1 (by omega) h5
   obtain ⟨h8, h9⟩ := qr4 r _ d h5 (by omega) h2 h3 h4
   rw [szYs, dpYs]
   omega
end
mutual
theorem qyd : ∀ (t : Ty) (k d : Int), 0 ≤ k → k ≤ 20000 → -1 ≤ cntY t k d
 | .mk c v l, k, d, h0, h1 => by
   rw [cntY]
   split
   ·omega
   ·rw [qt (z := k - 1) (by omega) (by omega)]
    exact qwx l (k - 1) d (by omega) (by omega)
theorem qwx : ∀ (l : List Ty) (a d : Int), -1 ≤ a → a ≤ 20000 → -1 ≤ qdz l a d
 | [], a, d, h0, _ => by rw [qdz]; exact h0
 | x :: r, a, d, h0, h1 => by
   rw [qdz]
   split
   ·rename_i h
    have h2 := qyd x a (IntKind.i64.wrap (d - 1)) h h1
    have h3 := q3v x a (IntKind.i64.wrap (d - 1)) h h1
    exact qwx r _ d h2 (by omega)
   ·exact h0
theorem q3v : ∀ (t : Ty) (k d : Int), 0 ≤ k → k ≤ 20000 → cntY t k d ≤ k
 | .mk c v l, k, d, h0, h1 => by
   rw [cntY]
   split
   ·omega
   ·rw [qt (z := k - 1) (by omega) (by omega)]
    have := qw7 l (k - 1) d (by omega) (by omega)
    omega
theorem qw7 : ∀ (l : List Ty) (a d : Int), -1 ≤ a → a ≤ 20000 → qdz l a d ≤ a
 | [], a, d, h0, _ => by rw [qdz]; exact Int.le_refl _
 | x :: r, a, d, h0, h1 => by
   rw [qdz]
   split
   ·rename_i h
    have h2 := qyd x a (IntKind.i64.wrap (d - 1)) h h1
    have h3 := q3v x a (IntKind.i64.wrap (d - 1)) h h1
    have := qw7 r _ d h2 (by omega)
    omega
   ·exact Int.le_refl _
end
theorem qq2 : ∀ (l : List Ty) {a : Int}, a < 0 → -9223372036854775808 ≤ a - l.length → qjy a l < 0
 | [], a, h, _ => h
 | x :: r, a, h, h2 => by
   rw [qjy]
   have h3 : cntY x a 300 = IntKind.i64.wrap (a - 1) := by
    rw [qwn, if_neg (by omega)]
    have hk : IntKind.i64.wrap (a - 1) = a - 1 := qt (by simp only [List.length_cons] at h2; omega) (by omega)
    rw [hk, qfx (by omega)]
   have hk : IntKind.i64.wrap (a - 1) = a - 1 := qt (by simp only [List.length_cons] at h2; omega) (by omega)
   rw [h3, hk]
   exact qq2 r (by omega) (by simp only [List.length_cons] at h2; omega)
theorem qp6 : ∀ (l : List Ty) (a : Int), 0 ≤ a → a ≤ 20000 → l.length ≤ 9223372036854775807 → 0 ≤ qjy a l → (szYs l : Int) ≤ a ∧ (dpYs l : Int) ≤ 300
 | [], a, h0, h1, _, h2 => by rw [szYs, dpYs]; omega
 | x :: r, a, h0, h1, hl, h2 => by
   rw [qjy] at h2
   simp only [List.length_cons] at hl
   have h5 : 0 ≤ cntY x a 300 := by
    by_cases h : 0 ≤ cntY x a 300
    ·exact h
    ·have : -1 ≤ cntY x a 300 := qyd x a 300 h0 h1
     have := qq2 r (a := cntY x a 300) (by omega) (by omega)
     omega
   obtain ⟨h6, h7⟩ := qu0 x a 300 h0 h1 (by omega) h5
   obtain ⟨h8, h9⟩ := qp6 r _ h5 (by omega) (by omega) h2
   rw [szYs, dpYs]
   omega
theorem q89 {l : List Ty} (hl : l.length ≤ maxLen) (h : qf0 l = true) : szYs l ≤ 20000 ∧ dpYs l ≤ 300 := by
 have := qp6 l 20000 (by omega) (by omega) (by unfold maxLen at hl; omega) (by simpa [qf0] using h)
 omega

mutual
theorem qkt : ∀ (t : Ty), szY t ≤ 1000000 → qhq t = szY t
 | .mk c v l, h => by
   rw [szY] at h
   rw [qhq, szY, qjw l 1 (by omega) (by omega)]
   omega
theorem qjw : ∀ (l : List Ty) (a : Int), 1 ≤ a → a + szYs l ≤ 1000001 → qeh a l = a + szYs l
 | [], a, _, _ => by rw [qeh, szYs]; omega
 | x :: r, a, h0, h => by
   rw [szYs] at h
   rw [qeh, qkt x (by omega), qt (by omega) (by omega), qjw r _ (by omega) (by omega), szYs]
   omega
end
mutual
theorem qol : ∀ (t : Ty) (n k : Int), 0 ≤ n → n + szY t ≤ 1000000 → qb2 qpm t n k = (n + szY t, true)
 | .mk c v l, n, k, h0, h => by
   rw [szY] at h
   rw [qb2, if_pos (show (qpm n (.mk c v l) k).2 = true from rfl)]
   have h1 : (qpm n (.mk c v l) k).1 = n + 1 := qt (by omega) (by omega)
   rw [h1, qk3 l _ _ (by omega) (by omega), szY]
   congr 1; omega
theorem qk3 : ∀ (l : List Ty) (n k : Int), 0 ≤ n → n + szYs l ≤ 1000000 → qbf qpm l n k = (n + szYs l, true)
 | [], n, k, _, _ => by rw [qbf, szYs]; congr 1; omega
 | x :: r, n, k, h0, h => by
   rw [szYs] at h
   rw [qbf, qol x n k h0 (by omega), if_pos rfl, qk3 r _ k (by omega) (by omega), szYs]
   congr 1; omega
end
mutual
theorem qm5 : ∀ (t : Ty) (n k : Int), 0 ≤ n → 1 ≤ k → k + dpY t ≤ 1000000 → qb2 qm8 t n k = (max n (k + dpY t - 1), true)
 | .mk c v l, n, k, h0, h1, h => by
   rw [dpY] at h
   rw [qb2, if_pos (show (qm8 n (.mk c v l) k).2 = true from rfl)]
   have h2 : (qm8 n (.mk c v l) k).1 = max n k := by simp only [qm8]; split <;> omega
   rw [h2, qt (z := k + 1) (by omega) (by omega), qku l _ _ (by omega) (by omega) (by omega), dpY]
   congr 1; split <;> omega
theorem qku : ∀ (l : List Ty) (n k : Int), 0 ≤ n → 1 ≤ k → k + dpYs l ≤ 1000000 → qbf qm8 l n k = (if dpYs l = 0 then n else max n (k + dpYs l - 1), true)
 | [], n, k, _, _, _ => by rw [qbf, dpYs, if_pos rfl]
 | x :: r, n, k, h0, h1, h => by
   rw [dpYs] at h
   have hp := q41 x
   rw [qbf, qm5 x n k h0 h1 (by omega), if_pos rfl, qku r _ k (by omega) h1 (by omega), dpYs]
   congr 1
   rw [if_neg (by omega : ¬ max (dpY x) (dpYs r) = 0)]
   split <;> omega
end
mutual
theorem qok : ∀ (t : Ty) (n k : Int), 0 ≤ n → n + szY t ≤ 1000000 → 1 ≤ k → k + dpY t ≤ 1000000 →
 ((qb2 qeo t n k).2 = true ↔ n + szY t ≤ 4096 ∧ k + dpY t - 1 ≤ 100 ∧ qbx t = true) ∧ ((qb2 qeo t n k).2 = true → (qb2 qeo t n k).1 = n + szY t)
 | .mk c v l, n, k, h0, h1, h2, h3 => by
   rw [szY] at h1
   rw [dpY] at h3
   have e1 : IntKind.i64.wrap (n + 1) = n + 1 := qt (by omega) (by omega)
   have e2 : IntKind.i64.wrap (k + 1) = k + 1 := qt (by omega) (by omega)
   have e3 : (qeo n (.mk c v l) k).1 = n + 1 := e1
   have e4 : (qeo n (.mk c v l) k).2 = true ↔ n + 1 ≤ 4096 ∧ k ≤ 100 ∧ mayW c v l.length = true := by
    simp only [qeo, e1, Bool.and_eq_true, decide_eq_true_eq]; rfl
   rw [qb2, szY, dpY, qbx]
   by_cases hs : (qeo n (.mk c v l) k).2 = true
   ·rw [if_pos hs, e3, e2]
    obtain ⟨q1, q2, q3⟩ := e4.1 hs
    obtain ⟨r1, r2⟩ := qkv l (n + 1) (k + 1) (by omega) (by omega) (by omega) (by omega) (by omega) (by omega)
    refine ⟨?_, fun h => by rw [r2 h]; omega⟩
    rw [r1, q3, Bool.and_true]
    constructor
    ·rintro ⟨a1, a2, a3⟩; exact ⟨by omega, by omega, a3⟩
    ·rintro ⟨a1, a2, a3⟩; exact ⟨by omega, by omega, a3⟩
   ·rw [if_neg hs]
    refine ⟨⟨fun h => (by cases h), fun ⟨a1, a2, a3⟩ => absurd (e4.2 ⟨by omega, by omega, (by rw [Bool.and_eq_true] at a3; exact a3.2)⟩) hs⟩, fun h => by cases h⟩
theorem qkv : ∀ (l : List Ty) (n k : Int), 0 ≤ n → n + szYs l ≤ 1000000 → 1 ≤ k → k + dpYs l ≤ 1000000 → n ≤ 4096 → k - 1 ≤ 100 →
 ((qbf qeo l n k).2 = true ↔ n + szYs l ≤ 4096 ∧ k + dpYs l - 1 ≤ 100 ∧ qbt l = true) ∧ ((qbf qeo l n k).2 = true → (qbf qeo l n k).1 = n + szYs l)
 | [], n, k, h0, h1, h2, h3, h4, h5 => by
   rw [qbf, szYs, dpYs, qbt]
   exact ⟨⟨fun _ => ⟨by omega, by omega, rfl⟩, fun _ => rfl⟩, fun _ => by simp⟩
 | x :: r, n, k, h0, h1, h2, h3, h4, h5 => by
   rw [szYs] at h1
   rw [dpYs] at h3
   obtain ⟨q1, q2⟩ := qok x n k h0 (by omega) h2 (by omega)
   rw [qbf, szYs, dpYs, qbt]
   by_cases hs : (qb2 qeo x n k).2 = true
   ·rw [if_pos hs, q2 hs]
    obtain ⟨a1, a2, a3⟩ := q1.1 hs
    obtain ⟨r1, r2⟩ := qkv r (n + szY x) k (by omega) (by omega) h2 (by omega) (by omega) h5
    refine ⟨?_, fun h => by rw [r2 h]; omega⟩
    rw [r1, a3, Bool.true_and]
    constructor
    ·rintro ⟨b1, b2, b3⟩; exact ⟨by omega, by omega, b3⟩
    ·rintro ⟨b1, b2, b3⟩; exact ⟨by omega, by omega, b3⟩
   ·rw [if_neg hs]
    refine ⟨⟨fun h => (by cases h), fun ⟨a1, a2, a3⟩ => absurd (q1.2 ⟨by omega, by omega, ?_⟩) hs⟩, fun h => by cases h⟩
    rw [Bool.and_eq_true] at a3
    exact a3.1
end
def qd (t : Ty) : Bool := decide (szY t ≤ 4096) && (decide (dpY t ≤ 100) && qbx t)
theorem qt8 {t : Ty} (h1 : szY t ≤ 20000) (h2 : dpY t ≤ 300) : qwb t = qd t := by
 have := (qok t 0 1 (by omega) (by omega) (by omega) (by omega)).1
 rw [qwb, Bool.eq_iff_iff, this, qd, Bool.and_eq_true, Bool.and_eq_true, decide_eq_true_eq, decide_eq_true_eq]
 constructor
 ·rintro ⟨a1, a2, a3⟩; exact ⟨by omega, by omega, a3⟩
 ·rintro ⟨a1, a2, a3⟩; exact ⟨by omega, by omega, a3⟩
theorem qcm {t : Ty} (h1 : szY t ≤ 20000) (h2 : dpY t ≤ 300) : qp Try.prog 11 [encY t] (.bool (qd t)) := by
 rw [← qt8 h1 h2]; exact qo9 t
end Go.Proofs.Ytlahgbhhejkgbaa
