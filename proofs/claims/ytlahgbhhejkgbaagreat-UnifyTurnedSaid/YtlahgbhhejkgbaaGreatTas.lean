/- Texts of this proof, joined. -/
import Derived.Test.YtlahgbhhejkgbaaGreatTar

/- rows of integers: whether a number is there, each once -/
set_option maxRecDepth 4000
namespace Go.Proofs.YtlahgbhhejkgbaaGreat
open Go Go.RowKit Go.V
set_option linter.unusedVariables false
set_option linter.unusedSimpArgs false

def ints (l : List Int) : List AV := l.map (AV.int .i64)
theorem qmw (l : List Int) : (ints l).length = l.length := by simp [ints]
theorem ql1 (k : Nat) (l : List Int) : AV.bds k (ints l) = true := by rw [ints, qc8]; simp [AV.bd]
theorem qr0 (σ : Nat → Nat) (l : List Int) : AV.rens σ (ints l) = ints l := qp (m := 0) (fun i hi => by omega) _ (ql1 0 l)
theorem qne {l : List Int} {i : Nat} (h : i < l.length) : (ints l).getD i .junk = .int .i64 (l.getD i 0) := by
 rw [ints, List.getD_eq_getElem?_getD, List.getElem?_map, List.getElem?_eq_getElem h, List.getD_eq_getElem?_getD, List.getElem?_eq_getElem h]; rfl
theorem qve (l : List Int) (v : Int) : ints l ++ [.int .i64 v] = ints (l ++ [v]) := by simp [ints]
theorem qsk : ints [] = [] := rfl
theorem qg3 {l : List Int} (h : l ≠ []) : ints l ≠ [] := by cases l with | nil => exact absurd rfl h | cons _ _ => simp [ints]
attribute [go_sem] qmw ql1 qr0 cond_false cond_true
theorem qbkx {l : List Int} {i : Nat} (h : i < l.length) : l.drop i = l.getD i 0 :: l.drop (i + 1) := by
 rw [List.drop_eq_getElem_cons h, List.getD_eq_getElem?_getD, List.getElem?_eq_getElem h]; rfl
theorem capI {k : Nat} (h : k ≤ 1000000000) : qce k 8 := by unfold qce; omega

def idxW (v : Int) : List Int → Int → Int
 | [], _ => -1
 | x :: r, k => if v = x then k else idxW v r (k + 1)
theorem qzf (v : Int) : ∀ (l : List Int) (k : Int), 0 ≤ k → (decide (0 ≤ idxW v l k) = decide (v ∈ l))
 | [], k, h => by simp [idxW]
 | x :: r, k, h => by
   rw [idxW]
   by_cases hx : v = x
   ·simp [hx, h]
   ·rw [if_neg hx, qzf v r (k + 1) (by omega)]; simp [hx]
theorem qod (l : List Int) (v : Int) : qn Tryz.prog 96 [.sl 1 (ints l), .int .i64 v] (.int .i64 (idxW v l 0)) := by
 refine qf c0bv (by simp) (by simp only [go_sem]) rfl fun hw => ?_
 have hl : l.length ≤ maxLen := by have := hw.1.1; rwa [qmw] at this
 repeat' (first | refine vs_ ?_ | ((first | refine vr_ ?_ | (refine cs_ ?_ ?_ <;> intro hc) | refine cj_ ?_ | simp (disch := omega) only [encs_getN, qb]) <;> (try refine ev_ ?_)) | with_reducible exact ti_)
 refine qq (S := Nat) (fun i => i ≤ l.length ∧ idxW v (l.drop i) i = idxW v l 0) (fun i => (⟨[(0, .sl 1 (ints l)), (1, .int .i64 v), (7, .int .i64 l.length), (8, .int .i64 i)], []⟩, [])) (fun i => l.length - i) ?_ fun i hi => ?_
 ·refine qm 0 [] ⟨Nat.zero_le _, rfl⟩ rfl (by simp) ?_ ?_ ?_ <;> (try refine ev_ ?_) <;> (try with_reducible exact ti_) <;> (try simp (disch := omega) only [qb, and_true, true_and])
 ·obtain ⟨hi, ha⟩ := hi
  repeat' (first | refine vs_ ?_ | ((first | refine vr_ ?_ | fail) <;> (try simp (disch := first | omega | (simp only [List.length_set, List.length_append, List.length_cons, List.length_nil]; done) | (simp only [List.length_set, List.length_append, List.length_cons, List.length_nil]; omega)) only [qne, qb, go_sem, ↓reduceIte])) | ((first | (refine cs_ ?_ ?_ <;> intro hc) | refine cj_ ?_ | simp (disch := omega) only [encs_getN, qb]) <;> (try refine ev_ ?_)) | with_reducible exact ti_)
  ·rw [← ha, qbkx (by omega), idxW, if_pos (by assumption)]
  ·refine qm (i + 1) [] ⟨⟨by omega, ?_⟩, by omega⟩ rfl (by simp) ?_ ?_ ?_ <;> (try refine ev_ ?_) <;> (try with_reducible exact ti_) <;> (try simp (disch := omega) only [qb, and_true, true_and])
   rw [← ha, qbkx (l := l) (i := i) (by omega), idxW, if_neg (by assumption)]; rfl
  ·rw [← ha, List.drop_of_length_le (by omega)]; rfl
theorem qeq (l : List Int) (v : Int) : qn Tryz.prog 75 [.sl 1 (ints l), .int .i64 v] (.bool (decide (v ∈ l))) := by
 refine qf c0bw (by simp) (by simp only [go_sem]) rfl fun hw => ?_
 repeat' (first | refine vs_ ?_ | ((first | refine vr_ ?_ | refine qa (qod _ _) fun _ => ?_ | (refine cs_ ?_ ?_ <;> intro hc) | refine cj_ ?_ | fail) <;> (try refine ev_ ?_)) | with_reducible exact ti_)
 rw [qzf v l 0 (by omega)]
/-! each once -/
theorem qe6 {H : List Ent} {n : Nat} : co H (.sl n) .nils = .sl n [] := Eq.trans rfl rfl
/-! all variables -/
/-! the program's: a walk that gathers -/
def outE (l : List Int) : Ent := bun (.blk [accV 1 (ints l)] :: accE 1 (ints l))
def outN (l : List Int) (t : Ty) : List Int := if t.con = [] then (if t.var ∈ l then l else l ++ [t.var]) else l
theorem qe7 {H' : List Ent} {l : List Int} {r : AV} (k : Nat) (h0 : l ≠ []) (hk : 0 < k) (hl : k < H'.length) (e0 : ent H' 0 = .blk [.row k l.length]) (e1 : ent H' k = .app 1 (ints l)) (hr : r.bd 1 = true) :
 qch (fun H' o => H' = [outE l] ∧ o = .val r) H' (.val r) := by
 refine ⟨[.blk [.row 1 l.length], .app 1 (ints l)], [0, k], rfl, by simp, by simp; omega, ?_, hr, ?_, rfl⟩
 ·simp only [qey, List.length_cons, List.length_nil, Ent.bd, AV.bds, AV.bd, Ent.ren, AV.rens, AV.ren, e0, e1, ql1, qr0]
  exact ⟨⟨by omega, rfl, rfl⟩, ⟨hl, trivial, trivial⟩, trivial⟩
 ·rw [outE, qmr (qg3 h0), qnc (qg3 h0), qmw]
theorem qtc {H' : List Ent} {r : AV} (hl : 0 < H'.length) (e0 : ent H' 0 = .blk [.nils]) (hr : r.bd 1 = true) :
 qch (fun H' o => H' = [outE []] ∧ o = .val r) H' (.val r) := by
 refine ⟨[.blk [.nils]], [0], rfl, by simp, by simp, ?_, hr, rfl, rfl⟩
 exact ⟨⟨hl, rfl, by rw [e0]; rfl⟩, trivial⟩
theorem qbsy (l : List Int) (t : Ty) (k : Int) (hb : l.length ≤ 1000000) : VM Tryz.prog 74 (outE l) (outE (outN l t)) [encY t, .int .i64 k, .ptr 0 0] (.bool true) := by
 refine qfm ?_ (by simp [AV.bds, AV.bd, qz])
 have hcap : qce (l.length + 1) 8 = True := eq_true (capI (by omega))
 refine qnl c0bx (by simp) ?_
 by_cases h0 : l = []
 ·subst h0
  simp only [qsk, qmg, qmp]
  repeat' (first | refine vs_ ?_ | ((first | refine vr_ ?_ | fail) <;> (try simp only [qe6, go_sem, ↓reduceIte])) | ((first | simp (disch := omega) only [hcap] | (refine cs_ ?_ ?_ <;> intro hc) | refine cj_ ?_ | fail | refine qa (qeq [] _) fun _ => ?_) <;> (try refine ev_ ?_)) | with_reducible exact ti_)
  ·have : outN [] t = [t.var] := by rw [outN, if_pos (by assumption), if_neg (by assumption)]; rfl
   rw [this]
   exact qe7 (l := [t.var]) 2 (by simp) (by omega) (by simp) rfl rfl rfl
  ·exact absurd (by assumption : t.var ∈ []) (by simp)
  ·have : outN [] t = [] := by rw [outN, if_neg (by assumption)]
   rw [this]
   exact qtc (by simp) rfl rfl
 ·simp only [qmr (qg3 h0), qnc (qg3 h0)]
  repeat' (first | refine vs_ ?_ | ((first | refine vr_ ?_ | refine qa (qeq l _) fun _ => ?_ | simp (disch := omega) only [hcap] | (refine cs_ ?_ ?_ <;> intro hc) | refine cj_ ?_ | fail) <;> (try refine ev_ ?_)) | with_reducible exact ti_)
  ·have : outN l t = l ++ [t.var] := by rw [outN, if_pos (by assumption), if_neg (by assumption)]
   rw [this, qve]
   exact qe7 (l := l ++ [t.var]) 3 (by simp) (by omega) (by simp) (by simp [ent]) rfl rfl
  ·have : outN l t = l := by rw [outN, if_pos (by assumption), if_pos (by assumption)]
   rw [this]
   exact qe7 (l := l) 1 h0 (by omega) (by simp) rfl rfl rfl
  ·have : outN l t = l := by rw [outN, if_neg (by assumption)]
   rw [this]
   exact qe7 (l := l) 1 h0 (by omega) (by simp) rfl rfl rfl
def qvt (l : List Int) (t : Ty) (_ : Int) : List Int × Bool := (outN l t, true)
theorem qw5 (l : List Int) (c : List UInt8) (v : Int) (a : List Ty) : outN l (.mk c v a) = qdu l (if c = [] then [v] else []) := by
 unfold outN
 by_cases hcn : c = []
 ·rw [if_pos (show (Ty.mk c v a).con = [] from hcn), if_pos hcn]; rfl
 ·rw [if_neg (show ¬ (Ty.mk c v a).con = [] from hcn), if_neg hcn]; rfl
mutual
theorem qbm3 : ∀ (t : Ty) (l : List Int) (k : Int), qb7 qvt t l k = (qdu l (varY t), true)
 | .mk c v a, l, k => by
   rw [qb7, if_pos (show (qvt l (.mk c v a) k).2 = true from rfl), q5i, varY, qn2]
   congr 2
   exact qw5 l c v a
theorem q5i : ∀ (a : List Ty) (l : List Int) (k : Int), qbk qvt a l k = (qdu l (qbs a), true)
 | [], l, k => by rw [qbk, qbs]; rfl
 | x :: r, l, k => by
   rw [qbk, qbm3 x, if_pos rfl, q5i r, qbs, qn2]
end
theorem q2j (l : List Int) (t : Ty) : (outN l t).length ≤ l.length + 1 := by
 rw [outN]; split
 ·split
  ·omega
  ·simp
 ·omega
theorem qts (t : Ty) (hb : szY t ≤ 1000000) : qn Tryz.prog 51 [encY t] (.sl 1 (ints (qdu [] (varY t)))) := by
 refine qf c0by (by simp) (by simp only [go_sem]) (ql1 0 _) fun hw => ?_
 have hwalk := qhs (st := outE) (step := qvt) (f := 74) (ok := fun n l => l.length + n ≤ 1000000) (fun _ => rfl) (fun n l t k h => by have := q2j l t; simp only [qvt]; omega) (fun n l h => by omega) (fun l t k h => qbsy l t k (by omega)) t [] 1 (by simpa using hb)
 rw [qbm3] at hwalk
 unfold k0by
 refine qb6 (qd5 ?_)
 (refine ev_ ?_; (try with_reducible exact ti_))
 refine qb6 (qd5 ?_)
 (refine ev_ ?_; (try with_reducible exact ti_))
 refine qp5 1 rfl rfl ?_
 refine qb6 (qd5 ?_)
 simp only [List.set_cons_succ, List.set_cons_zero]
 (refine ev_ ?_; (try with_reducible exact ti_))
 refine qbl 1 hwalk ?_
 simp only [List.set_cons_succ, List.set_cons_zero]
 (refine ev_ ?_; (try with_reducible exact ti_))
 refine qbff 1 rfl (by simp) ?_
 simp only [List.set_cons_succ, List.set_cons_zero]
 by_cases h0 : qdu [] (varY t) = []
 ·simp only [h0, qsk, qmg, qmp]
  repeat' (first | refine vs_ ?_ | ((first | refine vr_ ?_ | (refine cs_ ?_ ?_ <;> intro hc) | refine cj_ ?_ | fail) <;> (try refine ev_ ?_)) | with_reducible exact ti_)
 ·simp only [qmr (qg3 h0), qnc (qg3 h0)]
  repeat' (first | refine vs_ ?_ | ((first | refine vr_ ?_ | (refine cs_ ?_ ?_ <;> intro hc) | refine cj_ ?_ | fail) <;> (try refine ev_ ?_)) | with_reducible exact ti_)
set_option maxRecDepth 4000

/-! the program's -/
abbrev numE (n : Int) : Ent := .blk [.int .i64 n]
def qes (n : Int) (t : Ty) (k : Int) : Int × Bool := (IntKind.i64.wrap (n + 1), decide (IntKind.i64.wrap (n + 1) ≤ 4096) && (decide (k ≤ 100) && mayY t))
theorem qbqj (n : Int) (t : Ty) (k : Int) : VM Tryz.prog 57 (numE n) (numE (qes n t k).1) [encY t, .int .i64 k, .ptr 0 0] (.bool (qes n t k).2) := by
 refine qkc (by kernel_rfl) fun hw => ?_
 have hk := qcv hw.1
 refine qe c0bj 1 (by simp) (by simp) ?_
 repeat' (first | refine vs_ ?_ | ((first | refine vr_ ?_ | refine qa (qmu _) fun _ => ?_ | refine qa (q2h _ _ _) fun _ => ?_ | (refine cs_ ?_ ?_ <;> intro hc) | refine cj_ ?_ | simp (disch := omega) only [encs_getN, qb]) <;> (try refine ev_ ?_)) | with_reducible exact ti_)
 ·simp_all [qes]
 ·exact ⟨rfl, by simp only [qes, *, decide_true, decide_false, Bool.true_and, Bool.false_and]⟩
 ·exact ⟨rfl, by simp only [qes, *, decide_true, decide_false, Bool.true_and, Bool.false_and]⟩
def qqu (n : Int) (_ : Ty) (_ : Int) : Int × Bool := (IntKind.i64.wrap (n + 1), true)
theorem qbsu (n : Int) (t : Ty) (k : Int) : VM Tryz.prog 82 (numE n) (numE (qqu n t k).1) [encY t, .int .i64 k, .ptr 0 0] (.bool (qqu n t k).2) := by
 refine qe c0bk 1 (by simp) (by simp) ?_
 repeat' (first | refine vs_ ?_ | ((first | refine vr_ ?_ | (refine cs_ ?_ ?_ <;> intro hc) | refine cj_ ?_ | simp (disch := omega) only [encs_getN, qb]) <;> (try refine ev_ ?_)) | with_reducible exact ti_)
 exact ⟨rfl, rfl⟩
def qo6 (n : Int) (_ : Ty) (k : Int) : Int × Bool := (if k > n then k else n, true)
theorem qbnd (n : Int) (t : Ty) (k : Int) : VM Tryz.prog 83 (numE n) (numE (qo6 n t k).1) [encY t, .int .i64 k, .ptr 0 0] (.bool (qo6 n t k).2) := by
 refine qe c0bl 1 (by simp) (by simp) ?_
 repeat' (first | refine vs_ ?_ | ((first | refine vr_ ?_ | (refine cs_ ?_ ?_ <;> intro hc) | refine cj_ ?_ | fail) <;> (try refine ev_ ?_)) | with_reducible exact ti_)
 exact ⟨rfl, rfl⟩
theorem qm5 {f : FuncId} {step : Int → Ty → Int → Int × Bool} (h : ∀ n t k, VM Tryz.prog f (numE n) (numE (step n t k).1) [encY t, .int .i64 k, .ptr 0 0] (.bool (step n t k).2)) (t : Ty) (n k : Int) :
 VM Tryz.prog 56 (numE n) (numE (qb7 step t n k).1) [encY t, .int .i64 k, .fn f [] [.ptr 0 0]] (.bool (qb7 step t n k).2) :=
 qhs (st := numE) (ok := fun _ _ => True) (fun _ => rfl) (fun _ _ _ _ _ => trivial) (fun _ _ _ => trivial) (fun n t k _ => h n t k) t n k trivial
def qx6 (t : Ty) : Bool := (qb7 qes t 0 1).2
theorem qqo (t : Ty) : qn Tryz.prog 37 [encY t] (.bool (qx6 t)) := by
 refine qf c0bm (by simp) (by simp only [go_sem]) rfl fun hw => ?_
 repeat' (first | refine vs_ ?_ | ((first | refine vr_ ?_ | refine qbl 1 (qm5 qbqj t 0 1) ?_ | (refine cs_ ?_ ?_ <;> intro hc) | refine cj_ ?_ | fail) <;> (try refine ev_ ?_)) | with_reducible exact ti_)
 rfl
theorem qt2 (t : Ty) : qn Tryz.prog 60 [encY t] (.int .i64 (qb7 qqu t 0 1).1) := by
 refine qf c0bn (by simp) (by simp only [go_sem]) rfl fun hw => ?_
 repeat' (first | refine vs_ ?_ | ((first | refine vr_ ?_ | refine qbl 1 (qm5 qbsu t 0 1) ?_ | (refine cs_ ?_ ?_ <;> intro hc) | refine cj_ ?_ | fail) <;> (try refine ev_ ?_)) | with_reducible exact ti_)
theorem qqm (t : Ty) : qn Tryz.prog 61 [encY t] (.int .i64 (qb7 qo6 t 0 1).1) := by
 refine qf c0bo (by simp) (by simp only [go_sem]) rfl fun hw => ?_
 repeat' (first | refine vs_ ?_ | ((first | refine vr_ ?_ | refine qbl 1 (qm5 qbnd t 0 1) ?_ | (refine cs_ ?_ ?_ <;> intro hc) | refine cj_ ?_ | fail) <;> (try refine ev_ ?_)) | with_reducible exact ti_)

/-! the references -/
mutual
def qhv : Ty → Int
 | .mk _ _ l => qez 1 l
def qez : Int → List Ty → Int
 | a, [] => a
 | a, x :: r => qez (IntKind.i64.wrap (a + qhv x)) r
end
theorem qv2 (t : Ty) : qhv t = qez 1 t.args := by cases t; rw [qhv]; rfl
theorem qkw : ∀ t, qn Tryz.prog 23 [encY t] (.int .i64 (qhv t)) := by
 refine Ty.ind fun t ih => ?_
 refine qf c0bp (by simp) (by simp only [go_sem]) rfl fun hw => ?_
 have hk := qcv hw.1
 repeat' (first | refine vs_ ?_ | ((first | refine vr_ ?_ | (refine cs_ ?_ ?_ <;> intro hc) | refine cj_ ?_ | simp (disch := omega) only [encs_getN, qb]) <;> (try refine ev_ ?_)) | with_reducible exact ti_)
 refine qq (S := Nat × Int) (fun s => s.1 ≤ t.args.length ∧ qez s.2 (t.args.drop s.1) = qhv t) (fun s => (⟨[(1, .ptr 0 0), (3, .int .i64 s.2), (4, .int .i64 s.1)], []⟩, [.blk (yc t)])) (fun s => t.args.length - s.1) ?_ fun s hs => ?_
 ·refine qm (0, 1) [0] ⟨Nat.zero_le _, (qv2 t).symm⟩ rfl (by simp) ?_ ?_ ?_ <;> (try refine ev_ ?_) <;> (try with_reducible exact ti_) <;> (try simp (disch := omega) only [qb, and_true, true_and])
 ·obtain ⟨i, a⟩ := s
  obtain ⟨hi, ha⟩ := hs
  dsimp only at hi ha
  repeat' (first | refine vs_ ?_ | ((first | refine vr_ ?_ | fail) <;> (try simp (disch := first | omega | (simp only [List.length_set, List.length_append, List.length_cons, List.length_nil]; done) | (simp only [List.length_set, List.length_append, List.length_cons, List.length_nil]; omega)) only [q6, qb, go_sem, ↓reduceIte])) | ((first | (refine cs_ ?_ ?_ <;> intro hc) | refine cj_ ?_ | simp (disch := omega) only [encs_getN, qb] | refine qa (ih _ (qbr (by omega))) fun _ => ?_) <;> (try refine ev_ ?_)) | with_reducible exact ti_)
  ·refine qm (i + 1, IntKind.i64.wrap (a + qhv (t.args.getD i Y0))) [0] ⟨⟨by dsimp only; omega, ?_⟩, by dsimp only; omega⟩ rfl (by simp) ?_ ?_ ?_ <;> (try refine ev_ ?_) <;> (try with_reducible exact ti_) <;> (try simp (disch := omega) only [qb, and_true, true_and])
   rw [← ha, qhf (l := t.args) (i := i) (by omega), qez]
  ·rw [← ha, List.drop_of_length_le (by omega)]; rfl
mutual
def qlz : Ty → Int
 | .mk _ _ l => IntKind.i64.wrap (qgf 0 l + 1)
def qgf : Int → List Ty → Int
 | a, [] => a
 | a, x :: r => qgf (if qlz x > a then qlz x else a) r
end
theorem q15 (t : Ty) : qlz t = IntKind.i64.wrap (qgf 0 t.args + 1) := by cases t; rw [qlz]; rfl
theorem qq9 : ∀ t, qn Tryz.prog 47 [encY t] (.int .i64 (qlz t)) := by
 refine Ty.ind fun t ih => ?_
 refine qf c0bq (by simp) (by simp only [go_sem]) rfl fun hw => ?_
 have hk := qcv hw.1
 repeat' (first | refine vs_ ?_ | ((first | refine vr_ ?_ | (refine cs_ ?_ ?_ <;> intro hc) | refine cj_ ?_ | simp (disch := omega) only [encs_getN, qb]) <;> (try refine ev_ ?_)) | with_reducible exact ti_)
 refine qq (S := Nat × Int) (fun s => s.1 ≤ t.args.length ∧ qgf s.2 (t.args.drop s.1) = qgf 0 t.args) (fun s => (⟨[(1, .ptr 0 0), (3, .int .i64 s.2), (4, .int .i64 s.1)], []⟩, [.blk (yc t)])) (fun s => t.args.length - s.1) ?_ fun s hs => ?_
 ·refine qm (0, 0) [0] ⟨Nat.zero_le _, rfl⟩ rfl (by simp) ?_ ?_ ?_ <;> (try refine ev_ ?_) <;> (try with_reducible exact ti_) <;> (try simp (disch := omega) only [qb, and_true, true_and])
 ·obtain ⟨i, a⟩ := s
  obtain ⟨hi, ha⟩ := hs
  dsimp only at hi ha
  repeat' (first | refine vs_ ?_ | ((first | refine vr_ ?_ | fail) <;> (try simp (disch := first | omega | (simp only [List.length_set, List.length_append, List.length_cons, List.length_nil]; done) | (simp only [List.length_set, List.length_append, List.length_cons, List.length_nil]; omega)) only [q6, qb, go_sem, ↓reduceIte])) | ((first | (refine cs_ ?_ ?_ <;> intro hc) | refine cj_ ?_ | simp (disch := omega) only [encs_getN, qb] | refine qa (ih _ (qbr (by omega))) fun _ => ?_) <;> (try refine ev_ ?_)) | with_reducible exact ti_)
  ·refine qm (i + 1, if qlz (t.args.getD i Y0) > a then qlz (t.args.getD i Y0) else a) [0] ⟨⟨by dsimp only; omega, ?_⟩, by dsimp only; omega⟩ rfl (by simp) ?_ ?_ ?_ <;> (try refine ev_ ?_) <;> (try with_reducible exact ti_) <;> (try simp (disch := omega) only [qb, and_true, true_and])
   rw [← ha, qhf (l := t.args) (i := i) (by omega), qgf]
  ·rw [q15, ← ha, List.drop_of_length_le (by omega)]; rfl
mutual
def qbi : Ty → Bool
 | .mk c v l => qw l && mayW c v l.length
def qw : List Ty → Bool
 | [] => true
 | x :: r => qbi x && qw r
end
theorem qdb (t : Ty) : qbi t = (qw t.args && mayY t) := by cases t; rw [qbi]; rfl
theorem qh4 {l : List Ty} {i : Nat} (h : i < l.length) : qw (l.drop i) = (qbi (l.getD i Y0) && qw (l.drop (i + 1))) := by rw [qhf h, qw]
theorem qqx : ∀ t, qn Tryz.prog 48 [encY t] (.bool (qbi t)) := by
 refine Ty.ind fun t ih => ?_
 refine qf c0br (by simp) (by simp only [go_sem]) rfl fun hw => ?_
 have hk := qcv hw.1
 repeat' (first | refine vs_ ?_ | ((first | refine vr_ ?_ | (refine cs_ ?_ ?_ <;> intro hc) | refine cj_ ?_ | simp (disch := omega) only [encs_getN, qb]) <;> (try refine ev_ ?_)) | with_reducible exact ti_)
 refine qq (S := Nat) (fun i => i ≤ t.args.length ∧ qw (t.args.drop i) = qw t.args) (fun i => (⟨[(1, .ptr 0 0), (3, .int .i64 i)], []⟩, [.blk (yc t)])) (fun i => t.args.length - i) ?_ fun i hi => ?_
 ·refine qm 0 [0] ⟨Nat.zero_le _, rfl⟩ rfl (by simp) ?_ ?_ ?_ <;> (try refine ev_ ?_) <;> (try with_reducible exact ti_) <;> (try simp (disch := omega) only [qb, and_true, true_and])
 ·obtain ⟨hi, ha⟩ := hi
  rw [qdb]
  repeat' (first | refine vs_ ?_ | ((first | refine vr_ ?_ | fail) <;> (try simp (disch := first | omega | (simp only [List.length_set, List.length_append, List.length_cons, List.length_nil]; done) | (simp only [List.length_set, List.length_append, List.length_cons, List.length_nil]; omega)) only [q6, qb, go_sem, ↓reduceIte])) | ((first | (refine cs_ ?_ ?_ <;> intro hc) | refine cj_ ?_ | simp (disch := omega) only [encs_getN, qb] | refine qa (ih _ (qbr (by omega))) fun _ => ?_ | refine qa (qqj _) fun _ => ?_ | refine qa (qyz _) fun _ => ?_) <;> (try refine ev_ ?_)) | with_reducible exact ti_)
  ·have : qw t.args = false := by rw [← ha, qh4 (by omega), hc]; rfl
   rw [this]; rfl
  ·refine qm (i + 1) [0] ⟨⟨by omega, ?_⟩, by omega⟩ rfl (by simp) ?_ ?_ ?_ <;> (try refine ev_ ?_) <;> (try with_reducible exact ti_) <;> (try simp (disch := omega) only [qb, and_true, true_and])
   rw [← ha, qh4 (i := i) (by omega), hc, Bool.true_and]
  all_goals
   have hs : qw t.args = true := by rw [← ha, List.drop_of_length_le (by omega)]; rfl
   rw [hs, Bool.true_and, mayY, mayW]
   simp only [arrW, *, if_true, if_false, decide_true, decide_false, Bool.and_true, Bool.and_false, Bool.false_eq_true]
   try rfl
/-! Few -/
mutual
def cntY : Ty → Int → Int → Int
 | .mk _ _ l, k, d => if d < 1 then -1 else qdt l (IntKind.i64.wrap (k - 1)) d
def qdt : List Ty → Int → Int → Int
 | [], a, _ => a
 | x :: r, a, d => if 0 ≤ a then qdt r (cntY x a (IntKind.i64.wrap (d - 1))) d else a
end
theorem qxz (t : Ty) (k d : Int) : cntY t k d = if d < 1 then -1 else qdt t.args (IntKind.i64.wrap (k - 1)) d := by cases t; rw [cntY]; rfl
theorem qf7 {a : Int} (h : a < 0) (l : List Ty) (d : Int) : qdt l a d = a := by
 cases l with
 | nil => rw [qdt]
 | cons x r => rw [qdt, if_neg (by omega)]
theorem qbc0 : ∀ t k d, qn Tryz.prog 40 [encY t, .int .i64 k, .int .i64 d] (.int .i64 (cntY t k d)) := by
 refine Ty.ind fun t ih k d => ?_
 refine qf c0bs (by simp) (by simp only [go_sem]) rfl fun hw => ?_
 have hk := qcv hw.1
 rw [qxz]
 repeat' (first | refine vs_ ?_ | ((first | refine vr_ ?_ | (refine cs_ ?_ ?_ <;> intro hc) | refine cj_ ?_ | simp (disch := omega) only [encs_getN, qb]) <;> (try refine ev_ ?_)) | with_reducible exact ti_)
 ·rw [if_pos (by assumption)]
 rw [if_neg (by assumption)]
 refine qq (S := Nat × Int) (fun s => s.1 ≤ t.args.length ∧ qdt (t.args.drop s.1) s.2 d = qdt t.args (IntKind.i64.wrap (k - 1)) d) (fun s => (⟨[(1, .int .i64 s.2), (2, .int .i64 d), (3, .ptr 0 0), (7, .int .i64 s.1)], []⟩, [.blk (yc t)])) (fun s => t.args.length - s.1) ?_ fun s hs => ?_
 ·refine qm (0, IntKind.i64.wrap (k - 1)) [0] ⟨Nat.zero_le _, rfl⟩ rfl (by simp) ?_ ?_ ?_ <;> (try refine ev_ ?_) <;> (try with_reducible exact ti_) <;> (try simp (disch := omega) only [qb, and_true, true_and])
 ·obtain ⟨i, a⟩ := s
  obtain ⟨hi, ha⟩ := hs
  dsimp only at hi ha
  repeat' (first | refine vs_ ?_ | ((first | refine vr_ ?_ | fail) <;> (try simp (disch := first | omega | (simp only [List.length_set, List.length_append, List.length_cons, List.length_nil]; done) | (simp only [List.length_set, List.length_append, List.length_cons, List.length_nil]; omega)) only [q6, qb, go_sem, ↓reduceIte])) | ((first | (refine cs_ ?_ ?_ <;> intro hc) | refine cj_ ?_ | simp (disch := omega) only [encs_getN, qb] | refine qa (ih _ (qbr (by omega)) _ _) fun _ => ?_) <;> (try refine ev_ ?_)) | with_reducible exact ti_)
  ·refine qm (i + 1, cntY (t.args.getD i Y0) a (IntKind.i64.wrap (d - 1))) [0] ⟨⟨by dsimp only; omega, ?_⟩, by dsimp only; omega⟩ rfl (by simp) ?_ ?_ ?_ <;> (try refine ev_ ?_) <;> (try with_reducible exact ti_) <;> (try simp (disch := omega) only [qb, and_true, true_and])
   rw [← ha, qhf (l := t.args) (i := i) (by omega), qdt, if_pos (by assumption)]
  ·rw [← ha, qf7 (by omega)]
  ·rw [← ha, List.drop_of_length_le (by omega)]; rfl
def qkr (a : Int) : List Ty → Int
 | [] => a
 | x :: r => qkr (cntY x a 300) r
def qgv (l : List Ty) : Bool := decide (0 ≤ qkr 20000 l)
theorem qbli (l : List Ty) : qn Tryz.prog 22 [.sl 3 (qs l)] (.int .i64 (if qgv l = true then 1 else 0)) := by
 refine qf c0bt (by simp) (by simp only [go_sem]) rfl fun hw => ?_
 have hk : l.length ≤ maxLen := by have := hw.1.1; rwa [qby] at this
 repeat' (first | refine vs_ ?_ | ((first | refine vr_ ?_ | (refine cs_ ?_ ?_ <;> intro hc) | refine cj_ ?_ | simp (disch := omega) only [encs_getN, qb]) <;> (try refine ev_ ?_)) | with_reducible exact ti_)
 refine qq (S := Nat × Int) (fun s => s.1 ≤ l.length ∧ qkr s.2 (l.drop s.1) = qkr 20000 l) (fun s => (⟨[(0, .sl 3 (qs l)), (3, .int .i64 s.2), (4, .int .i64 s.1)], []⟩, [])) (fun s => l.length - s.1) ?_ fun s hs => ?_
 ·refine qm (0, 20000) [] ⟨Nat.zero_le _, rfl⟩ rfl (by simp) ?_ ?_ ?_ <;> (try refine ev_ ?_) <;> (try with_reducible exact ti_) <;> (try simp (disch := omega) only [qb, and_true, true_and])
 ·obtain ⟨i, a⟩ := s
  obtain ⟨hi, ha⟩ := hs
  dsimp only at hi ha
  repeat' (first | refine vs_ ?_ | ((first | refine vr_ ?_ | fail) <;> (try simp (disch := first | omega | (simp only [List.length_set, List.length_append, List.length_cons, List.length_nil]; done) | (simp only [List.length_set, List.length_append, List.length_cons, List.length_nil]; omega)) only [q6, qb, go_sem, ↓reduceIte])) | ((first | (refine cs_ ?_ ?_ <;> intro hc) | refine cj_ ?_ | simp (disch := omega) only [encs_getN, qb] | refine qa (qbc0 _ _ _) fun _ => ?_) <;> (try refine ev_ ?_)) | with_reducible exact ti_)
  ·refine qm (i + 1, cntY (l.getD i Y0) a 300) [] ⟨⟨by dsimp only; omega, ?_⟩, by dsimp only; omega⟩ rfl (by simp) ?_ ?_ ?_ <;> (try refine ev_ ?_) <;> (try with_reducible exact ti_) <;> (try simp (disch := omega) only [qb, and_true, true_and])
   rw [← ha, qhf (l := l) (i := i) (by omega), qkr]
  all_goals
   have hf : qkr 20000 l = a := by rw [← ha, List.drop_of_length_le (by omega)]; rfl
   rw [qgv, hf]
  ·rw [if_neg (by simp; omega)]
  ·rw [if_pos (by simp; omega)]

/-! the laws of sizes -/
mutual
theorem qy2 : ∀ (t : Ty) (k d : Int), 0 ≤ k → k ≤ 20000 → d ≤ 300 → 0 ≤ cntY t k d → cntY t k d = k - szY t ∧ (dpY t : Int) ≤ d
 | .mk c v l, k, d, h0, h1, h2, h3 => by
   rw [cntY] at h3 ⊢
   by_cases hd : d < 1
   ·rw [if_pos hd] at h3; omega
   ·rw [if_neg hd] at h3 ⊢
    have hk : IntKind.i64.wrap (k - 1) = k - 1 := qt (by omega) (by omega)
    rw [hk] at h3 ⊢
    have h4 : 0 ≤ k - 1 := by
     by_cases h : 0 ≤ k - 1
     ·exact h
     ·rw [qf7 (by omega)] at h3; exact h3
    have := qrq l (k - 1) d h4 (by omega) (by omega) h2 h3
    rw [szY, dpY]
    omega
theorem qrq : ∀ (l : List Ty) (a d : Int), 0 ≤ a → a ≤ 20000 → 1 ≤ d → d ≤ 300 → 0 ≤ qdt l a d → qdt l a d = a - szYs l ∧ (dpYs l : Int) ≤ d - 1
 | [], a, d, h0, h1, h2, h3, h4 => by rw [qdt, szYs, dpYs]; omega
 | x :: r, a, d, h0, h1, h2, h3, h4 => by
   rw [qdt, if_pos h0] at h4 ⊢
   have hd : IntKind.i64.wrap (d - 1) = d - 1 := qt (by omega) (by omega)
   rw [hd] at h4 ⊢
   have h5 : 0 ≤ cntY x a (d - 1) := by
    by_cases h : 0 ≤ cntY x a (d - 1)
    ·exact h
    ·rw [qf7 (by omega)] at h4; exact absurd h4 h
   obtain ⟨h6, h7⟩ := qy2 x a (d - 1) h0 h1 (by omega) h5
   obtain ⟨h8, h9⟩ := qrq r _ d h5 (by omega) h2 h3 h4
   rw [szYs, dpYs]
   omega
end
mutual
theorem qwr : ∀ (t : Ty) (k d : Int), 0 ≤ k → k ≤ 20000 → -1 ≤ cntY t k d
 | .mk c v l, k, d, h0, h1 => by
   rw [cntY]
   split
   ·omega
   ·rw [qt (z := k - 1) (by omega) (by omega)]
    exact qx1 l (k - 1) d (by omega) (by omega)
theorem qx1 : ∀ (l : List Ty) (a d : Int), -1 ≤ a → a ≤ 20000 → -1 ≤ qdt l a d
 | [], a, d, h0, _ => by rw [qdt]; exact h0
 | x :: r, a, d, h0, h1 => by
   rw [qdt]
   split
   ·rename_i h
    have h2 := qwr x a (IntKind.i64.wrap (d - 1)) h h1
    have h3 := q5m x a (IntKind.i64.wrap (d - 1)) h h1
    exact qx1 r _ d h2 (by omega)
   ·exact h0
theorem q5m : ∀ (t : Ty) (k d : Int), 0 ≤ k → k ≤ 20000 → cntY t k d ≤ k
 | .mk c v l, k, d, h0, h1 => by
   rw [cntY]
   split
   ·omega
   ·rw [qt (z := k - 1) (by omega) (by omega)]
    have := qy6 l (k - 1) d (by omega) (by omega)
    omega
theorem qy6 : ∀ (l : List Ty) (a d : Int), -1 ≤ a → a ≤ 20000 → qdt l a d ≤ a
 | [], a, d, h0, _ => by rw [qdt]; exact Int.le_refl _
 | x :: r, a, d, h0, h1 => by
   rw [qdt]
   split
   ·rename_i h
    have h2 := qwr x a (IntKind.i64.wrap (d - 1)) h h1
    have h3 := q5m x a (IntKind.i64.wrap (d - 1)) h h1
    have := qy6 r _ d h2 (by omega)
    omega
   ·exact Int.le_refl _
end
theorem qrp : ∀ (l : List Ty) {a : Int}, a < 0 → -9223372036854775808 ≤ a - l.length → qkr a l < 0
 | [], a, h, _ => h
 | x :: r, a, h, h2 => by
   rw [qkr]
   have h3 : cntY x a 300 = IntKind.i64.wrap (a - 1) := by
    rw [qxz, if_neg (by omega)]
    have hk : IntKind.i64.wrap (a - 1) = a - 1 := qt (by simp only [List.length_cons] at h2; omega) (by omega)
    rw [hk, qf7 (by omega)]
   have hk : IntKind.i64.wrap (a - 1) = a - 1 := qt (by simp only [List.length_cons] at h2; omega) (by omega)
   rw [h3, hk]
   exact qrp r (by omega) (by simp only [List.length_cons] at h2; omega)
theorem qsu : ∀ (l : List Ty) (a : Int), 0 ≤ a → a ≤ 20000 → l.length ≤ 9223372036854775807 → 0 ≤ qkr a l → (szYs l : Int) ≤ a ∧ (dpYs l : Int) ≤ 300
 | [], a, h0, h1, _, h2 => by rw [szYs, dpYs]; omega
 | x :: r, a, h0, h1, hl, h2 => by
   rw [qkr] at h2
   simp only [List.length_cons] at hl
   have h5 : 0 ≤ cntY x a 300 := by
    by_cases h : 0 ≤ cntY x a 300
    ·exact h
    ·have : -1 ≤ cntY x a 300 := qwr x a 300 h0 h1
     have := qrp r (a := cntY x a 300) (by omega) (by omega)
     omega
   obtain ⟨h6, h7⟩ := qy2 x a 300 h0 h1 (by omega) h5
   obtain ⟨h8, h9⟩ := qsu r _ h5 (by omega) (by omega) h2
   rw [szYs, dpYs]
   omega
theorem qbet {l : List Ty} (hl : l.length ≤ maxLen) (h : qgv l = true) : szYs l ≤ 20000 ∧ dpYs l ≤ 300 := by
 have := qsu l 20000 (by omega) (by omega) (by unfold maxLen at hl; omega) (by simpa [qgv] using h)
 omega

mutual
theorem qhj : ∀ (t : Ty), szY t ≤ 1000000 → qhv t = szY t
 | .mk c v l, h => by
   rw [szY] at h
   rw [qhv, szY, qjl l 1 (by omega) (by omega)]
   omega
theorem qjl : ∀ (l : List Ty) (a : Int), 1 ≤ a → a + szYs l ≤ 1000001 → qez a l = a + szYs l
 | [], a, _, _ => by rw [qez, szYs]; omega
 | x :: r, a, h0, h => by
   rw [szYs] at h
   rw [qez, qhj x (by omega), qt (by omega) (by omega), qjl r _ (by omega) (by omega), szYs]
   omega
end
mutual
theorem qon : ∀ (t : Ty), dpY t ≤ 1000000 → qlz t = dpY t
 | .mk c v l, h => by
   rw [dpY] at h
   rw [qlz, dpY, qld l 0 (by omega) (by omega), qt (by omega) (by omega)]
   omega
theorem qld : ∀ (l : List Ty) (a : Int), dpYs l ≤ 1000000 → 0 ≤ a → qgf a l = max a (dpYs l)
 | [], a, _, _ => by rw [qgf, dpYs]; omega
 | x :: r, a, h, h0 => by
   rw [dpYs] at h
   have h1 := qon x (by omega)
   rw [qgf, h1]
   have h2 : (if (dpY x : Int) > a then (dpY x : Int) else a) = max a (dpY x) := by split <;> omega
   rw [h2, qld r _ (by omega) (by omega), dpYs]
   omega
end
mutual
theorem qpg : ∀ (t : Ty) (n k : Int), 0 ≤ n → n + szY t ≤ 1000000 → qb7 qqu t n k = (n + szY t, true)
 | .mk c v l, n, k, h0, h => by
   rw [szY] at h
   rw [qb7, if_pos (show (qqu n (.mk c v l) k).2 = true from rfl)]
   have h1 : (qqu n (.mk c v l) k).1 = n + 1 := qt (by omega) (by omega)
   rw [h1, qkz l _ _ (by omega) (by omega), szY]
   congr 1; omega
theorem qkz : ∀ (l : List Ty) (n k : Int), 0 ≤ n → n + szYs l ≤ 1000000 → qbk qqu l n k = (n + szYs l, true)
 | [], n, k, _, _ => by rw [qbk, szYs]; congr 1; omega
 | x :: r, n, k, h0, h => by
   rw [szYs] at h
   rw [qbk, qpg x n k h0 (by omega), if_pos rfl, qkz r _ k (by omega) (by omega), szYs]
   congr 1; omega
end
mutual
theorem qo7 : ∀ (t : Ty) (n k : Int), 0 ≤ n → 1 ≤ k → k + dpY t ≤ 1000000 → qb7 qo6 t n k = (max n (k + dpY t - 1), true)
 | .mk c v l, n, k, h0, h1, h => by
   rw [dpY] at h
   rw [qb7, if_pos (show (qo6 n (.mk c v l) k).2 = true from rfl)]
   have h2 : (qo6 n (.mk c v l) k).1 = max n k := by simp only [qo6]; split <;> omega
   rw [h2, qt (z := k + 1) (by omega) (by omega), qlk l _ _ (by omega) (by omega) (by omega), dpY]
   congr 1; split <;> omega
theorem qlk : ∀ (l : List Ty) (n k : Int), 0 ≤ n → 1 ≤ k → k + dpYs l ≤ 1000000 → qbk qo6 l n k = (if dpYs l = 0 then n else max n (k + dpYs l - 1), true)
 | [], n, k, _, _, _ => by rw [qbk, dpYs, if_pos rfl]
 | x :: r, n, k, h0, h1, h => by
   rw [dpYs] at h
   have hp := qbbm x
   rw [qbk, qo7 x n k h0 h1 (by omega), if_pos rfl, qlk r _ k (by omega) h1 (by omega), dpYs]
   congr 1
   rw [if_neg (by omega : ¬ max (dpY x) (dpYs r) = 0)]
   split <;> omega
end
mutual
theorem qoz : ∀ (t : Ty) (n k : Int), 0 ≤ n → n + szY t ≤ 1000000 → 1 ≤ k → k + dpY t ≤ 1000000 →
 ((qb7 qes t n k).2 = true ↔ n + szY t ≤ 4096 ∧ k + dpY t - 1 ≤ 100 ∧ qbi t = true) ∧ ((qb7 qes t n k).2 = true → (qb7 qes t n k).1 = n + szY t)
 | .mk c v l, n, k, h0, h1, h2, h3 => by
   rw [szY] at h1
   rw [dpY] at h3
   have e1 : IntKind.i64.wrap (n + 1) = n + 1 := qt (by omega) (by omega)
   have e2 : IntKind.i64.wrap (k + 1) = k + 1 := qt (by omega) (by omega)
   have e3 : (qes n (.mk c v l) k).1 = n + 1 := e1
   have e4 : (qes n (.mk c v l) k).2 = true ↔ n + 1 ≤ 4096 ∧ k ≤ 100 ∧ mayW c v l.length = true := by
    simp only [qes, e1, Bool.and_eq_true, decide_eq_true_eq]; rfl
   rw [qb7, szY, dpY, qbi]
   by_cases hs : (qes n (.mk c v l) k).2 = true
   ·rw [if_pos hs, e3, e2]
    obtain ⟨q1, q2, q3⟩ := e4.1 hs
    obtain ⟨r1, r2⟩ := qlj l (n + 1) (k + 1) (by omega) (by omega) (by omega) (by omega) (by omega) (by omega)
    refine ⟨?_, fun h => by rw [r2 h]; omega⟩
    rw [r1, q3, Bool.and_true]
    constructor
    ·rintro ⟨a1, a2, a3⟩; exact ⟨by omega, by omega, a3⟩
    ·rintro ⟨a1, a2, a3⟩; exact ⟨by omega, by omega, a3⟩
   ·rw [if_neg hs]
    refine ⟨⟨fun h => (by cases h), fun ⟨a1, a2, a3⟩ => absurd (e4.2 ⟨by omega, by omega, (by rw [Bool.and_eq_true] at a3; exact a3.2)⟩) hs⟩, fun h => by cases h⟩
theorem qlj : ∀ (l : List Ty) (n k : Int), 0 ≤ n → n + szYs l ≤ 1000000 → 1 ≤ k → k + dpYs l ≤ 1000000 → n ≤ 4096 → k - 1 ≤ 100 →
 ((qbk qes l n k).2 = true ↔ n + szYs l ≤ 4096 ∧ k + dpYs l - 1 ≤ 100 ∧ qw l = true) ∧ ((qbk qes l n k).2 = true → (qbk qes l n k).1 = n + szYs l)
 | [], n, k, h0, h1, h2, h3, h4, h5 => by
   rw [qbk, szYs, dpYs, qw]
   exact ⟨⟨fun _ => ⟨by omega, by omega, rfl⟩, fun _ => rfl⟩, fun _ => by simp⟩
 | x :: r, n, k, h0, h1, h2, h3, h4, h5 => by
   rw [szYs] at h1
   rw [dpYs] at h3
   obtain ⟨q1, q2⟩ := qoz x n k h0 (by omega) h2 (by omega)
   rw [qbk, szYs, dpYs, qw]
   by_cases hs : (qb7 qes x n k).2 = true
   ·rw [if_pos hs, q2 hs]
    obtain ⟨a1, a2, a3⟩ := q1.1 hs
    obtain ⟨r1, r2⟩ := qlj r (n + szY x) k (by omega) (by omega) h2 (by omega) (by omega) h5
    refine ⟨?_, fun h => by rw [r2 h]; omega⟩
    rw [r1, a3, Bool.true_and]
    constructor
    ·rintro ⟨b1, b2, b3⟩; exact ⟨by omega, by omega, b3⟩
    ·rintro ⟨b1, b2, b3⟩; exact ⟨by omega, by omega, b3⟩
   ·rw [if_neg hs]
    refine ⟨⟨fun h => (by cases h), fun ⟨a1, a2, a3⟩ => absurd (q1.2 ⟨by omega, by omega, ?_⟩) hs⟩, fun h => by cases h⟩
    rw [Bool.and_eq_true] at a3
    exact a3.1
end
def qc (t : Ty) : Bool := decide (szY t ≤ 4096) && (decide (dpY t ≤ 100) && qbi t)
theorem qu8 {t : Ty} (h1 : szY t ≤ 20000) (h2 : dpY t ≤ 300) : qx6 t = qc t := by
 have := (qoz t 0 1 (by omega) (by omega) (by omega) (by omega)).1
 rw [qx6, Bool.eq_iff_iff, this, qc, Bool.and_eq_true, Bool.and_eq_true, decide_eq_true_eq, decide_eq_true_eq]
 constructor
 ·rintro ⟨a1, a2, a3⟩; exact ⟨by omega, by omega, a3⟩
 ·rintro ⟨a1, a2, a3⟩; exact ⟨by omega, by omega, a3⟩
theorem qq2 {t : Ty} (h1 : szY t ≤ 20000) (h2 : dpY t ≤ 300) : qn Tryz.prog 29 [encY t] (.bool (qc t)) := by
 refine qf c0bu (by simp) (by simp only [go_sem]) rfl fun hw => ?_
 have e1 := qkw t
 have e2 := qq9 t
 rw [qhj t (by omega)] at e1
 rw [qon t (by omega)] at e2
 repeat' (first | refine vs_ ?_ | ((first | refine vr_ ?_ | refine qa e1 fun _ => ?_ | refine qa e2 fun _ => ?_ | refine qa (qqx t) fun _ => ?_ | (refine cs_ ?_ ?_ <;> intro hc) | refine cj_ ?_ | fail) <;> (try refine ev_ ?_)) | with_reducible exact ti_)
 all_goals
  rw [qc]
 ·rw [decide_eq_true (by omega), decide_eq_true (by omega)]; rfl
 ·rw [decide_eq_false (p := dpY t ≤ 100) (by omega), Bool.false_and, Bool.and_false]
 ·rw [decide_eq_false (p := szY t ≤ 4096) (by omega)]; rfl
theorem qcr {t : Ty} (h1 : szY t ≤ 20000) (h2 : dpY t ≤ 300) : qn Tryz.prog 37 [encY t] (.bool (qc t)) := by
 rw [← qu8 h1 h2]; exact qqo t
end Go.Proofs.YtlahgbhhejkgbaaGreat
