/- Texts of this proof, joined. -/
import Derived.Test.YtlahgbhhejkgbaaGreatLas

/- rows of integers: whether a number is there, each once -/
set_option maxRecDepth 4000
namespace Go.Proofs.YtlahgbhhejkgbaaGreat
open Go Go.RowKit Go.V
set_option linter.unusedVariables false
set_option linter.unusedSimpArgs false

def ints (l : List Int) : List AV := l.map (AV.int .i64)
theorem qnh (l : List Int) : (ints l).length = l.length := by simp [ints]
theorem qmo (k : Nat) (l : List Int) : AV.bds k (ints l) = true := by rw [ints, qdb]; simp [AV.bd]
theorem qsq (σ : Nat → Nat) (l : List Int) : AV.rens σ (ints l) = ints l := qr (m := 0) (fun i hi => by omega) _ (qmo 0 l)
theorem qps {l : List Int} {i : Nat} (h : i < l.length) : (ints l).getD i .junk = .int .i64 (l.getD i 0) := by
 rw [ints, List.getD_eq_getElem?_getD, List.getElem?_map, List.getElem?_eq_getElem h, List.getD_eq_getElem?_getD, List.getElem?_eq_getElem h]; rfl
theorem qx3 (l : List Int) (v : Int) : ints l ++ [.int .i64 v] = ints (l ++ [v]) := by simp [ints]
theorem qrt : ints [] = [] := rfl
theorem qhf {l : List Int} (h : l ≠ []) : ints l ≠ [] := by cases l with | nil => exact absurd rfl h | cons _ _ => simp [ints]
attribute [go_sem] qnh qmo qsq cond_false cond_true
theorem qbk2 {l : List Int} {i : Nat} (h : i < l.length) : l.drop i = l.getD i 0 :: l.drop (i + 1) := by
 rw [List.drop_eq_getElem_cons h, List.getD_eq_getElem?_getD, List.getElem?_eq_getElem h]; rfl
theorem capI {k : Nat} (h : k ≤ 1000000000) : qb3 k 8 := by unfold qb3; omega

def idxW (v : Int) : List Int → Int → Int
 | [], _ => -1
 | x :: r, k => if v = x then k else idxW v r (k + 1)
theorem qyw (v : Int) : ∀ (l : List Int) (k : Int), 0 ≤ k → (decide (0 ≤ idxW v l k) = decide (v ∈ l))
 | [], k, h => by simp [idxW]
 | x :: r, k, h => by
   rw [idxW]
   by_cases hx : v = x
   ·simp [hx, h]
   ·rw [if_neg hx, qyw v r (k + 1) (by omega)]; simp [hx]
theorem qoi (l : List Int) (v : Int) : qn Tryz.prog 96 [.sl 1 (ints l), .int .i64 v] (.int .i64 (idxW v l 0)) := by
 refine qf c0bw (by simp) (by simp only [go_sem]) rfl fun hw => ?_
 have hl : l.length ≤ maxLen := by have := hw.1.1; rwa [qnh] at this
 repeat' (first | refine vs_ ?_ | ((first | refine vr_ ?_ | (refine cs_ ?_ ?_ <;> intro hc) | refine cj_ ?_ | simp (disch := omega) only [encs_getN, qb]) <;> (try refine ev_ ?_)) | with_reducible exact ti_)
 refine qp (S := Nat) (fun i => i ≤ l.length ∧ idxW v (l.drop i) i = idxW v l 0) (fun i => (⟨[(0, .sl 1 (ints l)), (1, .int .i64 v), (7, .int .i64 l.length), (8, .int .i64 i)], []⟩, [])) (fun i => l.length - i) ?_ fun i hi => ?_
 ·refine qm 0 [] ⟨Nat.zero_le _, rfl⟩ rfl (by simp) ?_ ?_ ?_ <;> (try refine ev_ ?_) <;> (try with_reducible exact ti_) <;> (try simp (disch := omega) only [qb, and_true, true_and])
 ·obtain ⟨hi, ha⟩ := hi
  repeat' (first | refine vs_ ?_ | ((first | refine vr_ ?_ | fail) <;> (try simp (disch := first | omega | (simp only [List.length_set, List.length_append, List.length_cons, List.length_nil]; done) | (simp only [List.length_set, List.length_append, List.length_cons, List.length_nil]; omega)) only [qps, qb, go_sem, ↓reduceIte])) | ((first | (refine cs_ ?_ ?_ <;> intro hc) | refine cj_ ?_ | simp (disch := omega) only [encs_getN, qb]) <;> (try refine ev_ ?_)) | with_reducible exact ti_)
  ·rw [← ha, qbk2 (by omega), idxW, if_pos (by assumption)]
  ·refine qm (i + 1) [] ⟨⟨by omega, ?_⟩, by omega⟩ rfl (by simp) ?_ ?_ ?_ <;> (try refine ev_ ?_) <;> (try with_reducible exact ti_) <;> (try simp (disch := omega) only [qb, and_true, true_and])
   rw [← ha, qbk2 (l := l) (i := i) (by omega), idxW, if_neg (by assumption)]; rfl
  ·rw [← ha, List.drop_of_length_le (by omega)]; rfl
theorem qe1 (l : List Int) (v : Int) : qn Tryz.prog 75 [.sl 1 (ints l), .int .i64 v] (.bool (decide (v ∈ l))) := by
 refine qf c0bx (by simp) (by simp only [go_sem]) rfl fun hw => ?_
 repeat' (first | refine vs_ ?_ | ((first | refine vr_ ?_ | refine qa (qoi _ _) fun _ => ?_ | (refine cs_ ?_ ?_ <;> intro hc) | refine cj_ ?_ | fail) <;> (try refine ev_ ?_)) | with_reducible exact ti_)
 rw [qyw v l 0 (by omega)]
/-! each once -/
theorem qdr {H : List Ent} {n : Nat} : co H (.sl n) .nils = .sl n [] := Eq.trans rfl rfl
/-! all variables -/
/-! the program's: a walk that gathers -/
def outE (l : List Int) : Ent := bun (.blk [accV 1 (ints l)] :: accE 1 (ints l))
def outN (l : List Int) (t : Ty) : List Int := if t.con = [] then (if t.var ∈ l then l else l ++ [t.var]) else l
theorem qfc {H' : List Ent} {l : List Int} {r : AV} (k : Nat) (h0 : l ≠ []) (hk : 0 < k) (hl : k < H'.length) (e0 : ent H' 0 = .blk [.row k l.length]) (e1 : ent H' k = .app 1 (ints l)) (hr : r.bd 1 = true) :
 qch (fun H' o => H' = [outE l] ∧ o = .val r) H' (.val r) := by
 refine ⟨[.blk [.row 1 l.length], .app 1 (ints l)], [0, k], rfl, by simp, by simp; omega, ?_, hr, ?_, rfl⟩
 ·simp only [qep, List.length_cons, List.length_nil, Ent.bd, AV.bds, AV.bd, Ent.ren, AV.rens, AV.ren, e0, e1, qmo, qsq]
  exact ⟨⟨by omega, rfl, rfl⟩, ⟨hl, trivial, trivial⟩, trivial⟩
 ·rw [outE, qh2 (qhf h0), qh1 (qhf h0), qnh]
theorem qu0 {H' : List Ent} {r : AV} (hl : 0 < H'.length) (e0 : ent H' 0 = .blk [.nils]) (hr : r.bd 1 = true) :
 qch (fun H' o => H' = [outE []] ∧ o = .val r) H' (.val r) := by
 refine ⟨[.blk [.nils]], [0], rfl, by simp, by simp, ?_, hr, rfl, rfl⟩
 exact ⟨⟨hl, rfl, by rw [e0]; rfl⟩, trivial⟩
theorem qbtb (l : List Int) (t : Ty) (k : Int) (hb : l.length ≤ 1000000) : VM Tryz.prog 74 (outE l) (outE (outN l t)) [encY t, .int .i64 k, .ptr 0 0] (.bool true) := by
 refine qfq ?_ (by simp [AV.bds, AV.bd, qz])
 have hcap : qb3 (l.length + 1) 8 = True := eq_true (capI (by omega))
 refine qpq c0by (by simp) ?_
 by_cases h0 : l = []
 ·subst h0
  simp only [qrt, qfh, qe8]
  repeat' (first | refine vs_ ?_ | ((first | refine vr_ ?_ | fail) <;> (try simp only [qdr, go_sem, ↓reduceIte])) | ((first | simp (disch := omega) only [hcap] | (refine cs_ ?_ ?_ <;> intro hc) | refine cj_ ?_ | fail | refine qa (qe1 [] _) fun _ => ?_) <;> (try refine ev_ ?_)) | with_reducible exact ti_)
  ·have : outN [] t = [t.var] := by rw [outN, if_pos (by assumption), if_neg (by assumption)]; rfl
   rw [this]
   exact qfc (l := [t.var]) 2 (by simp) (by omega) (by simp) rfl rfl rfl
  ·exact absurd (by assumption : t.var ∈ []) (by simp)
  ·have : outN [] t = [] := by rw [outN, if_neg (by assumption)]
   rw [this]
   exact qu0 (by simp) rfl rfl
 ·simp only [qh2 (qhf h0), qh1 (qhf h0)]
  repeat' (first | refine vs_ ?_ | ((first | refine vr_ ?_ | refine qa (qe1 l _) fun _ => ?_ | simp (disch := omega) only [hcap] | (refine cs_ ?_ ?_ <;> intro hc) | refine cj_ ?_ | fail) <;> (try refine ev_ ?_)) | with_reducible exact ti_)
  ·have : outN l t = l ++ [t.var] := by rw [outN, if_pos (by assumption), if_neg (by assumption)]
   rw [this, qx3]
   exact qfc (l := l ++ [t.var]) 3 (by simp) (by omega) (by simp) (by simp [ent]) rfl rfl
  ·have : outN l t = l := by rw [outN, if_pos (by assumption), if_pos (by assumption)]
   rw [this]
   exact qfc (l := l) 1 h0 (by omega) (by simp) rfl rfl rfl
  ·have : outN l t = l := by rw [outN, if_neg (by assumption)]
   rw [this]
   exact qfc (l := l) 1 h0 (by omega) (by simp) rfl rfl rfl
def qzm (l : List Int) (t : Ty) (_ : Int) : List Int × Bool := (outN l t, true)
theorem qxd (l : List Int) (c : List UInt8) (v : Int) (a : List Ty) : outN l (.mk c v a) = qd2 l (if c = [] then [v] else []) := by
 unfold outN
 by_cases hcn : c = []
 ·rw [if_pos (show (Ty.mk c v a).con = [] from hcn), if_pos hcn]; rfl
 ·rw [if_neg (show ¬ (Ty.mk c v a).con = [] from hcn), if_neg hcn]; rfl
mutual
theorem qbrl : ∀ (t : Ty) (l : List Int) (k : Int), qb9 qzm t l k = (qd2 l (varY t), true)
 | .mk c v a, l, k => by
   rw [qb9, if_pos (show (qzm l (.mk c v a) k).2 = true from rfl), q5j, varY, qoo]
   congr 2
   exact qxd l c v a
theorem q5j : ∀ (a : List Ty) (l : List Int) (k : Int), qbl qzm a l k = (qd2 l (qbu a), true)
 | [], l, k => by rw [qbl, qbu]; rfl
 | x :: r, l, k => by
   rw [qbl, qbrl x, if_pos rfl, q5j r, qbu, qoo]
end
theorem q1b (l : List Int) (t : Ty) : (outN l t).length ≤ l.length + 1 := by
 rw [outN]; split
 ·split
  ·omega
  ·simp
 ·omega
theorem qt2 (t : Ty) (hb : szY t ≤ 1000000) : qn Tryz.prog 51 [encY t] (.sl 1 (ints (qd2 [] (varY t)))) := by
 refine qf c0bz (by simp) (by simp only [go_sem]) (qmo 0 _) fun hw => ?_
 have hwalk := qhs (st := outE) (step := qzm) (f := 74) (ok := fun n l => l.length + n ≤ 1000000) (fun _ => rfl) (fun n l t k h => by have := q1b l t; simp only [qzm]; omega) (fun n l h => by omega) (fun l t k h => qbtb l t k (by omega)) t [] 1 (by simpa using hb)
 rw [qbrl] at hwalk
 unfold k0bz
 refine qb7 (qd6 ?_)
 (refine ev_ ?_; (try with_reducible exact ti_))
 refine qb7 (qd6 ?_)
 (refine ev_ ?_; (try with_reducible exact ti_))
 refine qqk 1 rfl rfl ?_
 refine qb7 (qd6 ?_)
 simp only [List.set_cons_succ, List.set_cons_zero]
 (refine ev_ ?_; (try with_reducible exact ti_))
 refine qbp 1 hwalk ?_
 simp only [List.set_cons_succ, List.set_cons_zero]
 (refine ev_ ?_; (try with_reducible exact ti_))
 refine q85 1 rfl (by simp) ?_
 simp only [List.set_cons_succ, List.set_cons_zero]
 by_cases h0 : qd2 [] (varY t) = []
 ·simp only [h0, qrt, qfh, qe8]
  repeat' (first | refine vs_ ?_ | ((first | refine vr_ ?_ | (refine cs_ ?_ ?_ <;> intro hc) | refine cj_ ?_ | fail) <;> (try refine ev_ ?_)) | with_reducible exact ti_)
 ·simp only [qh2 (qhf h0), qh1 (qhf h0)]
  repeat' (first | refine vs_ ?_ | ((first | refine vr_ ?_ | (refine cs_ ?_ ?_ <;> intro hc) | refine cj_ ?_ | fail) <;> (try refine ev_ ?_)) | with_reducible exact ti_)
set_option maxRecDepth 4000

/-! the program's -/
abbrev numE (n : Int) : Ent := .blk [.int .i64 n]
def qek (n : Int) (t : Ty) (k : Int) : Int × Bool := (IntKind.i64.wrap (n + 1), decide (IntKind.i64.wrap (n + 1) ≤ 4096) && (decide (k ≤ 100) && mayY t))
theorem qbq9 (n : Int) (t : Ty) (k : Int) : VM Tryz.prog 57 (numE n) (numE (qek n t k).1) [encY t, .int .i64 k, .ptr 0 0] (.bool (qek n t k).2) := by
 refine qi8 (by kernel_rfl) fun hw => ?_
 have hk := qct hw.1
 refine qe c0bk 1 (by simp) (by simp) ?_
 repeat' (first | refine vs_ ?_ | ((first | refine vr_ ?_ | refine qa (qmt _) fun _ => ?_ | refine qa (q1p _ _ _) fun _ => ?_ | (refine cs_ ?_ ?_ <;> intro hc) | refine cj_ ?_ | simp (disch := omega) only [encs_getN, qb]) <;> (try refine ev_ ?_)) | with_reducible exact ti_)
 ·simp_all [qek]
 ·exact ⟨rfl, by simp only [qek, *, decide_true, decide_false, Bool.true_and, Bool.false_and]⟩
 ·exact ⟨rfl, by simp only [qek, *, decide_true, decide_false, Bool.true_and, Bool.false_and]⟩
def qqm (n : Int) (_ : Ty) (_ : Int) : Int × Bool := (IntKind.i64.wrap (n + 1), true)
theorem qbsz (n : Int) (t : Ty) (k : Int) : VM Tryz.prog 82 (numE n) (numE (qqm n t k).1) [encY t, .int .i64 k, .ptr 0 0] (.bool (qqm n t k).2) := by
 refine qe c0bl 1 (by simp) (by simp) ?_
 repeat' (first | refine vs_ ?_ | ((first | refine vr_ ?_ | (refine cs_ ?_ ?_ <;> intro hc) | refine cj_ ?_ | simp (disch := omega) only [encs_getN, qb]) <;> (try refine ev_ ?_)) | with_reducible exact ti_)
 exact ⟨rfl, rfl⟩
def qo2 (n : Int) (_ : Ty) (k : Int) : Int × Bool := (if k > n then k else n, true)
theorem qbrr (n : Int) (t : Ty) (k : Int) : VM Tryz.prog 83 (numE n) (numE (qo2 n t k).1) [encY t, .int .i64 k, .ptr 0 0] (.bool (qo2 n t k).2) := by
 refine qe c0bm 1 (by simp) (by simp) ?_
 repeat' (first | refine vs_ ?_ | ((first | refine vr_ ?_ | (refine cs_ ?_ ?_ <;> intro hc) | refine cj_ ?_ | fail) <;> (try refine ev_ ?_)) | with_reducible exact ti_)
 exact ⟨rfl, rfl⟩
theorem qml {f : FuncId} {step : Int → Ty → Int → Int × Bool} (h : ∀ n t k, VM Tryz.prog f (numE n) (numE (step n t k).1) [encY t, .int .i64 k, .ptr 0 0] (.bool (step n t k).2)) (t : Ty) (n k : Int) :
 VM Tryz.prog 56 (numE n) (numE (qb9 step t n k).1) [encY t, .int .i64 k, .fn f [] [.ptr 0 0]] (.bool (qb9 step t n k).2) :=
 qhs (st := numE) (ok := fun _ _ => True) (fun _ => rfl) (fun _ _ _ _ _ => trivial) (fun _ _ _ => trivial) (fun n t k _ => h n t k) t n k trivial
def qvm (t : Ty) : Bool := (qb9 qek t 0 1).2
theorem qre (t : Ty) : qn Tryz.prog 37 [encY t] (.bool (qvm t)) := by
 refine qf c0bn (by simp) (by simp only [go_sem]) rfl fun hw => ?_
 repeat' (first | refine vs_ ?_ | ((first | refine vr_ ?_ | refine qbp 1 (qml qbq9 t 0 1) ?_ | (refine cs_ ?_ ?_ <;> intro hc) | refine cj_ ?_ | fail) <;> (try refine ev_ ?_)) | with_reducible exact ti_)
 rfl
theorem qu1 (t : Ty) : qn Tryz.prog 60 [encY t] (.int .i64 (qb9 qqm t 0 1).1) := by
 refine qf c0bo (by simp) (by simp only [go_sem]) rfl fun hw => ?_
 repeat' (first | refine vs_ ?_ | ((first | refine vr_ ?_ | refine qbp 1 (qml qbsz t 0 1) ?_ | (refine cs_ ?_ ?_ <;> intro hc) | refine cj_ ?_ | fail) <;> (try refine ev_ ?_)) | with_reducible exact ti_)
theorem qqp (t : Ty) : qn Tryz.prog 61 [encY t] (.int .i64 (qb9 qo2 t 0 1).1) := by
 refine qf c0bp (by simp) (by simp only [go_sem]) rfl fun hw => ?_
 repeat' (first | refine vs_ ?_ | ((first | refine vr_ ?_ | refine qbp 1 (qml qbrr t 0 1) ?_ | (refine cs_ ?_ ?_ <;> intro hc) | refine cj_ ?_ | fail) <;> (try refine ev_ ?_)) | with_reducible exact ti_)

/-! the references -/
mutual
def qh7 : Ty → Int
 | .mk _ _ l => qer 1 l
def qer : Int → List Ty → Int
 | a, [] => a
 | a, x :: r => qer (IntKind.i64.wrap (a + qh7 x)) r
end
theorem qyf (t : Ty) : qh7 t = qer 1 t.args := by cases t; rw [qh7]; rfl
theorem qln : ∀ t, qn Tryz.prog 23 [encY t] (.int .i64 (qh7 t)) := by
 refine Ty.ind fun t ih => ?_
 refine qf c0bq (by simp) (by simp only [go_sem]) rfl fun hw => ?_
 have hk := qct hw.1
 repeat' (first | refine vs_ ?_ | ((first | refine vr_ ?_ | (refine cs_ ?_ ?_ <;> intro hc) | refine cj_ ?_ | simp (disch := omega) only [encs_getN, qb]) <;> (try refine ev_ ?_)) | with_reducible exact ti_)
 refine qp (S := Nat × Int) (fun s => s.1 ≤ t.args.length ∧ qer s.2 (t.args.drop s.1) = qh7 t) (fun s => (⟨[(1, .ptr 0 0), (3, .int .i64 s.2), (4, .int .i64 s.1)], []⟩, [.blk (yc t)])) (fun s => t.args.length - s.1) ?_ fun s hs => ?_
 ·refine qm (0, 1) [0] ⟨Nat.zero_le _, (qyf t).symm⟩ rfl (by simp) ?_ ?_ ?_ <;> (try refine ev_ ?_) <;> (try with_reducible exact ti_) <;> (try simp (disch := omega) only [qb, and_true, true_and])
 ·obtain ⟨i, a⟩ := s
  obtain ⟨hi, ha⟩ := hs
  dsimp only at hi ha
  repeat' (first | refine vs_ ?_ | ((first | refine vr_ ?_ | fail) <;> (try simp (disch := first | omega | (simp only [List.length_set, List.length_append, List.length_cons, List.length_nil]; done) | (simp only [List.length_set, List.length_append, List.length_cons, List.length_nil]; omega)) only [q8, qb, go_sem, ↓reduceIte])) | ((first | (refine cs_ ?_ ?_ <;> intro hc) | refine cj_ ?_ | simp (disch := omega) only [encs_getN, qb] | refine qa (ih _ (qbs (by omega))) fun _ => ?_) <;> (try refine ev_ ?_)) | with_reducible exact ti_)
  ·refine qm (i + 1, IntKind.i64.wrap (a + qh7 (t.args.getD i Y0))) [0] ⟨⟨by dsimp only; omega, ?_⟩, by dsimp only; omega⟩ rfl (by simp) ?_ ?_ ?_ <;> (try refine ev_ ?_) <;> (try with_reducible exact ti_) <;> (try simp (disch := omega) only [qb, and_true, true_and])
   rw [← ha, qhn (l := t.args) (i := i) (by omega), qer]
  ·rw [← ha, List.drop_of_length_le (by omega)]; rfl
mutual
def qmn : Ty → Int
 | .mk _ _ l => IntKind.i64.wrap (qgu 0 l + 1)
def qgu : Int → List Ty → Int
 | a, [] => a
 | a, x :: r => qgu (if qmn x > a then qmn x else a) r
end
theorem q27 (t : Ty) : qmn t = IntKind.i64.wrap (qgu 0 t.args + 1) := by cases t; rw [qmn]; rfl
theorem qqn : ∀ t, qn Tryz.prog 47 [encY t] (.int .i64 (qmn t)) := by
 refine Ty.ind fun t ih => ?_
 refine qf c0br (by simp) (by simp only [go_sem]) rfl fun hw => ?_
 have hk := qct hw.1
 repeat' (first | refine vs_ ?_ | ((first | refine vr_ ?_ | (refine cs_ ?_ ?_ <;> intro hc) | refine cj_ ?_ | simp (disch := omega) only [encs_getN, qb]) <;> (try refine ev_ ?_)) | with_reducible exact ti_)
 refine qp (S := Nat × Int) (fun s => s.1 ≤ t.args.length ∧ qgu s.2 (t.args.drop s.1) = qgu 0 t.args) (fun s => (⟨[(1, .ptr 0 0), (3, .int .i64 s.2), (4, .int .i64 s.1)], []⟩, [.blk (yc t)])) (fun s => t.args.length - s.1) ?_ fun s hs => ?_
 ·refine qm (0, 0) [0] ⟨Nat.zero_le _, rfl⟩ rfl (by simp) ?_ ?_ ?_ <;> (try refine ev_ ?_) <;> (try with_reducible exact ti_) <;> (try simp (disch := omega) only [qb, and_true, true_and])
 ·obtain ⟨i, a⟩ := s
  obtain ⟨hi, ha⟩ := hs
  dsimp only at hi ha
  repeat' (first | refine vs_ ?_ | ((first | refine vr_ ?_ | fail) <;> (try simp (disch := first | omega | (simp only [List.length_set, List.length_append, List.length_cons, List.length_nil]; done) | (simp only [List.length_set, List.length_append, List.length_cons, List.length_nil]; omega)) only [q8, qb, go_sem, ↓reduceIte])) | ((first | (refine cs_ ?_ ?_ <;> intro hc) | refine cj_ ?_ | simp (disch := omega) only [encs_getN, qb] | refine qa (ih _ (qbs (by omega))) fun _ => ?_) <;> (try refine ev_ ?_)) | with_reducible exact ti_)
  ·refine qm (i + 1, if qmn (t.args.getD i Y0) > a then qmn (t.args.getD i Y0) else a) [0] ⟨⟨by dsimp only; omega, ?_⟩, by dsimp only; omega⟩ rfl (by simp) ?_ ?_ ?_ <;> (try refine ev_ ?_) <;> (try with_reducible exact ti_) <;> (try simp (disch := omega) only [qb, and_true, true_and])
   rw [← ha, qhn (l := t.args) (i := i) (by omega), qgu]
  ·rw [q27, ← ha, List.drop_of_length_le (by omega)]; rfl
mutual
def qbj : Ty → Bool
 | .mk c v l => qx l && mayW c v l.length
def qx : List Ty → Bool
 | [] => true
 | x :: r => qbj x && qx r
end
theorem qdc (t : Ty) : qbj t = (qx t.args && mayY t) := by cases t; rw [qbj]; rfl
theorem qh9 {l : List Ty} {i : Nat} (h : i < l.length) : qx (l.drop i) = (qbj (l.getD i Y0) && qx (l.drop (i + 1))) := by rw [qhn h, qx]
theorem qq2 : ∀ t, qn Tryz.prog 48 [encY t] (.bool (qbj t)) := by
 refine Ty.ind fun t ih => ?_
 refine qf c0bs (by simp) (by simp only [go_sem]) rfl fun hw => ?_
 have hk := qct hw.1
 repeat' (first | refine vs_ ?_ | ((first | refine vr_ ?_ | (refine cs_ ?_ ?_ <;> intro hc) | refine cj_ ?_ | simp (disch := omega) only [encs_getN, qb]) <;> (try refine ev_ ?_)) | with_reducible exact ti_)
 refine qp (S := Nat) (fun i => i ≤ t.args.length ∧ qx (t.args.drop i) = qx t.args) (fun i => (⟨[(1, .ptr 0 0), (3, .int .i64 i)], []⟩, [.blk (yc t)])) (fun i => t.args.length - i) ?_ fun i hi => ?_
 ·refine qm 0 [0] ⟨Nat.zero_le _, rfl⟩ rfl (by simp) ?_ ?_ ?_ <;> (try refine ev_ ?_) <;> (try with_reducible exact ti_) <;> (try simp (disch := omega) only [qb, and_true, true_and])
 ·obtain ⟨hi, ha⟩ := hi
  rw [qdc]
  repeat' (first | refine vs_ ?_ | ((first | refine vr_ ?_ | fail) <;> (try simp (disch := first | omega | (simp only [List.length_set, List.length_append, List.length_cons, List.length_nil]; done) | (simp only [List.length_set, List.length_append, List.length_cons, List.length_nil]; omega)) only [q8, qb, go_sem, ↓reduceIte])) | ((first | (refine cs_ ?_ ?_ <;> intro hc) | refine cj_ ?_ | simp (disch := omega) only [encs_getN, qb] | refine qa (ih _ (qbs (by omega))) fun _ => ?_ | refine qa (qp7 _) fun _ => ?_ | refine qa (qyb _) fun _ => ?_) <;> (try refine ev_ ?_)) | with_reducible exact ti_)
  ·have : qx t.args = false := by rw [← ha, qh9 (by omega), hc]; rfl
   rw [this]; rfl
  ·refine qm (i + 1) [0] ⟨⟨by omega, ?_⟩, by omega⟩ rfl (by simp) ?_ ?_ ?_ <;> (try refine ev_ ?_) <;> (try with_reducible exact ti_) <;> (try simp (disch := omega) only [qb, and_true, true_and])
   rw [← ha, qh9 (i := i) (by omega), hc, Bool.true_and]
  all_goals
   have hs : qx t.args = true := by rw [← ha, List.drop_of_length_le (by omega)]; rfl
   rw [hs, Bool.true_and, mayY, mayW]
   simp only [arrW, *, if_true, if_false, decide_true, decide_false, Bool.and_true, Bool.and_false, Bool.false_eq_true]
   try rfl
/-! Few -/
mutual
def cntY : Ty → Int → Int → Int
 | .mk _ _ l, k, d => if d < 1 then -1 else qd1 l (IntKind.i64.wrap (k - 1)) d
def qd1 : List Ty → Int → Int → Int
 | [], a, _ => a
 | x :: r, a, d => if 0 ≤ a then qd1 r (cntY x a (IntKind.i64.wrap (d - 1))) d else a
end
theorem qzx (t : Ty) (k d : Int) : cntY t k d = if d < 1 then -1 else qd1 t.args (IntKind.i64.wrap (k - 1)) d := by cases t; rw [cntY]; rfl
theorem qgc {a : Int} (h : a < 0) (l : List Ty) (d : Int) : qd1 l a d = a := by
 cases l with
 | nil => rw [qd1]
 | cons x r => rw [qd1, if_neg (by omega)]
theorem qbd9 : ∀ t k d, qn Tryz.prog 40 [encY t, .int .i64 k, .int .i64 d] (.int .i64 (cntY t k d)) := by
 refine Ty.ind fun t ih k d => ?_
 refine qf c0bt (by simp) (by simp only [go_sem]) rfl fun hw => ?_
 have hk := qct hw.1
 rw [qzx]
 repeat' (first | refine vs_ ?_ | ((first | refine vr_ ?_ | (refine cs_ ?_ ?_ <;> intro hc) | refine cj_ ?_ | simp (disch := omega) only [encs_getN, qb]) <;> (try refine ev_ ?_)) | with_reducible exact ti_)
 ·rw [if_pos (by assumption)]
 rw [if_neg (by assumption)]
 refine qp (S := Nat × Int) (fun s => s.1 ≤ t.args.length ∧ qd1 (t.args.drop s.1) s.2 d = qd1 t.args (IntKind.i64.wrap (k - 1)) d) (fun s => (⟨[(1, .int .i64 s.2), (2, .int .i64 d), (3, .ptr 0 0), (7, .int .i64 s.1)], []⟩, [.blk (yc t)])) (fun s => t.args.length - s.1) ?_ fun s hs => ?_
 ·refine qm (0, IntKind.i64.wrap (k - 1)) [0] ⟨Nat.zero_le _, rfl⟩ rfl (by simp) ?_ ?_ ?_ <;> (try refine ev_ ?_) <;> (try with_reducible exact ti_) <;> (try simp (disch := omega) only [qb, and_true, true_and])
 ·obtain ⟨i, a⟩ := s
  obtain ⟨hi, ha⟩ := hs
  dsimp only at hi ha
  repeat' (first | refine vs_ ?_ | ((first | refine vr_ ?_ | fail) <;> (try simp (disch := first | omega | (simp only [List.length_set, List.length_append, List.length_cons, List.length_nil]; done) | (simp only [List.length_set, List.length_append, List.length_cons, List.length_nil]; omega)) only [q8, qb, go_sem, ↓reduceIte])) | ((first | (refine cs_ ?_ ?_ <;> intro hc) | refine cj_ ?_ | simp (disch := omega) only [encs_getN, qb] | refine qa (ih _ (qbs (by omega)) _ _) fun _ => ?_) <;> (try refine ev_ ?_)) | with_reducible exact ti_)
  ·refine qm (i + 1, cntY (t.args.getD i Y0) a (IntKind.i64.wrap (d - 1))) [0] ⟨⟨by dsimp only; omega, ?_⟩, by dsimp only; omega⟩ rfl (by simp) ?_ ?_ ?_ <;> (try refine ev_ ?_) <;> (try with_reducible exact ti_) <;> (try simp (disch := omega) only [qb, and_true, true_and])
   rw [← ha, qhn (l := t.args) (i := i) (by omega), qd1, if_pos (by assumption)]
  ·rw [← ha, qgc (by omega)]
  ·rw [← ha, List.drop_of_length_le (by omega)]; rfl
def qkx (a : Int) : List Ty → Int
 | [] => a
 | x :: r => qkx (cntY x a 300) r
def qeu (l : List Ty) : Bool := decide (0 ≤ qkx 20000 l)
theorem q54 (l : List Ty) : qn Tryz.prog 22 [.sl 3 (qq l)] (.int .i64 (if qeu l = true then 1 else 0)) := by
 refine qf c0bu (by simp) (by simp only [go_sem]) rfl fun hw => ?_
 have hk : l.length ≤ maxLen := by have := hw.1.1; rwa [qbg] at this
 repeat' (first | refine vs_ ?_ | ((first | refine vr_ ?_ | (refine cs_ ?_ ?_ <;> intro hc) | refine cj_ ?_ | simp (disch := omega) only [encs_getN, qb]) <;> (try refine ev_ ?_)) | with_reducible exact ti_)
 refine qp (S := Nat × Int) (fun s => s.1 ≤ l.length ∧ qkx s.2 (l.drop s.1) = qkx 20000 l) (fun s => (⟨[(0, .sl 3 (qq l)), (3, .int .i64 s.2), (4, .int .i64 s.1)], []⟩, [])) (fun s => l.length - s.1) ?_ fun s hs => ?_
 ·refine qm (0, 20000) [] ⟨Nat.zero_le _, rfl⟩ rfl (by simp) ?_ ?_ ?_ <;> (try refine ev_ ?_) <;> (try with_reducible exact ti_) <;> (try simp (disch := omega) only [qb, and_true, true_and])
 ·obtain ⟨i, a⟩ := s
  obtain ⟨hi, ha⟩ := hs
  dsimp only at hi ha
  repeat' (first | refine vs_ ?_ | ((first | refine vr_ ?_ | fail) <;> (try simp (disch := first | omega | (simp only [List.length_set, List.length_append, List.length_cons, List.length_nil]; done) | (simp only [List.length_set, List.length_append, List.length_cons, List.length_nil]; omega)) only [q8, qb, go_sem, ↓reduceIte])) | ((first | (refine cs_ ?_ ?_ <;> intro hc) | refine cj_ ?_ | simp (disch := omega) only [encs_getN, qb] | refine qa (qbd9 _ _ _) fun _ => ?_) <;> (try refine ev_ ?_)) | with_reducible exact ti_)
  ·refine qm (i + 1, cntY (l.getD i Y0) a 300) [] ⟨⟨by dsimp only; omega, ?_⟩, by dsimp only; omega⟩ rfl (by simp) ?_ ?_ ?_ <;> (try refine ev_ ?_) <;> (try with_reducible exact ti_) <;> (try simp (disch := omega) only [qb, and_true, true_and])
   rw [← ha, qhn (l := l) (i := i) (by omega), qkx]
  all_goals
   have hf : qkx 20000 l = a := by rw [← ha, List.drop_of_length_le (by omega)]; rfl
   rw [qeu, hf]
  ·rw [if_neg (by simp; omega)]
  ·rw [if_pos (by simp; omega)]

/-! the laws of sizes -/
mutual
theorem qxp : ∀ (t : Ty) (k d : Int), 0 ≤ k → k ≤ 20000 → d ≤ 300 → 0 ≤ cntY t k d → cntY t k d = k - szY t ∧ (dpY t : Int) ≤ d
 | .mk c v l, k, d, h0, h1, h2, h3 => by
   rw [cntY] at h3 ⊢
   by_cases hd : d < 1
   ·rw [if_pos hd] at h3; omega
   ·rw [if_neg hd] at h3 ⊢
    have hk : IntKind.i64.wrap (k - 1) = k - 1 := qt (by omega) (by omega)
    rw [hk] at h3 ⊢
    have h4 : 0 ≤ k - 1 := by
     by_cases h : 0 ≤ k - 1
     ·exact h
     ·rw [qgc (by omega)] at h3; exact h3
    have := qs4 l (k - 1) d h4 (by omega) (by omega) h2 h3
    rw [szY, dpY]
    omega
theorem qs4 : ∀ (l : List Ty) (a d : Int), 0 ≤ a → a ≤ 20000 → 1 ≤ d → d ≤ 300 → 0 ≤ qd1 l a d → qd1 l a d = a - szYs l ∧ (dpYs l : Int) ≤ d - 1
 | [], a, d, h0, h1, h2, h3, h4 => by rw [qd1, szYs, dpYs]; omega
 | x :: r, a, d, h0, h1, h2, h3, h4 => by
   rw [qd1, if_pos h0] at h4 ⊢
   have hd : IntKind.i64.wrap (d - 1) = d - 1 := qt (by omega) (by omega)
   rw [hd] at h4 ⊢
   have h5 : 0 ≤ cntY x a (d - 1) := by
    by_cases h : 0 ≤ cntY x a (d - 1)
    ·exact h
    ·rw [qgc (by omega)] at h4; exact absurd h4 h
   obtain ⟨h6, h7⟩ := qxp x a (d - 1) h0 h1 (by omega) h5
   obtain ⟨h8, h9⟩ := qs4 r _ d h5 (by omega) h2 h3 h4
   rw [szYs, dpYs]
   omega
end
mutual
theorem qx2 : ∀ (t : Ty) (k d : Int), 0 ≤ k → k ≤ 20000 → -1 ≤ cntY t k d
 | .mk c v l, k, d, h0, h1 => by
   rw [cntY]
   split
   ·omega
   ·rw [qt (z := k - 1) (by omega) (by omega)]
    exact qw2 l (k - 1) d (by omega) (by omega)
theorem qw2 : ∀ (l : List Ty) (a d : Int), -1 ≤ a → a ≤ 20000 → -1 ≤ qd1 l a d
 | [], a, d, h0, _ => by rw [qd1]; exact h0
 | x :: r, a, d, h0, h1 => by
   rw [qd1]
   split
   ·rename_i h
    have h2 := qx2 x a (IntKind.i64.wrap (d - 1)) h h1
    have h3 := q5s x a (IntKind.i64.wrap (d - 1)) h h1
    exact qw2 r _ d h2 (by omega)
   ·exact h0
theorem q5s : ∀ (t : Ty) (k d : Int), 0 ≤ k → k ≤ 20000 → cntY t k d ≤ k
 | .mk c v l, k, d, h0, h1 => by
   rw [cntY]
   split
   ·omega
   ·rw [qt (z := k - 1) (by omega) (by omega)]
    have := qvj l (k - 1) d (by omega) (by omega)
    omega
theorem qvj : ∀ (l : List Ty) (a d : Int), -1 ≤ a → a ≤ 20000 → qd1 l a d ≤ a
 | [], a, d, h0, _ => by rw [qd1]; exact Int.le_refl _
 | x :: r, a, d, h0, h1 => by
   rw [qd1]
   split
   ·rename_i h
    have h2 := qx2 x a (IntKind.i64.wrap (d - 1)) h h1
    have h3 := q5s x a (IntKind.i64.wrap (d - 1)) h h1
    have := qvj r _ d h2 (by omega)
    omega
   ·exact Int.le_refl _
end
theorem qrx : ∀ (l : List Ty) {a : Int}, a < 0 → -9223372036854775808 ≤ a - l.length → qkx a l < 0
 | [], a, h, _ => h
 | x :: r, a, h, h2 => by
   rw [qkx]
   have h3 : cntY x a 300 = IntKind.i64.wrap (a - 1) := by
    rw [qzx, if_neg (by omega)]
    have hk : IntKind.i64.wrap (a - 1) = a - 1 := qt (by simp only [List.length_cons] at h2; omega) (by omega)
    rw [hk, qgc (by omega)]
   have hk : IntKind.i64.wrap (a - 1) = a - 1 := qt (by simp only [List.length_cons] at h2; omega) (by omega)
   rw [h3, hk]
   exact qrx r (by omega) (by simp only [List.length_cons] at h2; omega)
theorem qro : ∀ (l : List Ty) (a : Int), 0 ≤ a → a ≤ 20000 → l.length ≤ 9223372036854775807 → 0 ≤ qkx a l → (szYs l : Int) ≤ a ∧ (dpYs l : Int) ≤ 300
 | [], a, h0, h1, _, h2 => by rw [szYs, dpYs]; omega
 | x :: r, a, h0, h1, hl, h2 => by
   rw [qkx] at h2
   simp only [List.length_cons] at hl
   have h5 : 0 ≤ cntY x a 300 := by
    by_cases h : 0 ≤ cntY x a 300
    ·exact h
    ·have : -1 ≤ cntY x a 300 := qx2 x a 300 h0 h1
     have := qrx r (a := cntY x a 300) (by omega) (by omega)
     omega
   obtain ⟨h6, h7⟩ := qxp x a 300 h0 h1 (by omega) h5
   obtain ⟨h8, h9⟩ := qro r _ h5 (by omega) (by omega) h2
   rw [szYs, dpYs]
   omega
theorem qzl {l : List Ty} (hl : l.length ≤ maxLen) (h : qeu l = true) : szYs l ≤ 20000 ∧ dpYs l ≤ 300 := by
 have := qro l 20000 (by omega) (by omega) (by unfold maxLen at hl; omega) (by simpa [qeu] using h)
 omega

mutual
theorem qhq : ∀ (t : Ty), szY t ≤ 1000000 → qh7 t = szY t
 | .mk c v l, h => by
   rw [szY] at h
   rw [qh7, szY, qj9 l 1 (by omega) (by omega)]
   omega
theorem qj9 : ∀ (l : List Ty) (a : Int), 1 ≤ a → a + szYs l ≤ 1000001 → qer a l = a + szYs l
 | [], a, _, _ => by rw [qer, szYs]; omega
 | x :: r, a, h0, h => by
   rw [szYs] at h
   rw [qer, qhq x (by omega), qt (by omega) (by omega), qj9 r _ (by omega) (by omega), szYs]
   omega
end
mutual
theorem qn4 : ∀ (t : Ty), dpY t ≤ 1000000 → qmn t = dpY t
 | .mk c v l, h => by
   rw [dpY] at h
   rw [qmn, dpY, qlx l 0 (by omega) (by omega), qt (by omega) (by omega)]
   omega
theorem qlx : ∀ (l : List Ty) (a : Int), dpYs l ≤ 1000000 → 0 ≤ a → qgu a l = max a (dpYs l)
 | [], a, _, _ => by rw [qgu, dpYs]; omega
 | x :: r, a, h, h0 => by
   rw [dpYs] at h
   have h1 := qn4 x (by omega)
   rw [qgu, h1]
   have h2 : (if (dpY x : Int) > a then (dpY x : Int) else a) = max a (dpY x) := by split <;> omega
   rw [h2, qlx r _ (by omega) (by omega), dpYs]
   omega
end
mutual
theorem qn6 : ∀ (t : Ty) (n k : Int), 0 ≤ n → n + szY t ≤ 1000000 → qb9 qqm t n k = (n + szY t, true)
 | .mk c v l, n, k, h0, h => by
   rw [szY] at h
   rw [qb9, if_pos (show (qqm n (.mk c v l) k).2 = true from rfl)]
   have h1 : (qqm n (.mk c v l) k).1 = n + 1 := qt (by omega) (by omega)
   rw [h1, qlh l _ _ (by omega) (by omega), szY]
   congr 1; omega
theorem qlh : ∀ (l : List Ty) (n k : Int), 0 ≤ n → n + szYs l ≤ 1000000 → qbl qqm l n k = (n + szYs l, true)
 | [], n, k, _, _ => by rw [qbl, szYs]; congr 1; omega
 | x :: r, n, k, h0, h => by
   rw [szYs] at h
   rw [qbl, qn6 x n k h0 (by omega), if_pos rfl, qlh r _ k (by omega) (by omega), szYs]
   congr 1; omega
end
mutual
theorem qo5 : ∀ (t : Ty) (n k : Int), 0 ≤ n → 1 ≤ k → k + dpY t ≤ 1000000 → qb9 qo2 t n k = (max n (k + dpY t - 1), true)
 | .mk c v l, n, k, h0, h1, h => by
   rw [dpY] at h
   rw [qb9, if_pos (show (qo2 n (.mk c v l) k).2 = true from rfl)]
   have h2 : (qo2 n (.mk c v l) k).1 = max n k := by simp only [qo2]; split <;> omega
   rw [h2, qt (z := k + 1) (by omega) (by omega), qlk l _ _ (by omega) (by omega) (by omega), dpY]
   congr 1; split <;> omega
theorem qlk : ∀ (l : List Ty) (n k : Int), 0 ≤ n → 1 ≤ k → k + dpYs l ≤ 1000000 → qbl qo2 l n k = (if dpYs l = 0 then n else max n (k + dpYs l - 1), true)
 | [], n, k, _, _, _ => by rw [qbl, dpYs, if_pos rfl]
 | x :: r, n, k, h0, h1, h => by
   rw [dpYs] at h
   have hp := qbgl x
   rw [qbl, qo5 x n k h0 h1 (by omega), if_pos rfl, qlk r _ k (by omega) h1 (by omega), dpYs]
   congr 1
   rw [if_neg (by omega : ¬ max (dpY x) (dpYs r) = 0)]
   split <;> omega
end
mutual
theorem qnn : ∀ (t : Ty) (n k : Int), 0 ≤ n → n + szY t ≤ 1000000 → 1 ≤ k → k + dpY t ≤ 1000000 →
 ((qb9 qek t n k).2 = true ↔ n + szY t ≤ 4096 ∧ k + dpY t - 1 ≤ 100 ∧ qbj t = true) ∧ ((qb9 qek t n k).2 = true → (qb9 qek t n k).1 = n + szY t)
 | .mk c v l, n, k, h0, h1, h2, h3 => by
   rw [szY] at h1
   rw [dpY] at h3
   have e1 : IntKind.i64.wrap (n + 1) = n + 1 := qt (by omega) (by omega)
   have e2 : IntKind.i64.wrap (k + 1) = k + 1 := qt (by omega) (by omega)
   have e3 : (qek n (.mk c v l) k).1 = n + 1 := e1
   have e4 : (qek n (.mk c v l) k).2 = true ↔ n + 1 ≤ 4096 ∧ k ≤ 100 ∧ mayW c v l.length = true := by
    simp only [qek, e1, Bool.and_eq_true, decide_eq_true_eq]; rfl
   rw [qb9, szY, dpY, qbj]
   by_cases hs : (qek n (.mk c v l) k).2 = true
   ·rw [if_pos hs, e3, e2]
    obtain ⟨q1, q2, q3⟩ := e4.1 hs
    obtain ⟨r1, r2⟩ := qld l (n + 1) (k + 1) (by omega) (by omega) (by omega) (by omega) (by omega) (by omega)
    refine ⟨?_, fun h => by rw [r2 h]; omega⟩
    rw [r1, q3, Bool.and_true]
    constructor
    ·rintro ⟨a1, a2, a3⟩; exact ⟨by omega, by omega, a3⟩
    ·rintro ⟨a1, a2, a3⟩; exact ⟨by omega, by omega, a3⟩
   ·rw [if_neg hs]
    refine ⟨⟨fun h => (by cases h), fun ⟨a1, a2, a3⟩ => absurd (e4.2 ⟨by omega, by omega, (by rw [Bool.and_eq_true] at a3; exact a3.2)⟩) hs⟩, fun h => by cases h⟩
theorem qld : ∀ (l : List Ty) (n k : Int), 0 ≤ n → n + szYs l ≤ 1000000 → 1 ≤ k → k + dpYs l ≤ 1000000 → n ≤ 4096 → k - 1 ≤ 100 →
 ((qbl qek l n k).2 = true ↔ n + szYs l ≤ 4096 ∧ k + dpYs l - 1 ≤ 100 ∧ qx l = true) ∧ ((qbl qek l n k).2 = true → (qbl qek l n k).1 = n + szYs l)
 | [], n, k, h0, h1, h2, h3, h4, h5 => by
   rw [qbl, szYs, dpYs, qx]
   exact ⟨⟨fun _ => ⟨by omega, by omega, rfl⟩, fun _ => rfl⟩, fun _ => by simp⟩
 | x :: r, n, k, h0, h1, h2, h3, h4, h5 => by
   rw [szYs] at h1
   rw [dpYs] at h3
   obtain ⟨q1, q2⟩ := qnn x n k h0 (by omega) h2 (by omega)
   rw [qbl, szYs, dpYs, qx]
   by_cases hs : (qb9 qek x n k).2 = true
   ·rw [if_pos hs, q2 hs]
    obtain ⟨a1, a2, a3⟩ := q1.1 hs
    obtain ⟨r1, r2⟩ := qld r (n + szY x) k (by omega) (by omega) h2 (by omega) (by omega) h5
    refine ⟨?_, fun h => by rw [r2 h]; omega⟩
    rw [r1, a3, Bool.true_and]
    constructor
    ·rintro ⟨b1, b2, b3⟩; exact ⟨by omega, by omega, b3⟩
    ·rintro ⟨b1, b2, b3⟩; exact ⟨by omega, by omega, b3⟩
   ·rw [if_neg hs]
    refine ⟨⟨fun h => (by cases h), fun ⟨a1, a2, a3⟩ => absurd (q1.2 ⟨by omega, by omega, ?_⟩) hs⟩, fun h => by cases h⟩
    rw [Bool.and_eq_true] at a3
    exact a3.1
end
def qc (t : Ty) : Bool := decide (szY t ≤ 4096) && (decide (dpY t ≤ 100) && qbj t)
theorem qyq {t : Ty} (h1 : szY t ≤ 20000) (h2 : dpY t ≤ 300) : qvm t = qc t := by
 have := (qnn t 0 1 (by omega) (by omega) (by omega) (by omega)).1
 rw [qvm, Bool.eq_iff_iff, this, qc, Bool.and_eq_true, Bool.and_eq_true, decide_eq_true_eq, decide_eq_true_eq]
 constructor
 ·rintro ⟨a1, a2, a3⟩; exact ⟨by omega, by omega, a3⟩
 ·rintro ⟨a1, a2, a3⟩; exact ⟨by omega, by omega, a3⟩
theorem qq5 {t : Ty} (h1 : szY t ≤ 20000) (h2 : dpY t ≤ 300) : qn Tryz.prog 29 [encY t] (.bool (qc t)) := by
 refine qf c0bv (by simp) (by simp only [go_sem]) rfl fun hw => ?_
 have e1 := qln t
 have e2 := qqn t
 rw [qhq t (by omega)] at e1
 rw [qn4 t (by omega)] at e2
 repeat' (first | refine vs_ ?_ | ((first | refine vr_ ?_ | refine qa e1 fun _ => ?_ | refine qa e2 fun _ => ?_ | refine qa (qq2 t) fun _ => ?_ | (refine cs_ ?_ ?_ <;> intro hc) | refine cj_ ?_ | fail) <;> (try refine ev_ ?_)) | with_reducible exact ti_)
 all_goals
  rw [qc]
 ·rw [decide_eq_true (by omega), decide_eq_true (by omega)]; rfl
 ·rw [decide_eq_false (p := dpY t ≤ 100) (by omega), Bool.false_and, Bool.and_false]
 ·rw [decide_eq_false (p := szY t ≤ 4096) (by omega)]; rfl
theorem qcr {t : Ty} (h1 : szY t ≤ 20000) (h2 : dpY t ≤ 300) : qn Tryz.prog 37 [encY t] (.bool (qc t)) := by
 rw [← qyq h1 h2]; exact qre t
end Go.Proofs.YtlahgbhhejkgbaaGreat
