/- Texts of this proof, joined. -/
import Derived.Test.YtlahgbhhejkgbaaLaq

/- rows of integers: whether a number is there, each once -/
set_option maxRecDepth 4000
namespace Go.Proofs.Ytlahgbhhejkgbaa
open Go Go.RowKit Go.V
set_option linter.unusedVariables false
set_option linter.unusedSimpArgs false

def ints (l : List Int) : List AV := l.map (AV.int .i64)
theorem qfi (l : List Int) : (ints l).length = l.length := by simp [ints]
theorem qh6 (k : Nat) (l : List Int) : AV.bds k (ints l) = true := by rw [ints, qi6]; simp [AV.bd]
theorem ql2 (σ : Nat → Nat) (l : List Int) : AV.rens σ (ints l) = ints l := qm (m := 0) (fun i hi => by omega) _ (qh6 0 l)
theorem qjs {l : List Int} {i : Nat} (h : i < l.length) : (ints l).getD i .junk = .int .i64 (l.getD i 0) := by
 rw [ints, List.getD_eq_getElem?_getD, List.getElem?_map, List.getElem?_eq_getElem h, List.getD_eq_getElem?_getD, List.getElem?_eq_getElem h]; rfl
theorem qoj (l : List Int) (v : Int) : ints l ++ [.int .i64 v] = ints (l ++ [v]) := by simp [ints]
theorem qle : ints [] = [] := rfl
theorem qe0 {l : List Int} (h : l ≠ []) : ints l ≠ [] := by cases l with | nil => exact absurd rfl h | cons _ _ => simp [ints]
attribute [go_sem] qfi qh6 ql2 cond_false cond_true
theorem qmm {l : List Int} {i : Nat} (h : i < l.length) : l.drop i = l.getD i 0 :: l.drop (i + 1) := by
 rw [List.drop_eq_getElem_cons h, List.getD_eq_getElem?_getD, List.getElem?_eq_getElem h]; rfl
theorem capI {k : Nat} (h : k ≤ 1000000000) : qcp k 8 := by unfold qcp; omega

def idxW (v : Int) : List Int → Int → Int
 | [], _ => -1
 | x :: r, k => if v = x then k else idxW v r (k + 1)
theorem qoz (v : Int) : ∀ (l : List Int) (k : Int), 0 ≤ k → (decide (0 ≤ idxW v l k) = decide (v ∈ l))
 | [], k, h => by simp [idxW]
 | x :: r, k, h => by
   rw [idxW]
   by_cases hx : v = x
   ·simp [hx, h]
   ·rw [if_neg hx, qoz v r (k + 1) (by omega)]; simp [hx]
theorem qjo (l : List Int) (v : Int) : ql Try.prog 69 [.sl 1 (ints l), .int .i64 v] (.int .i64 (idxW v l 0)) := by
 refine qf c0r (by simp) (by simp only [go_sem]) rfl fun hw => ?_
 have hl : l.length ≤ maxLen := by have := hw.1.1; rwa [qfi] at this
 repeat' (first | refine vs_ ?_ | ((first | refine vr_ ?_ | (refine cs_ ?_ ?_ <;> intro hc) | refine cj_ ?_ | simp (disch := omega) only [encs_getN, qc]) <;> (try refine ev_ ?_)) | with_reducible exact ti_)
 refine qbc (S := Nat) (fun i => i ≤ l.length ∧ idxW v (l.drop i) i = idxW v l 0) (fun i => (⟨[(0, .sl 1 (ints l)), (1, .int .i64 v), (7, .int .i64 l.length), (8, .int .i64 i)], []⟩, [])) (fun i => l.length - i) ?_ fun i hi => ?_
 ·refine qt 0 [] ⟨Nat.zero_le _, rfl⟩ rfl (by simp) ?_ ?_ ?_ <;> (try refine ev_ ?_) <;> (try with_reducible exact ti_) <;> (try simp (disch := omega) only [qc, and_true, true_and])
 ·obtain ⟨hi, ha⟩ := hi
  repeat' (first | refine vs_ ?_ | ((first | refine vr_ ?_ | fail) <;> (try simp (disch := first | omega | (simp only [List.length_set, List.length_append, List.length_cons, List.length_nil]; done) | (simp only [List.length_set, List.length_append, List.length_cons, List.length_nil]; omega)) only [qjs, qc, go_sem, ↓reduceIte])) | ((first | (refine cs_ ?_ ?_ <;> intro hc) | refine cj_ ?_ | simp (disch := omega) only [encs_getN, qc]) <;> (try refine ev_ ?_)) | with_reducible exact ti_)
  ·rw [← ha, qmm (by omega), idxW, if_pos (by assumption)]
  ·refine qt (i + 1) [] ⟨⟨by omega, ?_⟩, by omega⟩ rfl (by simp) ?_ ?_ ?_ <;> (try refine ev_ ?_) <;> (try with_reducible exact ti_) <;> (try simp (disch := omega) only [qc, and_true, true_and])
   rw [← ha, qmm (l := l) (i := i) (by omega), idxW, if_neg (by assumption)]; rfl
  ·rw [← ha, List.drop_of_length_le (by omega)]; rfl
theorem qdi (l : List Int) (v : Int) : ql Try.prog 46 [.sl 1 (ints l), .int .i64 v] (.bool (decide (v ∈ l))) := by
 refine qf c0s (by simp) (by simp only [go_sem]) rfl fun hw => ?_
 repeat' (first | refine vs_ ?_ | ((first | refine vr_ ?_ | refine qa (qjo _ _) fun _ => ?_ | (refine cs_ ?_ ?_ <;> intro hc) | refine cj_ ?_ | fail) <;> (try refine ev_ ?_)) | with_reducible exact ti_)
 rw [qoz v l 0 (by omega)]
theorem qmj (l m : List Int) : ql Try.prog 17 [.sl 1 (ints l), .sl 1 (ints m)] (.bool (decide (l = m))) := by
 refine qf c0t (by simp) (by simp only [go_sem]) rfl fun hw => ?_
 have hl : l.length ≤ maxLen := by have := hw.1.1; rwa [qfi] at this
 repeat' (first | refine vs_ ?_ | ((first | refine vr_ ?_ | (refine cs_ ?_ ?_ <;> intro hc) | refine cj_ ?_ | simp (disch := omega) only [encs_getN, qc]) <;> (try refine ev_ ?_)) | with_reducible exact ti_)
 ·rw [decide_eq_false]; rintro rfl; omega
 refine qbc (S := Nat) (fun i => i ≤ l.length ∧ decide (l.drop i = m.drop i) = decide (l = m)) (fun i => (⟨[(0, .sl 1 (ints l)), (1, .sl 1 (ints m)), (5, .int .i64 i)], []⟩, [])) (fun i => l.length - i) ?_ fun i hi => ?_
 ·refine qt 0 [] ⟨Nat.zero_le _, rfl⟩ rfl (by simp) ?_ ?_ ?_ <;> (try refine ev_ ?_) <;> (try with_reducible exact ti_) <;> (try simp (disch := omega) only [qc, and_true, true_and])
 ·obtain ⟨hi, ha⟩ := hi
  repeat' (first | refine vs_ ?_ | ((first | refine vr_ ?_ | fail) <;> (try simp (disch := first | omega | (simp only [List.length_set, List.length_append, List.length_cons, List.length_nil]; done) | (simp only [List.length_set, List.length_append, List.length_cons, List.length_nil]; omega)) only [qjs, qc, go_sem, ↓reduceIte])) | ((first | (refine cs_ ?_ ?_ <;> intro hc) | refine cj_ ?_ | simp (disch := omega) only [encs_getN, qc]) <;> (try refine ev_ ?_)) | with_reducible exact ti_)
  ·rw [← ha, qmm (l := l) (i := i) (by omega), qmm (l := m) (i := i) (by omega), decide_eq_false]
   intro h
   exact absurd (List.cons.inj h).1 (by assumption)
  ·refine qt (i + 1) [] ⟨⟨by omega, ?_⟩, by omega⟩ rfl (by simp) ?_ ?_ ?_ <;> (try refine ev_ ?_) <;> (try with_reducible exact ti_) <;> (try simp (disch := omega) only [qc, and_true, true_and])
   rw [← ha, qmm (l := l) (i := i) (by omega), qmm (l := m) (i := i) (by omega)]
   refine decide_eq_decide.2 ⟨fun h => by rw [h]; congr 1, fun h => (List.cons.inj h).2⟩
  ·rw [← ha, List.drop_of_length_le (by omega), List.drop_of_length_le (by omega)]; rfl

/-! each once -/
theorem qes {H : List Ent} {n : Nat} : co H (.sl n) .nils = .sl n [] := Eq.trans rfl rfl
/-! all variables -/
/-! the program's: a walk that gathers -/
def outE (l : List Int) : Ent := bun (.blk [accV 1 (ints l)] :: accE 1 (ints l))
def outN (l : List Int) (t : Ty) : List Int := if t.con = [] then (if t.var ∈ l then l else l ++ [t.var]) else l
theorem qds {H' : List Ent} {l : List Int} {r : AV} (k : Nat) (h0 : l ≠ []) (hk : 0 < k) (hl : k < H'.length) (e0 : ent H' 0 = .blk [.row k l.length]) (e1 : ent H' k = .app 1 (ints l)) (hr : r.bd 1 = true) :
 qix (fun H' o => H' = [outE l] ∧ o = .val r) H' (.val r) := by
 refine ⟨[.blk [.row 1 l.length], .app 1 (ints l)], [0, k], rfl, by simp, by simp; omega, ?_, hr, ?_, rfl⟩
 ·simp only [qdc, List.length_cons, List.length_nil, Ent.bd, AV.bds, AV.bd, Ent.ren, AV.rens, AV.ren, e0, e1, qh6, ql2]
  exact ⟨⟨by omega, rfl, rfl⟩, ⟨hl, trivial, trivial⟩, trivial⟩
 ·rw [outE, qcj (qe0 h0), qcl (qe0 h0), qfi]
theorem qnf {H' : List Ent} {r : AV} (hl : 0 < H'.length) (e0 : ent H' 0 = .blk [.nils]) (hr : r.bd 1 = true) :
 qix (fun H' o => H' = [outE []] ∧ o = .val r) H' (.val r) := by
 refine ⟨[.blk [.nils]], [0], rfl, by simp, by simp, ?_, hr, rfl, rfl⟩
 exact ⟨⟨hl, rfl, by rw [e0]; rfl⟩, trivial⟩
theorem q9q (l : List Int) (t : Ty) (k : Int) (hb : l.length ≤ 1000000) : VM Try.prog 45 (outE l) (outE (outN l t)) [encY t, .int .i64 k, .ptr 0 0] (.bool true) := by
 refine q69 ?_ (by simp [AV.bds, AV.bd, qb4])
 have hcap : qcp (l.length + 1) 8 = True := eq_true (capI (by omega))
 refine qiu c0u (by simp) ?_
 by_cases h0 : l = []
 ·subst h0
  simp only [qle, qbq, qbp]
  repeat' (first | refine vs_ ?_ | ((first | refine vr_ ?_ | fail) <;> (try simp only [qes, go_sem, ↓reduceIte])) | ((first | simp (disch := omega) only [hcap] | (refine cs_ ?_ ?_ <;> intro hc) | refine cj_ ?_ | fail | refine qa (qdi [] _) fun _ => ?_) <;> (try refine ev_ ?_)) | with_reducible exact ti_)
  ·have : outN [] t = [t.var] := by rw [outN, if_pos (by assumption), if_neg (by assumption)]; rfl
   rw [this]
   exact qds (l := [t.var]) 2 (by simp) (by omega) (by simp) rfl rfl rfl
  ·exact absurd (by assumption : t.var ∈ []) (by simp)
  ·have : outN [] t = [] := by rw [outN, if_neg (by assumption)]
   rw [this]
   exact qnf (by simp) rfl rfl
 ·simp only [qcj (qe0 h0), qcl (qe0 h0)]
  repeat' (first | refine vs_ ?_ | ((first | refine vr_ ?_ | refine qa (qdi l _) fun _ => ?_ | simp (disch := omega) only [hcap] | (refine cs_ ?_ ?_ <;> intro hc) | refine cj_ ?_ | fail) <;> (try refine ev_ ?_)) | with_reducible exact ti_)
  ·have : outN l t = l ++ [t.var] := by rw [outN, if_pos (by assumption), if_neg (by assumption)]
   rw [this, qoj]
   exact qds (l := l ++ [t.var]) 3 (by simp) (by omega) (by simp) (by simp [ent]) rfl rfl
  ·have : outN l t = l := by rw [outN, if_pos (by assumption), if_pos (by assumption)]
   rw [this]
   exact qds (l := l) 1 h0 (by omega) (by simp) rfl rfl rfl
  ·have : outN l t = l := by rw [outN, if_neg (by assumption)]
   rw [this]
   exact qds (l := l) 1 h0 (by omega) (by simp) rfl rfl rfl
def qob (l : List Int) (t : Ty) (_ : Int) : List Int × Bool := (outN l t, true)
theorem qom (l : List Int) (c : List UInt8) (v : Int) (a : List Ty) : outN l (.mk c v a) = qgf l (if c = [] then [v] else []) := by
 unfold outN
 by_cases hcn : c = []
 ·rw [if_pos (show (Ty.mk c v a).con = [] from hcn), if_pos hcn]; rfl
 ·rw [if_neg (show ¬ (Ty.mk c v a).con = [] from hcn), if_neg hcn]; rfl
mutual
theorem q6u : ∀ (t : Ty) (l : List Int) (k : Int), qbh qob t l k = (qgf l (varY t), true)
 | .mk c v a, l, k => by
   rw [qbh, if_pos (show (qob l (.mk c v a) k).2 = true from rfl), qvm, varY, qi5]
   congr 2
   exact qom l c v a
theorem qvm : ∀ (a : List Ty) (l : List Int) (k : Int), qv qob a l k = (qgf l (qi0 a), true)
 | [], l, k => by rw [qv, qi0]; rfl
 | x :: r, l, k => by
   rw [qv, q6u x, if_pos rfl, qvm r, qi0, qi5]
end
theorem qtu (l : List Int) (t : Ty) : (outN l t).length ≤ l.length + 1 := by
 rw [outN]; split
 ·split
  ·omega
  ·simp
 ·omega
theorem qnz (t : Ty) (hb : szY t ≤ 1000000) : ql Try.prog 18 [encY t] (.sl 1 (ints (qgf [] (varY t)))) := by
 refine qf c0v (by simp) (by simp only [go_sem]) (qh6 0 _) fun hw => ?_
 have hwalk := qe3 (st := outE) (step := qob) (f := 45) (ok := fun n l => l.length + n ≤ 1000000) (fun _ => rfl) (fun n l t k h => by have := qtu l t; simp only [qob]; omega) (fun n l h => by omega) (fun l t k h => q9q l t k (by omega)) t [] 1 (by simpa using hb)
 rw [q6u] at hwalk
 unfold k0v
 refine qbs (qea ?_)
 (refine ev_ ?_; (try with_reducible exact ti_))
 refine qbs (qea ?_)
 (refine ev_ ?_; (try with_reducible exact ti_))
 refine q15 1 rfl rfl ?_
 refine qbs (qea ?_)
 simp only [List.set_cons_succ, List.set_cons_zero]
 (refine ev_ ?_; (try with_reducible exact ti_))
 refine qbm 1 hwalk ?_
 simp only [List.set_cons_succ, List.set_cons_zero]
 (refine ev_ ?_; (try with_reducible exact ti_))
 refine q09 1 rfl (by simp) ?_
 simp only [List.set_cons_succ, List.set_cons_zero]
 by_cases h0 : qgf [] (varY t) = []
 ·simp only [h0, qle, qbq, qbp]
  repeat' (first | refine vs_ ?_ | ((first | refine vr_ ?_ | (refine cs_ ?_ ?_ <;> intro hc) | refine cj_ ?_ | fail) <;> (try refine ev_ ?_)) | with_reducible exact ti_)
 ·simp only [qcj (qe0 h0), qcl (qe0 h0)]
  repeat' (first | refine vs_ ?_ | ((first | refine vr_ ?_ | (refine cs_ ?_ ?_ <;> intro hc) | refine cj_ ?_ | fail) <;> (try refine ev_ ?_)) | with_reducible exact ti_)
set_option maxRecDepth 4000

/-! the program's -/
abbrev numE (n : Int) : Ent := .blk [.int .i64 n]
def qdm (n : Int) (t : Ty) (k : Int) : Int × Bool := (IntKind.i64.wrap (n + 1), decide (IntKind.i64.wrap (n + 1) ≤ 4096) && (decide (k ≤ 100) && mayY t))
theorem q7z (n : Int) (t : Ty) (k : Int) : VM Try.prog 39 (numE n) (numE (qdm n t k).1) [encY t, .int .i64 k, .ptr 0 0] (.bool (qdm n t k).2) := by
 refine qgw (by kernel_rfl) fun hw => ?_
 have hk := qck hw.1
 refine qba c0j 1 (by simp) (by simp) ?_
 repeat' (first | refine vs_ ?_ | ((first | refine vr_ ?_ | refine qa (qeg _) fun _ => ?_ | refine qa (qtz _ _ _) fun _ => ?_ | (refine cs_ ?_ ?_ <;> intro hc) | refine cj_ ?_ | simp (disch := omega) only [encs_getN, qc]) <;> (try refine ev_ ?_)) | with_reducible exact ti_)
 ·simp_all [qdm]
 ·exact ⟨rfl, by simp only [qdm, *, decide_true, decide_false, Bool.true_and, Bool.false_and]⟩
 ·exact ⟨rfl, by simp only [qdm, *, decide_true, decide_false, Bool.true_and, Bool.false_and]⟩
def qk0 (n : Int) (_ : Ty) (_ : Int) : Int × Bool := (IntKind.i64.wrap (n + 1), true)
theorem q9w (n : Int) (t : Ty) (k : Int) : VM Try.prog 43 (numE n) (numE (qk0 n t k).1) [encY t, .int .i64 k, .ptr 0 0] (.bool (qk0 n t k).2) := by
 refine qba c0k 1 (by simp) (by simp) ?_
 repeat' (first | refine vs_ ?_ | ((first | refine vr_ ?_ | (refine cs_ ?_ ?_ <;> intro hc) | refine cj_ ?_ | simp (disch := omega) only [encs_getN, qc]) <;> (try refine ev_ ?_)) | with_reducible exact ti_)
 exact ⟨rfl, rfl⟩
def qjl (n : Int) (_ : Ty) (k : Int) : Int × Bool := (if k > n then k else n, true)
theorem q5v (n : Int) (t : Ty) (k : Int) : VM Try.prog 44 (numE n) (numE (qjl n t k).1) [encY t, .int .i64 k, .ptr 0 0] (.bool (qjl n t k).2) := by
 refine qba c0l 1 (by simp) (by simp) ?_
 repeat' (first | refine vs_ ?_ | ((first | refine vr_ ?_ | (refine cs_ ?_ ?_ <;> intro hc) | refine cj_ ?_ | fail) <;> (try refine ev_ ?_)) | with_reducible exact ti_)
 exact ⟨rfl, rfl⟩
theorem qh5 {f : FuncId} {step : Int → Ty → Int → Int × Bool} (h : ∀ n t k, VM Try.prog f (numE n) (numE (step n t k).1) [encY t, .int .i64 k, .ptr 0 0] (.bool (step n t k).2)) (t : Ty) (n k : Int) :
 VM Try.prog 38 (numE n) (numE (qbh step t n k).1) [encY t, .int .i64 k, .fn f [] [.ptr 0 0]] (.bool (qbh step t n k).2) :=
 qe3 (st := numE) (ok := fun _ _ => True) (fun _ => rfl) (fun _ _ _ _ _ => trivial) (fun _ _ _ => trivial) (fun n t k _ => h n t k) t n k trivial
def qou (t : Ty) : Bool := (qbh qdm t 0 1).2
theorem qk3 (t : Ty) : ql Try.prog 11 [encY t] (.bool (qou t)) := by
 refine qf c0m (by simp) (by simp only [go_sem]) rfl fun hw => ?_
 repeat' (first | refine vs_ ?_ | ((first | refine vr_ ?_ | refine qbm 1 (qh5 q7z t 0 1) ?_ | (refine cs_ ?_ ?_ <;> intro hc) | refine cj_ ?_ | fail) <;> (try refine ev_ ?_)) | with_reducible exact ti_)
 rfl
theorem qmk (t : Ty) : ql Try.prog 13 [encY t] (.int .i64 (qbh qk0 t 0 1).1) := by
 refine qf c0n (by simp) (by simp only [go_sem]) rfl fun hw => ?_
 repeat' (first | refine vs_ ?_ | ((first | refine vr_ ?_ | refine qbm 1 (qh5 q9w t 0 1) ?_ | (refine cs_ ?_ ?_ <;> intro hc) | refine cj_ ?_ | fail) <;> (try refine ev_ ?_)) | with_reducible exact ti_)
theorem qkd (t : Ty) : ql Try.prog 15 [encY t] (.int .i64 (qbh qjl t 0 1).1) := by
 refine qf c0o (by simp) (by simp only [go_sem]) rfl fun hw => ?_
 repeat' (first | refine vs_ ?_ | ((first | refine vr_ ?_ | refine qbm 1 (qh5 q5v t 0 1) ?_ | (refine cs_ ?_ ?_ <;> intro hc) | refine cj_ ?_ | fail) <;> (try refine ev_ ?_)) | with_reducible exact ti_)

/-! the references -/
mutual
def qpr : Ty → Int
 | .mk _ _ l => qgl 1 l
def qgl : Int → List Ty → Int
 | a, [] => a
 | a, x :: r => qgl (IntKind.i64.wrap (a + qpr x)) r
end
mutual
def qcs : Ty → Bool
 | .mk c v l => qdh l && mayW c v l.length
def qdh : List Ty → Bool
 | [] => true
 | x :: r => qcs x && qdh r
end
theorem qi8 (t : Ty) : qcs t = (qdh t.args && mayY t) := by cases t; rw [qcs]; rfl
/-! Few -/
mutual
def cntY : Ty → Int → Int → Int
 | .mk _ _ l, k, d => if d < 1 then -1 else qis l (IntKind.i64.wrap (k - 1)) d
def qis : List Ty → Int → Int → Int
 | [], a, _ => a
 | x :: r, a, d => if 0 ≤ a then qis r (cntY x a (IntKind.i64.wrap (d - 1))) d else a
end
theorem q2r (t : Ty) (k d : Int) : cntY t k d = if d < 1 then -1 else qis t.args (IntKind.i64.wrap (k - 1)) d := by cases t; rw [cntY]; rfl
theorem qqc {a : Int} (h : a < 0) (l : List Ty) (d : Int) : qis l a d = a := by
 cases l with
 | nil => rw [qis]
 | cons x r => rw [qis, if_neg (by omega)]
theorem q2u : ∀ t k d, ql Try.prog 37 [encY t, .int .i64 k, .int .i64 d] (.int .i64 (cntY t k d)) := by
 refine Ty.ind fun t ih k d => ?_
 refine qf c0p (by simp) (by simp only [go_sem]) rfl fun hw => ?_
 have hk := qck hw.1
 rw [q2r]
 repeat' (first | refine vs_ ?_ | ((first | refine vr_ ?_ | (refine cs_ ?_ ?_ <;> intro hc) | refine cj_ ?_ | simp (disch := omega) only [encs_getN, qc]) <;> (try refine ev_ ?_)) | with_reducible exact ti_)
 ·rw [if_pos (by assumption)]
 rw [if_neg (by assumption)]
 refine qbc (S := Nat × Int) (fun s => s.1 ≤ t.args.length ∧ qis (t.args.drop s.1) s.2 d = qis t.args (IntKind.i64.wrap (k - 1)) d) (fun s => (⟨[(1, .int .i64 s.2), (2, .int .i64 d), (3, .ptr 0 0), (7, .int .i64 s.1)], []⟩, [.blk (yc t)])) (fun s => t.args.length - s.1) ?_ fun s hs => ?_
 ·refine qt (0, IntKind.i64.wrap (k - 1)) [0] ⟨Nat.zero_le _, rfl⟩ rfl (by simp) ?_ ?_ ?_ <;> (try refine ev_ ?_) <;> (try with_reducible exact ti_) <;> (try simp (disch := omega) only [qc, and_true, true_and])
 ·obtain ⟨i, a⟩ := s
  obtain ⟨hi, ha⟩ := hs
  dsimp only at hi ha
  repeat' (first | refine vs_ ?_ | ((first | refine vr_ ?_ | fail) <;> (try simp (disch := first | omega | (simp only [List.length_set, List.length_append, List.length_cons, List.length_nil]; done) | (simp only [List.length_set, List.length_append, List.length_cons, List.length_nil]; omega)) only [q7, qc, go_sem, ↓reduceIte])) | ((first | (refine cs_ ?_ ?_ <;> intro hc) | refine cj_ ?_ | simp (disch := omega) only [encs_getN, qc] | refine qa (ih _ (qcc (by omega)) _ _) fun _ => ?_) <;> (try refine ev_ ?_)) | with_reducible exact ti_)
  ·refine qt (i + 1, cntY (t.args.getD i Y0) a (IntKind.i64.wrap (d - 1))) [0] ⟨⟨by dsimp only; omega, ?_⟩, by dsimp only; omega⟩ rfl (by simp) ?_ ?_ ?_ <;> (try refine ev_ ?_) <;> (try with_reducible exact ti_) <;> (try simp (disch := omega) only [qc, and_true, true_and])
   rw [← ha, qkp (l := t.args) (i := i) (by omega), qis, if_pos (by assumption)]
  ·rw [← ha, qqc (by omega)]
  ·rw [← ha, List.drop_of_length_le (by omega)]; rfl
def qnu (a : Int) : List Ty → Int
 | [] => a
 | x :: r => qnu (cntY x a 300) r
def qhc (l : List Ty) : Bool := decide (0 ≤ qnu 20000 l)
theorem q7d (l : List Ty) : ql Try.prog 9 [.sl 3 (qj l)] (.int .i64 (if qhc l = true then 1 else 0)) := by
 refine qf c0q (by simp) (by simp only [go_sem]) rfl fun hw => ?_
 have hk : l.length ≤ maxLen := by have := hw.1.1; rwa [qb6] at this
 repeat' (first | refine vs_ ?_ | ((first | refine vr_ ?_ | (refine cs_ ?_ ?_ <;> intro hc) | refine cj_ ?_ | simp (disch := omega) only [encs_getN, qc]) <;> (try refine ev_ ?_)) | with_reducible exact ti_)
 refine qbc (S := Nat × Int) (fun s => s.1 ≤ l.length ∧ qnu s.2 (l.drop s.1) = qnu 20000 l) (fun s => (⟨[(0, .sl 3 (qj l)), (3, .int .i64 s.2), (4, .int .i64 s.1)], []⟩, [])) (fun s => l.length - s.1) ?_ fun s hs => ?_
 ·refine qt (0, 20000) [] ⟨Nat.zero_le _, rfl⟩ rfl (by simp) ?_ ?_ ?_ <;> (try refine ev_ ?_) <;> (try with_reducible exact ti_) <;> (try simp (disch := omega) only [qc, and_true, true_and])
 ·obtain ⟨i, a⟩ := s
  obtain ⟨hi, ha⟩ := hs
  dsimp only at hi ha
  repeat' (first | refine vs_ ?_ | ((first | refine vr_ ?_ | fail) <;> (try simp (disch := first | omega | (simp only [List.length_set, List.length_append, List.length_cons, List.length_nil]; done) | (simp only [List.length_set, List.length_append, List.length_cons, List.length_nil]; omega)) only [q7, qc, go_sem, ↓reduceIte])) | ((first | (refine cs_ ?_ ?_ <;> intro hc) | refine cj_ ?_ | simp (disch := omega) only [encs_getN, qc] | refine qa (q2u _ _ _) fun _ => ?_) <;> (try refine ev_ ?_)) | with_reducible exact ti_)
  ·refine qt (i + 1, cntY (l.getD i Y0) a 300) [] ⟨⟨by dsimp only; omega, ?_⟩, by dsimp only; omega⟩ rfl (by simp) ?_ ?_ ?_ <;> (try refine ev_ ?_) <;> (try with_reducible exact ti_) <;> (try simp (disch := omega) only [qc, and_true, true_and])
   rw [← ha, qkp (l := l) (i := i) (by omega), qnu]
  all_goals
   have hf : qnu 20000 l = a := by rw [← ha, List.drop_of_length_le (by omega)]; rfl
   rw [qhc, hf]
  ·rw [if_neg (by simp; omega)]
  ·rw [if_pos (by simp; omega)]

/-! the laws of sizes -/
mutual
theorem qm2 : ∀ (t : Ty), szY t ≤ 1000000 → qpr t = szY t
 | .mk c v l, h => by
   rw [szY] at h
   rw [qpr, szY, qgk l 1 (by omega) (by omega)]
   omega
theorem qgk : ∀ (l : List Ty) (a : Int), 1 ≤ a → a + szYs l ≤ 1000001 → qgl a l = a + szYs l
 | [], a, _, _ => by rw [qgl, szYs]; omega
 | x :: r, a, h0, h => by
   rw [szYs] at h
   rw [qgl, qm2 x (by omega), qbg (by omega) (by omega), qgk r _ (by omega) (by omega), szYs]
   omega
end
mutual
theorem qjr : ∀ (t : Ty) (n k : Int), 0 ≤ n → n + szY t ≤ 1000000 → qbh qk0 t n k = (n + szY t, true)
 | .mk c v l, n, k, h0, h => by
   rw [szY] at h
   rw [qbh, if_pos (show (qk0 n (.mk c v l) k).2 = true from rfl)]
   have h1 : (qk0 n (.mk c v l) k).1 = n + 1 := qbg (by omega) (by omega)
   rw [h1, qhw l _ _ (by omega) (by omega), szY]
   congr 1; omega
theorem qhw : ∀ (l : List Ty) (n k : Int), 0 ≤ n → n + szYs l ≤ 1000000 → qv qk0 l n k = (n + szYs l, true)
 | [], n, k, _, _ => by rw [qv, szYs]; congr 1; omega
 | x :: r, n, k, h0, h => by
   rw [szYs] at h
   rw [qv, qjr x n k h0 (by omega), if_pos rfl, qhw r _ k (by omega) (by omega), szYs]
   congr 1; omega
end
mutual
theorem qjy : ∀ (t : Ty) (n k : Int), 0 ≤ n → 1 ≤ k → k + dpY t ≤ 1000000 → qbh qjl t n k = (max n (k + dpY t - 1), true)
 | .mk c v l, n, k, h0, h1, h => by
   rw [dpY] at h
   rw [qbh, if_pos (show (qjl n (.mk c v l) k).2 = true from rfl)]
   have h2 : (qjl n (.mk c v l) k).1 = max n k := by simp only [qjl]; split <;> omega
   rw [h2, qbg (z := k + 1) (by omega) (by omega), qhm l _ _ (by omega) (by omega) (by omega), dpY]
   congr 1; split <;> omega
theorem qhm : ∀ (l : List Ty) (n k : Int), 0 ≤ n → 1 ≤ k → k + dpYs l ≤ 1000000 → qv qjl l n k = (if dpYs l = 0 then n else max n (k + dpYs l - 1), true)
 | [], n, k, _, _, _ => by rw [qv, dpYs, if_pos rfl]
 | x :: r, n, k, h0, h1, h => by
   rw [dpYs] at h
   have hp := qh4 x
   rw [qv, qjy x n k h0 h1 (by omega), if_pos rfl, qhm r _ k (by omega) h1 (by omega), dpYs]
   congr 1
   rw [if_neg (by omega : ¬ max (dpY x) (dpYs r) = 0)]
   split <;> omega
end
mutual
theorem qiv : ∀ (t : Ty) (n k : Int), 0 ≤ n → n + szY t ≤ 1000000 → 1 ≤ k → k + dpY t ≤ 1000000 →
 ((qbh qdm t n k).2 = true ↔ n + szY t ≤ 4096 ∧ k + dpY t - 1 ≤ 100 ∧ qcs t = true) ∧ ((qbh qdm t n k).2 = true → (qbh qdm t n k).1 = n + szY t)
 | .mk c v l, n, k, h0, h1, h2, h3 => by
   rw [szY] at h1
   rw [dpY] at h3
   have e1 : IntKind.i64.wrap (n + 1) = n + 1 := qbg (by omega) (by omega)
   have e2 : IntKind.i64.wrap (k + 1) = k + 1 := qbg (by omega) (by omega)
   have e3 : (qdm n (.mk c v l) k).1 = n + 1 := e1
   have e4 : (qdm n (.mk c v l) k).2 = true ↔ n + 1 ≤ 4096 ∧ k ≤ 100 ∧ mayW c v l.length = true := by
    simp only [qdm, e1, Bool.and_eq_true, decide_eq_true_eq]; rfl
   rw [qbh, szY, dpY, qcs]
   by_cases hs : (qdm n (.mk c v l) k).2 = true
   ·rw [if_pos hs, e3, e2]
    obtain ⟨q1, q2, q3⟩ := e4.1 hs
    obtain ⟨r1, r2⟩ := qhr l (n + 1) (k + 1) (by omega) (by omega) (by omega) (by omega) (by omega) (by omega)
    refine ⟨?_, fun h => by rw [r2 h]; omega⟩
    rw [r1, q3, Bool.and_true]
    constructor
    ·rintro ⟨a1, a2, a3⟩; exact ⟨by omega, by omega, a3⟩
    ·rintro ⟨a1, a2, a3⟩; exact ⟨by omega, by omega, a3⟩
   ·rw [if_neg hs]
    refine ⟨⟨fun h => (by cases h), fun ⟨a1, a2, a3⟩ => absurd (e4.2 ⟨by omega, by omega, (by rw [Bool.and_eq_true] at a3; exact a3.2)⟩) hs⟩, fun h => by cases h⟩
theorem qhr : ∀ (l : List Ty) (n k : Int), 0 ≤ n → n + szYs l ≤ 1000000 → 1 ≤ k → k + dpYs l ≤ 1000000 → n ≤ 4096 → k - 1 ≤ 100 →
 ((qv qdm l n k).2 = true ↔ n + szYs l ≤ 4096 ∧ k + dpYs l - 1 ≤ 100 ∧ qdh l = true) ∧ ((qv qdm l n k).2 = true → (qv qdm l n k).1 = n + szYs l)
 | [], n, k, h0, h1, h2, h3, h4, h5 => by
   rw [qv, szYs, dpYs, qdh]
   exact ⟨⟨fun _ => ⟨by omega, by omega, rfl⟩, fun _ => rfl⟩, fun _ => by simp⟩
 | x :: r, n, k, h0, h1, h2, h3, h4, h5 => by
   rw [szYs] at h1
   rw [dpYs] at h3
   obtain ⟨q1, q2⟩ := qiv x n k h0 (by omega) h2 (by omega)
   rw [qv, szYs, dpYs, qdh]
   by_cases hs : (qbh qdm x n k).2 = true
   ·rw [if_pos hs, q2 hs]
    obtain ⟨a1, a2, a3⟩ := q1.1 hs
    obtain ⟨r1, r2⟩ := qhr r (n + szY x) k (by omega) (by omega) h2 (by omega) (by omega) h5
    refine ⟨?_, fun h => by rw [r2 h]; omega⟩
    rw [r1, a3, Bool.true_and]
    constructor
    ·rintro ⟨b1, b2, b3⟩; exact ⟨by omega, by omega, b3⟩
    ·rintro ⟨b1, b2, b3⟩; exact ⟨by omega, by omega, b3⟩
   ·rw [if_neg hs]
    refine ⟨⟨fun h => (by cases h), fun ⟨a1, a2, a3⟩ => absurd (q1.2 ⟨by omega, by omega, ?_⟩) hs⟩, fun h => by cases h⟩
    rw [Bool.and_eq_true] at a3
    exact a3.1
end
def qdu (t : Ty) : Bool := decide (szY t ≤ 4096) && (decide (dpY t ≤ 100) && qcs t)
theorem qqd {t : Ty} (h1 : szY t ≤ 20000) (h2 : dpY t ≤ 300) : qou t = qdu t := by
 have := (qiv t 0 1 (by omega) (by omega) (by omega) (by omega)).1
 rw [qou, Bool.eq_iff_iff, this, qdu, Bool.and_eq_true, Bool.and_eq_true, decide_eq_true_eq, decide_eq_true_eq]
 constructor
 ·rintro ⟨a1, a2, a3⟩; exact ⟨by omega, by omega, a3⟩
 ·rintro ⟨a1, a2, a3⟩; exact ⟨by omega, by omega, a3⟩
theorem qcd {t : Ty} (h1 : szY t ≤ 20000) (h2 : dpY t ≤ 300) : ql Try.prog 11 [encY t] (.bool (qdu t)) := by
 rw [← qqd h1 h2]; exact qk3 t
end Go.Proofs.Ytlahgbhhejkgbaa
