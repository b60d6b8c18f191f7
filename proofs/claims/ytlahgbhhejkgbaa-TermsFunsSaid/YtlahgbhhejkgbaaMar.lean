/- Texts of this proof, joined. -/
import Derived.Test.YtlahgbhhejkgbaaMaq

/- rows of integers: whether a number is there, each once -/
set_option maxRecDepth 4000
namespace Go.Proofs.Ytlahgbhhejkgbaa
open Go Go.RowKit Go.V
set_option linter.unusedVariables false
set_option linter.unusedSimpArgs false

def ints (l : List Int) : List AV := l.map (AV.int .i64)
theorem qfu (l : List Int) : (ints l).length = l.length := by simp [ints]
theorem qib (k : Nat) (l : List Int) : AV.bds k (ints l) = true := by rw [ints, qj5]; simp [AV.bd]
theorem qlq (σ : Nat → Nat) (l : List Int) : AV.rens σ (ints l) = ints l := qm (m := 0) (fun i hi => by omega) _ (qib 0 l)
theorem qjx {l : List Int} {i : Nat} (h : i < l.length) : (ints l).getD i .junk = .int .i64 (l.getD i 0) := by
 rw [ints, List.getD_eq_getElem?_getD, List.getElem?_map, List.getElem?_eq_getElem h, List.getD_eq_getElem?_getD, List.getElem?_eq_getElem h]; rfl
theorem qoy (l : List Int) (v : Int) : ints l ++ [.int .i64 v] = ints (l ++ [v]) := by simp [ints]
theorem qmd : ints [] = [] := rfl
theorem qe8 {l : List Int} (h : l ≠ []) : ints l ≠ [] := by cases l with | nil => exact absurd rfl h | cons _ _ => simp [ints]
attribute [go_sem] qfu qib qlq cond_false cond_true
theorem qnz {l : List Int} {i : Nat} (h : i < l.length) : l.drop i = l.getD i 0 :: l.drop (i + 1) := by
 rw [List.drop_eq_getElem_cons h, List.getD_eq_getElem?_getD, List.getElem?_eq_getElem h]; rfl
theorem capI {k : Nat} (h : k ≤ 1000000000) : qcr k 8 := by unfold qcr; omega

def idxW (v : Int) : List Int → Int → Int
 | [], _ => -1
 | x :: r, k => if v = x then k else idxW v r (k + 1)
theorem qq6 (v : Int) : ∀ (l : List Int) (k : Int), 0 ≤ k → (decide (0 ≤ idxW v l k) = decide (v ∈ l))
 | [], k, h => by simp [idxW]
 | x :: r, k, h => by
   rw [idxW]
   by_cases hx : v = x
   ·simp [hx, h]
   ·rw [if_neg hx, qq6 v r (k + 1) (by omega)]; simp [hx]
theorem qj1 (l : List Int) (v : Int) : qk Try.prog 69 [.sl 1 (ints l), .int .i64 v] (.int .i64 (idxW v l 0)) := by
 refine qf c0u (by simp) (by simp only [go_sem]) rfl fun hw => ?_
 have hl : l.length ≤ maxLen := by have := hw.1.1; rwa [qfu] at this
 repeat' (first | refine vs_ ?_ | ((first | refine vr_ ?_ | (refine cs_ ?_ ?_ <;> intro hc) | refine cj_ ?_ | simp (disch := omega) only [encs_getN, qc]) <;> (try refine ev_ ?_)) | with_reducible exact ti_)
 refine q7 (S := Nat) (fun i => i ≤ l.length ∧ idxW v (l.drop i) i = idxW v l 0) (fun i => (⟨[(0, .sl 1 (ints l)), (1, .int .i64 v), (7, .int .i64 l.length), (8, .int .i64 i)], []⟩, [])) (fun i => l.length - i) ?_ fun i hi => ?_
 ·refine qt 0 [] ⟨Nat.zero_le _, rfl⟩ rfl (by simp) ?_ ?_ ?_ <;> (try refine ev_ ?_) <;> (try with_reducible exact ti_) <;> (try simp (disch := omega) only [qc, and_true, true_and])
 ·obtain ⟨hi, ha⟩ := hi
  repeat' (first | refine vs_ ?_ | ((first | refine vr_ ?_ | fail) <;> (try simp (disch := first | omega | (simp only [List.length_set, List.length_append, List.length_cons, List.length_nil]; done) | (simp only [List.length_set, List.length_append, List.length_cons, List.length_nil]; omega)) only [qjx, qc, go_sem, ↓reduceIte])) | ((first | (refine cs_ ?_ ?_ <;> intro hc) | refine cj_ ?_ | simp (disch := omega) only [encs_getN, qc]) <;> (try refine ev_ ?_)) | with_reducible exact ti_)
  ·rw [← ha, qnz (by omega), idxW, if_pos (by assumption)]
  ·refine qt (i + 1) [] ⟨⟨by omega, ?_⟩, by omega⟩ rfl (by simp) ?_ ?_ ?_ <;> (try refine ev_ ?_) <;> (try with_reducible exact ti_) <;> (try simp (disch := omega) only [qc, and_true, true_and])
   rw [← ha, qnz (l := l) (i := i) (by omega), idxW, if_neg (by assumption)]; rfl
  ·rw [← ha, List.drop_of_length_le (by omega)]; rfl
theorem qdd (l : List Int) (v : Int) : qk Try.prog 46 [.sl 1 (ints l), .int .i64 v] (.bool (decide (v ∈ l))) := by
 refine qf c0v (by simp) (by simp only [go_sem]) rfl fun hw => ?_
 repeat' (first | refine vs_ ?_ | ((first | refine vr_ ?_ | refine qa (qj1 _ _) fun _ => ?_ | (refine cs_ ?_ ?_ <;> intro hc) | refine cj_ ?_ | fail) <;> (try refine ev_ ?_)) | with_reducible exact ti_)
 rw [qq6 v l 0 (by omega)]
theorem qnt (l m : List Int) : qk Try.prog 17 [.sl 1 (ints l), .sl 1 (ints m)] (.bool (decide (l = m))) := by
 refine qf c0w (by simp) (by simp only [go_sem]) rfl fun hw => ?_
 have hl : l.length ≤ maxLen := by have := hw.1.1; rwa [qfu] at this
 repeat' (first | refine vs_ ?_ | ((first | refine vr_ ?_ | (refine cs_ ?_ ?_ <;> intro hc) | refine cj_ ?_ | simp (disch := omega) only [encs_getN, qc]) <;> (try refine ev_ ?_)) | with_reducible exact ti_)
 ·rw [decide_eq_false]; rintro rfl; omega
 refine q7 (S := Nat) (fun i => i ≤ l.length ∧ decide (l.drop i = m.drop i) = decide (l = m)) (fun i => (⟨[(0, .sl 1 (ints l)), (1, .sl 1 (ints m)), (5, .int .i64 i)], []⟩, [])) (fun i => l.length - i) ?_ fun i hi => ?_
 ·refine qt 0 [] ⟨Nat.zero_le _, rfl⟩ rfl (by simp) ?_ ?_ ?_ <;> (try refine ev_ ?_) <;> (try with_reducible exact ti_) <;> (try simp (disch := omega) only [qc, and_true, true_and])
 ·obtain ⟨hi, ha⟩ := hi
  repeat' (first | refine vs_ ?_ | ((first | refine vr_ ?_ | fail) <;> (try simp (disch := first | omega | (simp only [List.length_set, List.length_append, List.length_cons, List.length_nil]; done) | (simp only [List.length_set, List.length_append, List.length_cons, List.length_nil]; omega)) only [qjx, qc, go_sem, ↓reduceIte])) | ((first | (refine cs_ ?_ ?_ <;> intro hc) | refine cj_ ?_ | simp (disch := omega) only [encs_getN, qc]) <;> (try refine ev_ ?_)) | with_reducible exact ti_)
  ·rw [← ha, qnz (l := l) (i := i) (by omega), qnz (l := m) (i := i) (by omega), decide_eq_false]
   intro h
   exact absurd (List.cons.inj h).1 (by assumption)
  ·refine qt (i + 1) [] ⟨⟨by omega, ?_⟩, by omega⟩ rfl (by simp) ?_ ?_ ?_ <;> (try refine ev_ ?_) <;> (try with_reducible exact ti_) <;> (try simp (disch := omega) only [qc, and_true, true_and])
   rw [← ha, qnz (l := l) (i := i) (by omega), qnz (l := m) (i := i) (by omega)]
   refine decide_eq_decide.2 ⟨fun h => by rw [h]; congr 1, fun h => (List.cons.inj h).2⟩
  ·rw [← ha, List.drop_of_length_le (by omega), List.drop_of_length_le (by omega)]; rfl

/-! each once -/
theorem qe6 {H : List Ent} {n : Nat} : co H (.sl n) .nils = .sl n [] := Eq.trans rfl rfl
/-! all variables -/
/-! the program's: a walk that gathers -/
def outE (l : List Int) : Ent := bun (.blk [accV 1 (ints l)] :: accE 1 (ints l))
def outN (l : List Int) (t : Ty) : List Int := if t.con = [] then (if t.var ∈ l then l else l ++ [t.var]) else l
theorem qdt {H' : List Ent} {l : List Int} {r : AV} (k : Nat) (h0 : l ≠ []) (hk : 0 < k) (hl : k < H'.length) (e0 : ent H' 0 = .blk [.row k l.length]) (e1 : ent H' k = .app 1 (ints l)) (hr : r.bd 1 = true) :
 qkb (fun H' o => H' = [outE l] ∧ o = .val r) H' (.val r) := by
 refine ⟨[.blk [.row 1 l.length], .app 1 (ints l)], [0, k], rfl, by simp, by simp; omega, ?_, hr, ?_, rfl⟩
 ·simp only [qdl, List.length_cons, List.length_nil, Ent.bd, AV.bds, AV.bd, Ent.ren, AV.rens, AV.ren, e0, e1, qib, qlq]
  exact ⟨⟨by omega, rfl, rfl⟩, ⟨hl, trivial, trivial⟩, trivial⟩
 ·rw [outE, qcl (qe8 h0), qcm (qe8 h0), qfu]
theorem qnl {H' : List Ent} {r : AV} (hl : 0 < H'.length) (e0 : ent H' 0 = .blk [.nils]) (hr : r.bd 1 = true) :
 qkb (fun H' o => H' = [outE []] ∧ o = .val r) H' (.val r) := by
 refine ⟨[.blk [.nils]], [0], rfl, by simp, by simp, ?_, hr, rfl, rfl⟩
 exact ⟨⟨hl, rfl, by rw [e0]; rfl⟩, trivial⟩
theorem qba6 (l : List Int) (t : Ty) (k : Int) (hb : l.length ≤ 1000000) : VM Try.prog 45 (outE l) (outE (outN l t)) [encY t, .int .i64 k, .ptr 0 0] (.bool true) := by
 refine q6i ?_ (by simp [AV.bds, AV.bd, qbv])
 have hcap : qcr (l.length + 1) 8 = True := eq_true (capI (by omega))
 refine qju c0x (by simp) ?_
 by_cases h0 : l = []
 ·subst h0
  simp only [qmd, qbr, qbt]
  repeat' (first | refine vs_ ?_ | ((first | refine vr_ ?_ | fail) <;> (try simp only [qe6, go_sem, ↓reduceIte])) | ((first | simp (disch := omega) only [hcap] | (refine cs_ ?_ ?_ <;> intro hc) | refine cj_ ?_ | fail | refine qa (qdd [] _) fun _ => ?_) <;> (try refine ev_ ?_)) | with_reducible exact ti_)
  ·have : outN [] t = [t.var] := by rw [outN, if_pos (by assumption), if_neg (by assumption)]; rfl
   rw [this]
   exact qdt (l := [t.var]) 2 (by simp) (by omega) (by simp) rfl rfl rfl
  ·exact absurd (by assumption : t.var ∈ []) (by simp)
  ·have : outN [] t = [] := by rw [outN, if_neg (by assumption)]
   rw [this]
   exact qnl (by simp) rfl rfl
 ·simp only [qcl (qe8 h0), qcm (qe8 h0)]
  repeat' (first | refine vs_ ?_ | ((first | refine vr_ ?_ | refine qa (qdd l _) fun _ => ?_ | simp (disch := omega) only [hcap] | (refine cs_ ?_ ?_ <;> intro hc) | refine cj_ ?_ | fail) <;> (try refine ev_ ?_)) | with_reducible exact ti_)
  ·have : outN l t = l ++ [t.var] := by rw [outN, if_pos (by assumption), if_neg (by assumption)]
   rw [this, qoy]
   exact qdt (l := l ++ [t.var]) 3 (by simp) (by omega) (by simp) (by simp [ent]) rfl rfl
  ·have : outN l t = l := by rw [outN, if_pos (by assumption), if_pos (by assumption)]
   rw [this]
   exact qdt (l := l) 1 h0 (by omega) (by simp) rfl rfl rfl
  ·have : outN l t = l := by rw [outN, if_neg (by assumption)]
   rw [this]
   exact qdt (l := l) 1 h0 (by omega) (by simp) rfl rfl rfl
def qrf (l : List Int) (t : Ty) (_ : Int) : List Int × Bool := (outN l t, true)
theorem qp6 (l : List Int) (c : List UInt8) (v : Int) (a : List Ty) : outN l (.mk c v a) = qgx l (if c = [] then [v] else []) := by
 unfold outN
 by_cases hcn : c = []
 ·rw [if_pos (show (Ty.mk c v a).con = [] from hcn), if_pos hcn]; rfl
 ·rw [if_neg (show ¬ (Ty.mk c v a).con = [] from hcn), if_neg hcn]; rfl
mutual
theorem q45 : ∀ (t : Ty) (l : List Int) (k : Int), qbi qrf t l k = (qgx l (varY t), true)
 | .mk c v a, l, k => by
   rw [qbi, if_pos (show (qrf l (.mk c v a) k).2 = true from rfl), qwk, varY, qj0]
   congr 2
   exact qp6 l c v a
theorem qwk : ∀ (a : List Ty) (l : List Int) (k : Int), qw qrf a l k = (qgx l (qjh a), true)
 | [], l, k => by rw [qw, qjh]; rfl
 | x :: r, l, k => by
   rw [qw, q45 x, if_pos rfl, qwk r, qjh, qj0]
end
theorem quc (l : List Int) (t : Ty) : (outN l t).length ≤ l.length + 1 := by
 rw [outN]; split
 ·split
  ·omega
  ·simp
 ·omega
theorem qns (t : Ty) (hb : szY t ≤ 1000000) : qk Try.prog 18 [encY t] (.sl 1 (ints (qgx [] (varY t)))) := by
 refine qf c0y (by simp) (by simp only [go_sem]) (qib 0 _) fun hw => ?_
 have hwalk := qe7 (st := outE) (step := qrf) (f := 45) (ok := fun n l => l.length + n ≤ 1000000) (fun _ => rfl) (fun n l t k h => by have := quc l t; simp only [qrf]; omega) (fun n l h => by omega) (fun l t k h => qba6 l t k (by omega)) t [] 1 (by simpa using hb)
 rw [q45] at hwalk
 unfold k0y
 refine qbu (qer ?_)
 (refine ev_ ?_; (try with_reducible exact ti_))
 refine qbu (qer ?_)
 (refine ev_ ?_; (try with_reducible exact ti_))
 refine q18 1 rfl rfl ?_
 refine qbu (qer ?_)
 simp only [List.set_cons_succ, List.set_cons_zero]
 (refine ev_ ?_; (try with_reducible exact ti_))
 refine qbo 1 hwalk ?_
 simp only [List.set_cons_succ, List.set_cons_zero]
 (refine ev_ ?_; (try with_reducible exact ti_))
 refine qzu 1 rfl (by simp) ?_
 simp only [List.set_cons_succ, List.set_cons_zero]
 by_cases h0 : qgx [] (varY t) = []
 ·simp only [h0, qmd, qbr, qbt]
  repeat' (first | refine vs_ ?_ | ((first | refine vr_ ?_ | (refine cs_ ?_ ?_ <;> intro hc) | refine cj_ ?_ | fail) <;> (try refine ev_ ?_)) | with_reducible exact ti_)
 ·simp only [qcl (qe8 h0), qcm (qe8 h0)]
  repeat' (first | refine vs_ ?_ | ((first | refine vr_ ?_ | (refine cs_ ?_ ?_ <;> intro hc) | refine cj_ ?_ | fail) <;> (try refine ev_ ?_)) | with_reducible exact ti_)
set_option maxRecDepth 4000

/-! the program's -/
abbrev numE (n : Int) : Ent := .blk [.int .i64 n]
def qdn (n : Int) (t : Ty) (k : Int) : Int × Bool := (IntKind.i64.wrap (n + 1), decide (IntKind.i64.wrap (n + 1) ≤ 4096) && (decide (k ≤ 100) && mayY t))
theorem q48 (n : Int) (t : Ty) (k : Int) : VM Try.prog 39 (numE n) (numE (qdn n t k).1) [encY t, .int .i64 k, .ptr 0 0] (.bool (qdn n t k).2) := by
 refine qgl (by kernel_rfl) fun hw => ?_
 have hk := qcn hw.1
 refine qbd c0m 1 (by simp) (by simp) ?_
 repeat' (first | refine vs_ ?_ | ((first | refine vr_ ?_ | refine qa (qet _) fun _ => ?_ | refine qa (qsa _ _ _) fun _ => ?_ | (refine cs_ ?_ ?_ <;> intro hc) | refine cj_ ?_ | simp (disch := omega) only [encs_getN, qc]) <;> (try refine ev_ ?_)) | with_reducible exact ti_)
 ·simp_all [qdn]
 ·exact ⟨rfl, by simp only [qdn, *, decide_true, decide_false, Bool.true_and, Bool.false_and]⟩
 ·exact ⟨rfl, by simp only [qdn, *, decide_true, decide_false, Bool.true_and, Bool.false_and]⟩
def qk4 (n : Int) (_ : Ty) (_ : Int) : Int × Bool := (IntKind.i64.wrap (n + 1), true)
theorem qbax (n : Int) (t : Ty) (k : Int) : VM Try.prog 43 (numE n) (numE (qk4 n t k).1) [encY t, .int .i64 k, .ptr 0 0] (.bool (qk4 n t k).2) := by
 refine qbd c0n 1 (by simp) (by simp) ?_
 repeat' (first | refine vs_ ?_ | ((first | refine vr_ ?_ | (refine cs_ ?_ ?_ <;> intro hc) | refine cj_ ?_ | simp (disch := omega) only [encs_getN, qc]) <;> (try refine ev_ ?_)) | with_reducible exact ti_)
 exact ⟨rfl, rfl⟩
def qji (n : Int) (_ : Ty) (k : Int) : Int × Bool := (if k > n then k else n, true)
theorem q8u (n : Int) (t : Ty) (k : Int) : VM Try.prog 44 (numE n) (numE (qji n t k).1) [encY t, .int .i64 k, .ptr 0 0] (.bool (qji n t k).2) := by
 refine qbd c0o 1 (by simp) (by simp) ?_
 repeat' (first | refine vs_ ?_ | ((first | refine vr_ ?_ | (refine cs_ ?_ ?_ <;> intro hc) | refine cj_ ?_ | fail) <;> (try refine ev_ ?_)) | with_reducible exact ti_)
 exact ⟨rfl, rfl⟩
theorem qi0 {f : FuncId} {step : Int → Ty → Int → Int × Bool} (h : ∀ n t k, VM Try.prog f (numE n) (numE (step n t k).1) [encY t, .int .i64 k, .ptr 0 0] (.bool (step n t k).2)) (t : Ty) (n k : Int) :
 VM Try.prog 38 (numE n) (numE (qbi step t n k).1) [encY t, .int .i64 k, .fn f [] [.ptr 0 0]] (.bool (qbi step t n k).2) :=
 qe7 (st := numE) (ok := fun _ _ => True) (fun _ => rfl) (fun _ _ _ _ _ => trivial) (fun _ _ _ => trivial) (fun n t k _ => h n t k) t n k trivial
def qrp (t : Ty) : Bool := (qbi qdn t 0 1).2
theorem qlb (t : Ty) : qk Try.prog 11 [encY t] (.bool (qrp t)) := by
 refine qf c0p (by simp) (by simp only [go_sem]) rfl fun hw => ?_
 repeat' (first | refine vs_ ?_ | ((first | refine vr_ ?_ | refine qbo 1 (qi0 q48 t 0 1) ?_ | (refine cs_ ?_ ?_ <;> intro hc) | refine cj_ ?_ | fail) <;> (try refine ev_ ?_)) | with_reducible exact ti_)
 rfl
theorem qna (t : Ty) : qk Try.prog 13 [encY t] (.int .i64 (qbi qk4 t 0 1).1) := by
 refine qf c0q (by simp) (by simp only [go_sem]) rfl fun hw => ?_
 repeat' (first | refine vs_ ?_ | ((first | refine vr_ ?_ | refine qbo 1 (qi0 qbax t 0 1) ?_ | (refine cs_ ?_ ?_ <;> intro hc) | refine cj_ ?_ | fail) <;> (try refine ev_ ?_)) | with_reducible exact ti_)
theorem qkw (t : Ty) : qk Try.prog 15 [encY t] (.int .i64 (qbi qji t 0 1).1) := by
 refine qf c0r (by simp) (by simp only [go_sem]) rfl fun hw => ?_
 repeat' (first | refine vs_ ?_ | ((first | refine vr_ ?_ | refine qbo 1 (qi0 q8u t 0 1) ?_ | (refine cs_ ?_ ?_ <;> intro hc) | refine cj_ ?_ | fail) <;> (try refine ev_ ?_)) | with_reducible exact ti_)

/-! the references -/
mutual
def qq5 : Ty → Int
 | .mk _ _ l => qf1 1 l
def qf1 : Int → List Ty → Int
 | a, [] => a
 | a, x :: r => qf1 (IntKind.i64.wrap (a + qq5 x)) r
end
mutual
def qcs : Ty → Bool
 | .mk c v l => qde l && mayW c v l.length
def qde : List Ty → Bool
 | [] => true
 | x :: r => qcs x && qde r
end
theorem qi6 (t : Ty) : qcs t = (qde t.args && mayY t) := by cases t; rw [qcs]; rfl
/-! Few -/
mutual
def cntY : Ty → Int → Int → Int
 | .mk _ _ l, k, d => if d < 1 then -1 else qc3 l (IntKind.i64.wrap (k - 1)) d
def qc3 : List Ty → Int → Int → Int
 | [], a, _ => a
 | x :: r, a, d => if 0 ≤ a then qc3 r (cntY x a (IntKind.i64.wrap (d - 1))) d else a
end
theorem qoo (t : Ty) (k d : Int) : cntY t k d = if d < 1 then -1 else qc3 t.args (IntKind.i64.wrap (k - 1)) d := by cases t; rw [cntY]; rfl
theorem qem {a : Int} (h : a < 0) (l : List Ty) (d : Int) : qc3 l a d = a := by
 cases l with
 | nil => rw [qc3]
 | cons x r => rw [qc3, if_neg (by omega)]
theorem q0d : ∀ t k d, qk Try.prog 37 [encY t, .int .i64 k, .int .i64 d] (.int .i64 (cntY t k d)) := by
 refine Ty.ind fun t ih k d => ?_
 refine qf c0s (by simp) (by simp only [go_sem]) rfl fun hw => ?_
 have hk := qcn hw.1
 rw [qoo]
 repeat' (first | refine vs_ ?_ | ((first | refine vr_ ?_ | (refine cs_ ?_ ?_ <;> intro hc) | refine cj_ ?_ | simp (disch := omega) only [encs_getN, qc]) <;> (try refine ev_ ?_)) | with_reducible exact ti_)
 ·rw [if_pos (by assumption)]
 rw [if_neg (by assumption)]
 refine q7 (S := Nat × Int) (fun s => s.1 ≤ t.args.length ∧ qc3 (t.args.drop s.1) s.2 d = qc3 t.args (IntKind.i64.wrap (k - 1)) d) (fun s => (⟨[(1, .int .i64 s.2), (2, .int .i64 d), (3, .ptr 0 0), (7, .int .i64 s.1)], []⟩, [.blk (yc t)])) (fun s => t.args.length - s.1) ?_ fun s hs => ?_
 ·refine qt (0, IntKind.i64.wrap (k - 1)) [0] ⟨Nat.zero_le _, rfl⟩ rfl (by simp) ?_ ?_ ?_ <;> (try refine ev_ ?_) <;> (try with_reducible exact ti_) <;> (try simp (disch := omega) only [qc, and_true, true_and])
 ·obtain ⟨i, a⟩ := s
  obtain ⟨hi, ha⟩ := hs
  dsimp only at hi ha
  repeat' (first | refine vs_ ?_ | ((first | refine vr_ ?_ | fail) <;> (try simp (disch := first | omega | (simp only [List.length_set, List.length_append, List.length_cons, List.length_nil]; done) | (simp only [List.length_set, List.length_append, List.length_cons, List.length_nil]; omega)) only [qu, qc, go_sem, ↓reduceIte])) | ((first | (refine cs_ ?_ ?_ <;> intro hc) | refine cj_ ?_ | simp (disch := omega) only [encs_getN, qc] | refine qa (ih _ (qch (by omega)) _ _) fun _ => ?_) <;> (try refine ev_ ?_)) | with_reducible exact ti_)
  ·refine qt (i + 1, cntY (t.args.getD i Y0) a (IntKind.i64.wrap (d - 1))) [0] ⟨⟨by dsimp only; omega, ?_⟩, by dsimp only; omega⟩ rfl (by simp) ?_ ?_ ?_ <;> (try refine ev_ ?_) <;> (try with_reducible exact ti_) <;> (try simp (disch := omega) only [qc, and_true, true_and])
   rw [← ha, qi3 (l := t.args) (i := i) (by omega), qc3, if_pos (by assumption)]
  ·rw [← ha, qem (by omega)]
  ·rw [← ha, List.drop_of_length_le (by omega)]; rfl
def qhh (a : Int) : List Ty → Int
 | [] => a
 | x :: r => qhh (cntY x a 300) r
def qdr (l : List Ty) : Bool := decide (0 ≤ qhh 20000 l)
theorem q7j (l : List Ty) : qk Try.prog 9 [.sl 3 (qi l)] (.int .i64 (if qdr l = true then 1 else 0)) := by
 refine qf c0t (by simp) (by simp only [go_sem]) rfl fun hw => ?_
 have hk : l.length ≤ maxLen := by have := hw.1.1; rwa [qbf] at this
 repeat' (first | refine vs_ ?_ | ((first | refine vr_ ?_ | (refine cs_ ?_ ?_ <;> intro hc) | refine cj_ ?_ | simp (disch := omega) only [encs_getN, qc]) <;> (try refine ev_ ?_)) | with_reducible exact ti_)
 refine q7 (S := Nat × Int) (fun s => s.1 ≤ l.length ∧ qhh s.2 (l.drop s.1) = qhh 20000 l) (fun s => (⟨[(0, .sl 3 (qi l)), (3, .int .i64 s.2), (4, .int .i64 s.1)], []⟩, [])) (fun s => l.length - s.1) ?_ fun s hs => ?_
 ·refine qt (0, 20000) [] ⟨Nat.zero_le _, rfl⟩ rfl (by simp) ?_ ?_ ?_ <;> (try refine ev_ ?_) <;> (try with_reducible exact ti_) <;> (try simp (disch := omega) only [qc, and_true, true_and])
 ·obtain ⟨i, a⟩ := s
  obtain ⟨hi, ha⟩ := hs
  dsimp only at hi ha
  repeat' (first | refine vs_ ?_ | ((first | refine vr_ ?_ | fail) <;> (try simp (disch := first | omega | (simp only [List.length_set, List.length_append, List.length_cons, List.length_nil]; done) | (simp only [List.length_set, List.length_append, List.length_cons, List.length_nil]; omega)) only [qu, qc, go_sem, ↓reduceIte])) | ((first | (refine cs_ ?_ ?_ <;> intro hc) | refine cj_ ?_ | simp (disch := omega) only [encs_getN, qc] | refine qa (q0d _ _ _) fun _ => ?_) <;> (try refine ev_ ?_)) | with_reducible exact ti_)
  ·refine qt (i + 1, cntY (l.getD i Y0) a 300) [] ⟨⟨by dsimp only; omega, ?_⟩, by dsimp only; omega⟩ rfl (by simp) ?_ ?_ ?_ <;> (try refine ev_ ?_) <;> (try with_reducible exact ti_) <;> (try simp (disch := omega) only [qc, and_true, true_and])
   rw [← ha, qi3 (l := l) (i := i) (by omega), qhh]
  all_goals
   have hf : qhh 20000 l = a := by rw [← ha, List.drop_of_length_le (by omega)]; rfl
   rw [qdr, hf]
  ·rw [if_neg (by simp; omega)]
  ·rw [if_pos (by simp; omega)]

/-! the laws of sizes -/
mutual
theorem qqc : ∀ (t : Ty) (k d : Int), 0 ≤ k → k ≤ 20000 → d ≤ 300 → 0 ≤ cntY t k d → cntY t k d = k - szY t ∧ (dpY t : Int) ≤ d
 | .mk c v l, k, d, h0, h1, h2, h3 => by
   rw [cntY] at h3 ⊢
   by_cases hd : d < 1
   ·rw [if_pos hd] at h3; omega
   ·rw [if_neg hd] at h3 ⊢
    have hk : IntKind.i64.wrap (k - 1) = k - 1 := qx (by omega) (by omega)
    rw [hk] at h3 ⊢
    have h4 : 0 ≤ k - 1 := by
     by_cases h : 0 ≤ k - 1
     ·exact h
     ·rw [qem (by omega)] at h3; exact h3
    have := ql6 l (k - 1) d h4 (by omega) (by omega) h2 h3
    rw [szY, dpY]
    omega
theorem ql6 : ∀ (l : List Ty) (a d : Int), 0 ≤ a → a ≤ 20000 → 1 ≤ d → d ≤ 300 → 0 ≤ qc3 l a d → qc3 l a d = a - szYs l ∧ (dpYs l : Int) ≤ d - 1
 | [], a, d, h0, h1, h2, h3, h4 => by rw [qc3, szYs, dpYs]; omega
 | x :: r, a, d, h0, h1, h2, h3, h4 => by
   rw [qc3, if_pos h0] at h4 ⊢
   have hd : IntKind.i64.wrap (d - 1) = d - 1 := qx (by omega) (by omega)
   rw [hd] at h4 ⊢
   have h5 : 0 ≤ cntY x a (d - 1) := by
    by_cases h : 0 ≤ cntY x a (d - 1)
    ·exact h
    ·rw [qem (by omega)] at h4; exact absurd h4 h
   obtain ⟨h6, h7⟩ := qqc x a (d - 1) h0 h1 (by omega) h5
   obtain ⟨h8, h9⟩ := ql6 r _ d h5 (by omega) h2 h3 h4
   rw [szYs, dpYs]
   omega
end
mutual
theorem qpt : ∀ (t : Ty) (k d : Int), 0 ≤ k → k ≤ 20000 → -1 ≤ cntY t k d
 | .mk c v l, k, d, h0, h1 => by
   rw [cntY]
   split
   ·omega
   ·rw [qx (z := k - 1) (by omega) (by omega)]
    exact qq9 l (k - 1) d (by omega) (by omega)
theorem qq9 : ∀ (l : List Ty) (a d : Int), -1 ≤ a → a ≤ 20000 → -1 ≤ qc3 l a d
 | [], a, d, h0, _ => by rw [qc3]; exact h0
 | x :: r, a, d, h0, h1 => by
   rw [qc3]
   split
   ·rename_i h
    have h2 := qpt x a (IntKind.i64.wrap (d - 1)) h h1
    have h3 := qws x a (IntKind.i64.wrap (d - 1)) h h1
    exact qq9 r _ d h2 (by omega)
   ·exact h0
theorem qws : ∀ (t : Ty) (k d : Int), 0 ≤ k → k ≤ 20000 → cntY t k d ≤ k
 | .mk c v l, k, d, h0, h1 => by
   rw [cntY]
   split
   ·omega
   ·rw [qx (z := k - 1) (by omega) (by omega)]
    have := qo3 l (k - 1) d (by omega) (by omega)
    omega
theorem qo3 : ∀ (l : List Ty) (a d : Int), -1 ≤ a → a ≤ 20000 → qc3 l a d ≤ a
 | [], a, d, h0, _ => by rw [qc3]; exact Int.le_refl _
 | x :: r, a, d, h0, h1 => by
   rw [qc3]
   split
   ·rename_i h
    have h2 := qpt x a (IntKind.i64.wrap (d - 1)) h h1
    have h3 := qws x a (IntKind.i64.wrap (d - 1)) h h1
    have := qo3 r _ d h2 (by omega)
    omega
   ·exact Int.le_refl _
end
theorem qlm : ∀ (l : List Ty) {a : Int}, a < 0 → -9223372036854775808 ≤ a - l.length → qhh a l < 0
 | [], a, h, _ => h
 | x :: r, a, h, h2 => by
   rw [qhh]
   have h3 : cntY x a 300 = IntKind.i64.wrap (a - 1) := by
    rw [qoo, if_neg (by omega)]
    have hk : IntKind.i64.wrap (a - 1) = a - 1 := qx (by simp only [List.length_cons] at h2; omega) (by omega)
    rw [hk, qem (by omega)]
   have hk : IntKind.i64.wrap (a - 1) = a - 1 := qx (by simp only [List.length_cons] at h2; omega) (by omega)
   rw [h3, hk]
   exact qlm r (by omega) (by simp only [List.length_cons] at h2; omega)
theorem qmp : ∀ (l : List Ty) (a : Int), 0 ≤ a → a ≤ 20000 → l.length ≤ 9223372036854775807 → 0 ≤ qhh a l → (szYs l : Int) ≤ a ∧ (dpYs l : Int) ≤ 300
 | [], a, h0, h1, _, h2 => by rw [szYs, dpYs]; omega
 | x :: r, a, h0, h1, hl, h2 => by
   rw [qhh] at h2
   simp only [List.length_cons] at hl
   have h5 : 0 ≤ cntY x a 300 := by
    by_cases h : 0 ≤ cntY x a 300
    ·exact h
    ·have : -1 ≤ cntY x a 300 := qpt x a 300 h0 h1
     have := qlm r (a := cntY x a 300) (by omega) (by omega)
     omega
   obtain ⟨h6, h7⟩ := qqc x a 300 h0 h1 (by omega) h5
   obtain ⟨h8, h9⟩ := qmp r _ h5 (by omega) (by omega) h2
   rw [szYs, dpYs]
   omega
theorem qyz {l : List Ty} (hl : l.length ≤ maxLen) (h : qdr l = true) : szYs l ≤ 20000 ∧ dpYs l ≤ 300 := by
 have := qmp l 20000 (by omega) (by omega) (by unfold maxLen at hl; omega) (by simpa [qdr] using h)
 omega

mutual
theorem qm2 : ∀ (t : Ty), szY t ≤ 1000000 → qq5 t = szY t
 | .mk c v l, h => by
   rw [szY] at h
   rw [qq5, szY, qgp l 1 (by omega) (by omega)]
   omega
theorem qgp : ∀ (l : List Ty) (a : Int), 1 ≤ a → a + szYs l ≤ 1000001 → qf1 a l = a + szYs l
 | [], a, _, _ => by rw [qf1, szYs]; omega
 | x :: r, a, h0, h => by
   rw [szYs] at h
   rw [qf1, qm2 x (by omega), qx (by omega) (by omega), qgp r _ (by omega) (by omega), szYs]
   omega
end
mutual
theorem qj9 : ∀ (t : Ty) (n k : Int), 0 ≤ n → n + szY t ≤ 1000000 → qbi qk4 t n k = (n + szY t, true)
 | .mk c v l, n, k, h0, h => by
   rw [szY] at h
   rw [qbi, if_pos (show (qk4 n (.mk c v l) k).2 = true from rfl)]
   have h1 : (qk4 n (.mk c v l) k).1 = n + 1 := qx (by omega) (by omega)
   rw [h1, qhn l _ _ (by omega) (by omega), szY]
   congr 1; omega
theorem qhn : ∀ (l : List Ty) (n k : Int), 0 ≤ n → n + szYs l ≤ 1000000 → qw qk4 l n k = (n + szYs l, true)
 | [], n, k, _, _ => by rw [qw, szYs]; congr 1; omega
 | x :: r, n, k, h0, h => by
   rw [szYs] at h
   rw [qw, qj9 x n k h0 (by omega), if_pos rfl, qhn r _ k (by omega) (by omega), szYs]
   congr 1; omega
end
mutual
theorem qj6 : ∀ (t : Ty) (n k : Int), 0 ≤ n → 1 ≤ k → k + dpY t ≤ 1000000 → qbi qji t n k = (max n (k + dpY t - 1), true)
 | .mk c v l, n, k, h0, h1, h => by
   rw [dpY] at h
   rw [qbi, if_pos (show (qji n (.mk c v l) k).2 = true from rfl)]
   have h2 : (qji n (.mk c v l) k).1 = max n k := by simp only [qji]; split <;> omega
   rw [h2, qx (z := k + 1) (by omega) (by omega), qhu l _ _ (by omega) (by omega) (by omega), dpY]
   congr 1; split <;> omega
theorem qhu : ∀ (l : List Ty) (n k : Int), 0 ≤ n → 1 ≤ k → k + dpYs l ≤ 1000000 → qw qji l n k = (if dpYs l = 0 then n else max n (k + dpYs l - 1), true)
 | [], n, k, _, _, _ => by rw [qw, dpYs, if_pos rfl]
 | x :: r, n, k, h0, h1, h => by
   rw [dpYs] at h
   have hp := qiw x
   rw [qw, qj6 x n k h0 h1 (by omega), if_pos rfl, qhu r _ k (by omega) h1 (by omega), dpYs]
   congr 1
   rw [if_neg (by omega : ¬ max (dpY x) (dpYs r) = 0)]
   split <;> omega
end
mutual
theorem qj7 : ∀ (t : Ty) (n k : Int), 0 ≤ n → n + szY t ≤ 1000000 → 1 ≤ k → k + dpY t ≤ 1000000 →
 ((qbi qdn t n k).2 = true ↔ n + szY t ≤ 4096 ∧ k + dpY t - 1 ≤ 100 ∧ qcs t = true) ∧ ((qbi qdn t n k).2 = true → (qbi qdn t n k).1 = n + szY t)
 | .mk c v l, n, k, h0, h1, h2, h3 => by
   rw [szY] at h1
   rw [dpY] at h3
   have e1 : IntKind.i64.wrap (n + 1) = n + 1 := qx (by omega) (by omega)
   have e2 : IntKind.i64.wrap (k + 1) = k + 1 := qx (by omega) (by omega)
   have e3 : (qdn n (.mk c v l) k).1 = n + 1 := e1
   have e4 : (qdn n (.mk c v l) k).2 = true ↔ n + 1 ≤ 4096 ∧ k ≤ 100 ∧ mayW c v l.length = true := by
    simp only [qdn, e1, Bool.and_eq_true, decide_eq_true_eq]; rfl
   rw [qbi, szY, dpY, qcs]
   by_cases hs : (qdn n (.mk c v l) k).2 = true
   ·rw [if_pos hs, e3, e2]
    obtain ⟨q1, q2, q3⟩ := e4.1 hs
    obtain ⟨r1, r2⟩ := qhx l (n + 1) (k + 1) (by omega) (by omega) (by omega) (by omega) (by omega) (by omega)
    refine ⟨?_, fun h => by rw [r2 h]; omega⟩
    rw [r1, q3, Bool.and_true]
    constructor
    ·rintro ⟨a1, a2, a3⟩; exact ⟨by omega, by omega, a3⟩
    ·rintro ⟨a1, a2, a3⟩; exact ⟨by omega, by omega, a3⟩
   ·rw [if_neg hs]
    refine ⟨⟨fun h => (by cases h), fun ⟨a1, a2, a3⟩ => absurd (e4.2 ⟨by omega, by omega, (by rw [Bool.and_eq_true] at a3; exact a3.2)⟩) hs⟩, fun h => by cases h⟩
theorem qhx : ∀ (l : List Ty) (n k : Int), 0 ≤ n → n + szYs l ≤ 1000000 → 1 ≤ k → k + dpYs l ≤ 1000000 → n ≤ 4096 → k - 1 ≤ 100 →
 ((qw qdn l n k).2 = true ↔ n + szYs l ≤ 4096 ∧ k + dpYs l - 1 ≤ 100 ∧ qde l = true) ∧ ((qw qdn l n k).2 = true → (qw qdn l n k).1 = n + szYs l)
 | [], n, k, h0, h1, h2, h3, h4, h5 => by
   rw [qw, szYs, dpYs, qde]
   exact ⟨⟨fun _ => ⟨by omega, by omega, rfl⟩, fun _ => rfl⟩, fun _ => by simp⟩
 | x :: r, n, k, h0, h1, h2, h3, h4, h5 => by
   rw [szYs] at h1
   rw [dpYs] at h3
   obtain ⟨q1, q2⟩ := qj7 x n k h0 (by omega) h2 (by omega)
   rw [qw, szYs, dpYs, qde]
   by_cases hs : (qbi qdn x n k).2 = true
   ·rw [if_pos hs, q2 hs]
    obtain ⟨a1, a2, a3⟩ := q1.1 hs
    obtain ⟨r1, r2⟩ := qhx r (n + szY x) k (by omega) (by omega) h2 (by omega) (by omega) h5
    refine ⟨?_, fun h => by rw [r2 h]; omega⟩
    rw [r1, a3, Bool.true_and]
    constructor
    ·rintro ⟨b1, b2, b3⟩; exact ⟨by omega, by omega, b3⟩
    ·rintro ⟨b1, b2, b3⟩; exact ⟨by omega, by omega, b3⟩
   ·rw [if_neg hs]
    refine ⟨⟨fun h => (by cases h), fun ⟨a1, a2, a3⟩ => absurd (q1.2 ⟨by omega, by omega, ?_⟩) hs⟩, fun h => by cases h⟩
    rw [Bool.and_eq_true] at a3
    exact a3.1
end
def qd1 (t : Ty) : Bool := decide (szY t ≤ 4096) && (decide (dpY t ≤ 100) && qcs t)
theorem qqb {t : Ty} (h1 : szY t ≤ 20000) (h2 : dpY t ≤ 300) : qrp t = qd1 t := by
 have := (qj7 t 0 1 (by omega) (by omega) (by omega) (by omega)).1
 rw [qrp, Bool.eq_iff_iff, this, qd1, Bool.and_eq_true, Bool.and_eq_true, decide_eq_true_eq, decide_eq_true_eq]
 constructor
 ·rintro ⟨a1, a2, a3⟩; exact ⟨by omega, by omega, a3⟩
 ·rintro ⟨a1, a2, a3⟩; exact ⟨by omega, by omega, a3⟩
theorem qce {t : Ty} (h1 : szY t ≤ 20000) (h2 : dpY t ≤ 300) : qk Try.prog 11 [encY t] (.bool (qd1 t)) := by
 rw [← qqb h1 h2]; exact qlb t
end Go.Proofs.Ytlahgbhhejkgbaa
