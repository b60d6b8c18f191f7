/- A text of this proof. -/
import Derived.Test.YtfpobiheiloamaaJaq

/- rows of integers: whether a number is there, each once -/
set_option maxRecDepth 4000
namespace Go.Proofs.Ytfpobiheiloamaa
open Go Go.RowKit Go.V
set_option linter.unusedVariables false
set_option linter.unusedSimpArgs false

def ints (l : List Int) : List AV := l.map (AV.int .i64)
theorem qca (l : List Int) : (ints l).length = l.length := by simp [ints]
theorem qf6 (k : Nat) (l : List Int) : AV.bds k (ints l) = true := by rw [ints, qdn]; simp [AV.bd]
theorem qqb (σ : Nat → Nat) (l : List Int) : AV.rens σ (ints l) = ints l := ql (m := 0) (fun i hi => by omega) _ (qf6 0 l)
theorem qfg {l : List Int} {i : Nat} (h : i < l.length) : (ints l).getD i .junk = .int .i64 (l.getD i 0) := by
 rw [ints, List.getD_eq_getElem?_getD, List.getElem?_map, List.getElem?_eq_getElem h, List.getD_eq_getElem?_getD, List.getElem?_eq_getElem h]; rfl
theorem qm0 (l : List Int) (v : Int) : ints l ++ [.int .i64 v] = ints (l ++ [v]) := by simp [ints]
theorem qo7 (a b : List Int) : ints a ++ ints b = ints (a ++ b) := by simp [ints]
theorem qp9 (v : Int) : [AV.int .i64 v] = ints [v] := rfl
theorem qcw : ints [] = [] := rfl
theorem qbh {l : List Int} (h : l ≠ []) : ints l ≠ [] := by cases l with | nil => exact absurd rfl h | cons _ _ => simp [ints]
attribute [go_sem] qca qf6 qqb cond_false cond_true
theorem qyd {l : List Int} {i : Nat} (h : i < l.length) : l.drop i = l.getD i 0 :: l.drop (i + 1) := by
 rw [List.drop_eq_getElem_cons h, List.getD_eq_getElem?_getD, List.getElem?_eq_getElem h]; rfl
theorem qws {l : List Int} {i : Nat} (h : i < l.length) : l.getD i 0 ∈ l := by
 rw [List.getD_eq_getElem?_getD, List.getElem?_eq_getElem h]; exact List.getElem_mem h
theorem capI {k : Nat} (h : k ≤ 1000000000) : qfv k 8 := by unfold qfv; omega

def idxW (v : Int) : List Int → Int → Int
 | [], _ => -1
 | x :: r, k => if v = x then k else idxW v r (k + 1)
theorem q0h (l : List Int) (v : Int) : qm Try.prog 100 [.sl 1 (ints l), .int .i64 v] (.int .i64 (idxW v l 0)) := by
 refine qf c0a (by simp) (by simp only [go_sem]) rfl fun hw => ?_
 have hl : l.length ≤ maxLen := by have := hw.1.1; rwa [qca] at this
 repeat' (first | refine vs_ ?_ | ((first | refine vr_ ?_ | (refine cs_ ?_ ?_ <;> intro hc) | refine cj_ ?_ | simp (disch := omega) only [encs_getN, qb]) <;> (try refine ev_ ?_)) | with_reducible exact ti_)
 refine qs (S := Nat) (fun i => i ≤ l.length ∧ idxW v (l.drop i) i = idxW v l 0) (fun i => (⟨[(0, .sl 1 (ints l)), (1, .int .i64 v), (7, .int .i64 l.length), (8, .int .i64 i)], []⟩, [])) (fun i => l.length - i) ?_ fun i hi => ?_
 ·refine qo 0 [] ⟨Nat.zero_le _, rfl⟩ rfl (by simp) ?_ ?_ ?_ <;> (try refine ev_ ?_) <;> (try with_reducible exact ti_) <;> (try simp (disch := omega) only [qb, and_true, true_and])
 ·obtain ⟨hi, ha⟩ := hi
  repeat' (first | refine vs_ ?_ | ((first | refine vr_ ?_ | fail) <;> (try simp (disch := first | omega | (simp only [List.length_set, List.length_append, List.length_cons, List.length_nil]; done) | (simp only [List.length_set, List.length_append, List.length_cons, List.length_nil]; omega)) only [qfg, qb, go_sem, ↓reduceIte])) | ((first | (refine cs_ ?_ ?_ <;> intro hc) | refine cj_ ?_ | simp (disch := omega) only [encs_getN, qb]) <;> (try refine ev_ ?_)) | with_reducible exact ti_)
  ·rw [← ha, qyd (by omega), idxW, if_pos (by assumption)]
  ·refine qo (i + 1) [] ⟨⟨by omega, ?_⟩, by omega⟩ rfl (by simp) ?_ ?_ ?_ <;> (try refine ev_ ?_) <;> (try with_reducible exact ti_) <;> (try simp (disch := omega) only [qb, and_true, true_and])
   rw [← ha, qyd (l := l) (i := i) (by omega), idxW, if_neg (by assumption)]; rfl
  ·rw [← ha, List.drop_of_length_le (by omega)]; rfl
theorem qk6 (l : List Int) (v : Int) : qm Try.prog 84 [.sl 1 (ints l), .int .i64 v] (.bool (decide (v ∈ l))) := by
 refine qf c0b (by simp) (by simp only [go_sem]) rfl fun hw => ?_
 have hl : l.length ≤ maxLen := by have := hw.1.1; rwa [qca] at this
 repeat' (first | refine vs_ ?_ | ((first | refine vr_ ?_ | (refine cs_ ?_ ?_ <;> intro hc) | refine cj_ ?_ | simp (disch := omega) only [encs_getN, qb]) <;> (try refine ev_ ?_)) | with_reducible exact ti_)
 refine qs (S := Nat) (fun i => i ≤ l.length ∧ decide (v ∈ l.drop i) = decide (v ∈ l)) (fun i => (⟨[(0, .sl 1 (ints l)), (1, .int .i64 v), (5, .int .i64 i)], []⟩, [])) (fun i => l.length - i) ?_ fun i hi => ?_
 ·refine qo 0 [] ⟨Nat.zero_le _, rfl⟩ rfl (by simp) ?_ ?_ ?_ <;> (try refine ev_ ?_) <;> (try with_reducible exact ti_) <;> (try simp (disch := omega) only [qb, and_true, true_and])
 ·obtain ⟨hi, ha⟩ := hi
  repeat' (first | refine vs_ ?_ | ((first | refine vr_ ?_ | fail) <;> (try simp (disch := first | omega | (simp only [List.length_set, List.length_append, List.length_cons, List.length_nil]; done) | (simp only [List.length_set, List.length_append, List.length_cons, List.length_nil]; omega)) only [qfg, qb, go_sem, ↓reduceIte])) | ((first | (refine cs_ ?_ ?_ <;> intro hc) | refine cj_ ?_ | simp (disch := omega) only [encs_getN, qb]) <;> (try refine ev_ ?_)) | with_reducible exact ti_)
  ·rename_i hc; rw [decide_eq_true (hc ▸ qws (by omega))]
  ·refine qo (i + 1) [] ⟨⟨by omega, ?_⟩, by omega⟩ rfl (by simp) ?_ ?_ ?_ <;> (try refine ev_ ?_) <;> (try with_reducible exact ti_) <;> (try simp (disch := omega) only [qb, and_true, true_and])
   rw [← ha, qyd (l := l) (i := i) (by omega)]
   have hne : ¬ v = l.getD i 0 := fun h => absurd h.symm (by assumption)
   refine decide_eq_decide.2 ?_
   rw [List.mem_cons]
   exact ⟨.inr, fun h => h.resolve_left hne⟩
  ·rw [← ha, List.drop_of_length_le (by omega)]; simp
/-! each once -/
theorem qfz {H : List Ent} {n : Nat} : co H (.sl n) .nils = .sl n [] := Eq.trans rfl rfl
theorem qf5 (acc : List Int) {l : List Int} {i : Nat} (h : i < l.length) : qdw acc (l.drop i) = if l.getD i 0 ∈ acc then qdw acc (l.drop (i + 1)) else qdw (acc ++ [l.getD i 0]) (l.drop (i + 1)) := by
 rw [qyd h, qdw]
def qjv (l : List Int) (x : Nat × List Int) : AF × List Ent := (⟨[(0, .sl 1 (ints l)), (3, accV 0 (ints x.2)), (4, .int .i64 x.1)], []⟩, accE 1 (ints x.2))
theorem qri (l : List Int) (hb : l.length ≤ 1000000) : qm Try.prog 67 [.sl 1 (ints l)] (.sl 1 (ints (qdw [] l))) := by
 refine qf c0c (by simp) (by simp only [go_sem]) (qf6 0 _) fun hw => ?_
 have hl : l.length ≤ maxLen := by have := hw.1.1; rwa [qca] at this
 repeat' (first | refine vs_ ?_ | ((first | refine vr_ ?_ | (refine cs_ ?_ ?_ <;> intro hc) | refine cj_ ?_ | simp (disch := omega) only [encs_getN, qb]) <;> (try refine ev_ ?_)) | with_reducible exact ti_)
 refine qs (S := Nat × List Int) (fun x => x.1 ≤ l.length ∧ qdw x.2 (l.drop x.1) = qdw [] l ∧ x.2.length ≤ x.1) (qjv l) (fun x => l.length - x.1) ?_ fun x hx => ?_
 ·refine qo (0, []) [] ⟨Nat.zero_le _, rfl, Nat.le_refl _⟩ rfl (by simp) ?_ ?_ ?_ <;> simp only [qjv, qcw, qcs, qcr] <;> (try refine ev_ ?_) <;> (try with_reducible exact ti_) <;> (try simp (disch := omega) only [qb, and_true, true_and])
 ·obtain ⟨i, acc⟩ := x
  obtain ⟨hi, ha, hc⟩ := hx
  dsimp only at hi ha hc
  have hcap : qfv (acc.length + 1) 8 := capI (by omega)
  unfold qjv
  by_cases h0 : acc = []
  ·subst h0
   simp only [qcw, qcs, qcr]
   repeat' (first | refine vs_ ?_ | ((first | refine vr_ ?_ | fail) <;> (try simp (disch := first | omega | (simp only [List.length_set, List.length_append, List.length_cons, List.length_nil]; done) | (simp only [List.length_set, List.length_append, List.length_cons, List.length_nil]; omega)) only [qfg, qb, qfz, go_sem, ↓reduceIte])) | ((first | (refine cs_ ?_ ?_ <;> intro hc) | refine cj_ ?_ | simp (disch := omega) only [encs_getN, qb] | refine qa (qk6 [] _) fun _ => ?_) <;> (try refine ev_ ?_)) | with_reducible exact ti_)
   ·refine qo (i + 1, [] ++ [l.getD i 0]) [0] ⟨⟨by dsimp only; omega, ?_, by simp⟩, by dsimp only; omega⟩ rfl (by simp) ?_ ?_ ?_ <;> simp only [qjv, List.nil_append, ← qp9, qon, qpc] <;> (try refine ev_ ?_) <;> (try with_reducible exact ti_) <;> (try simp (disch := omega) only [qb, and_true, true_and])
    rw [← ha, qf5 (i := i) _ (by omega), if_neg (by assumption)]; rfl
   ·exact absurd (by assumption : l.getD i 0 ∈ []) (by simp)
   ·rw [← ha, List.drop_of_length_le (by omega)]; rfl
  ·simp only [qc2 (qbh h0), qc0 (qbh h0)]
   repeat' (first | refine vs_ ?_ | ((first | refine vr_ ?_ | fail) <;> (try simp (disch := first | omega | (simp only [List.length_set, List.length_append, List.length_cons, List.length_nil]; done) | (simp only [List.length_set, List.length_append, List.length_cons, List.length_nil]; omega)) only [qfg, qb, go_sem, ↓reduceIte])) | ((first | (refine cs_ ?_ ?_ <;> intro hc) | refine cj_ ?_ | simp (disch := omega) only [encs_getN, qb] | refine qa (qk6 acc _) fun _ => ?_) <;> (try refine ev_ ?_)) | with_reducible exact ti_)
   ·refine qo (i + 1, acc ++ [l.getD i 0]) [1] ⟨⟨by dsimp only; omega, ?_, by simp; omega⟩, by dsimp only; omega⟩ rfl (by simp) ?_ ?_ ?_ <;> simp only [qjv, ← qm0, qmg, qla, qca] <;> (try refine ev_ ?_) <;> (try with_reducible exact ti_) <;> (try simp (disch := omega) only [qb, and_true, true_and])
    ·rw [← ha, qf5 (i := i) _ (by omega), if_neg (by assumption)]
    all_goals (simp only [qm0]; exact ⟨qf6 _ _, by rw [qqb]⟩)
   ·refine qo (i + 1, acc) [0] ⟨⟨by dsimp only; omega, ?_, by dsimp only; omega⟩, by dsimp only; omega⟩ rfl (by simp) ?_ ?_ ?_ <;> simp only [qjv, qc2 (qbh h0), qc0 (qbh h0)] <;> (try refine ev_ ?_) <;> (try with_reducible exact ti_) <;> (try simp (disch := omega) only [qb, and_true, true_and])
    rw [← ha, qf5 (i := i) _ (by omega), if_pos (by assumption)]
   ·rw [← ha, List.drop_of_length_le (by omega)]; rfl

/-! all variables -/
theorem qqq (l : List Ty) (i : Nat) (h : i < l.length) : qc5 (l.take (i + 1)) = qc5 (l.take i) ++ varY (l.getD i Y0) := by
 have h1 : l.take (i + 1) = l.take i ++ [l.getD i Y0] := by
  rw [List.take_add_one, List.getD_eq_getElem?_getD, List.getElem?_eq_getElem h]; rfl
 rw [h1]
 generalize l.take i = a
 generalize l.getD i Y0 = x
 induction a with
 | nil => simp [qc5]
 | cons y a ih => simp only [List.cons_append, qc5, ih, List.append_assoc]
def allE (t : Ty) (i : Nat) : List Int := (if t.con = [] then [t.var] else []) ++ qc5 (t.args.take i)
theorem q0g (t : Ty) : allE t 0 = if t.con = [] then [t.var] else [] := by simp [allE, qc5]
theorem qsa {t : Ty} {i : Nat} (h : i < t.args.length) : allE t (i + 1) = allE t i ++ varY (t.args.getD i Y0) := by rw [allE, allE, qqq _ _ h, List.append_assoc]
theorem qzh {t : Ty} {i : Nat} (h : t.args.length ≤ i) : allE t i = varY t := by rw [allE, List.take_of_length_le h, q2z]
theorem qw6 (t : Ty) (i : Nat) : (allE t i).length ≤ szY t := by
 have h1 := qmf t.args i
 have h2 := qhf (t.args.take i)
 rw [allE, List.length_append, qfk]
 have : (if t.con = [] then [t.var] else []).length ≤ 1 := by split <;> simp
 omega
def qq9 (t : Ty) (x : Nat × Bool) : AF × List Ent :=
 (⟨[(1, .ptr 0 0), (3, if x.2 = true then .lit 1 (ints (allE t x.1)) else accV 1 (ints (allE t x.1))), (4, .int .i64 x.1)], []⟩, .blk (yc t) :: if x.2 = true then [] else accE 1 (ints (allE t x.1)))
set_option maxHeartbeats 2000000 in
theorem qmx : ∀ t, szY t ≤ 1000000 → qm Try.prog 97 [encY t] (.sl 1 (ints (varY t))) := by
 refine Ty.ind fun t ih hb => ?_
 refine qf c0d (by simp) (by simp only [go_sem]) (qf6 0 _) fun hw => ?_
 have hk := qc3 hw.1
 have hsz := qfk t
 have ih' : ∀ i, i < t.args.length → qm Try.prog 97 [encY (t.args.getD i Y0)] (.sl 1 (ints (varY (t.args.getD i Y0)))) := fun i hi => ih _ (qbf hi) (by have := qie (qbf hi); omega)
 repeat' (first | refine vs_ ?_ | ((first | refine vr_ ?_ | (refine cs_ ?_ ?_ <;> intro hc) | refine cj_ ?_ | simp (disch := omega) only [encs_getN, qb]) <;> (try refine ev_ ?_)) | with_reducible exact ti_)
 all_goals refine qs (S := Nat × Bool) (fun x => x.1 ≤ t.args.length) (qq9 t) (fun x => t.args.length - x.1) ?_ fun x hx => ?_
 case' refine_1.refine_1 => refine qo (0, true) [0] (Nat.zero_le _) rfl (by simp) ?_ ?_ ?_ <;> simp only [qq9, q0g, if_pos (by assumption : t.con = []), if_true, qp9] <;> (try refine ev_ ?_) <;> (try with_reducible exact ti_) <;> (try simp (disch := omega) only [qb, and_true, true_and])
 case' refine_2.refine_1 => refine qo (0, false) [0] (Nat.zero_le _) rfl (by simp) ?_ ?_ ?_ <;> simp only [qq9, q0g, if_neg (by assumption : ¬ t.con = []), if_false, qcw, qcs, qcr, Bool.false_eq_true] <;> (try refine ev_ ?_) <;> (try with_reducible exact ti_) <;> (try simp (disch := omega) only [qb, and_true, true_and])
 all_goals
  obtain ⟨i, fl⟩ := x
  dsimp only at hx
  by_cases hi : i < t.args.length
  ·have hn := qsa hi
   have hl1 := qw6 t (i + 1)
   have hl2 := congrArg List.length hn
   rw [List.length_append] at hl2
   have hcap : qfv ((allE t i).length + (varY (t.args.getD i Y0)).length) 8 = True := eq_true (capI (by omega))
   have hcap1 : qfv (varY (t.args.getD i Y0)).length 8 = True := eq_true (capI (by omega))
   by_cases hy : varY (t.args.getD i Y0) = []
   ·have hy0 : (varY (t.args.getD i Y0)).length = 0 := by rw [hy]; rfl
    have hn' : allE t (i + 1) = allE t i := by rw [hn, hy, List.append_nil]
    unfold qq9
    cases fl with
    | true =>
      simp only [if_true]
      repeat' (first | refine vs_ ?_ | ((first | refine vr_ ?_ | fail) <;> (try simp (disch := first | omega | (simp only [List.length_set, List.length_append, List.length_cons, List.length_nil]; done) | (simp only [List.length_set, List.length_append, List.length_cons, List.length_nil]; omega)) only [qr, qb, go_sem, ↓reduceIte])) | ((first | simp (disch := omega) only [hy0] | simp (disch := omega) only [hcap] | simp (disch := omega) only [hcap1] | (refine cs_ ?_ ?_ <;> intro hc) | refine cj_ ?_ | simp (disch := omega) only [encs_getN, qb] | refine qa (ih' i hi) fun _ => ?_) <;> (try refine ev_ ?_)) | with_reducible exact ti_)
      ·refine qo (i + 1, true) [0] ⟨by dsimp only; omega, by dsimp only; omega⟩ rfl (by simp) ?_ ?_ ?_ <;> simp only [hn', if_true] <;> (try refine ev_ ?_) <;> (try with_reducible exact ti_) <;> (try simp (disch := omega) only [qb, and_true, true_and])
      ·omega
    | false =>
      simp only [Bool.false_eq_true, if_false]
      by_cases h0 : allE t i = []
      ·simp only [h0, qcw, qcs, qcr]
       repeat' (first | refine vs_ ?_ | ((first | refine vr_ ?_ | fail) <;> (try simp (disch := first | omega | (simp only [List.length_set, List.length_append, List.length_cons, List.length_nil]; done) | (simp only [List.length_set, List.length_append, List.length_cons, List.length_nil]; omega)) only [qr, qb, go_sem, ↓reduceIte])) | ((first | simp (disch := omega) only [hy0] | simp (disch := omega) only [hcap] | simp (disch := omega) only [hcap1] | (refine cs_ ?_ ?_ <;> intro hc) | refine cj_ ?_ | simp (disch := omega) only [encs_getN, qb] | refine qa (ih' i hi) fun _ => ?_) <;> (try refine ev_ ?_)) | with_reducible exact ti_)
       ·refine qo (i + 1, false) [0] ⟨by dsimp only; omega, by dsimp only; omega⟩ rfl (by simp) ?_ ?_ ?_ <;> simp only [hn', h0, qcw, qcs, qcr, Bool.false_eq_true, if_false] <;> (try refine ev_ ?_) <;> (try with_reducible exact ti_) <;> (try simp (disch := omega) only [qb, and_true, true_and])
       ·omega
      ·simp only [qc2 (qbh h0), qc0 (qbh h0)]
       repeat' (first | refine vs_ ?_ | ((first | refine vr_ ?_ | fail) <;> (try simp (disch := first | omega | (simp only [List.length_set, List.length_append, List.length_cons, List.length_nil]; done) | (simp only [List.length_set, List.length_append, List.length_cons, List.length_nil]; omega)) only [qr, qb, go_sem, ↓reduceIte])) | ((first | simp (disch := omega) only [hcap] | (refine cs_ ?_ ?_ <;> intro hc) | refine cj_ ?_ | simp (disch := omega) only [encs_getN, qb] | refine qa (ih' i hi) fun _ => ?_) <;> (try refine ev_ ?_)) | with_reducible exact ti_)
       ·refine qo (i + 1, false) [0, 2] ⟨by dsimp only; omega, by dsimp only; omega⟩ rfl (by simp) ?_ ?_ ?_ <;> simp only [hn', qc2 (qbh h0), qc0 (qbh h0), Bool.false_eq_true, if_false, hy, qcw, List.append_nil, List.length_nil, Nat.add_zero, qca] <;> (try refine ev_ ?_) <;> (try with_reducible exact ti_) <;> (try simp (disch := omega) only [qb, and_true, true_and])
       ·omega
   ·have hy0 : ((varY (t.args.getD i Y0)).length = 0) = False := eq_false fun h => hy (List.length_eq_zero_iff.1 h)
    have hne : allE t (i + 1) ≠ [] := fun h => hy (List.append_eq_nil_iff.1 (hn.symm.trans h)).2
    unfold qq9
    cases fl with
    | true =>
      simp only [if_true]
      repeat' (first | refine vs_ ?_ | ((first | refine vr_ ?_ | fail) <;> (try simp (disch := first | omega | (simp only [List.length_set, List.length_append, List.length_cons, List.length_nil]; done) | (simp only [List.length_set, List.length_append, List.length_cons, List.length_nil]; omega)) only [qr, qb, go_sem, ↓reduceIte])) | ((first | simp (disch := omega) only [hy0] | simp (disch := omega) only [hcap] | simp (disch := omega) only [hcap1] | (refine cs_ ?_ ?_ <;> intro hc) | refine cj_ ?_ | simp (disch := omega) only [encs_getN, qb] | refine qa (ih' i hi) fun _ => ?_) <;> (try refine ev_ ?_)) | with_reducible exact ti_)
      ·refine qo (i + 1, false) [0, 1] ⟨by dsimp only; omega, by dsimp only; omega⟩ rfl (by simp) ?_ ?_ ?_ <;> simp only [qc2 (qbh hne), qc0 (qbh hne), qo7, ← hn, ← hl2, Bool.false_eq_true, if_false, qca] <;> (try refine ev_ ?_) <;> (try with_reducible exact ti_) <;> (try simp (disch := omega) only [qb, and_true, true_and])
      ·omega
    | false =>
      simp only [Bool.false_eq_true, if_false]
      by_cases h0 : allE t i = []
      ·have hn2 : allE t (i + 1) = varY (t.args.getD i Y0) := by rw [hn, h0, List.nil_append]
       simp only [h0, qcw, qcs, qcr]
       repeat' (first | refine vs_ ?_ | ((first | refine vr_ ?_ | fail) <;> (try simp (disch := first | omega | (simp only [List.length_set, List.length_append, List.length_cons, List.length_nil]; done) | (simp only [List.length_set, List.length_append, List.length_cons, List.length_nil]; omega)) only [qr, qb, go_sem, ↓reduceIte])) | ((first | simp (disch := omega) only [hy0] | simp (disch := omega) only [hcap] | simp (disch := omega) only [hcap1] | (refine cs_ ?_ ?_ <;> intro hc) | refine cj_ ?_ | simp (disch := omega) only [encs_getN, qb] | refine qa (ih' i hi) fun _ => ?_) <;> (try refine ev_ ?_)) | with_reducible exact ti_)
       ·refine qo (i + 1, false) [0, 1] ⟨by dsimp only; omega, by dsimp only; omega⟩ rfl (by simp) ?_ ?_ ?_ <;> simp only [qc2 (qbh hne), qc0 (qbh hne), ← hn2, Bool.false_eq_true, if_false, qca] <;> (try refine ev_ ?_) <;> (try with_reducible exact ti_) <;> (try simp (disch := omega) only [qb, and_true, true_and])
       ·omega
      ·simp only [qc2 (qbh h0), qc0 (qbh h0)]
       repeat' (first | refine vs_ ?_ | ((first | refine vr_ ?_ | fail) <;> (try simp (disch := first | omega | (simp only [List.length_set, List.length_append, List.length_cons, List.length_nil]; done) | (simp only [List.length_set, List.length_append, List.length_cons, List.length_nil]; omega)) only [qr, qb, go_sem, ↓reduceIte])) | ((first | simp (disch := omega) only [hcap] | (refine cs_ ?_ ?_ <;> intro hc) | refine cj_ ?_ | simp (disch := omega) only [encs_getN, qb] | refine qa (ih' i hi) fun _ => ?_) <;> (try refine ev_ ?_)) | with_reducible exact ti_)
       ·refine qo (i + 1, false) [0, 2] ⟨by dsimp only; omega, by dsimp only; omega⟩ rfl (by simp) ?_ ?_ ?_ <;> simp only [qc2 (qbh hne), qc0 (qbh hne), qo7, ← hn, ← hl2, Bool.false_eq_true, if_false, qca] <;> (try refine ev_ ?_) <;> (try with_reducible exact ti_) <;> (try simp (disch := omega) only [qb, and_true, true_and])
       ·omega
  ·have hend := qzh (t := t) (i := i) (by omega)
   unfold qq9
   cases fl with
   | true =>
     simp only [if_true, hend]
     repeat' (first | refine vs_ ?_ | ((first | refine vr_ ?_ | (refine cs_ ?_ ?_ <;> intro hc) | refine cj_ ?_ | simp (disch := omega) only [encs_getN, qb]) <;> (try refine ev_ ?_)) | with_reducible exact ti_)
     all_goals omega
   | false =>
     simp only [Bool.false_eq_true, if_false, hend]
     by_cases h0 : varY t = []
     ·simp only [h0, qcw, qcs, qcr]
      repeat' (first | refine vs_ ?_ | ((first | refine vr_ ?_ | (refine cs_ ?_ ?_ <;> intro hc) | refine cj_ ?_ | simp (disch := omega) only [encs_getN, qb]) <;> (try refine ev_ ?_)) | with_reducible exact ti_)
      all_goals omega
     ·simp only [qc2 (qbh h0), qc0 (qbh h0)]
      repeat' (first | refine vs_ ?_ | ((first | refine vr_ ?_ | (refine cs_ ?_ ?_ <;> intro hc) | refine cj_ ?_ | simp (disch := omega) only [encs_getN, qb]) <;> (try refine ev_ ?_)) | with_reducible exact ti_)
      all_goals omega
theorem qqg (t : Ty) (hb : szY t ≤ 1000000) : qm Try.prog 60 [encY t] (.sl 1 (ints (qdw [] (varY t)))) := by
 refine qf c0e (by simp) (by simp only [go_sem]) (qf6 0 _) fun hw => ?_
 have h1 := qmx t hb
 have h2 := qri (varY t) (by have := qp1 t; omega)
 repeat' (first | refine vs_ ?_ | ((first | refine vr_ ?_ | refine qa h1 fun _ => ?_ | refine qa h2 fun _ => ?_ | (refine cs_ ?_ ?_ <;> intro hc) | refine cj_ ?_ | fail) <;> (try refine ev_ ?_)) | with_reducible exact ti_)
theorem qvs (t : Ty) (v : Int) (hb : szY t ≤ 1000000) : qm Try.prog 59 [encY t, .int .i64 v] (.bool (decide (v ∈ varY t))) := by
 refine qf c0f (by simp) (by simp only [go_sem]) rfl fun hw => ?_
 have h1 := qmx t hb
 repeat' (first | refine vs_ ?_ | ((first | refine vr_ ?_ | refine qa h1 fun _ => ?_ | refine qa (qk6 _ _) fun _ => ?_ | (refine cs_ ?_ ?_ <;> intro hc) | refine cj_ ?_ | fail) <;> (try refine ev_ ?_)) | with_reducible exact ti_)

/-! the program's: a walk that gathers -/
end Go.Proofs.Ytfpobiheiloamaa
