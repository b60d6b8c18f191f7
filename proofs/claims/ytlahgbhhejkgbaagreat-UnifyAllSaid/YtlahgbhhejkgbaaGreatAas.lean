/- Texts of this proof, joined. -/
import Derived.Test.YtlahgbhhejkgbaaGreatAar

/- rows of integers: whether a number is there, each once -/
set_option maxRecDepth 4000
namespace Go.Proofs.YtlahgbhhejkgbaaGreat
open Go Go.RowKit Go.V
set_option linter.unusedVariables false
set_option linter.unusedSimpArgs false

def ints (l : List Int) : List AV := l.map (AV.int .i64)
theorem qcz (l : List Int) : (ints l).length = l.length := by simp [ints]
theorem qfd (k : Nat) (l : List Int) : AV.bds k (ints l) = true := by rw [ints, qdj]; simp [AV.bd]
theorem qmp (σ : Nat → Nat) (l : List Int) : AV.rens σ (ints l) = ints l := qw (m := 0) (fun i hi => by omega) _ (qfd 0 l)
theorem qd4 {l : List Int} {i : Nat} (h : i < l.length) : (ints l).getD i .junk = .int .i64 (l.getD i 0) := by
 rw [ints, List.getD_eq_getElem?_getD, List.getElem?_map, List.getElem?_eq_getElem h, List.getD_eq_getElem?_getD, List.getElem?_eq_getElem h]; rfl
theorem qj5 (l : List Int) (v : Int) : ints l ++ [.int .i64 v] = ints (l ++ [v]) := by simp [ints]
theorem qs5 (a b : List Int) : ints a ++ ints b = ints (a ++ b) := by simp [ints]
theorem qs3 (v : Int) : [AV.int .i64 v] = ints [v] := rfl
theorem qc0 : ints [] = [] := rfl
theorem qbl {l : List Int} (h : l ≠ []) : ints l ≠ [] := by cases l with | nil => exact absurd rfl h | cons _ _ => simp [ints]
attribute [go_sem] qcz qfd qmp cond_false cond_true
theorem q1w {l : List Int} {i : Nat} (h : i < l.length) : l.drop i = l.getD i 0 :: l.drop (i + 1) := by
 rw [List.drop_eq_getElem_cons h, List.getD_eq_getElem?_getD, List.getElem?_eq_getElem h]; rfl
theorem q3w {l : List Int} {i : Nat} (h : i < l.length) : l.getD i 0 ∈ l := by
 rw [List.getD_eq_getElem?_getD, List.getElem?_eq_getElem h]; exact List.getElem_mem h
theorem capI {k : Nat} (h : k ≤ 1000000000) : qb3 k 8 := by unfold qb3; omega

def idxW (v : Int) : List Int → Int → Int
 | [], _ => -1
 | x :: r, k => if v = x then k else idxW v r (k + 1)
theorem qx5 (v : Int) : ∀ (l : List Int) (k : Int), 0 ≤ k → (decide (0 ≤ idxW v l k) = decide (v ∈ l))
 | [], k, h => by simp [idxW]
 | x :: r, k, h => by
   rw [idxW]
   by_cases hx : v = x
   ·simp [hx, h]
   ·rw [if_neg hx, qx5 v r (k + 1) (by omega)]; simp [hx]
theorem qos (l : List Int) (v : Int) : ql Tryz.prog 96 [.sl 1 (ints l), .int .i64 v] (.int .i64 (idxW v l 0)) := by
 refine qf c0bt (by simp) (by simp only [go_sem]) rfl fun hw => ?_
 have hl : l.length ≤ maxLen := by have := hw.1.1; rwa [qcz] at this
 repeat' (first | refine vs_ ?_ | ((first | refine vr_ ?_ | (refine cs_ ?_ ?_ <;> intro hc) | refine cj_ ?_ | simp (disch := omega) only [encs_getN, qb]) <;> (try refine ev_ ?_)) | with_reducible exact ti_)
 refine qq (S := Nat) (fun i => i ≤ l.length ∧ idxW v (l.drop i) i = idxW v l 0) (fun i => (⟨[(0, .sl 1 (ints l)), (1, .int .i64 v), (7, .int .i64 l.length), (8, .int .i64 i)], []⟩, [])) (fun i => l.length - i) ?_ fun i hi => ?_
 ·refine qh 0 [] ⟨Nat.zero_le _, rfl⟩ rfl (by simp) ?_ ?_ ?_ <;> (try refine ev_ ?_) <;> (try with_reducible exact ti_) <;> (try simp (disch := omega) only [qb, and_true, true_and])
 ·obtain ⟨hi, ha⟩ := hi
  repeat' (first | refine vs_ ?_ | ((first | refine vr_ ?_ | fail) <;> (try simp (disch := first | omega | (simp only [List.length_set, List.length_append, List.length_cons, List.length_nil]; done) | (simp only [List.length_set, List.length_append, List.length_cons, List.length_nil]; omega)) only [qd4, qb, go_sem, ↓reduceIte])) | ((first | (refine cs_ ?_ ?_ <;> intro hc) | refine cj_ ?_ | simp (disch := omega) only [encs_getN, qb]) <;> (try refine ev_ ?_)) | with_reducible exact ti_)
  ·rw [← ha, q1w (by omega), idxW, if_pos (by assumption)]
  ·refine qh (i + 1) [] ⟨⟨by omega, ?_⟩, by omega⟩ rfl (by simp) ?_ ?_ ?_ <;> (try refine ev_ ?_) <;> (try with_reducible exact ti_) <;> (try simp (disch := omega) only [qb, and_true, true_and])
   rw [← ha, q1w (l := l) (i := i) (by omega), idxW, if_neg (by assumption)]; rfl
  ·rw [← ha, List.drop_of_length_le (by omega)]; rfl
theorem qez (l : List Int) (v : Int) : ql Tryz.prog 75 [.sl 1 (ints l), .int .i64 v] (.bool (decide (v ∈ l))) := by
 refine qf c0bu (by simp) (by simp only [go_sem]) rfl fun hw => ?_
 repeat' (first | refine vs_ ?_ | ((first | refine vr_ ?_ | refine qa (qos _ _) fun _ => ?_ | (refine cs_ ?_ ?_ <;> intro hc) | refine cj_ ?_ | fail) <;> (try refine ev_ ?_)) | with_reducible exact ti_)
 rw [qx5 v l 0 (by omega)]
theorem qnw (l : List Int) (v : Int) : ql Tryz.prog 95 [.sl 1 (ints l), .int .i64 v] (.bool (decide (v ∈ l))) := by
 refine qf c0bv (by simp) (by simp only [go_sem]) rfl fun hw => ?_
 have hl : l.length ≤ maxLen := by have := hw.1.1; rwa [qcz] at this
 repeat' (first | refine vs_ ?_ | ((first | refine vr_ ?_ | (refine cs_ ?_ ?_ <;> intro hc) | refine cj_ ?_ | simp (disch := omega) only [encs_getN, qb]) <;> (try refine ev_ ?_)) | with_reducible exact ti_)
 refine qq (S := Nat) (fun i => i ≤ l.length ∧ decide (v ∈ l.drop i) = decide (v ∈ l)) (fun i => (⟨[(0, .sl 1 (ints l)), (1, .int .i64 v), (5, .int .i64 i)], []⟩, [])) (fun i => l.length - i) ?_ fun i hi => ?_
 ·refine qh 0 [] ⟨Nat.zero_le _, rfl⟩ rfl (by simp) ?_ ?_ ?_ <;> (try refine ev_ ?_) <;> (try with_reducible exact ti_) <;> (try simp (disch := omega) only [qb, and_true, true_and])
 ·obtain ⟨hi, ha⟩ := hi
  repeat' (first | refine vs_ ?_ | ((first | refine vr_ ?_ | fail) <;> (try simp (disch := first | omega | (simp only [List.length_set, List.length_append, List.length_cons, List.length_nil]; done) | (simp only [List.length_set, List.length_append, List.length_cons, List.length_nil]; omega)) only [qd4, qb, go_sem, ↓reduceIte])) | ((first | (refine cs_ ?_ ?_ <;> intro hc) | refine cj_ ?_ | simp (disch := omega) only [encs_getN, qb]) <;> (try refine ev_ ?_)) | with_reducible exact ti_)
  ·rename_i hc; rw [decide_eq_true (hc ▸ q3w (by omega))]
  ·refine qh (i + 1) [] ⟨⟨by omega, ?_⟩, by omega⟩ rfl (by simp) ?_ ?_ ?_ <;> (try refine ev_ ?_) <;> (try with_reducible exact ti_) <;> (try simp (disch := omega) only [qb, and_true, true_and])
   rw [← ha, q1w (l := l) (i := i) (by omega)]
   have hne : ¬ v = l.getD i 0 := fun h => absurd h.symm (by assumption)
   refine decide_eq_decide.2 ?_
   rw [List.mem_cons]
   exact ⟨.inr, fun h => h.resolve_left hne⟩
  ·rw [← ha, List.drop_of_length_le (by omega)]; simp
/-! each once -/
theorem qbf {H : List Ent} {n : Nat} : co H (.sl n) .nils = .sl n [] := Eq.trans rfl rfl
theorem qhw (acc : List Int) {l : List Int} {i : Nat} (h : i < l.length) : qcs acc (l.drop i) = if l.getD i 0 ∈ acc then qcs acc (l.drop (i + 1)) else qcs (acc ++ [l.getD i 0]) (l.drop (i + 1)) := by
 rw [q1w h, qcs]
def qmm (l : List Int) (x : Nat × List Int) : AF × List Ent := (⟨[(0, .sl 1 (ints l)), (3, accV 0 (ints x.2)), (4, .int .i64 x.1)], []⟩, accE 1 (ints x.2))
theorem qvg (l : List Int) (hb : l.length ≤ 1000000) : ql Tryz.prog 76 [.sl 1 (ints l)] (.sl 1 (ints (qcs [] l))) := by
 refine qf c0bw (by simp) (by simp only [go_sem]) (qfd 0 _) fun hw => ?_
 have hl : l.length ≤ maxLen := by have := hw.1.1; rwa [qcz] at this
 repeat' (first | refine vs_ ?_ | ((first | refine vr_ ?_ | (refine cs_ ?_ ?_ <;> intro hc) | refine cj_ ?_ | simp (disch := omega) only [encs_getN, qb]) <;> (try refine ev_ ?_)) | with_reducible exact ti_)
 refine qq (S := Nat × List Int) (fun x => x.1 ≤ l.length ∧ qcs x.2 (l.drop x.1) = qcs [] l ∧ x.2.length ≤ x.1) (qmm l) (fun x => l.length - x.1) ?_ fun x hx => ?_
 ·refine qh (0, []) [] ⟨Nat.zero_le _, rfl, Nat.le_refl _⟩ rfl (by simp) ?_ ?_ ?_ <;> simp only [qmm, qc0, q9, qbb] <;> (try refine ev_ ?_) <;> (try with_reducible exact ti_) <;> (try simp (disch := omega) only [qb, and_true, true_and])
 ·obtain ⟨i, acc⟩ := x
  obtain ⟨hi, ha, hc⟩ := hx
  dsimp only at hi ha hc
  have hcap : qb3 (acc.length + 1) 8 := capI (by omega)
  unfold qmm
  by_cases h0 : acc = []
  ·subst h0
   simp only [qc0, q9, qbb]
   repeat' (first | refine vs_ ?_ | ((first | refine vr_ ?_ | fail) <;> (try simp (disch := first | omega | (simp only [List.length_set, List.length_append, List.length_cons, List.length_nil]; done) | (simp only [List.length_set, List.length_append, List.length_cons, List.length_nil]; omega)) only [qd4, qb, qbf, go_sem, ↓reduceIte])) | ((first | (refine cs_ ?_ ?_ <;> intro hc) | refine cj_ ?_ | simp (disch := omega) only [encs_getN, qb] | refine qa (qnw [] _) fun _ => ?_) <;> (try refine ev_ ?_)) | with_reducible exact ti_)
   ·refine qh (i + 1, [] ++ [l.getD i 0]) [0] ⟨⟨by dsimp only; omega, ?_, by simp⟩, by dsimp only; omega⟩ rfl (by simp) ?_ ?_ ?_ <;> simp only [qmm, List.nil_append, ← qs3, qjf, qi3] <;> (try refine ev_ ?_) <;> (try with_reducible exact ti_) <;> (try simp (disch := omega) only [qb, and_true, true_and])
    rw [← ha, qhw (i := i) _ (by omega), if_neg (by assumption)]; rfl
   ·exact absurd (by assumption : l.getD i 0 ∈ []) (by simp)
   ·rw [← ha, List.drop_of_length_le (by omega)]; rfl
  ·simp only [qbo (qbl h0), qbn (qbl h0)]
   repeat' (first | refine vs_ ?_ | ((first | refine vr_ ?_ | fail) <;> (try simp (disch := first | omega | (simp only [List.length_set, List.length_append, List.length_cons, List.length_nil]; done) | (simp only [List.length_set, List.length_append, List.length_cons, List.length_nil]; omega)) only [qd4, qb, go_sem, ↓reduceIte])) | ((first | (refine cs_ ?_ ?_ <;> intro hc) | refine cj_ ?_ | simp (disch := omega) only [encs_getN, qb] | refine qa (qnw acc _) fun _ => ?_) <;> (try refine ev_ ?_)) | with_reducible exact ti_)
   ·refine qh (i + 1, acc ++ [l.getD i 0]) [1] ⟨⟨by dsimp only; omega, ?_, by simp; omega⟩, by dsimp only; omega⟩ rfl (by simp) ?_ ?_ ?_ <;> simp only [qmm, ← qj5, qg4, qhp, qcz] <;> (try refine ev_ ?_) <;> (try with_reducible exact ti_) <;> (try simp (disch := omega) only [qb, and_true, true_and])
    ·rw [← ha, qhw (i := i) _ (by omega), if_neg (by assumption)]
    all_goals (simp only [qj5]; exact ⟨qfd _ _, by rw [qmp]⟩)
   ·refine qh (i + 1, acc) [0] ⟨⟨by dsimp only; omega, ?_, by dsimp only; omega⟩, by dsimp only; omega⟩ rfl (by simp) ?_ ?_ ?_ <;> simp only [qmm, qbo (qbl h0), qbn (qbl h0)] <;> (try refine ev_ ?_) <;> (try with_reducible exact ti_) <;> (try simp (disch := omega) only [qb, and_true, true_and])
    rw [← ha, qhw (i := i) _ (by omega), if_pos (by assumption)]
   ·rw [← ha, List.drop_of_length_le (by omega)]; rfl

/-! all variables -/
theorem qu0 (l : List Ty) (i : Nat) (h : i < l.length) : qbp (l.take (i + 1)) = qbp (l.take i) ++ varY (l.getD i Y0) := by
 have h1 : l.take (i + 1) = l.take i ++ [l.getD i Y0] := by
  rw [List.take_add_one, List.getD_eq_getElem?_getD, List.getElem?_eq_getElem h]; rfl
 rw [h1]
 generalize l.take i = a
 generalize l.getD i Y0 = x
 induction a with
 | nil => simp [qbp]
 | cons y a ih => simp only [List.cons_append, qbp, ih, List.append_assoc]
def allE (t : Ty) (i : Nat) : List Int := (if t.con = [] then [t.var] else []) ++ qbp (t.args.take i)
theorem q7d (t : Ty) : allE t 0 = if t.con = [] then [t.var] else [] := by simp [allE, qbp]
theorem qxa {t : Ty} {i : Nat} (h : i < t.args.length) : allE t (i + 1) = allE t i ++ varY (t.args.getD i Y0) := by rw [allE, allE, qu0 _ _ h, List.append_assoc]
theorem q64 {t : Ty} {i : Nat} (h : t.args.length ≤ i) : allE t i = varY t := by rw [allE, List.take_of_length_le h, qbd4]
theorem q2r (t : Ty) (i : Nat) : (allE t i).length ≤ szY t := by
 have h1 := qjz t.args i
 have h2 := qjv (t.args.take i)
 rw [allE, List.length_append, qd7]
 have : (if t.con = [] then [t.var] else []).length ≤ 1 := by split <;> simp
 omega
def qvy (t : Ty) (x : Nat × Bool) : AF × List Ent :=
 (⟨[(1, .ptr 0 0), (3, if x.2 = true then .lit 1 (ints (allE t x.1)) else accV 1 (ints (allE t x.1))), (4, .int .i64 x.1)], []⟩, .blk (yc t) :: if x.2 = true then [] else accE 1 (ints (allE t x.1)))
set_option maxHeartbeats 2000000 in
theorem qpt : ∀ t, szY t ≤ 1000000 → ql Tryz.prog 77 [encY t] (.sl 1 (ints (varY t))) := by
 refine Ty.ind fun t ih hb => ?_
 refine qf c0bx (by simp) (by simp only [go_sem]) (qfd 0 _) fun hw => ?_
 have hk := qcu hw.1
 have hsz := qd7 t
 have ih' : ∀ i, i < t.args.length → ql Tryz.prog 77 [encY (t.args.getD i Y0)] (.sl 1 (ints (varY (t.args.getD i Y0)))) := fun i hi => ih _ (qs hi) (by have := qe6 (qs hi); omega)
 repeat' (first | refine vs_ ?_ | ((first | refine vr_ ?_ | (refine cs_ ?_ ?_ <;> intro hc) | refine cj_ ?_ | simp (disch := omega) only [encs_getN, qb]) <;> (try refine ev_ ?_)) | with_reducible exact ti_)
 all_goals refine qq (S := Nat × Bool) (fun x => x.1 ≤ t.args.length) (qvy t) (fun x => t.args.length - x.1) ?_ fun x hx => ?_
 case' refine_1.refine_1 => refine qh (0, true) [0] (Nat.zero_le _) rfl (by simp) ?_ ?_ ?_ <;> simp only [qvy, q7d, if_pos (by assumption : t.con = []), if_true, qs3] <;> (try refine ev_ ?_) <;> (try with_reducible exact ti_) <;> (try simp (disch := omega) only [qb, and_true, true_and])
 case' refine_2.refine_1 => refine qh (0, false) [0] (Nat.zero_le _) rfl (by simp) ?_ ?_ ?_ <;> simp only [qvy, q7d, if_neg (by assumption : ¬ t.con = []), if_false, qc0, q9, qbb, Bool.false_eq_true] <;> (try refine ev_ ?_) <;> (try with_reducible exact ti_) <;> (try simp (disch := omega) only [qb, and_true, true_and])
 all_goals
  obtain ⟨i, fl⟩ := x
  dsimp only at hx
  by_cases hi : i < t.args.length
  ·have hn := qxa hi
   have hl1 := q2r t (i + 1)
   have hl2 := congrArg List.length hn
   rw [List.length_append] at hl2
   have hcap : qb3 ((allE t i).length + (varY (t.args.getD i Y0)).length) 8 = True := eq_true (capI (by omega))
   have hcap1 : qb3 (varY (t.args.getD i Y0)).length 8 = True := eq_true (capI (by omega))
   by_cases hy : varY (t.args.getD i Y0) = []
   ·have hy0 : (varY (t.args.getD i Y0)).length = 0 := by rw [hy]; rfl
    have hn' : allE t (i + 1) = allE t i := by rw [hn, hy, List.append_nil]
    unfold qvy
    cases fl with
    | true =>
      simp only [if_true]
      repeat' (first | refine vs_ ?_ | ((first | refine vr_ ?_ | fail) <;> (try simp (disch := first | omega | (simp only [List.length_set, List.length_append, List.length_cons, List.length_nil]; done) | (simp only [List.length_set, List.length_append, List.length_cons, List.length_nil]; omega)) only [qj, qb, go_sem, ↓reduceIte])) | ((first | simp (disch := omega) only [hy0] | simp (disch := omega) only [hcap] | simp (disch := omega) only [hcap1] | (refine cs_ ?_ ?_ <;> intro hc) | refine cj_ ?_ | simp (disch := omega) only [encs_getN, qb] | refine qa (ih' i hi) fun _ => ?_) <;> (try refine ev_ ?_)) | with_reducible exact ti_)
      ·refine qh (i + 1, true) [0] ⟨by dsimp only; omega, by dsimp only; omega⟩ rfl (by simp) ?_ ?_ ?_ <;> simp only [hn', if_true] <;> (try refine ev_ ?_) <;> (try with_reducible exact ti_) <;> (try simp (disch := omega) only [qb, and_true, true_and])
      ·omega
    | false =>
      simp only [Bool.false_eq_true, if_false]
      by_cases h0 : allE t i = []
      ·simp only [h0, qc0, q9, qbb]
       repeat' (first | refine vs_ ?_ | ((first | refine vr_ ?_ | fail) <;> (try simp (disch := first | omega | (simp only [List.length_set, List.length_append, List.length_cons, List.length_nil]; done) | (simp only [List.length_set, List.length_append, List.length_cons, List.length_nil]; omega)) only [qj, qb, go_sem, ↓reduceIte])) | ((first | simp (disch := omega) only [hy0] | simp (disch := omega) only [hcap] | simp (disch := omega) only [hcap1] | (refine cs_ ?_ ?_ <;> intro hc) | refine cj_ ?_ | simp (disch := omega) only [encs_getN, qb] | refine qa (ih' i hi) fun _ => ?_) <;> (try refine ev_ ?_)) | with_reducible exact ti_)
       ·refine qh (i + 1, false) [0] ⟨by dsimp only; omega, by dsimp only; omega⟩ rfl (by simp) ?_ ?_ ?_ <;> simp only [hn', h0, qc0, q9, qbb, Bool.false_eq_true, if_false] <;> (try refine ev_ ?_) <;> (try with_reducible exact ti_) <;> (try simp (disch := omega) only [qb, and_true, true_and])
       ·omega
      ·simp only [qbo (qbl h0), qbn (qbl h0)]
       repeat' (first | refine vs_ ?_ | ((first | refine vr_ ?_ | fail) <;> (try simp (disch := first | omega | (simp only [List.length_set, List.length_append, List.length_cons, List.length_nil]; done) | (simp only [List.length_set, List.length_append, List.length_cons, List.length_nil]; omega)) only [qj, qb, go_sem, ↓reduceIte])) | ((first | simp (disch := omega) only [hcap] | (refine cs_ ?_ ?_ <;> intro hc) | refine cj_ ?_ | simp (disch := omega) only [encs_getN, qb] | refine qa (ih' i hi) fun _ => ?_) <;> (try refine ev_ ?_)) | with_reducible exact ti_)
       ·refine qh (i + 1, false) [0, 2] ⟨by dsimp only; omega, by dsimp only; omega⟩ rfl (by simp) ?_ ?_ ?_ <;> simp only [hn', qbo (qbl h0), qbn (qbl h0), Bool.false_eq_true, if_false, hy, qc0, List.append_nil, List.length_nil, Nat.add_zero, qcz] <;> (try refine ev_ ?_) <;> (try with_reducible exact ti_) <;> (try simp (disch := omega) only [qb, and_true, true_and])
       ·omega
   ·have hy0 : ((varY (t.args.getD i Y0)).length = 0) = False := eq_false fun h => hy (List.length_eq_zero_iff.1 h)
    have hne : allE t (i + 1) ≠ [] := fun h => hy (List.append_eq_nil_iff.1 (hn.symm.trans h)).2
    unfold qvy
    cases fl with
    | true =>
      simp only [if_true]
      repeat' (first | refine vs_ ?_ | ((first | refine vr_ ?_ | fail) <;> (try simp (disch := first | omega | (simp only [List.length_set, List.length_append, List.length_cons, List.length_nil]; done) | (simp only [List.length_set, List.length_append, List.length_cons, List.length_nil]; omega)) only [qj, qb, go_sem, ↓reduceIte])) | ((first | simp (disch := omega) only [hy0] | simp (disch := omega) only [hcap] | simp (disch := omega) only [hcap1] | (refine cs_ ?_ ?_ <;> intro hc) | refine cj_ ?_ | simp (disch := omega) only [encs_getN, qb] | refine qa (ih' i hi) fun _ => ?_) <;> (try refine ev_ ?_)) | with_reducible exact ti_)
      ·refine qh (i + 1, false) [0, 1] ⟨by dsimp only; omega, by dsimp only; omega⟩ rfl (by simp) ?_ ?_ ?_ <;> simp only [qbo (qbl hne), qbn (qbl hne), qs5, ← hn, ← hl2, Bool.false_eq_true, if_false, qcz] <;> (try refine ev_ ?_) <;> (try with_reducible exact ti_) <;> (try simp (disch := omega) only [qb, and_true, true_and])
      ·omega
    | false =>
      simp only [Bool.false_eq_true, if_false]
      by_cases h0 : allE t i = []
      ·have hn2 : allE t (i + 1) = varY (t.args.getD i Y0) := by rw [hn, h0, List.nil_append]
       simp only [h0, qc0, q9, qbb]
       repeat' (first | refine vs_ ?_ | ((first | refine vr_ ?_ | fail) <;> (try simp (disch := first | omega | (simp only [List.length_set, List.length_append, List.length_cons, List.length_nil]; done) | (simp only [List.length_set, List.length_append, List.length_cons, List.length_nil]; omega)) only [qj, qb, go_sem, ↓reduceIte])) | ((first | simp (disch := omega) only [hy0] | simp (disch := omega) only [hcap] | simp (disch := omega) only [hcap1] | (refine cs_ ?_ ?_ <;> intro hc) | refine cj_ ?_ | simp (disch := omega) only [encs_getN, qb] | refine qa (ih' i hi) fun _ => ?_) <;> (try refine ev_ ?_)) | with_reducible exact ti_)
       ·refine qh (i + 1, false) [0, 1] ⟨by dsimp only; omega, by dsimp only; omega⟩ rfl (by simp) ?_ ?_ ?_ <;> simp only [qbo (qbl hne), qbn (qbl hne), ← hn2, Bool.false_eq_true, if_false, qcz] <;> (try refine ev_ ?_) <;> (try with_reducible exact ti_) <;> (try simp (disch := omega) only [qb, and_true, true_and])
       ·omega
      ·simp only [qbo (qbl h0), qbn (qbl h0)]
       repeat' (first | refine vs_ ?_ | ((first | refine vr_ ?_ | fail) <;> (try simp (disch := first | omega | (simp only [List.length_set, List.length_append, List.length_cons, List.length_nil]; done) | (simp only [List.length_set, List.length_append, List.length_cons, List.length_nil]; omega)) only [qj, qb, go_sem, ↓reduceIte])) | ((first | simp (disch := omega) only [hcap] | (refine cs_ ?_ ?_ <;> intro hc) | refine cj_ ?_ | simp (disch := omega) only [encs_getN, qb] | refine qa (ih' i hi) fun _ => ?_) <;> (try refine ev_ ?_)) | with_reducible exact ti_)
       ·refine qh (i + 1, false) [0, 2] ⟨by dsimp only; omega, by dsimp only; omega⟩ rfl (by simp) ?_ ?_ ?_ <;> simp only [qbo (qbl hne), qbn (qbl hne), qs5, ← hn, ← hl2, Bool.false_eq_true, if_false, qcz] <;> (try refine ev_ ?_) <;> (try with_reducible exact ti_) <;> (try simp (disch := omega) only [qb, and_true, true_and])
       ·omega
  ·have hend := q64 (t := t) (i := i) (by omega)
   unfold qvy
   cases fl with
   | true =>
     simp only [if_true, hend]
     repeat' (first | refine vs_ ?_ | ((first | refine vr_ ?_ | (refine cs_ ?_ ?_ <;> intro hc) | refine cj_ ?_ | simp (disch := omega) only [encs_getN, qb]) <;> (try refine ev_ ?_)) | with_reducible exact ti_)
     all_goals omega
   | false =>
     simp only [Bool.false_eq_true, if_false, hend]
     by_cases h0 : varY t = []
     ·simp only [h0, qc0, q9, qbb]
      repeat' (first | refine vs_ ?_ | ((first | refine vr_ ?_ | (refine cs_ ?_ ?_ <;> intro hc) | refine cj_ ?_ | simp (disch := omega) only [encs_getN, qb]) <;> (try refine ev_ ?_)) | with_reducible exact ti_)
      all_goals omega
     ·simp only [qbo (qbl h0), qbn (qbl h0)]
      repeat' (first | refine vs_ ?_ | ((first | refine vr_ ?_ | (refine cs_ ?_ ?_ <;> intro hc) | refine cj_ ?_ | simp (disch := omega) only [encs_getN, qb]) <;> (try refine ev_ ?_)) | with_reducible exact ti_)
      all_goals omega
theorem qwi (t : Ty) (hb : szY t ≤ 1000000) : ql Tryz.prog 52 [encY t] (.sl 1 (ints (qcs [] (varY t)))) := by
 refine qf c0by (by simp) (by simp only [go_sem]) (qfd 0 _) fun hw => ?_
 have h1 := qpt t hb
 have h2 := qvg (varY t) (by have := qsf t; omega)
 repeat' (first | refine vs_ ?_ | ((first | refine vr_ ?_ | refine qa h1 fun _ => ?_ | refine qa h2 fun _ => ?_ | (refine cs_ ?_ ?_ <;> intro hc) | refine cj_ ?_ | fail) <;> (try refine ev_ ?_)) | with_reducible exact ti_)
theorem qyu (t : Ty) (v : Int) (hb : szY t ≤ 1000000) : ql Tryz.prog 72 [encY t, .int .i64 v] (.bool (decide (v ∈ varY t))) := by
 refine qf c0bz (by simp) (by simp only [go_sem]) rfl fun hw => ?_
 have h1 := qpt t hb
 repeat' (first | refine vs_ ?_ | ((first | refine vr_ ?_ | refine qa h1 fun _ => ?_ | refine qa (qnw _ _) fun _ => ?_ | (refine cs_ ?_ ?_ <;> intro hc) | refine cj_ ?_ | fail) <;> (try refine ev_ ?_)) | with_reducible exact ti_)

/-! the program's: a walk that gathers -/
def outE (l : List Int) : Ent := bun (.blk [accV 1 (ints l)] :: accE 1 (ints l))
def outN (l : List Int) (t : Ty) : List Int := if t.con = [] then (if t.var ∈ l then l else l ++ [t.var]) else l
theorem qfz {H' : List Ent} {l : List Int} {r : AV} (k : Nat) (h0 : l ≠ []) (hk : 0 < k) (hl : k < H'.length) (e0 : ent H' 0 = .blk [.row k l.length]) (e1 : ent H' k = .app 1 (ints l)) (hr : r.bd 1 = true) :
 qct (fun H' o => H' = [outE l] ∧ o = .val r) H' (.val r) := by
 refine ⟨[.blk [.row 1 l.length], .app 1 (ints l)], [0, k], rfl, by simp, by simp; omega, ?_, hr, ?_, rfl⟩
 ·simp only [qfj, List.length_cons, List.length_nil, Ent.bd, AV.bds, AV.bd, Ent.ren, AV.rens, AV.ren, e0, e1, qfd, qmp]
  exact ⟨⟨by omega, rfl, rfl⟩, ⟨hl, trivial, trivial⟩, trivial⟩
 ·rw [outE, qbo (qbl h0), qbn (qbl h0), qcz]
theorem qvo {H' : List Ent} {r : AV} (hl : 0 < H'.length) (e0 : ent H' 0 = .blk [.nils]) (hr : r.bd 1 = true) :
 qct (fun H' o => H' = [outE []] ∧ o = .val r) H' (.val r) := by
 refine ⟨[.blk [.nils]], [0], rfl, by simp, by simp, ?_, hr, rfl, rfl⟩
 exact ⟨⟨hl, rfl, by rw [e0]; rfl⟩, trivial⟩
theorem qbxr (l : List Int) (t : Ty) (k : Int) (hb : l.length ≤ 1000000) : VM Tryz.prog 74 (outE l) (outE (outN l t)) [encY t, .int .i64 k, .ptr 0 0] (.bool true) := by
 refine qf7 ?_ (by simp [AV.bds, AV.bd, qz])
 have hcap : qb3 (l.length + 1) 8 = True := eq_true (capI (by omega))
 refine qn7 c0ca (by simp) ?_
 by_cases h0 : l = []
 ·subst h0
  simp only [qc0, q9, qbb]
  repeat' (first | refine vs_ ?_ | ((first | refine vr_ ?_ | fail) <;> (try simp only [qbf, go_sem, ↓reduceIte])) | ((first | simp (disch := omega) only [hcap] | (refine cs_ ?_ ?_ <;> intro hc) | refine cj_ ?_ | fail | refine qa (qez [] _) fun _ => ?_) <;> (try refine ev_ ?_)) | with_reducible exact ti_)
  ·have : outN [] t = [t.var] := by rw [outN, if_pos (by assumption), if_neg (by assumption)]; rfl
   rw [this]
   exact qfz (l := [t.var]) 2 (by simp) (by omega) (by simp) rfl rfl rfl
  ·exact absurd (by assumption : t.var ∈ []) (by simp)
  ·have : outN [] t = [] := by rw [outN, if_neg (by assumption)]
   rw [this]
   exact qvo (by simp) rfl rfl
 ·simp only [qbo (qbl h0), qbn (qbl h0)]
  repeat' (first | refine vs_ ?_ | ((first | refine vr_ ?_ | refine qa (qez l _) fun _ => ?_ | simp (disch := omega) only [hcap] | (refine cs_ ?_ ?_ <;> intro hc) | refine cj_ ?_ | fail) <;> (try refine ev_ ?_)) | with_reducible exact ti_)
  ·have : outN l t = l ++ [t.var] := by rw [outN, if_pos (by assumption), if_neg (by assumption)]
   rw [this, qj5]
   exact qfz (l := l ++ [t.var]) 3 (by simp) (by omega) (by simp) (by simp [ent]) rfl rfl
  ·have : outN l t = l := by rw [outN, if_pos (by assumption), if_pos (by assumption)]
   rw [this]
   exact qfz (l := l) 1 h0 (by omega) (by simp) rfl rfl rfl
  ·have : outN l t = l := by rw [outN, if_neg (by assumption)]
   rw [this]
   exact qfz (l := l) 1 h0 (by omega) (by simp) rfl rfl rfl
def qxc (l : List Int) (t : Ty) (_ : Int) : List Int × Bool := (outN l t, true)
theorem qxx (l : List Int) (c : List UInt8) (v : Int) (a : List Ty) : outN l (.mk c v a) = qcs l (if c = [] then [v] else []) := by
 unfold outN
 by_cases hcn : c = []
 ·rw [if_pos (show (Ty.mk c v a).con = [] from hcn), if_pos hcn]; rfl
 ·rw [if_neg (show ¬ (Ty.mk c v a).con = [] from hcn), if_neg hcn]; rfl
mutual
theorem qbqk : ∀ (t : Ty) (l : List Int) (k : Int), qcj qxc t l k = (qcs l (varY t), true)
 | .mk c v a, l, k => by
   rw [qcj, if_pos (show (qxc l (.mk c v a) k).2 = true from rfl), q7j, varY, qpe]
   congr 2
   exact qxx l c v a
theorem q7j : ∀ (a : List Ty) (l : List Int) (k : Int), qbs qxc a l k = (qcs l (qbp a), true)
 | [], l, k => by rw [qbs, qbp]; rfl
 | x :: r, l, k => by
   rw [qbs, qbqk x, if_pos rfl, q7j r, qbp, qpe]
end
theorem q2u (l : List Int) (t : Ty) : (outN l t).length ≤ l.length + 1 := by
 rw [outN]; split
 ·split
  ·omega
  ·simp
 ·omega
theorem qvi (t : Ty) (hb : szY t ≤ 1000000) : ql Tryz.prog 51 [encY t] (.sl 1 (ints (qcs [] (varY t)))) := by
 refine qf c0cb (by simp) (by simp only [go_sem]) (qfd 0 _) fun hw => ?_
 have hwalk := qia (st := outE) (step := qxc) (f := 74) (ok := fun n l => l.length + n ≤ 1000000) (fun _ => rfl) (fun n l t k h => by have := q2u l t; simp only [qxc]; omega) (fun n l h => by omega) (fun l t k h => qbxr l t k (by omega)) t [] 1 (by simpa using hb)
 rw [qbqk] at hwalk
 unfold k0cb
 refine qb2 (qef ?_)
 (refine ev_ ?_; (try with_reducible exact ti_))
 refine qb2 (qef ?_)
 (refine ev_ ?_; (try with_reducible exact ti_))
 refine qsa 1 rfl rfl ?_
 refine qb2 (qef ?_)
 simp only [List.set_cons_succ, List.set_cons_zero]
 (refine ev_ ?_; (try with_reducible exact ti_))
 refine qbt 1 hwalk ?_
 simp only [List.set_cons_succ, List.set_cons_zero]
 (refine ev_ ?_; (try with_reducible exact ti_))
 refine qbi7 1 rfl (by simp) ?_
 simp only [List.set_cons_succ, List.set_cons_zero]
 by_cases h0 : qcs [] (varY t) = []
 ·simp only [h0, qc0, q9, qbb]
  repeat' (first | refine vs_ ?_ | ((first | refine vr_ ?_ | (refine cs_ ?_ ?_ <;> intro hc) | refine cj_ ?_ | fail) <;> (try refine ev_ ?_)) | with_reducible exact ti_)
 ·simp only [qbo (qbl h0), qbn (qbl h0)]
  repeat' (first | refine vs_ ?_ | ((first | refine vr_ ?_ | (refine cs_ ?_ ?_ <;> intro hc) | refine cj_ ?_ | fail) <;> (try refine ev_ ?_)) | with_reducible exact ti_)
set_option maxRecDepth 4000

/-! the program's -/
abbrev numE (n : Int) : Ent := .blk [.int .i64 n]
def qff (n : Int) (t : Ty) (k : Int) : Int × Bool := (IntKind.i64.wrap (n + 1), decide (IntKind.i64.wrap (n + 1) ≤ 4096) && (decide (k ≤ 100) && mayY t))
theorem qbt0 (n : Int) (t : Ty) (k : Int) : VM Tryz.prog 57 (numE n) (numE (qff n t k).1) [encY t, .int .i64 k, .ptr 0 0] (.bool (qff n t k).2) := by
 refine qkc (by kernel_rfl) fun hw => ?_
 have hk := qcu hw.1
 refine qg c0bh 1 (by simp) (by simp) ?_
 repeat' (first | refine vs_ ?_ | ((first | refine vr_ ?_ | refine qa (qn3 _) fun _ => ?_ | refine qa (q21 _ _ _) fun _ => ?_ | (refine cs_ ?_ ?_ <;> intro hc) | refine cj_ ?_ | simp (disch := omega) only [encs_getN, qb]) <;> (try refine ev_ ?_)) | with_reducible exact ti_)
 ·simp_all [qff]
 ·exact ⟨rfl, by simp only [qff, *, decide_true, decide_false, Bool.true_and, Bool.false_and]⟩
 ·exact ⟨rfl, by simp only [qff, *, decide_true, decide_false, Bool.true_and, Bool.false_and]⟩
def qru (n : Int) (_ : Ty) (_ : Int) : Int × Bool := (IntKind.i64.wrap (n + 1), true)
theorem qbxz (n : Int) (t : Ty) (k : Int) : VM Tryz.prog 82 (numE n) (numE (qru n t k).1) [encY t, .int .i64 k, .ptr 0 0] (.bool (qru n t k).2) := by
 refine qg c0bi 1 (by simp) (by simp) ?_
 repeat' (first | refine vs_ ?_ | ((first | refine vr_ ?_ | (refine cs_ ?_ ?_ <;> intro hc) | refine cj_ ?_ | simp (disch := omega) only [encs_getN, qb]) <;> (try refine ev_ ?_)) | with_reducible exact ti_)
 exact ⟨rfl, rfl⟩
def qpb (n : Int) (_ : Ty) (k : Int) : Int × Bool := (if k > n then k else n, true)
theorem qbqt (n : Int) (t : Ty) (k : Int) : VM Tryz.prog 83 (numE n) (numE (qpb n t k).1) [encY t, .int .i64 k, .ptr 0 0] (.bool (qpb n t k).2) := by
 refine qg c0bj 1 (by simp) (by simp) ?_
 repeat' (first | refine vs_ ?_ | ((first | refine vr_ ?_ | (refine cs_ ?_ ?_ <;> intro hc) | refine cj_ ?_ | fail) <;> (try refine ev_ ?_)) | with_reducible exact ti_)
 exact ⟨rfl, rfl⟩
theorem qn6 {f : FuncId} {step : Int → Ty → Int → Int × Bool} (h : ∀ n t k, VM Tryz.prog f (numE n) (numE (step n t k).1) [encY t, .int .i64 k, .ptr 0 0] (.bool (step n t k).2)) (t : Ty) (n k : Int) :
 VM Tryz.prog 56 (numE n) (numE (qcj step t n k).1) [encY t, .int .i64 k, .fn f [] [.ptr 0 0]] (.bool (qcj step t n k).2) :=
 qia (st := numE) (ok := fun _ _ => True) (fun _ => rfl) (fun _ _ _ _ _ => trivial) (fun _ _ _ => trivial) (fun n t k _ => h n t k) t n k trivial
def qwm (t : Ty) : Bool := (qcj qff t 0 1).2
theorem qrk (t : Ty) : ql Tryz.prog 37 [encY t] (.bool (qwm t)) := by
 refine qf c0bk (by simp) (by simp only [go_sem]) rfl fun hw => ?_
 repeat' (first | refine vs_ ?_ | ((first | refine vr_ ?_ | refine qbt 1 (qn6 qbt0 t 0 1) ?_ | (refine cs_ ?_ ?_ <;> intro hc) | refine cj_ ?_ | fail) <;> (try refine ev_ ?_)) | with_reducible exact ti_)
 rfl
theorem qwk (t : Ty) : ql Tryz.prog 60 [encY t] (.int .i64 (qcj qru t 0 1).1) := by
 refine qf c0bl (by simp) (by simp only [go_sem]) rfl fun hw => ?_
 repeat' (first | refine vs_ ?_ | ((first | refine vr_ ?_ | refine qbt 1 (qn6 qbxz t 0 1) ?_ | (refine cs_ ?_ ?_ <;> intro hc) | refine cj_ ?_ | fail) <;> (try refine ev_ ?_)) | with_reducible exact ti_)
theorem qr8 (t : Ty) : ql Tryz.prog 61 [encY t] (.int .i64 (qcj qpb t 0 1).1) := by
 refine qf c0bm (by simp) (by simp only [go_sem]) rfl fun hw => ?_
 repeat' (first | refine vs_ ?_ | ((first | refine vr_ ?_ | refine qbt 1 (qn6 qbqt t 0 1) ?_ | (refine cs_ ?_ ?_ <;> intro hc) | refine cj_ ?_ | fail) <;> (try refine ev_ ?_)) | with_reducible exact ti_)

/-! the references -/
mutual
def qio : Ty → Int
 | .mk _ _ l => qe7 1 l
def qe7 : Int → List Ty → Int
 | a, [] => a
 | a, x :: r => qe7 (IntKind.i64.wrap (a + qio x)) r
end
theorem q0q (t : Ty) : qio t = qe7 1 t.args := by cases t; rw [qio]; rfl
theorem qh0 : ∀ t, ql Tryz.prog 23 [encY t] (.int .i64 (qio t)) := by
 refine Ty.ind fun t ih => ?_
 refine qf c0bn (by simp) (by simp only [go_sem]) rfl fun hw => ?_
 have hk := qcu hw.1
 repeat' (first | refine vs_ ?_ | ((first | refine vr_ ?_ | (refine cs_ ?_ ?_ <;> intro hc) | refine cj_ ?_ | simp (disch := omega) only [encs_getN, qb]) <;> (try refine ev_ ?_)) | with_reducible exact ti_)
 refine qq (S := Nat × Int) (fun s => s.1 ≤ t.args.length ∧ qe7 s.2 (t.args.drop s.1) = qio t) (fun s => (⟨[(1, .ptr 0 0), (3, .int .i64 s.2), (4, .int .i64 s.1)], []⟩, [.blk (yc t)])) (fun s => t.args.length - s.1) ?_ fun s hs => ?_
 ·refine qh (0, 1) [0] ⟨Nat.zero_le _, (q0q t).symm⟩ rfl (by simp) ?_ ?_ ?_ <;> (try refine ev_ ?_) <;> (try with_reducible exact ti_) <;> (try simp (disch := omega) only [qb, and_true, true_and])
 ·obtain ⟨i, a⟩ := s
  obtain ⟨hi, ha⟩ := hs
  dsimp only at hi ha
  repeat' (first | refine vs_ ?_ | ((first | refine vr_ ?_ | fail) <;> (try simp (disch := first | omega | (simp only [List.length_set, List.length_append, List.length_cons, List.length_nil]; done) | (simp only [List.length_set, List.length_append, List.length_cons, List.length_nil]; omega)) only [qj, qb, go_sem, ↓reduceIte])) | ((first | (refine cs_ ?_ ?_ <;> intro hc) | refine cj_ ?_ | simp (disch := omega) only [encs_getN, qb] | refine qa (ih _ (qs (by omega))) fun _ => ?_) <;> (try refine ev_ ?_)) | with_reducible exact ti_)
  ·refine qh (i + 1, IntKind.i64.wrap (a + qio (t.args.getD i Y0))) [0] ⟨⟨by dsimp only; omega, ?_⟩, by dsimp only; omega⟩ rfl (by simp) ?_ ?_ ?_ <;> (try refine ev_ ?_) <;> (try with_reducible exact ti_) <;> (try simp (disch := omega) only [qb, and_true, true_and])
   rw [← ha, qld (l := t.args) (i := i) (by omega), qe7]
  ·rw [← ha, List.drop_of_length_le (by omega)]; rfl
mutual
def qnk : Ty → Int
 | .mk _ _ l => IntKind.i64.wrap (qg1 0 l + 1)
def qg1 : Int → List Ty → Int
 | a, [] => a
 | a, x :: r => qg1 (if qnk x > a then qnk x else a) r
end
theorem q4b (t : Ty) : qnk t = IntKind.i64.wrap (qg1 0 t.args + 1) := by cases t; rw [qnk]; rfl
theorem qrz : ∀ t, ql Tryz.prog 47 [encY t] (.int .i64 (qnk t)) := by
 refine Ty.ind fun t ih => ?_
 refine qf c0bo (by simp) (by simp only [go_sem]) rfl fun hw => ?_
 have hk := qcu hw.1
 repeat' (first | refine vs_ ?_ | ((first | refine vr_ ?_ | (refine cs_ ?_ ?_ <;> intro hc) | refine cj_ ?_ | simp (disch := omega) only [encs_getN, qb]) <;> (try refine ev_ ?_)) | with_reducible exact ti_)
 refine qq (S := Nat × Int) (fun s => s.1 ≤ t.args.length ∧ qg1 s.2 (t.args.drop s.1) = qg1 0 t.args) (fun s => (⟨[(1, .ptr 0 0), (3, .int .i64 s.2), (4, .int .i64 s.1)], []⟩, [.blk (yc t)])) (fun s => t.args.length - s.1) ?_ fun s hs => ?_
 ·refine qh (0, 0) [0] ⟨Nat.zero_le _, rfl⟩ rfl (by simp) ?_ ?_ ?_ <;> (try refine ev_ ?_) <;> (try with_reducible exact ti_) <;> (try simp (disch := omega) only [qb, and_true, true_and])
 ·obtain ⟨i, a⟩ := s
  obtain ⟨hi, ha⟩ := hs
  dsimp only at hi ha
  repeat' (first | refine vs_ ?_ | ((first | refine vr_ ?_ | fail) <;> (try simp (disch := first | omega | (simp only [List.length_set, List.length_append, List.length_cons, List.length_nil]; done) | (simp only [List.length_set, List.length_append, List.length_cons, List.length_nil]; omega)) only [qj, qb, go_sem, ↓reduceIte])) | ((first | (refine cs_ ?_ ?_ <;> intro hc) | refine cj_ ?_ | simp (disch := omega) only [encs_getN, qb] | refine qa (ih _ (qs (by omega))) fun _ => ?_) <;> (try refine ev_ ?_)) | with_reducible exact ti_)
  ·refine qh (i + 1, if qnk (t.args.getD i Y0) > a then qnk (t.args.getD i Y0) else a) [0] ⟨⟨by dsimp only; omega, ?_⟩, by dsimp only; omega⟩ rfl (by simp) ?_ ?_ ?_ <;> (try refine ev_ ?_) <;> (try with_reducible exact ti_) <;> (try simp (disch := omega) only [qb, and_true, true_and])
   rw [← ha, qld (l := t.args) (i := i) (by omega), qg1]
  ·rw [q4b, ← ha, List.drop_of_length_le (by omega)]; rfl
mutual
def qb8 : Ty → Bool
 | .mk c v l => qbk l && mayW c v l.length
def qbk : List Ty → Bool
 | [] => true
 | x :: r => qb8 x && qbk r
end
theorem qd6 (t : Ty) : qb8 t = (qbk t.args && mayY t) := by cases t; rw [qb8]; rfl
theorem qiu {l : List Ty} {i : Nat} (h : i < l.length) : qbk (l.drop i) = (qb8 (l.getD i Y0) && qbk (l.drop (i + 1))) := by rw [qld h, qbk]
theorem qrs : ∀ t, ql Tryz.prog 48 [encY t] (.bool (qb8 t)) := by
 refine Ty.ind fun t ih => ?_
 refine qf c0bp (by simp) (by simp only [go_sem]) rfl fun hw => ?_
 have hk := qcu hw.1
 repeat' (first | refine vs_ ?_ | ((first | refine vr_ ?_ | (refine cs_ ?_ ?_ <;> intro hc) | refine cj_ ?_ | simp (disch := omega) only [encs_getN, qb]) <;> (try refine ev_ ?_)) | with_reducible exact ti_)
 refine qq (S := Nat) (fun i => i ≤ t.args.length ∧ qbk (t.args.drop i) = qbk t.args) (fun i => (⟨[(1, .ptr 0 0), (3, .int .i64 i)], []⟩, [.blk (yc t)])) (fun i => t.args.length - i) ?_ fun i hi => ?_
 ·refine qh 0 [0] ⟨Nat.zero_le _, rfl⟩ rfl (by simp) ?_ ?_ ?_ <;> (try refine ev_ ?_) <;> (try with_reducible exact ti_) <;> (try simp (disch := omega) only [qb, and_true, true_and])
 ·obtain ⟨hi, ha⟩ := hi
  rw [qd6]
  repeat' (first | refine vs_ ?_ | ((first | refine vr_ ?_ | fail) <;> (try simp (disch := first | omega | (simp only [List.length_set, List.length_append, List.length_cons, List.length_nil]; done) | (simp only [List.length_set, List.length_append, List.length_cons, List.length_nil]; omega)) only [qj, qb, go_sem, ↓reduceIte])) | ((first | (refine cs_ ?_ ?_ <;> intro hc) | refine cj_ ?_ | simp (disch := omega) only [encs_getN, qb] | refine qa (ih _ (qs (by omega))) fun _ => ?_ | refine qa (qqx _) fun _ => ?_ | refine qa (qzr _) fun _ => ?_) <;> (try refine ev_ ?_)) | with_reducible exact ti_)
  ·have : qbk t.args = false := by rw [← ha, qiu (by omega), hc]; rfl
   rw [this]; rfl
  ·refine qh (i + 1) [0] ⟨⟨by omega, ?_⟩, by omega⟩ rfl (by simp) ?_ ?_ ?_ <;> (try refine ev_ ?_) <;> (try with_reducible exact ti_) <;> (try simp (disch := omega) only [qb, and_true, true_and])
   rw [← ha, qiu (i := i) (by omega), hc, Bool.true_and]
  all_goals
   have hs : qbk t.args = true := by rw [← ha, List.drop_of_length_le (by omega)]; rfl
   rw [hs, Bool.true_and, mayY, mayW]
   simp only [arrW, *, if_true, if_false, decide_true, decide_false, Bool.and_true, Bool.and_false, Bool.false_eq_true]
   try rfl
/-! Few -/
mutual
def cntY : Ty → Int → Int → Int
 | .mk _ _ l, k, d => if d < 1 then -1 else qeh l (IntKind.i64.wrap (k - 1)) d
def qeh : List Ty → Int → Int → Int
 | [], a, _ => a
 | x :: r, a, d => if 0 ≤ a then qeh r (cntY x a (IntKind.i64.wrap (d - 1))) d else a
end
theorem q0n (t : Ty) (k d : Int) : cntY t k d = if d < 1 then -1 else qeh t.args (IntKind.i64.wrap (k - 1)) d := by cases t; rw [cntY]; rfl
theorem qhd {a : Int} (h : a < 0) (l : List Ty) (d : Int) : qeh l a d = a := by
 cases l with
 | nil => rw [qeh]
 | cons x r => rw [qeh, if_neg (by omega)]
theorem qbgx : ∀ t k d, ql Tryz.prog 40 [encY t, .int .i64 k, .int .i64 d] (.int .i64 (cntY t k d)) := by
 refine Ty.ind fun t ih k d => ?_
 refine qf c0bq (by simp) (by simp only [go_sem]) rfl fun hw => ?_
 have hk := qcu hw.1
 rw [q0n]
 repeat' (first | refine vs_ ?_ | ((first | refine vr_ ?_ | (refine cs_ ?_ ?_ <;> intro hc) | refine cj_ ?_ | simp (disch := omega) only [encs_getN, qb]) <;> (try refine ev_ ?_)) | with_reducible exact ti_)
 ·rw [if_pos (by assumption)]
 rw [if_neg (by assumption)]
 refine qq (S := Nat × Int) (fun s => s.1 ≤ t.args.length ∧ qeh (t.args.drop s.1) s.2 d = qeh t.args (IntKind.i64.wrap (k - 1)) d) (fun s => (⟨[(1, .int .i64 s.2), (2, .int .i64 d), (3, .ptr 0 0), (7, .int .i64 s.1)], []⟩, [.blk (yc t)])) (fun s => t.args.length - s.1) ?_ fun s hs => ?_
 ·refine qh (0, IntKind.i64.wrap (k - 1)) [0] ⟨Nat.zero_le _, rfl⟩ rfl (by simp) ?_ ?_ ?_ <;> (try refine ev_ ?_) <;> (try with_reducible exact ti_) <;> (try simp (disch := omega) only [qb, and_true, true_and])
 ·obtain ⟨i, a⟩ := s
  obtain ⟨hi, ha⟩ := hs
  dsimp only at hi ha
  repeat' (first | refine vs_ ?_ | ((first | refine vr_ ?_ | fail) <;> (try simp (disch := first | omega | (simp only [List.length_set, List.length_append, List.length_cons, List.length_nil]; done) | (simp only [List.length_set, List.length_append, List.length_cons, List.length_nil]; omega)) only [qj, qb, go_sem, ↓reduceIte])) | ((first | (refine cs_ ?_ ?_ <;> intro hc) | refine cj_ ?_ | simp (disch := omega) only [encs_getN, qb] | refine qa (ih _ (qs (by omega)) _ _) fun _ => ?_) <;> (try refine ev_ ?_)) | with_reducible exact ti_)
  ·refine qh (i + 1, cntY (t.args.getD i Y0) a (IntKind.i64.wrap (d - 1))) [0] ⟨⟨by dsimp only; omega, ?_⟩, by dsimp only; omega⟩ rfl (by simp) ?_ ?_ ?_ <;> (try refine ev_ ?_) <;> (try with_reducible exact ti_) <;> (try simp (disch := omega) only [qb, and_true, true_and])
   rw [← ha, qld (l := t.args) (i := i) (by omega), qeh, if_pos (by assumption)]
  ·rw [← ha, qhd (by omega)]
  ·rw [← ha, List.drop_of_length_le (by omega)]; rfl
def qlh (a : Int) : List Ty → Int
 | [] => a
 | x :: r => qlh (cntY x a 300) r
def qgs (l : List Ty) : Bool := decide (0 ≤ qlh 20000 l)
theorem qbtc (l : List Ty) : ql Tryz.prog 22 [.sl 3 (qk l)] (.int .i64 (if qgs l = true then 1 else 0)) := by
 refine qf c0br (by simp) (by simp only [go_sem]) rfl fun hw => ?_
 have hk : l.length ≤ maxLen := by have := hw.1.1; rwa [qbc] at this
 repeat' (first | refine vs_ ?_ | ((first | refine vr_ ?_ | (refine cs_ ?_ ?_ <;> intro hc) | refine cj_ ?_ | simp (disch := omega) only [encs_getN, qb]) <;> (try refine ev_ ?_)) | with_reducible exact ti_)
 refine qq (S := Nat × Int) (fun s => s.1 ≤ l.length ∧ qlh s.2 (l.drop s.1) = qlh 20000 l) (fun s => (⟨[(0, .sl 3 (qk l)), (3, .int .i64 s.2), (4, .int .i64 s.1)], []⟩, [])) (fun s => l.length - s.1) ?_ fun s hs => ?_
 ·refine qh (0, 20000) [] ⟨Nat.zero_le _, rfl⟩ rfl (by simp) ?_ ?_ ?_ <;> (try refine ev_ ?_) <;> (try with_reducible exact ti_) <;> (try simp (disch := omega) only [qb, and_true, true_and])
 ·obtain ⟨i, a⟩ := s
  obtain ⟨hi, ha⟩ := hs
  dsimp only at hi ha
  repeat' (first | refine vs_ ?_ | ((first | refine vr_ ?_ | fail) <;> (try simp (disch := first | omega | (simp only [List.length_set, List.length_append, List.length_cons, List.length_nil]; done) | (simp only [List.length_set, List.length_append, List.length_cons, List.length_nil]; omega)) only [qj, qb, go_sem, ↓reduceIte])) | ((first | (refine cs_ ?_ ?_ <;> intro hc) | refine cj_ ?_ | simp (disch := omega) only [encs_getN, qb] | refine qa (qbgx _ _ _) fun _ => ?_) <;> (try refine ev_ ?_)) | with_reducible exact ti_)
  ·refine qh (i + 1, cntY (l.getD i Y0) a 300) [] ⟨⟨by dsimp only; omega, ?_⟩, by dsimp only; omega⟩ rfl (by simp) ?_ ?_ ?_ <;> (try refine ev_ ?_) <;> (try with_reducible exact ti_) <;> (try simp (disch := omega) only [qb, and_true, true_and])
   rw [← ha, qld (l := l) (i := i) (by omega), qlh]
  all_goals
   have hf : qlh 20000 l = a := by rw [← ha, List.drop_of_length_le (by omega)]; rfl
   rw [qgs, hf]
  ·rw [if_neg (by simp; omega)]
  ·rw [if_pos (by simp; omega)]

/-! the laws of sizes -/
mutual
theorem qzv : ∀ (t : Ty) (k d : Int), 0 ≤ k → k ≤ 20000 → d ≤ 300 → 0 ≤ cntY t k d → cntY t k d = k - szY t ∧ (dpY t : Int) ≤ d
 | .mk c v l, k, d, h0, h1, h2, h3 => by
   rw [cntY] at h3 ⊢
   by_cases hd : d < 1
   ·rw [if_pos hd] at h3; omega
   ·rw [if_neg hd] at h3 ⊢
    have hk : IntKind.i64.wrap (k - 1) = k - 1 := qv (by omega) (by omega)
    rw [hk] at h3 ⊢
    have h4 : 0 ≤ k - 1 := by
     by_cases h : 0 ≤ k - 1
     ·exact h
     ·rw [qhd (by omega)] at h3; exact h3
    have := qsx l (k - 1) d h4 (by omega) (by omega) h2 h3
    rw [szY, dpY]
    omega
theorem qsx : ∀ (l : List Ty) (a d : Int), 0 ≤ a → a ≤ 20000 → 1 ≤ d → d ≤ 300 → 0 ≤ qeh l a d → qeh l a d = a - szYs l ∧ (dpYs l : Int) ≤ d - 1
 | [], a, d, h0, h1, h2, h3, h4 => by rw [qeh, szYs, dpYs]; omega
 | x :: r, a, d, h0, h1, h2, h3, h4 => by
   rw [qeh, if_pos h0] at h4 ⊢
   have hd : IntKind.i64.wrap (d - 1) = d - 1 := qv (by omega) (by omega)
   rw [hd] at h4 ⊢
   have h5 : 0 ≤ cntY x a (d - 1) := by
    by_cases h : 0 ≤ cntY x a (d - 1)
    ·exact h
    ·rw [qhd (by omega)] at h4; exact absurd h4 h
   obtain ⟨h6, h7⟩ := qzv x a (d - 1) h0 h1 (by omega) h5
   obtain ⟨h8, h9⟩ := qsx r _ d h5 (by omega) h2 h3 h4
   rw [szYs, dpYs]
   omega
end
mutual
theorem qy1 : ∀ (t : Ty) (k d : Int), 0 ≤ k → k ≤ 20000 → -1 ≤ cntY t k d
 | .mk c v l, k, d, h0, h1 => by
   rw [cntY]
   split
   ·omega
   ·rw [qv (z := k - 1) (by omega) (by omega)]
    exact qyc l (k - 1) d (by omega) (by omega)
theorem qyc : ∀ (l : List Ty) (a d : Int), -1 ≤ a → a ≤ 20000 → -1 ≤ qeh l a d
 | [], a, d, h0, _ => by rw [qeh]; exact h0
 | x :: r, a, d, h0, h1 => by
   rw [qeh]
   split
   ·rename_i h
    have h2 := qy1 x a (IntKind.i64.wrap (d - 1)) h h1
    have h3 := q7q x a (IntKind.i64.wrap (d - 1)) h h1
    exact qyc r _ d h2 (by omega)
   ·exact h0
theorem q7q : ∀ (t : Ty) (k d : Int), 0 ≤ k → k ≤ 20000 → cntY t k d ≤ k
 | .mk c v l, k, d, h0, h1 => by
   rw [cntY]
   split
   ·omega
   ·rw [qv (z := k - 1) (by omega) (by omega)]
    have := qzw l (k - 1) d (by omega) (by omega)
    omega
theorem qzw : ∀ (l : List Ty) (a d : Int), -1 ≤ a → a ≤ 20000 → qeh l a d ≤ a
 | [], a, d, h0, _ => by rw [qeh]; exact Int.le_refl _
 | x :: r, a, d, h0, h1 => by
   rw [qeh]
   split
   ·rename_i h
    have h2 := qy1 x a (IntKind.i64.wrap (d - 1)) h h1
    have h3 := q7q x a (IntKind.i64.wrap (d - 1)) h h1
    have := qzw r _ d h2 (by omega)
    omega
   ·exact Int.le_refl _
end
theorem qsh : ∀ (l : List Ty) {a : Int}, a < 0 → -9223372036854775808 ≤ a - l.length → qlh a l < 0
 | [], a, h, _ => h
 | x :: r, a, h, h2 => by
   rw [qlh]
   have h3 : cntY x a 300 = IntKind.i64.wrap (a - 1) := by
    rw [q0n, if_neg (by omega)]
    have hk : IntKind.i64.wrap (a - 1) = a - 1 := qv (by simp only [List.length_cons] at h2; omega) (by omega)
    rw [hk, qhd (by omega)]
   have hk : IntKind.i64.wrap (a - 1) = a - 1 := qv (by simp only [List.length_cons] at h2; omega) (by omega)
   rw [h3, hk]
   exact qsh r (by omega) (by simp only [List.length_cons] at h2; omega)
theorem qts : ∀ (l : List Ty) (a : Int), 0 ≤ a → a ≤ 20000 → l.length ≤ 9223372036854775807 → 0 ≤ qlh a l → (szYs l : Int) ≤ a ∧ (dpYs l : Int) ≤ 300
 | [], a, h0, h1, _, h2 => by rw [szYs, dpYs]; omega
 | x :: r, a, h0, h1, hl, h2 => by
   rw [qlh] at h2
   simp only [List.length_cons] at hl
   have h5 : 0 ≤ cntY x a 300 := by
    by_cases h : 0 ≤ cntY x a 300
    ·exact h
    ·have : -1 ≤ cntY x a 300 := qy1 x a 300 h0 h1
     have := qsh r (a := cntY x a 300) (by omega) (by omega)
     omega
   obtain ⟨h6, h7⟩ := qzv x a 300 h0 h1 (by omega) h5
   obtain ⟨h8, h9⟩ := qts r _ h5 (by omega) (by omega) h2
   rw [szYs, dpYs]
   omega
theorem qbl6 {l : List Ty} (hl : l.length ≤ maxLen) (h : qgs l = true) : szYs l ≤ 20000 ∧ dpYs l ≤ 300 := by
 have := qts l 20000 (by omega) (by omega) (by unfold maxLen at hl; omega) (by simpa [qgs] using h)
 omega

mutual
theorem qf2 : ∀ (t : Ty), szY t ≤ 1000000 → qio t = szY t
 | .mk c v l, h => by
   rw [szY] at h
   rw [qio, szY, qke l 1 (by omega) (by omega)]
   omega
theorem qke : ∀ (l : List Ty) (a : Int), 1 ≤ a → a + szYs l ≤ 1000001 → qe7 a l = a + szYs l
 | [], a, _, _ => by rw [qe7, szYs]; omega
 | x :: r, a, h0, h => by
   rw [szYs] at h
   rw [qe7, qf2 x (by omega), qv (by omega) (by omega), qke r _ (by omega) (by omega), szYs]
   omega
end
mutual
theorem qp5 : ∀ (t : Ty), dpY t ≤ 1000000 → qnk t = dpY t
 | .mk c v l, h => by
   rw [dpY] at h
   rw [qnk, dpY, qlu l 0 (by omega) (by omega), qv (by omega) (by omega)]
   omega
theorem qlu : ∀ (l : List Ty) (a : Int), dpYs l ≤ 1000000 → 0 ≤ a → qg1 a l = max a (dpYs l)
 | [], a, _, _ => by rw [qg1, dpYs]; omega
 | x :: r, a, h, h0 => by
   rw [dpYs] at h
   have h1 := qp5 x (by omega)
   rw [qg1, h1]
   have h2 : (if (dpY x : Int) > a then (dpY x : Int) else a) = max a (dpY x) := by split <;> omega
   rw [h2, qlu r _ (by omega) (by omega), dpYs]
   omega
end
mutual
theorem qp0 : ∀ (t : Ty) (n k : Int), 0 ≤ n → n + szY t ≤ 1000000 → qcj qru t n k = (n + szY t, true)
 | .mk c v l, n, k, h0, h => by
   rw [szY] at h
   rw [qcj, if_pos (show (qru n (.mk c v l) k).2 = true from rfl)]
   have h1 : (qru n (.mk c v l) k).1 = n + 1 := qv (by omega) (by omega)
   rw [h1, ql3 l _ _ (by omega) (by omega), szY]
   congr 1; omega
theorem ql3 : ∀ (l : List Ty) (n k : Int), 0 ≤ n → n + szYs l ≤ 1000000 → qbs qru l n k = (n + szYs l, true)
 | [], n, k, _, _ => by rw [qbs, szYs]; congr 1; omega
 | x :: r, n, k, h0, h => by
   rw [szYs] at h
   rw [qbs, qp0 x n k h0 (by omega), if_pos rfl, ql3 r _ k (by omega) (by omega), szYs]
   congr 1; omega
end
mutual
theorem qoc : ∀ (t : Ty) (n k : Int), 0 ≤ n → 1 ≤ k → k + dpY t ≤ 1000000 → qcj qpb t n k = (max n (k + dpY t - 1), true)
 | .mk c v l, n, k, h0, h1, h => by
   rw [dpY] at h
   rw [qcj, if_pos (show (qpb n (.mk c v l) k).2 = true from rfl)]
   have h2 : (qpb n (.mk c v l) k).1 = max n k := by simp only [qpb]; split <;> omega
   rw [h2, qv (z := k + 1) (by omega) (by omega), qmf l _ _ (by omega) (by omega) (by omega), dpY]
   congr 1; split <;> omega
theorem qmf : ∀ (l : List Ty) (n k : Int), 0 ≤ n → 1 ≤ k → k + dpYs l ≤ 1000000 → qbs qpb l n k = (if dpYs l = 0 then n else max n (k + dpYs l - 1), true)
 | [], n, k, _, _, _ => by rw [qbs, dpYs, if_pos rfl]
 | x :: r, n, k, h0, h1, h => by
   rw [dpYs] at h
   have hp := qbcw x
   rw [qbs, qoc x n k h0 h1 (by omega), if_pos rfl, qmf r _ k (by omega) h1 (by omega), dpYs]
   congr 1
   rw [if_neg (by omega : ¬ max (dpY x) (dpYs r) = 0)]
   split <;> omega
end
mutual
theorem qo0 : ∀ (t : Ty) (n k : Int), 0 ≤ n → n + szY t ≤ 1000000 → 1 ≤ k → k + dpY t ≤ 1000000 →
 ((qcj qff t n k).2 = true ↔ n + szY t ≤ 4096 ∧ k + dpY t - 1 ≤ 100 ∧ qb8 t = true) ∧ ((qcj qff t n k).2 = true → (qcj qff t n k).1 = n + szY t)
 | .mk c v l, n, k, h0, h1, h2, h3 => by
   rw [szY] at h1
   rw [dpY] at h3
   have e1 : IntKind.i64.wrap (n + 1) = n + 1 := qv (by omega) (by omega)
   have e2 : IntKind.i64.wrap (k + 1) = k + 1 := qv (by omega) (by omega)
   have e3 : (qff n (.mk c v l) k).1 = n + 1 := e1
   have e4 : (qff n (.mk c v l) k).2 = true ↔ n + 1 ≤ 4096 ∧ k ≤ 100 ∧ mayW c v l.length = true := by
    simp only [qff, e1, Bool.and_eq_true, decide_eq_true_eq]; rfl
   rw [qcj, szY, dpY, qb8]
   by_cases hs : (qff n (.mk c v l) k).2 = true
   ·rw [if_pos hs, e3, e2]
    obtain ⟨q1, q2, q3⟩ := e4.1 hs
    obtain ⟨r1, r2⟩ := ql7 l (n + 1) (k + 1) (by omega) (by omega) (by omega) (by omega) (by omega) (by omega)
    refine ⟨?_, fun h => by rw [r2 h]; omega⟩
    rw [r1, q3, Bool.and_true]
    constructor
    ·rintro ⟨a1, a2, a3⟩; exact ⟨by omega, by omega, a3⟩
    ·rintro ⟨a1, a2, a3⟩; exact ⟨by omega, by omega, a3⟩
   ·rw [if_neg hs]
    refine ⟨⟨fun h => (by cases h), fun ⟨a1, a2, a3⟩ => absurd (e4.2 ⟨by omega, by omega, (by rw [Bool.and_eq_true] at a3; exact a3.2)⟩) hs⟩, fun h => by cases h⟩
theorem ql7 : ∀ (l : List Ty) (n k : Int), 0 ≤ n → n + szYs l ≤ 1000000 → 1 ≤ k → k + dpYs l ≤ 1000000 → n ≤ 4096 → k - 1 ≤ 100 →
 ((qbs qff l n k).2 = true ↔ n + szYs l ≤ 4096 ∧ k + dpYs l - 1 ≤ 100 ∧ qbk l = true) ∧ ((qbs qff l n k).2 = true → (qbs qff l n k).1 = n + szYs l)
 | [], n, k, h0, h1, h2, h3, h4, h5 => by
   rw [qbs, szYs, dpYs, qbk]
   exact ⟨⟨fun _ => ⟨by omega, by omega, rfl⟩, fun _ => rfl⟩, fun _ => by simp⟩
 | x :: r, n, k, h0, h1, h2, h3, h4, h5 => by
   rw [szYs] at h1
   rw [dpYs] at h3
   obtain ⟨q1, q2⟩ := qo0 x n k h0 (by omega) h2 (by omega)
   rw [qbs, szYs, dpYs, qbk]
   by_cases hs : (qcj qff x n k).2 = true
   ·rw [if_pos hs, q2 hs]
    obtain ⟨a1, a2, a3⟩ := q1.1 hs
    obtain ⟨r1, r2⟩ := ql7 r (n + szY x) k (by omega) (by omega) h2 (by omega) (by omega) h5
    refine ⟨?_, fun h => by rw [r2 h]; omega⟩
    rw [r1, a3, Bool.true_and]
    constructor
    ·rintro ⟨b1, b2, b3⟩; exact ⟨by omega, by omega, b3⟩
    ·rintro ⟨b1, b2, b3⟩; exact ⟨by omega, by omega, b3⟩
   ·rw [if_neg hs]
    refine ⟨⟨fun h => (by cases h), fun ⟨a1, a2, a3⟩ => absurd (q1.2 ⟨by omega, by omega, ?_⟩) hs⟩, fun h => by cases h⟩
    rw [Bool.and_eq_true] at a3
    exact a3.1
end
def qd (t : Ty) : Bool := decide (szY t ≤ 4096) && (decide (dpY t ≤ 100) && qb8 t)
theorem qys {t : Ty} (h1 : szY t ≤ 20000) (h2 : dpY t ≤ 300) : qwm t = qd t := by
 have := (qo0 t 0 1 (by omega) (by omega) (by omega) (by omega)).1
 rw [qwm, Bool.eq_iff_iff, this, qd, Bool.and_eq_true, Bool.and_eq_true, decide_eq_true_eq, decide_eq_true_eq]
 constructor
 ·rintro ⟨a1, a2, a3⟩; exact ⟨by omega, by omega, a3⟩
 ·rintro ⟨a1, a2, a3⟩; exact ⟨by omega, by omega, a3⟩
theorem qcc {t : Ty} (h1 : szY t ≤ 20000) (h2 : dpY t ≤ 300) : ql Tryz.prog 29 [encY t] (.bool (qd t)) := by
 refine qf c0bs (by simp) (by simp only [go_sem]) rfl fun hw => ?_
 have e1 := qh0 t
 have e2 := qrz t
 rw [qf2 t (by omega)] at e1
 rw [qp5 t (by omega)] at e2
 repeat' (first | refine vs_ ?_ | ((first | refine vr_ ?_ | refine qa e1 fun _ => ?_ | refine qa e2 fun _ => ?_ | refine qa (qrs t) fun _ => ?_ | (refine cs_ ?_ ?_ <;> intro hc) | refine cj_ ?_ | fail) <;> (try refine ev_ ?_)) | with_reducible exact ti_)
 all_goals
  rw [qd]
 ·rw [decide_eq_true (by omega), decide_eq_true (by omega)]; rfl
 ·rw [decide_eq_false (p := dpY t ≤ 100) (by omega), Bool.false_and, Bool.and_false]
 ·rw [decide_eq_false (p := szY t ≤ 4096) (by omega)]; rfl
theorem qc6 {t : Ty} (h1 : szY t ≤ 20000) (h2 : dpY t ≤ 300) : ql Tryz.prog 37 [encY t] (.bool (qd t)) := by
 rw [← qys h1 h2]; exact qrk t
end Go.Proofs.YtlahgbhhejkgbaaGreat
