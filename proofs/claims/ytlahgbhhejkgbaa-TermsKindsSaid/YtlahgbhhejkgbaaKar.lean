/- Texts of this proof, joined. -/
import Derived.Test.YtlahgbhhejkgbaaKaq

/- rows of integers: whether a number is there, each once -/
set_option maxRecDepth 4000
namespace Go.Proofs.Ytlahgbhhejkgbaa
open Go Go.RowKit Go.V
set_option linter.unusedVariables false
set_option linter.unusedSimpArgs false

def ints (l : List Int) : List AV := l.map (AV.int .i64)
theorem qbx (l : List Int) : (ints l).length = l.length := by simp [ints]
theorem qdl (k : Nat) (l : List Int) : AV.bds k (ints l) = true := by rw [ints, qkp]; simp [AV.bd]
theorem qjb (σ : Nat → Nat) (l : List Int) : AV.rens σ (ints l) = ints l := qo (m := 0) (fun i hi => by omega) _ (qdl 0 l)
theorem qdk {l : List Int} {i : Nat} (h : i < l.length) : (ints l).getD i .junk = .int .i64 (l.getD i 0) := by
 rw [ints, List.getD_eq_getElem?_getD, List.getElem?_map, List.getElem?_eq_getElem h, List.getD_eq_getElem?_getD, List.getElem?_eq_getElem h]; rfl
theorem qgw (l : List Int) (v : Int) : ints l ++ [.int .i64 v] = ints (l ++ [v]) := by simp [ints]
theorem qmz (a b : List Int) : ints a ++ ints b = ints (a ++ b) := by simp [ints]
theorem qmv (v : Int) : [AV.int .i64 v] = ints [v] := rfl
theorem qbz : ints [] = [] := rfl
theorem qv {l : List Int} (h : l ≠ []) : ints l ≠ [] := by cases l with | nil => exact absurd rfl h | cons _ _ => simp [ints]
attribute [go_sem] qbx qdl qjb cond_false cond_true
theorem qkz {l : List Int} {i : Nat} (h : i < l.length) : l.drop i = l.getD i 0 :: l.drop (i + 1) := by
 rw [List.drop_eq_getElem_cons h, List.getD_eq_getElem?_getD, List.getElem?_eq_getElem h]; rfl
theorem qvv {l : List Int} {i : Nat} (h : i < l.length) : l.getD i 0 ∈ l := by
 rw [List.getD_eq_getElem?_getD, List.getElem?_eq_getElem h]; exact List.getElem_mem h
theorem capI {k : Nat} (h : k ≤ 1000000000) : qch k 8 := by unfold qch; omega

def idxW (v : Int) : List Int → Int → Int
 | [], _ => -1
 | x :: r, k => if v = x then k else idxW v r (k + 1)
theorem qps (v : Int) : ∀ (l : List Int) (k : Int), 0 ≤ k → (decide (0 ≤ idxW v l k) = decide (v ∈ l))
 | [], k, h => by simp [idxW]
 | x :: r, k, h => by
   rw [idxW]
   by_cases hx : v = x
   ·simp [hx, h]
   ·rw [if_neg hx, qps v r (k + 1) (by omega)]; simp [hx]
theorem qkb (l : List Int) (v : Int) : qj Try.prog 69 [.sl 1 (ints l), .int .i64 v] (.int .i64 (idxW v l 0)) := by
 refine qd c0v (by simp) (by simp only [go_sem]) rfl fun hw => ?_
 have hl : l.length ≤ maxLen := by have := hw.1.1; rwa [qbx] at this
 repeat' (first | refine vs_ ?_ | ((first | refine vr_ ?_ | (refine cs_ ?_ ?_ <;> intro hc) | refine cj_ ?_ | simp (disch := omega) only [encs_getN, qb]) <;> (try refine ev_ ?_)) | with_reducible exact ti_)
 refine qu (S := Nat) (fun i => i ≤ l.length ∧ idxW v (l.drop i) i = idxW v l 0) (fun i => (⟨[(0, .sl 1 (ints l)), (1, .int .i64 v), (7, .int .i64 l.length), (8, .int .i64 i)], []⟩, [])) (fun i => l.length - i) ?_ fun i hi => ?_
 ·refine qn 0 [] ⟨Nat.zero_le _, rfl⟩ rfl (by simp) ?_ ?_ ?_ <;> (try refine ev_ ?_) <;> (try with_reducible exact ti_) <;> (try simp (disch := omega) only [qb, and_true, true_and])
 ·obtain ⟨hi, ha⟩ := hi
  repeat' (first | refine vs_ ?_ | ((first | refine vr_ ?_ | fail) <;> (try simp (disch := first | omega | (simp only [List.length_set, List.length_append, List.length_cons, List.length_nil]; done) | (simp only [List.length_set, List.length_append, List.length_cons, List.length_nil]; omega)) only [qdk, qb, go_sem, ↓reduceIte])) | ((first | (refine cs_ ?_ ?_ <;> intro hc) | refine cj_ ?_ | simp (disch := omega) only [encs_getN, qb]) <;> (try refine ev_ ?_)) | with_reducible exact ti_)
  ·rw [← ha, qkz (by omega), idxW, if_pos (by assumption)]
  ·refine qn (i + 1) [] ⟨⟨by omega, ?_⟩, by omega⟩ rfl (by simp) ?_ ?_ ?_ <;> (try refine ev_ ?_) <;> (try with_reducible exact ti_) <;> (try simp (disch := omega) only [qb, and_true, true_and])
   rw [← ha, qkz (l := l) (i := i) (by omega), idxW, if_neg (by assumption)]; rfl
  ·rw [← ha, List.drop_of_length_le (by omega)]; rfl
theorem qdp (l : List Int) (v : Int) : qj Try.prog 46 [.sl 1 (ints l), .int .i64 v] (.bool (decide (v ∈ l))) := by
 refine qd c0w (by simp) (by simp only [go_sem]) rfl fun hw => ?_
 repeat' (first | refine vs_ ?_ | ((first | refine vr_ ?_ | refine qa (qkb _ _) fun _ => ?_ | (refine cs_ ?_ ?_ <;> intro hc) | refine cj_ ?_ | fail) <;> (try refine ev_ ?_)) | with_reducible exact ti_)
 rw [qps v l 0 (by omega)]
theorem qjf (l : List Int) (v : Int) : qj Try.prog 50 [.sl 1 (ints l), .int .i64 v] (.bool (decide (v ∈ l))) := by
 refine qd c0x (by simp) (by simp only [go_sem]) rfl fun hw => ?_
 have hl : l.length ≤ maxLen := by have := hw.1.1; rwa [qbx] at this
 repeat' (first | refine vs_ ?_ | ((first | refine vr_ ?_ | (refine cs_ ?_ ?_ <;> intro hc) | refine cj_ ?_ | simp (disch := omega) only [encs_getN, qb]) <;> (try refine ev_ ?_)) | with_reducible exact ti_)
 refine qu (S := Nat) (fun i => i ≤ l.length ∧ decide (v ∈ l.drop i) = decide (v ∈ l)) (fun i => (⟨[(0, .sl 1 (ints l)), (1, .int .i64 v), (5, .int .i64 i)], []⟩, [])) (fun i => l.length - i) ?_ fun i hi => ?_
 ·refine qn 0 [] ⟨Nat.zero_le _, rfl⟩ rfl (by simp) ?_ ?_ ?_ <;> (try refine ev_ ?_) <;> (try with_reducible exact ti_) <;> (try simp (disch := omega) only [qb, and_true, true_and])
 ·obtain ⟨hi, ha⟩ := hi
  repeat' (first | refine vs_ ?_ | ((first | refine vr_ ?_ | fail) <;> (try simp (disch := first | omega | (simp only [List.length_set, List.length_append, List.length_cons, List.length_nil]; done) | (simp only [List.length_set, List.length_append, List.length_cons, List.length_nil]; omega)) only [qdk, qb, go_sem, ↓reduceIte])) | ((first | (refine cs_ ?_ ?_ <;> intro hc) | refine cj_ ?_ | simp (disch := omega) only [encs_getN, qb]) <;> (try refine ev_ ?_)) | with_reducible exact ti_)
  ·rename_i hc; rw [decide_eq_true (hc ▸ qvv (by omega))]
  ·refine qn (i + 1) [] ⟨⟨by omega, ?_⟩, by omega⟩ rfl (by simp) ?_ ?_ ?_ <;> (try refine ev_ ?_) <;> (try with_reducible exact ti_) <;> (try simp (disch := omega) only [qb, and_true, true_and])
   rw [← ha, qkz (l := l) (i := i) (by omega)]
   have hne : ¬ v = l.getD i 0 := fun h => absurd h.symm (by assumption)
   refine decide_eq_decide.2 ?_
   rw [List.mem_cons]
   exact ⟨.inr, fun h => h.resolve_left hne⟩
  ·rw [← ha, List.drop_of_length_le (by omega)]; simp
theorem qh5 (l m : List Int) : qj Try.prog 17 [.sl 1 (ints l), .sl 1 (ints m)] (.bool (decide (l = m))) := by
 refine qd c0y (by simp) (by simp only [go_sem]) rfl fun hw => ?_
 have hl : l.length ≤ maxLen := by have := hw.1.1; rwa [qbx] at this
 repeat' (first | refine vs_ ?_ | ((first | refine vr_ ?_ | (refine cs_ ?_ ?_ <;> intro hc) | refine cj_ ?_ | simp (disch := omega) only [encs_getN, qb]) <;> (try refine ev_ ?_)) | with_reducible exact ti_)
 ·rw [decide_eq_false]; rintro rfl; omega
 refine qu (S := Nat) (fun i => i ≤ l.length ∧ decide (l.drop i = m.drop i) = decide (l = m)) (fun i => (⟨[(0, .sl 1 (ints l)), (1, .sl 1 (ints m)), (5, .int .i64 i)], []⟩, [])) (fun i => l.length - i) ?_ fun i hi => ?_
 ·refine qn 0 [] ⟨Nat.zero_le _, rfl⟩ rfl (by simp) ?_ ?_ ?_ <;> (try refine ev_ ?_) <;> (try with_reducible exact ti_) <;> (try simp (disch := omega) only [qb, and_true, true_and])
 ·obtain ⟨hi, ha⟩ := hi
  repeat' (first | refine vs_ ?_ | ((first | refine vr_ ?_ | fail) <;> (try simp (disch := first | omega | (simp only [List.length_set, List.length_append, List.length_cons, List.length_nil]; done) | (simp only [List.length_set, List.length_append, List.length_cons, List.length_nil]; omega)) only [qdk, qb, go_sem, ↓reduceIte])) | ((first | (refine cs_ ?_ ?_ <;> intro hc) | refine cj_ ?_ | simp (disch := omega) only [encs_getN, qb]) <;> (try refine ev_ ?_)) | with_reducible exact ti_)
  ·rw [← ha, qkz (l := l) (i := i) (by omega), qkz (l := m) (i := i) (by omega), decide_eq_false]
   intro h
   exact absurd (List.cons.inj h).1 (by assumption)
  ·refine qn (i + 1) [] ⟨⟨by omega, ?_⟩, by omega⟩ rfl (by simp) ?_ ?_ ?_ <;> (try refine ev_ ?_) <;> (try with_reducible exact ti_) <;> (try simp (disch := omega) only [qb, and_true, true_and])
   rw [← ha, qkz (l := l) (i := i) (by omega), qkz (l := m) (i := i) (by omega)]
   refine decide_eq_decide.2 ⟨fun h => by rw [h]; congr 1, fun h => (List.cons.inj h).2⟩
  ·rw [← ha, List.drop_of_length_le (by omega), List.drop_of_length_le (by omega)]; rfl

/-! each once -/
theorem qd0 {H : List Ent} {n : Nat} : co H (.sl n) .nils = .sl n [] := Eq.trans rfl rfl
theorem qe7 (acc : List Int) {l : List Int} {i : Nat} (h : i < l.length) : qcs acc (l.drop i) = if l.getD i 0 ∈ acc then qcs acc (l.drop (i + 1)) else qcs (acc ++ [l.getD i 0]) (l.drop (i + 1)) := by
 rw [qkz h, qcs]
def qin (l : List Int) (x : Nat × List Int) : AF × List Ent := (⟨[(0, .sl 1 (ints l)), (3, accV 0 (ints x.2)), (4, .int .i64 x.1)], []⟩, accE 1 (ints x.2))
theorem qny (l : List Int) (hb : l.length ≤ 1000000) : qj Try.prog 47 [.sl 1 (ints l)] (.sl 1 (ints (qcs [] l))) := by
 refine qd c0z (by simp) (by simp only [go_sem]) (qdl 0 _) fun hw => ?_
 have hl : l.length ≤ maxLen := by have := hw.1.1; rwa [qbx] at this
 repeat' (first | refine vs_ ?_ | ((first | refine vr_ ?_ | (refine cs_ ?_ ?_ <;> intro hc) | refine cj_ ?_ | simp (disch := omega) only [encs_getN, qb]) <;> (try refine ev_ ?_)) | with_reducible exact ti_)
 refine qu (S := Nat × List Int) (fun x => x.1 ≤ l.length ∧ qcs x.2 (l.drop x.1) = qcs [] l ∧ x.2.length ≤ x.1) (qin l) (fun x => l.length - x.1) ?_ fun x hx => ?_
 ·refine qn (0, []) [] ⟨Nat.zero_le _, rfl, Nat.le_refl _⟩ rfl (by simp) ?_ ?_ ?_ <;> simp only [qin, qbz, qx, qy] <;> (try refine ev_ ?_) <;> (try with_reducible exact ti_) <;> (try simp (disch := omega) only [qb, and_true, true_and])
 ·obtain ⟨i, acc⟩ := x
  obtain ⟨hi, ha, hc⟩ := hx
  dsimp only at hi ha hc
  have hcap : qch (acc.length + 1) 8 := capI (by omega)
  unfold qin
  by_cases h0 : acc = []
  ·subst h0
   simp only [qbz, qx, qy]
   repeat' (first | refine vs_ ?_ | ((first | refine vr_ ?_ | fail) <;> (try simp (disch := first | omega | (simp only [List.length_set, List.length_append, List.length_cons, List.length_nil]; done) | (simp only [List.length_set, List.length_append, List.length_cons, List.length_nil]; omega)) only [qdk, qb, qd0, go_sem, ↓reduceIte])) | ((first | (refine cs_ ?_ ?_ <;> intro hc) | refine cj_ ?_ | simp (disch := omega) only [encs_getN, qb] | refine qa (qjf [] _) fun _ => ?_) <;> (try refine ev_ ?_)) | with_reducible exact ti_)
   ·refine qn (i + 1, [] ++ [l.getD i 0]) [0] ⟨⟨by dsimp only; omega, ?_, by simp⟩, by dsimp only; omega⟩ rfl (by simp) ?_ ?_ ?_ <;> simp only [qin, List.nil_append, ← qmv, qf1, qf3] <;> (try refine ev_ ?_) <;> (try with_reducible exact ti_) <;> (try simp (disch := omega) only [qb, and_true, true_and])
    rw [← ha, qe7 (i := i) _ (by omega), if_neg (by assumption)]; rfl
   ·exact absurd (by assumption : l.getD i 0 ∈ []) (by simp)
   ·rw [← ha, List.drop_of_length_le (by omega)]; rfl
  ·simp only [qbd (qv h0), qbe (qv h0)]
   repeat' (first | refine vs_ ?_ | ((first | refine vr_ ?_ | fail) <;> (try simp (disch := first | omega | (simp only [List.length_set, List.length_append, List.length_cons, List.length_nil]; done) | (simp only [List.length_set, List.length_append, List.length_cons, List.length_nil]; omega)) only [qdk, qb, go_sem, ↓reduceIte])) | ((first | (refine cs_ ?_ ?_ <;> intro hc) | refine cj_ ?_ | simp (disch := omega) only [encs_getN, qb] | refine qa (qjf acc _) fun _ => ?_) <;> (try refine ev_ ?_)) | with_reducible exact ti_)
   ·refine qn (i + 1, acc ++ [l.getD i 0]) [1] ⟨⟨by dsimp only; omega, ?_, by simp; omega⟩, by dsimp only; omega⟩ rfl (by simp) ?_ ?_ ?_ <;> simp only [qin, ← qgw, qel, qeq, qbx] <;> (try refine ev_ ?_) <;> (try with_reducible exact ti_) <;> (try simp (disch := omega) only [qb, and_true, true_and])
    ·rw [← ha, qe7 (i := i) _ (by omega), if_neg (by assumption)]
    all_goals (simp only [qgw]; exact ⟨qdl _ _, by rw [qjb]⟩)
   ·refine qn (i + 1, acc) [0] ⟨⟨by dsimp only; omega, ?_, by dsimp only; omega⟩, by dsimp only; omega⟩ rfl (by simp) ?_ ?_ ?_ <;> simp only [qin, qbd (qv h0), qbe (qv h0)] <;> (try refine ev_ ?_) <;> (try with_reducible exact ti_) <;> (try simp (disch := omega) only [qb, and_true, true_and])
    rw [← ha, qe7 (i := i) _ (by omega), if_pos (by assumption)]
   ·rw [← ha, List.drop_of_length_le (by omega)]; rfl

/-! all variables -/
theorem qou (l : List Ty) (i : Nat) (h : i < l.length) : qdc (l.take (i + 1)) = qdc (l.take i) ++ varY (l.getD i Y0) := by
 have h1 : l.take (i + 1) = l.take i ++ [l.getD i Y0] := by
  rw [List.take_add_one, List.getD_eq_getElem?_getD, List.getElem?_eq_getElem h]; rfl
 rw [h1]
 generalize l.take i = a
 generalize l.getD i Y0 = x
 induction a with
 | nil => simp [qdc]
 | cons y a ih => simp only [List.cons_append, qdc, ih, List.append_assoc]
def allE (t : Ty) (i : Nat) : List Int := (if t.con = [] then [t.var] else []) ++ qdc (t.args.take i)
theorem qxc (t : Ty) : allE t 0 = if t.con = [] then [t.var] else [] := by simp [allE, qdc]
theorem qsc {t : Ty} {i : Nat} (h : i < t.args.length) : allE t (i + 1) = allE t i ++ varY (t.args.getD i Y0) := by rw [allE, allE, qou _ _ h, List.append_assoc]
theorem qts {t : Ty} {i : Nat} (h : t.args.length ≤ i) : allE t i = varY t := by rw [allE, List.take_of_length_le h, q4z]
theorem qvu (t : Ty) (i : Nat) : (allE t i).length ≤ szY t := by
 have h1 := qj8 t.args i
 have h2 := qhn (t.args.take i)
 rw [allE, List.length_append, qmp]
 have : (if t.con = [] then [t.var] else []).length ≤ 1 := by split <;> simp
 omega
def qog (t : Ty) (x : Nat × Bool) : AF × List Ent :=
 (⟨[(1, .ptr 0 0), (3, if x.2 = true then .lit 1 (ints (allE t x.1)) else accV 1 (ints (allE t x.1))), (4, .int .i64 x.1)], []⟩, .blk (yc t) :: if x.2 = true then [] else accE 1 (ints (allE t x.1)))
set_option maxHeartbeats 2000000 in
theorem qjx : ∀ t, szY t ≤ 1000000 → qj Try.prog 48 [encY t] (.sl 1 (ints (varY t))) := by
 refine Ty.ind fun t ih hb => ?_
 refine qd c0ba (by simp) (by simp only [go_sem]) (qdl 0 _) fun hw => ?_
 have hk := qb4 hw.1
 have hsz := qmp t
 have ih' : ∀ i, i < t.args.length → qj Try.prog 48 [encY (t.args.getD i Y0)] (.sl 1 (ints (varY (t.args.getD i Y0)))) := fun i hi => ih _ (qbw hi) (by have := qq0 (qbw hi); omega)
 repeat' (first | refine vs_ ?_ | ((first | refine vr_ ?_ | (refine cs_ ?_ ?_ <;> intro hc) | refine cj_ ?_ | simp (disch := omega) only [encs_getN, qb]) <;> (try refine ev_ ?_)) | with_reducible exact ti_)
 all_goals refine qu (S := Nat × Bool) (fun x => x.1 ≤ t.args.length) (qog t) (fun x => t.args.length - x.1) ?_ fun x hx => ?_
 case' refine_1.refine_1 => refine qn (0, true) [0] (Nat.zero_le _) rfl (by simp) ?_ ?_ ?_ <;> simp only [qog, qxc, if_pos (by assumption : t.con = []), if_true, qmv] <;> (try refine ev_ ?_) <;> (try with_reducible exact ti_) <;> (try simp (disch := omega) only [qb, and_true, true_and])
 case' refine_2.refine_1 => refine qn (0, false) [0] (Nat.zero_le _) rfl (by simp) ?_ ?_ ?_ <;> simp only [qog, qxc, if_neg (by assumption : ¬ t.con = []), if_false, qbz, qx, qy, Bool.false_eq_true] <;> (try refine ev_ ?_) <;> (try with_reducible exact ti_) <;> (try simp (disch := omega) only [qb, and_true, true_and])
 all_goals
  obtain ⟨i, fl⟩ := x
  dsimp only at hx
  by_cases hi : i < t.args.length
  ·have hn := qsc hi
   have hl1 := qvu t (i + 1)
   have hl2 := congrArg List.length hn
   rw [List.length_append] at hl2
   have hcap : qch ((allE t i).length + (varY (t.args.getD i Y0)).length) 8 = True := eq_true (capI (by omega))
   have hcap1 : qch (varY (t.args.getD i Y0)).length 8 = True := eq_true (capI (by omega))
   by_cases hy : varY (t.args.getD i Y0) = []
   ·have hy0 : (varY (t.args.getD i Y0)).length = 0 := by rw [hy]; rfl
    have hn' : allE t (i + 1) = allE t i := by rw [hn, hy, List.append_nil]
    unfold qog
    cases fl with
    | true =>
      simp only [if_true]
      repeat' (first | refine vs_ ?_ | ((first | refine vr_ ?_ | fail) <;> (try simp (disch := first | omega | (simp only [List.length_set, List.length_append, List.length_cons, List.length_nil]; done) | (simp only [List.length_set, List.length_append, List.length_cons, List.length_nil]; omega)) only [qm, qb, go_sem, ↓reduceIte])) | ((first | simp (disch := omega) only [hy0] | simp (disch := omega) only [hcap] | simp (disch := omega) only [hcap1] | (refine cs_ ?_ ?_ <;> intro hc) | refine cj_ ?_ | simp (disch := omega) only [encs_getN, qb] | refine qa (ih' i hi) fun _ => ?_) <;> (try refine ev_ ?_)) | with_reducible exact ti_)
      ·refine qn (i + 1, true) [0] ⟨by dsimp only; omega, by dsimp only; omega⟩ rfl (by simp) ?_ ?_ ?_ <;> simp only [hn', if_true] <;> (try refine ev_ ?_) <;> (try with_reducible exact ti_) <;> (try simp (disch := omega) only [qb, and_true, true_and])
      ·omega
    | false =>
      simp only [Bool.false_eq_true, if_false]
      by_cases h0 : allE t i = []
      ·simp only [h0, qbz, qx, qy]
       repeat' (first | refine vs_ ?_ | ((first | refine vr_ ?_ | fail) <;> (try simp (disch := first | omega | (simp only [List.length_set, List.length_append, List.length_cons, List.length_nil]; done) | (simp only [List.length_set, List.length_append, List.length_cons, List.length_nil]; omega)) only [qm, qb, go_sem, ↓reduceIte])) | ((first | simp (disch := omega) only [hy0] | simp (disch := omega) only [hcap] | simp (disch := omega) only [hcap1] | (refine cs_ ?_ ?_ <;> intro hc) | refine cj_ ?_ | simp (disch := omega) only [encs_getN, qb] | refine qa (ih' i hi) fun _ => ?_) <;> (try refine ev_ ?_)) | with_reducible exact ti_)
       ·refine qn (i + 1, false) [0] ⟨by dsimp only; omega, by dsimp only; omega⟩ rfl (by simp) ?_ ?_ ?_ <;> simp only [hn', h0, qbz, qx, qy, Bool.false_eq_true, if_false] <;> (try refine ev_ ?_) <;> (try with_reducible exact ti_) <;> (try simp (disch := omega) only [qb, and_true, true_and])
       ·omega
      ·simp only [qbd (qv h0), qbe (qv h0)]
       repeat' (first | refine vs_ ?_ | ((first | refine vr_ ?_ | fail) <;> (try simp (disch := first | omega | (simp only [List.length_set, List.length_append, List.length_cons, List.length_nil]; done) | (simp only [List.length_set, List.length_append, List.length_cons, List.length_nil]; omega)) only [qm, qb, go_sem, ↓reduceIte])) | ((first | simp (disch := omega) only [hcap] | (refine cs_ ?_ ?_ <;> intro hc) | refine cj_ ?_ | simp (disch := omega) only [encs_getN, qb] | refine qa (ih' i hi) fun _ => ?_) <;> (try refine ev_ ?_)) | with_reducible exact ti_)
       ·refine qn (i + 1, false) [0, 2] ⟨by dsimp only; omega, by dsimp only; omega⟩ rfl (by simp) ?_ ?_ ?_ <;> simp only [hn', qbd (qv h0), qbe (qv h0), Bool.false_eq_true, if_false, hy, qbz, List.append_nil, List.length_nil, Nat.add_zero, qbx] <;> (try refine ev_ ?_) <;> (try with_reducible exact ti_) <;> (try simp (disch := omega) only [qb, and_true, true_and])
       ·omega
   ·have hy0 : ((varY (t.args.getD i Y0)).length = 0) = False := eq_false fun h => hy (List.length_eq_zero_iff.1 h)
    have hne : allE t (i + 1) ≠ [] := fun h => hy (List.append_eq_nil_iff.1 (hn.symm.trans h)).2
    unfold qog
    cases fl with
    | true =>
      simp only [if_true]
      repeat' (first | refine vs_ ?_ | ((first | refine vr_ ?_ | fail) <;> (try simp (disch := first | omega | (simp only [List.length_set, List.length_append, List.length_cons, List.length_nil]; done) | (simp only [List.length_set, List.length_append, List.length_cons, List.length_nil]; omega)) only [qm, qb, go_sem, ↓reduceIte])) | ((first | simp (disch := omega) only [hy0] | simp (disch := omega) only [hcap] | simp (disch := omega) only [hcap1] | (refine cs_ ?_ ?_ <;> intro hc) | refine cj_ ?_ | simp (disch := omega) only [encs_getN, qb] | refine qa (ih' i hi) fun _ => ?_) <;> (try refine ev_ ?_)) | with_reducible exact ti_)
      ·refine qn (i + 1, false) [0, 1] ⟨by dsimp only; omega, by dsimp only; omega⟩ rfl (by simp) ?_ ?_ ?_ <;> simp only [qbd (qv hne), qbe (qv hne), qmz, ← hn, ← hl2, Bool.false_eq_true, if_false, qbx] <;> (try refine ev_ ?_) <;> (try with_reducible exact ti_) <;> (try simp (disch := omega) only [qb, and_true, true_and])
      ·omega
    | false =>
      simp only [Bool.false_eq_true, if_false]
      by_cases h0 : allE t i = []
      ·have hn2 : allE t (i + 1) = varY (t.args.getD i Y0) := by rw [hn, h0, List.nil_append]
       simp only [h0, qbz, qx, qy]
       repeat' (first | refine vs_ ?_ | ((first | refine vr_ ?_ | fail) <;> (try simp (disch := first | omega | (simp only [List.length_set, List.length_append, List.length_cons, List.length_nil]; done) | (simp only [List.length_set, List.length_append, List.length_cons, List.length_nil]; omega)) only [qm, qb, go_sem, ↓reduceIte])) | ((first | simp (disch := omega) only [hy0] | simp (disch := omega) only [hcap] | simp (disch := omega) only [hcap1] | (refine cs_ ?_ ?_ <;> intro hc) | refine cj_ ?_ | simp (disch := omega) only [encs_getN, qb] | refine qa (ih' i hi) fun _ => ?_) <;> (try refine ev_ ?_)) | with_reducible exact ti_)
       ·refine qn (i + 1, false) [0, 1] ⟨by dsimp only; omega, by dsimp only; omega⟩ rfl (by simp) ?_ ?_ ?_ <;> simp only [qbd (qv hne), qbe (qv hne), ← hn2, Bool.false_eq_true, if_false, qbx] <;> (try refine ev_ ?_) <;> (try with_reducible exact ti_) <;> (try simp (disch := omega) only [qb, and_true, true_and])
       ·omega
      ·simp only [qbd (qv h0), qbe (qv h0)]
       repeat' (first | refine vs_ ?_ | ((first | refine vr_ ?_ | fail) <;> (try simp (disch := first | omega | (simp only [List.length_set, List.length_append, List.length_cons, List.length_nil]; done) | (simp only [List.length_set, List.length_append, List.length_cons, List.length_nil]; omega)) only [qm, qb, go_sem, ↓reduceIte])) | ((first | simp (disch := omega) only [hcap] | (refine cs_ ?_ ?_ <;> intro hc) | refine cj_ ?_ | simp (disch := omega) only [encs_getN, qb] | refine qa (ih' i hi) fun _ => ?_) <;> (try refine ev_ ?_)) | with_reducible exact ti_)
       ·refine qn (i + 1, false) [0, 2] ⟨by dsimp only; omega, by dsimp only; omega⟩ rfl (by simp) ?_ ?_ ?_ <;> simp only [qbd (qv hne), qbe (qv hne), qmz, ← hn, ← hl2, Bool.false_eq_true, if_false, qbx] <;> (try refine ev_ ?_) <;> (try with_reducible exact ti_) <;> (try simp (disch := omega) only [qb, and_true, true_and])
       ·omega
  ·have hend := qts (t := t) (i := i) (by omega)
   unfold qog
   cases fl with
   | true =>
     simp only [if_true, hend]
     repeat' (first | refine vs_ ?_ | ((first | refine vr_ ?_ | (refine cs_ ?_ ?_ <;> intro hc) | refine cj_ ?_ | simp (disch := omega) only [encs_getN, qb]) <;> (try refine ev_ ?_)) | with_reducible exact ti_)
     all_goals omega
   | false =>
     simp only [Bool.false_eq_true, if_false, hend]
     by_cases h0 : varY t = []
     ·simp only [h0, qbz, qx, qy]
      repeat' (first | refine vs_ ?_ | ((first | refine vr_ ?_ | (refine cs_ ?_ ?_ <;> intro hc) | refine cj_ ?_ | simp (disch := omega) only [encs_getN, qb]) <;> (try refine ev_ ?_)) | with_reducible exact ti_)
      all_goals omega
     ·simp only [qbd (qv h0), qbe (qv h0)]
      repeat' (first | refine vs_ ?_ | ((first | refine vr_ ?_ | (refine cs_ ?_ ?_ <;> intro hc) | refine cj_ ?_ | simp (disch := omega) only [encs_getN, qb]) <;> (try refine ev_ ?_)) | with_reducible exact ti_)
      all_goals omega
theorem qod (t : Ty) (hb : szY t ≤ 1000000) : qj Try.prog 19 [encY t] (.sl 1 (ints (qcs [] (varY t)))) := by
 refine qd c0bb (by simp) (by simp only [go_sem]) (qdl 0 _) fun hw => ?_
 have h1 := qjx t hb
 have h2 := qny (varY t) (by have := qmc t; omega)
 repeat' (first | refine vs_ ?_ | ((first | refine vr_ ?_ | refine qa h1 fun _ => ?_ | refine qa h2 fun _ => ?_ | (refine cs_ ?_ ?_ <;> intro hc) | refine cj_ ?_ | fail) <;> (try refine ev_ ?_)) | with_reducible exact ti_)
theorem qpv (t : Ty) (v : Int) (hb : szY t ≤ 1000000) : qj Try.prog 21 [encY t, .int .i64 v] (.bool (decide (v ∈ varY t))) := by
 refine qd c0bc (by simp) (by simp only [go_sem]) rfl fun hw => ?_
 have h1 := qjx t hb
 repeat' (first | refine vs_ ?_ | ((first | refine vr_ ?_ | refine qa h1 fun _ => ?_ | refine qa (qjf _ _) fun _ => ?_ | (refine cs_ ?_ ?_ <;> intro hc) | refine cj_ ?_ | fail) <;> (try refine ev_ ?_)) | with_reducible exact ti_)

/-! the program's: a walk that gathers -/
def outE (l : List Int) : Ent := bun (.blk [accV 1 (ints l)] :: accE 1 (ints l))
def outN (l : List Int) (t : Ty) : List Int := if t.con = [] then (if t.var ∈ l then l else l ++ [t.var]) else l
theorem qd1 {H' : List Ent} {l : List Int} {r : AV} (k : Nat) (h0 : l ≠ []) (hk : 0 < k) (hl : k < H'.length) (e0 : ent H' 0 = .blk [.row k l.length]) (e1 : ent H' k = .app 1 (ints l)) (hr : r.bd 1 = true) :
 qkx (fun H' o => H' = [outE l] ∧ o = .val r) H' (.val r) := by
 refine ⟨[.blk [.row 1 l.length], .app 1 (ints l)], [0, k], rfl, by simp, by simp; omega, ?_, hr, ?_, rfl⟩
 ·simp only [qdg, List.length_cons, List.length_nil, Ent.bd, AV.bds, AV.bd, Ent.ren, AV.rens, AV.ren, e0, e1, qdl, qjb]
  exact ⟨⟨by omega, rfl, rfl⟩, ⟨hl, trivial, trivial⟩, trivial⟩
 ·rw [outE, qbd (qv h0), qbe (qv h0), qbx]
theorem qnk {H' : List Ent} {r : AV} (hl : 0 < H'.length) (e0 : ent H' 0 = .blk [.nils]) (hr : r.bd 1 = true) :
 qkx (fun H' o => H' = [outE []] ∧ o = .val r) H' (.val r) := by
 refine ⟨[.blk [.nils]], [0], rfl, by simp, by simp, ?_, hr, rfl, rfl⟩
 exact ⟨⟨hl, rfl, by rw [e0]; rfl⟩, trivial⟩
theorem qbdh (l : List Int) (t : Ty) (k : Int) (hb : l.length ≤ 1000000) : VM Try.prog 45 (outE l) (outE (outN l t)) [encY t, .int .i64 k, .ptr 0 0] (.bool true) := by
 refine q9u ?_ (by simp [AV.bds, AV.bd, qcl])
 have hcap : qch (l.length + 1) 8 = True := eq_true (capI (by omega))
 refine qkj c0bd (by simp) ?_
 by_cases h0 : l = []
 ·subst h0
  simp only [qbz, qx, qy]
  repeat' (first | refine vs_ ?_ | ((first | refine vr_ ?_ | fail) <;> (try simp only [qd0, go_sem, ↓reduceIte])) | ((first | simp (disch := omega) only [hcap] | (refine cs_ ?_ ?_ <;> intro hc) | refine cj_ ?_ | fail | refine qa (qdp [] _) fun _ => ?_) <;> (try refine ev_ ?_)) | with_reducible exact ti_)
  ·have : outN [] t = [t.var] := by rw [outN, if_pos (by assumption), if_neg (by assumption)]; rfl
   rw [this]
   exact qd1 (l := [t.var]) 2 (by simp) (by omega) (by simp) rfl rfl rfl
  ·exact absurd (by assumption : t.var ∈ []) (by simp)
  ·have : outN [] t = [] := by rw [outN, if_neg (by assumption)]
   rw [this]
   exact qnk (by simp) rfl rfl
 ·simp only [qbd (qv h0), qbe (qv h0)]
  repeat' (first | refine vs_ ?_ | ((first | refine vr_ ?_ | refine qa (qdp l _) fun _ => ?_ | simp (disch := omega) only [hcap] | (refine cs_ ?_ ?_ <;> intro hc) | refine cj_ ?_ | fail) <;> (try refine ev_ ?_)) | with_reducible exact ti_)
  ·have : outN l t = l ++ [t.var] := by rw [outN, if_pos (by assumption), if_neg (by assumption)]
   rw [this, qgw]
   exact qd1 (l := l ++ [t.var]) 3 (by simp) (by omega) (by simp) (by simp [ent]) rfl rfl
  ·have : outN l t = l := by rw [outN, if_pos (by assumption), if_pos (by assumption)]
   rw [this]
   exact qd1 (l := l) 1 h0 (by omega) (by simp) rfl rfl rfl
  ·have : outN l t = l := by rw [outN, if_neg (by assumption)]
   rw [this]
   exact qd1 (l := l) 1 h0 (by omega) (by simp) rfl rfl rfl
def qrm (l : List Int) (t : Ty) (_ : Int) : List Int × Bool := (outN l t, true)
theorem qqh (l : List Int) (c : List UInt8) (v : Int) (a : List Ty) : outN l (.mk c v a) = qcs l (if c = [] then [v] else []) := by
 unfold outN
 by_cases hcn : c = []
 ·rw [if_pos (show (Ty.mk c v a).con = [] from hcn), if_pos hcn]; rfl
 ·rw [if_neg (show ¬ (Ty.mk c v a).con = [] from hcn), if_neg hcn]; rfl
mutual
theorem qbbr : ∀ (t : Ty) (l : List Int) (k : Int), qbl qrm t l k = (qcs l (varY t), true)
 | .mk c v a, l, k => by
   rw [qbl, if_pos (show (qrm l (.mk c v a) k).2 = true from rfl), qw9, varY, qjz]
   congr 2
   exact qqh l c v a
theorem qw9 : ∀ (a : List Ty) (l : List Int) (k : Int), qz qrm a l k = (qcs l (qdc a), true)
 | [], l, k => by rw [qz, qdc]; rfl
 | x :: r, l, k => by
   rw [qz, qbbr x, if_pos rfl, qw9 r, qdc, qjz]
end
theorem qsu (l : List Int) (t : Ty) : (outN l t).length ≤ l.length + 1 := by
 rw [outN]; split
 ·split
  ·omega
  ·simp
 ·omega
theorem qid (t : Ty) (hb : szY t ≤ 1000000) : qj Try.prog 18 [encY t] (.sl 1 (ints (qcs [] (varY t)))) := by
 refine qd c0be (by simp) (by simp only [go_sem]) (qdl 0 _) fun hw => ?_
 have hwalk := qfi (st := outE) (step := qrm) (f := 45) (ok := fun n l => l.length + n ≤ 1000000) (fun _ => rfl) (fun n l t k h => by have := qsu l t; simp only [qrm]; omega) (fun n l h => by omega) (fun l t k h => qbdh l t k (by omega)) t [] 1 (by simpa using hb)
 rw [qbbr] at hwalk
 unfold k0be
 refine qby (qew ?_)
 (refine ev_ ?_; (try with_reducible exact ti_))
 refine qby (qew ?_)
 (refine ev_ ?_; (try with_reducible exact ti_))
 refine q06 1 rfl rfl ?_
 refine qby (qew ?_)
 simp only [List.set_cons_succ, List.set_cons_zero]
 (refine ev_ ?_; (try with_reducible exact ti_))
 refine qbs 1 hwalk ?_
 simp only [List.set_cons_succ, List.set_cons_zero]
 (refine ev_ ?_; (try with_reducible exact ti_))
 refine q0b 1 rfl (by simp) ?_
 simp only [List.set_cons_succ, List.set_cons_zero]
 by_cases h0 : qcs [] (varY t) = []
 ·simp only [h0, qbz, qx, qy]
  repeat' (first | refine vs_ ?_ | ((first | refine vr_ ?_ | (refine cs_ ?_ ?_ <;> intro hc) | refine cj_ ?_ | fail) <;> (try refine ev_ ?_)) | with_reducible exact ti_)
 ·simp only [qbd (qv h0), qbe (qv h0)]
  repeat' (first | refine vs_ ?_ | ((first | refine vr_ ?_ | (refine cs_ ?_ ?_ <;> intro hc) | refine cj_ ?_ | fail) <;> (try refine ev_ ?_)) | with_reducible exact ti_)
set_option maxRecDepth 4000

/-! the program's -/
abbrev numE (n : Int) : Ent := .blk [.int .i64 n]
def qdw (n : Int) (t : Ty) (k : Int) : Int × Bool := (IntKind.i64.wrap (n + 1), decide (IntKind.i64.wrap (n + 1) ≤ 4096) && (decide (k ≤ 100) && mayY t))
theorem qbbc (n : Int) (t : Ty) (k : Int) : VM Try.prog 39 (numE n) (numE (qdw n t k).1) [encY t, .int .i64 k, .ptr 0 0] (.bool (qdw n t k).2) := by
 refine qgb (by kernel_rfl) fun hw => ?_
 have hk := qb4 hw.1
 refine qbh c0j 1 (by simp) (by simp) ?_
 repeat' (first | refine vs_ ?_ | ((first | refine vr_ ?_ | refine qa (qek _) fun _ => ?_ | refine qa (qty _ _ _) fun _ => ?_ | (refine cs_ ?_ ?_ <;> intro hc) | refine cj_ ?_ | simp (disch := omega) only [encs_getN, qb]) <;> (try refine ev_ ?_)) | with_reducible exact ti_)
 ·simp_all [qdw]
 ·exact ⟨rfl, by simp only [qdw, *, decide_true, decide_false, Bool.true_and, Bool.false_and]⟩
 ·exact ⟨rfl, by simp only [qdw, *, decide_true, decide_false, Bool.true_and, Bool.false_and]⟩
def ql1 (n : Int) (_ : Ty) (_ : Int) : Int × Bool := (IntKind.i64.wrap (n + 1), true)
theorem qbc9 (n : Int) (t : Ty) (k : Int) : VM Try.prog 43 (numE n) (numE (ql1 n t k).1) [encY t, .int .i64 k, .ptr 0 0] (.bool (ql1 n t k).2) := by
 refine qbh c0k 1 (by simp) (by simp) ?_
 repeat' (first | refine vs_ ?_ | ((first | refine vr_ ?_ | (refine cs_ ?_ ?_ <;> intro hc) | refine cj_ ?_ | simp (disch := omega) only [encs_getN, qb]) <;> (try refine ev_ ?_)) | with_reducible exact ti_)
 exact ⟨rfl, rfl⟩
def qjp (n : Int) (_ : Ty) (k : Int) : Int × Bool := (if k > n then k else n, true)
theorem q8n (n : Int) (t : Ty) (k : Int) : VM Try.prog 44 (numE n) (numE (qjp n t k).1) [encY t, .int .i64 k, .ptr 0 0] (.bool (qjp n t k).2) := by
 refine qbh c0l 1 (by simp) (by simp) ?_
 repeat' (first | refine vs_ ?_ | ((first | refine vr_ ?_ | (refine cs_ ?_ ?_ <;> intro hc) | refine cj_ ?_ | fail) <;> (try refine ev_ ?_)) | with_reducible exact ti_)
 exact ⟨rfl, rfl⟩
theorem qjn {f : FuncId} {step : Int → Ty → Int → Int × Bool} (h : ∀ n t k, VM Try.prog f (numE n) (numE (step n t k).1) [encY t, .int .i64 k, .ptr 0 0] (.bool (step n t k).2)) (t : Ty) (n k : Int) :
 VM Try.prog 38 (numE n) (numE (qbl step t n k).1) [encY t, .int .i64 k, .fn f [] [.ptr 0 0]] (.bool (qbl step t n k).2) :=
 qfi (st := numE) (ok := fun _ _ => True) (fun _ => rfl) (fun _ _ _ _ _ => trivial) (fun _ _ _ => trivial) (fun n t k _ => h n t k) t n k trivial
def qr8 (t : Ty) : Bool := (qbl qdw t 0 1).2
theorem qk9 (t : Ty) : qj Try.prog 11 [encY t] (.bool (qr8 t)) := by
 refine qd c0m (by simp) (by simp only [go_sem]) rfl fun hw => ?_
 repeat' (first | refine vs_ ?_ | ((first | refine vr_ ?_ | refine qbs 1 (qjn qbbc t 0 1) ?_ | (refine cs_ ?_ ?_ <;> intro hc) | refine cj_ ?_ | fail) <;> (try refine ev_ ?_)) | with_reducible exact ti_)
 rfl
theorem qig (t : Ty) : qj Try.prog 13 [encY t] (.int .i64 (qbl ql1 t 0 1).1) := by
 refine qd c0n (by simp) (by simp only [go_sem]) rfl fun hw => ?_
 repeat' (first | refine vs_ ?_ | ((first | refine vr_ ?_ | refine qbs 1 (qjn qbc9 t 0 1) ?_ | (refine cs_ ?_ ?_ <;> intro hc) | refine cj_ ?_ | fail) <;> (try refine ev_ ?_)) | with_reducible exact ti_)
theorem qhb (t : Ty) : qj Try.prog 15 [encY t] (.int .i64 (qbl qjp t 0 1).1) := by
 refine qd c0o (by simp) (by simp only [go_sem]) rfl fun hw => ?_
 repeat' (first | refine vs_ ?_ | ((first | refine vr_ ?_ | refine qbs 1 (qjn q8n t 0 1) ?_ | (refine cs_ ?_ ?_ <;> intro hc) | refine cj_ ?_ | fail) <;> (try refine ev_ ?_)) | with_reducible exact ti_)

/-! the references -/
mutual
def qfm : Ty → Int
 | .mk _ _ l => qdn 1 l
def qdn : Int → List Ty → Int
 | a, [] => a
 | a, x :: r => qdn (IntKind.i64.wrap (a + qfm x)) r
end
theorem qrc (t : Ty) : qfm t = qdn 1 t.args := by cases t; rw [qfm]; rfl
theorem qh0 : ∀ t, qj Try.prog 14 [encY t] (.int .i64 (qfm t)) := by
 refine Ty.ind fun t ih => ?_
 refine qd c0p (by simp) (by simp only [go_sem]) rfl fun hw => ?_
 have hk := qb4 hw.1
 repeat' (first | refine vs_ ?_ | ((first | refine vr_ ?_ | (refine cs_ ?_ ?_ <;> intro hc) | refine cj_ ?_ | simp (disch := omega) only [encs_getN, qb]) <;> (try refine ev_ ?_)) | with_reducible exact ti_)
 refine qu (S := Nat × Int) (fun s => s.1 ≤ t.args.length ∧ qdn s.2 (t.args.drop s.1) = qfm t) (fun s => (⟨[(1, .ptr 0 0), (3, .int .i64 s.2), (4, .int .i64 s.1)], []⟩, [.blk (yc t)])) (fun s => t.args.length - s.1) ?_ fun s hs => ?_
 ·refine qn (0, 1) [0] ⟨Nat.zero_le _, (qrc t).symm⟩ rfl (by simp) ?_ ?_ ?_ <;> (try refine ev_ ?_) <;> (try with_reducible exact ti_) <;> (try simp (disch := omega) only [qb, and_true, true_and])
 ·obtain ⟨i, a⟩ := s
  obtain ⟨hi, ha⟩ := hs
  dsimp only at hi ha
  repeat' (first | refine vs_ ?_ | ((first | refine vr_ ?_ | fail) <;> (try simp (disch := first | omega | (simp only [List.length_set, List.length_append, List.length_cons, List.length_nil]; done) | (simp only [List.length_set, List.length_append, List.length_cons, List.length_nil]; omega)) only [qm, qb, go_sem, ↓reduceIte])) | ((first | (refine cs_ ?_ ?_ <;> intro hc) | refine cj_ ?_ | simp (disch := omega) only [encs_getN, qb] | refine qa (ih _ (qbw (by omega))) fun _ => ?_) <;> (try refine ev_ ?_)) | with_reducible exact ti_)
  ·refine qn (i + 1, IntKind.i64.wrap (a + qfm (t.args.getD i Y0))) [0] ⟨⟨by dsimp only; omega, ?_⟩, by dsimp only; omega⟩ rfl (by simp) ?_ ?_ ?_ <;> (try refine ev_ ?_) <;> (try with_reducible exact ti_) <;> (try simp (disch := omega) only [qb, and_true, true_and])
   rw [← ha, qhu (l := t.args) (i := i) (by omega), qdn]
  ·rw [← ha, List.drop_of_length_le (by omega)]; rfl
mutual
def qiv : Ty → Int
 | .mk _ _ l => IntKind.i64.wrap (qef 0 l + 1)
def qef : Int → List Ty → Int
 | a, [] => a
 | a, x :: r => qef (if qiv x > a then qiv x else a) r
end
theorem quj (t : Ty) : qiv t = IntKind.i64.wrap (qef 0 t.args + 1) := by cases t; rw [qiv]; rfl
theorem qf4 : ∀ t, qj Try.prog 16 [encY t] (.int .i64 (qiv t)) := by
 refine Ty.ind fun t ih => ?_
 refine qd c0q (by simp) (by simp only [go_sem]) rfl fun hw => ?_
 have hk := qb4 hw.1
 repeat' (first | refine vs_ ?_ | ((first | refine vr_ ?_ | (refine cs_ ?_ ?_ <;> intro hc) | refine cj_ ?_ | simp (disch := omega) only [encs_getN, qb]) <;> (try refine ev_ ?_)) | with_reducible exact ti_)
 refine qu (S := Nat × Int) (fun s => s.1 ≤ t.args.length ∧ qef s.2 (t.args.drop s.1) = qef 0 t.args) (fun s => (⟨[(1, .ptr 0 0), (3, .int .i64 s.2), (4, .int .i64 s.1)], []⟩, [.blk (yc t)])) (fun s => t.args.length - s.1) ?_ fun s hs => ?_
 ·refine qn (0, 0) [0] ⟨Nat.zero_le _, rfl⟩ rfl (by simp) ?_ ?_ ?_ <;> (try refine ev_ ?_) <;> (try with_reducible exact ti_) <;> (try simp (disch := omega) only [qb, and_true, true_and])
 ·obtain ⟨i, a⟩ := s
  obtain ⟨hi, ha⟩ := hs
  dsimp only at hi ha
  repeat' (first | refine vs_ ?_ | ((first | refine vr_ ?_ | fail) <;> (try simp (disch := first | omega | (simp only [List.length_set, List.length_append, List.length_cons, List.length_nil]; done) | (simp only [List.length_set, List.length_append, List.length_cons, List.length_nil]; omega)) only [qm, qb, go_sem, ↓reduceIte])) | ((first | (refine cs_ ?_ ?_ <;> intro hc) | refine cj_ ?_ | simp (disch := omega) only [encs_getN, qb] | refine qa (ih _ (qbw (by omega))) fun _ => ?_) <;> (try refine ev_ ?_)) | with_reducible exact ti_)
  ·refine qn (i + 1, if qiv (t.args.getD i Y0) > a then qiv (t.args.getD i Y0) else a) [0] ⟨⟨by dsimp only; omega, ?_⟩, by dsimp only; omega⟩ rfl (by simp) ?_ ?_ ?_ <;> (try refine ev_ ?_) <;> (try with_reducible exact ti_) <;> (try simp (disch := omega) only [qb, and_true, true_and])
   rw [← ha, qhu (l := t.args) (i := i) (by omega), qef]
  ·rw [quj, ← ha, List.drop_of_length_le (by omega)]; rfl
mutual
def qcm : Ty → Bool
 | .mk c v l => qbo l && mayW c v l.length
def qbo : List Ty → Bool
 | [] => true
 | x :: r => qcm x && qbo r
end
theorem qg0 (t : Ty) : qcm t = (qbo t.args && mayY t) := by cases t; rw [qcm]; rfl
theorem qfo {l : List Ty} {i : Nat} (h : i < l.length) : qbo (l.drop i) = (qcm (l.getD i Y0) && qbo (l.drop (i + 1))) := by rw [qhu h, qbo]
theorem qls : ∀ t, qj Try.prog 42 [encY t] (.bool (qcm t)) := by
 refine Ty.ind fun t ih => ?_
 refine qd c0r (by simp) (by simp only [go_sem]) rfl fun hw => ?_
 have hk := qb4 hw.1
 repeat' (first | refine vs_ ?_ | ((first | refine vr_ ?_ | (refine cs_ ?_ ?_ <;> intro hc) | refine cj_ ?_ | simp (disch := omega) only [encs_getN, qb]) <;> (try refine ev_ ?_)) | with_reducible exact ti_)
 refine qu (S := Nat) (fun i => i ≤ t.args.length ∧ qbo (t.args.drop i) = qbo t.args) (fun i => (⟨[(1, .ptr 0 0), (3, .int .i64 i)], []⟩, [.blk (yc t)])) (fun i => t.args.length - i) ?_ fun i hi => ?_
 ·refine qn 0 [0] ⟨Nat.zero_le _, rfl⟩ rfl (by simp) ?_ ?_ ?_ <;> (try refine ev_ ?_) <;> (try with_reducible exact ti_) <;> (try simp (disch := omega) only [qb, and_true, true_and])
 ·obtain ⟨hi, ha⟩ := hi
  rw [qg0]
  repeat' (first | refine vs_ ?_ | ((first | refine vr_ ?_ | fail) <;> (try simp (disch := first | omega | (simp only [List.length_set, List.length_append, List.length_cons, List.length_nil]; done) | (simp only [List.length_set, List.length_append, List.length_cons, List.length_nil]; omega)) only [qm, qb, go_sem, ↓reduceIte])) | ((first | (refine cs_ ?_ ?_ <;> intro hc) | refine cj_ ?_ | simp (disch := omega) only [encs_getN, qb] | refine qa (ih _ (qbw (by omega))) fun _ => ?_ | refine qa (qk4 _) fun _ => ?_ | refine qa (qqs _) fun _ => ?_) <;> (try refine ev_ ?_)) | with_reducible exact ti_)
  ·have : qbo t.args = false := by rw [← ha, qfo (by omega), hc]; rfl
   rw [this]; rfl
  ·refine qn (i + 1) [0] ⟨⟨by omega, ?_⟩, by omega⟩ rfl (by simp) ?_ ?_ ?_ <;> (try refine ev_ ?_) <;> (try with_reducible exact ti_) <;> (try simp (disch := omega) only [qb, and_true, true_and])
   rw [← ha, qfo (i := i) (by omega), hc, Bool.true_and]
  all_goals
   have hs : qbo t.args = true := by rw [← ha, List.drop_of_length_le (by omega)]; rfl
   rw [hs, Bool.true_and, mayY, mayW]
   simp only [arrW, *, if_true, if_false, decide_true, decide_false, Bool.and_true, Bool.and_false, Bool.false_eq_true]
   try rfl
/-! Few -/
mutual
def cntY : Ty → Int → Int → Int
 | .mk _ _ l, k, d => if d < 1 then -1 else qc7 l (IntKind.i64.wrap (k - 1)) d
def qc7 : List Ty → Int → Int → Int
 | [], a, _ => a
 | x :: r, a, d => if 0 ≤ a then qc7 r (cntY x a (IntKind.i64.wrap (d - 1))) d else a
end
theorem qq9 (t : Ty) (k d : Int) : cntY t k d = if d < 1 then -1 else qc7 t.args (IntKind.i64.wrap (k - 1)) d := by cases t; rw [cntY]; rfl
theorem qe2 {a : Int} (h : a < 0) (l : List Ty) (d : Int) : qc7 l a d = a := by
 cases l with
 | nil => rw [qc7]
 | cons x r => rw [qc7, if_neg (by omega)]
theorem q25 : ∀ t k d, qj Try.prog 37 [encY t, .int .i64 k, .int .i64 d] (.int .i64 (cntY t k d)) := by
 refine Ty.ind fun t ih k d => ?_
 refine qd c0s (by simp) (by simp only [go_sem]) rfl fun hw => ?_
 have hk := qb4 hw.1
 rw [qq9]
 repeat' (first | refine vs_ ?_ | ((first | refine vr_ ?_ | (refine cs_ ?_ ?_ <;> intro hc) | refine cj_ ?_ | simp (disch := omega) only [encs_getN, qb]) <;> (try refine ev_ ?_)) | with_reducible exact ti_)
 ·rw [if_pos (by assumption)]
 rw [if_neg (by assumption)]
 refine qu (S := Nat × Int) (fun s => s.1 ≤ t.args.length ∧ qc7 (t.args.drop s.1) s.2 d = qc7 t.args (IntKind.i64.wrap (k - 1)) d) (fun s => (⟨[(1, .int .i64 s.2), (2, .int .i64 d), (3, .ptr 0 0), (7, .int .i64 s.1)], []⟩, [.blk (yc t)])) (fun s => t.args.length - s.1) ?_ fun s hs => ?_
 ·refine qn (0, IntKind.i64.wrap (k - 1)) [0] ⟨Nat.zero_le _, rfl⟩ rfl (by simp) ?_ ?_ ?_ <;> (try refine ev_ ?_) <;> (try with_reducible exact ti_) <;> (try simp (disch := omega) only [qb, and_true, true_and])
 ·obtain ⟨i, a⟩ := s
  obtain ⟨hi, ha⟩ := hs
  dsimp only at hi ha
  repeat' (first | refine vs_ ?_ | ((first | refine vr_ ?_ | fail) <;> (try simp (disch := first | omega | (simp only [List.length_set, List.length_append, List.length_cons, List.length_nil]; done) | (simp only [List.length_set, List.length_append, List.length_cons, List.length_nil]; omega)) only [qm, qb, go_sem, ↓reduceIte])) | ((first | (refine cs_ ?_ ?_ <;> intro hc) | refine cj_ ?_ | simp (disch := omega) only [encs_getN, qb] | refine qa (ih _ (qbw (by omega)) _ _) fun _ => ?_) <;> (try refine ev_ ?_)) | with_reducible exact ti_)
  ·refine qn (i + 1, cntY (t.args.getD i Y0) a (IntKind.i64.wrap (d - 1))) [0] ⟨⟨by dsimp only; omega, ?_⟩, by dsimp only; omega⟩ rfl (by simp) ?_ ?_ ?_ <;> (try refine ev_ ?_) <;> (try with_reducible exact ti_) <;> (try simp (disch := omega) only [qb, and_true, true_and])
   rw [← ha, qhu (l := t.args) (i := i) (by omega), qc7, if_pos (by assumption)]
  ·rw [← ha, qe2 (by omega)]
  ·rw [← ha, List.drop_of_length_le (by omega)]; rfl
def qhs (a : Int) : List Ty → Int
 | [] => a
 | x :: r => qhs (cntY x a 300) r
def qeu (l : List Ty) : Bool := decide (0 ≤ qhs 20000 l)
theorem q9r (l : List Ty) : qj Try.prog 9 [.sl 3 (qk l)] (.int .i64 (if qeu l = true then 1 else 0)) := by
 refine qd c0t (by simp) (by simp only [go_sem]) rfl fun hw => ?_
 have hk : l.length ≤ maxLen := by have := hw.1.1; rwa [qck] at this
 repeat' (first | refine vs_ ?_ | ((first | refine vr_ ?_ | (refine cs_ ?_ ?_ <;> intro hc) | refine cj_ ?_ | simp (disch := omega) only [encs_getN, qb]) <;> (try refine ev_ ?_)) | with_reducible exact ti_)
 refine qu (S := Nat × Int) (fun s => s.1 ≤ l.length ∧ qhs s.2 (l.drop s.1) = qhs 20000 l) (fun s => (⟨[(0, .sl 3 (qk l)), (3, .int .i64 s.2), (4, .int .i64 s.1)], []⟩, [])) (fun s => l.length - s.1) ?_ fun s hs => ?_
 ·refine qn (0, 20000) [] ⟨Nat.zero_le _, rfl⟩ rfl (by simp) ?_ ?_ ?_ <;> (try refine ev_ ?_) <;> (try with_reducible exact ti_) <;> (try simp (disch := omega) only [qb, and_true, true_and])
 ·obtain ⟨i, a⟩ := s
  obtain ⟨hi, ha⟩ := hs
  dsimp only at hi ha
  repeat' (first | refine vs_ ?_ | ((first | refine vr_ ?_ | fail) <;> (try simp (disch := first | omega | (simp only [List.length_set, List.length_append, List.length_cons, List.length_nil]; done) | (simp only [List.length_set, List.length_append, List.length_cons, List.length_nil]; omega)) only [qm, qb, go_sem, ↓reduceIte])) | ((first | (refine cs_ ?_ ?_ <;> intro hc) | refine cj_ ?_ | simp (disch := omega) only [encs_getN, qb] | refine qa (q25 _ _ _) fun _ => ?_) <;> (try refine ev_ ?_)) | with_reducible exact ti_)
  ·refine qn (i + 1, cntY (l.getD i Y0) a 300) [] ⟨⟨by dsimp only; omega, ?_⟩, by dsimp only; omega⟩ rfl (by simp) ?_ ?_ ?_ <;> (try refine ev_ ?_) <;> (try with_reducible exact ti_) <;> (try simp (disch := omega) only [qb, and_true, true_and])
   rw [← ha, qhu (l := l) (i := i) (by omega), qhs]
  all_goals
   have hf : qhs 20000 l = a := by rw [← ha, List.drop_of_length_le (by omega)]; rfl
   rw [qeu, hf]
  ·rw [if_neg (by simp; omega)]
  ·rw [if_pos (by simp; omega)]

/-! the laws of sizes -/
mutual
theorem qqt : ∀ (t : Ty) (k d : Int), 0 ≤ k → k ≤ 20000 → d ≤ 300 → 0 ≤ cntY t k d → cntY t k d = k - szY t ∧ (dpY t : Int) ≤ d
 | .mk c v l, k, d, h0, h1, h2, h3 => by
   rw [cntY] at h3 ⊢
   by_cases hd : d < 1
   ·rw [if_pos hd] at h3; omega
   ·rw [if_neg hd] at h3 ⊢
    have hk : IntKind.i64.wrap (k - 1) = k - 1 := q8 (by omega) (by omega)
    rw [hk] at h3 ⊢
    have h4 : 0 ≤ k - 1 := by
     by_cases h : 0 ≤ k - 1
     ·exact h
     ·rw [qe2 (by omega)] at h3; exact h3
    have := qmr l (k - 1) d h4 (by omega) (by omega) h2 h3
    rw [szY, dpY]
    omega
theorem qmr : ∀ (l : List Ty) (a d : Int), 0 ≤ a → a ≤ 20000 → 1 ≤ d → d ≤ 300 → 0 ≤ qc7 l a d → qc7 l a d = a - szYs l ∧ (dpYs l : Int) ≤ d - 1
 | [], a, d, h0, h1, h2, h3, h4 => by rw [qc7, szYs, dpYs]; omega
 | x :: r, a, d, h0, h1, h2, h3, h4 => by
   rw [qc7, if_pos h0] at h4 ⊢
   have hd : IntKind.i64.wrap (d - 1) = d - 1 := q8 (by omega) (by omega)
   rw [hd] at h4 ⊢
   have h5 : 0 ≤ cntY x a (d - 1) := by
    by_cases h : 0 ≤ cntY x a (d - 1)
    ·exact h
    ·rw [qe2 (by omega)] at h4; exact absurd h4 h
   obtain ⟨h6, h7⟩ := qqt x a (d - 1) h0 h1 (by omega) h5
   obtain ⟨h8, h9⟩ := qmr r _ d h5 (by omega) h2 h3 h4
   rw [szYs, dpYs]
   omega
end
mutual
theorem qrv : ∀ (t : Ty) (k d : Int), 0 ≤ k → k ≤ 20000 → -1 ≤ cntY t k d
 | .mk c v l, k, d, h0, h1 => by
   rw [cntY]
   split
   ·omega
   ·rw [q8 (z := k - 1) (by omega) (by omega)]
    exact qpr l (k - 1) d (by omega) (by omega)
theorem qpr : ∀ (l : List Ty) (a d : Int), -1 ≤ a → a ≤ 20000 → -1 ≤ qc7 l a d
 | [], a, d, h0, _ => by rw [qc7]; exact h0
 | x :: r, a, d, h0, h1 => by
   rw [qc7]
   split
   ·rename_i h
    have h2 := qrv x a (IntKind.i64.wrap (d - 1)) h h1
    have h3 := qxg x a (IntKind.i64.wrap (d - 1)) h h1
    exact qpr r _ d h2 (by omega)
   ·exact h0
theorem qxg : ∀ (t : Ty) (k d : Int), 0 ≤ k → k ≤ 20000 → cntY t k d ≤ k
 | .mk c v l, k, d, h0, h1 => by
   rw [cntY]
   split
   ·omega
   ·rw [q8 (z := k - 1) (by omega) (by omega)]
    have := qrj l (k - 1) d (by omega) (by omega)
    omega
theorem qrj : ∀ (l : List Ty) (a d : Int), -1 ≤ a → a ≤ 20000 → qc7 l a d ≤ a
 | [], a, d, h0, _ => by rw [qc7]; exact Int.le_refl _
 | x :: r, a, d, h0, h1 => by
   rw [qc7]
   split
   ·rename_i h
    have h2 := qrv x a (IntKind.i64.wrap (d - 1)) h h1
    have h3 := qxg x a (IntKind.i64.wrap (d - 1)) h h1
    have := qrj r _ d h2 (by omega)
    omega
   ·exact Int.le_refl _
end
theorem qmb : ∀ (l : List Ty) {a : Int}, a < 0 → -9223372036854775808 ≤ a - l.length → qhs a l < 0
 | [], a, h, _ => h
 | x :: r, a, h, h2 => by
   rw [qhs]
   have h3 : cntY x a 300 = IntKind.i64.wrap (a - 1) := by
    rw [qq9, if_neg (by omega)]
    have hk : IntKind.i64.wrap (a - 1) = a - 1 := q8 (by simp only [List.length_cons] at h2; omega) (by omega)
    rw [hk, qe2 (by omega)]
   have hk : IntKind.i64.wrap (a - 1) = a - 1 := q8 (by simp only [List.length_cons] at h2; omega) (by omega)
   rw [h3, hk]
   exact qmb r (by omega) (by simp only [List.length_cons] at h2; omega)
theorem qmo : ∀ (l : List Ty) (a : Int), 0 ≤ a → a ≤ 20000 → l.length ≤ 9223372036854775807 → 0 ≤ qhs a l → (szYs l : Int) ≤ a ∧ (dpYs l : Int) ≤ 300
 | [], a, h0, h1, _, h2 => by rw [szYs, dpYs]; omega
 | x :: r, a, h0, h1, hl, h2 => by
   rw [qhs] at h2
   simp only [List.length_cons] at hl
   have h5 : 0 ≤ cntY x a 300 := by
    by_cases h : 0 ≤ cntY x a 300
    ·exact h
    ·have : -1 ≤ cntY x a 300 := qrv x a 300 h0 h1
     have := qmb r (a := cntY x a 300) (by omega) (by omega)
     omega
   obtain ⟨h6, h7⟩ := qqt x a 300 h0 h1 (by omega) h5
   obtain ⟨h8, h9⟩ := qmo r _ h5 (by omega) (by omega) h2
   rw [szYs, dpYs]
   omega
theorem q28 {l : List Ty} (hl : l.length ≤ maxLen) (h : qeu l = true) : szYs l ≤ 20000 ∧ dpYs l ≤ 300 := by
 have := qmo l 20000 (by omega) (by omega) (by unfold maxLen at hl; omega) (by simpa [qeu] using h)
 omega

mutual
theorem qfb : ∀ (t : Ty), szY t ≤ 1000000 → qfm t = szY t
 | .mk c v l, h => by
   rw [szY] at h
   rw [qfm, szY, qho l 1 (by omega) (by omega)]
   omega
theorem qho : ∀ (l : List Ty) (a : Int), 1 ≤ a → a + szYs l ≤ 1000001 → qdn a l = a + szYs l
 | [], a, _, _ => by rw [qdn, szYs]; omega
 | x :: r, a, h0, h => by
   rw [szYs] at h
   rw [qdn, qfb x (by omega), q8 (by omega) (by omega), qho r _ (by omega) (by omega), szYs]
   omega
end
mutual
theorem qgg : ∀ (t : Ty), dpY t ≤ 1000000 → qiv t = dpY t
 | .mk c v l, h => by
   rw [dpY] at h
   rw [qiv, dpY, qij l 0 (by omega) (by omega), q8 (by omega) (by omega)]
   omega
theorem qij : ∀ (l : List Ty) (a : Int), dpYs l ≤ 1000000 → 0 ≤ a → qef a l = max a (dpYs l)
 | [], a, _, _ => by rw [qef, dpYs]; omega
 | x :: r, a, h, h0 => by
   rw [dpYs] at h
   have h1 := qgg x (by omega)
   rw [qef, h1]
   have h2 : (if (dpY x : Int) > a then (dpY x : Int) else a) = max a (dpY x) := by split <;> omega
   rw [h2, qij r _ (by omega) (by omega), dpYs]
   omega
end
mutual
theorem qg5 : ∀ (t : Ty) (n k : Int), 0 ≤ n → n + szY t ≤ 1000000 → qbl ql1 t n k = (n + szY t, true)
 | .mk c v l, n, k, h0, h => by
   rw [szY] at h
   rw [qbl, if_pos (show (ql1 n (.mk c v l) k).2 = true from rfl)]
   have h1 : (ql1 n (.mk c v l) k).1 = n + 1 := q8 (by omega) (by omega)
   rw [h1, qiu l _ _ (by omega) (by omega), szY]
   congr 1; omega
theorem qiu : ∀ (l : List Ty) (n k : Int), 0 ≤ n → n + szYs l ≤ 1000000 → qz ql1 l n k = (n + szYs l, true)
 | [], n, k, _, _ => by rw [qz, szYs]; congr 1; omega
 | x :: r, n, k, h0, h => by
   rw [szYs] at h
   rw [qz, qg5 x n k h0 (by omega), if_pos rfl, qiu r _ k (by omega) (by omega), szYs]
   congr 1; omega
end
mutual
theorem qg9 : ∀ (t : Ty) (n k : Int), 0 ≤ n → 1 ≤ k → k + dpY t ≤ 1000000 → qbl qjp t n k = (max n (k + dpY t - 1), true)
 | .mk c v l, n, k, h0, h1, h => by
   rw [dpY] at h
   rw [qbl, if_pos (show (qjp n (.mk c v l) k).2 = true from rfl)]
   have h2 : (qjp n (.mk c v l) k).1 = max n k := by simp only [qjp]; split <;> omega
   rw [h2, q8 (z := k + 1) (by omega) (by omega), qh1 l _ _ (by omega) (by omega) (by omega), dpY]
   congr 1; split <;> omega
theorem qh1 : ∀ (l : List Ty) (n k : Int), 0 ≤ n → 1 ≤ k → k + dpYs l ≤ 1000000 → qz qjp l n k = (if dpYs l = 0 then n else max n (k + dpYs l - 1), true)
 | [], n, k, _, _, _ => by rw [qz, dpYs, if_pos rfl]
 | x :: r, n, k, h0, h1, h => by
   rw [dpYs] at h
   have hp := qgd x
   rw [qz, qg9 x n k h0 h1 (by omega), if_pos rfl, qh1 r _ k (by omega) h1 (by omega), dpYs]
   congr 1
   rw [if_neg (by omega : ¬ max (dpY x) (dpYs r) = 0)]
   split <;> omega
end
mutual
theorem qjo : ∀ (t : Ty) (n k : Int), 0 ≤ n → n + szY t ≤ 1000000 → 1 ≤ k → k + dpY t ≤ 1000000 →
 ((qbl qdw t n k).2 = true ↔ n + szY t ≤ 4096 ∧ k + dpY t - 1 ≤ 100 ∧ qcm t = true) ∧ ((qbl qdw t n k).2 = true → (qbl qdw t n k).1 = n + szY t)
 | .mk c v l, n, k, h0, h1, h2, h3 => by
   rw [szY] at h1
   rw [dpY] at h3
   have e1 : IntKind.i64.wrap (n + 1) = n + 1 := q8 (by omega) (by omega)
   have e2 : IntKind.i64.wrap (k + 1) = k + 1 := q8 (by omega) (by omega)
   have e3 : (qdw n (.mk c v l) k).1 = n + 1 := e1
   have e4 : (qdw n (.mk c v l) k).2 = true ↔ n + 1 ≤ 4096 ∧ k ≤ 100 ∧ mayW c v l.length = true := by
    simp only [qdw, e1, Bool.and_eq_true, decide_eq_true_eq]; rfl
   rw [qbl, szY, dpY, qcm]
   by_cases hs : (qdw n (.mk c v l) k).2 = true
   ·rw [if_pos hs, e3, e2]
    obtain ⟨q1, q2, q3⟩ := e4.1 hs
    obtain ⟨r1, r2⟩ := qis l (n + 1) (k + 1) (by omega) (by omega) (by omega) (by omega) (by omega) (by omega)
    refine ⟨?_, fun h => by rw [r2 h]; omega⟩
    rw [r1, q3, Bool.and_true]
    constructor
    ·rintro ⟨a1, a2, a3⟩; exact ⟨by omega, by omega, a3⟩
    ·rintro ⟨a1, a2, a3⟩; exact ⟨by omega, by omega, a3⟩
   ·rw [if_neg hs]
    refine ⟨⟨fun h => (by cases h), fun ⟨a1, a2, a3⟩ => absurd (e4.2 ⟨by omega, by omega, (by rw [Bool.and_eq_true] at a3; exact a3.2)⟩) hs⟩, fun h => by cases h⟩
theorem qis : ∀ (l : List Ty) (n k : Int), 0 ≤ n → n + szYs l ≤ 1000000 → 1 ≤ k → k + dpYs l ≤ 1000000 → n ≤ 4096 → k - 1 ≤ 100 →
 ((qz qdw l n k).2 = true ↔ n + szYs l ≤ 4096 ∧ k + dpYs l - 1 ≤ 100 ∧ qbo l = true) ∧ ((qz qdw l n k).2 = true → (qz qdw l n k).1 = n + szYs l)
 | [], n, k, h0, h1, h2, h3, h4, h5 => by
   rw [qz, szYs, dpYs, qbo]
   exact ⟨⟨fun _ => ⟨by omega, by omega, rfl⟩, fun _ => rfl⟩, fun _ => by simp⟩
 | x :: r, n, k, h0, h1, h2, h3, h4, h5 => by
   rw [szYs] at h1
   rw [dpYs] at h3
   obtain ⟨q1, q2⟩ := qjo x n k h0 (by omega) h2 (by omega)
   rw [qz, szYs, dpYs, qbo]
   by_cases hs : (qbl qdw x n k).2 = true
   ·rw [if_pos hs, q2 hs]
    obtain ⟨a1, a2, a3⟩ := q1.1 hs
    obtain ⟨r1, r2⟩ := qis r (n + szY x) k (by omega) (by omega) h2 (by omega) (by omega) h5
    refine ⟨?_, fun h => by rw [r2 h]; omega⟩
    rw [r1, a3, Bool.true_and]
    constructor
    ·rintro ⟨b1, b2, b3⟩; exact ⟨by omega, by omega, b3⟩
    ·rintro ⟨b1, b2, b3⟩; exact ⟨by omega, by omega, b3⟩
   ·rw [if_neg hs]
    refine ⟨⟨fun h => (by cases h), fun ⟨a1, a2, a3⟩ => absurd (q1.2 ⟨by omega, by omega, ?_⟩) hs⟩, fun h => by cases h⟩
    rw [Bool.and_eq_true] at a3
    exact a3.1
end
def qcy (t : Ty) : Bool := decide (szY t ≤ 4096) && (decide (dpY t ≤ 100) && qcm t)
theorem qpy {t : Ty} (h1 : szY t ≤ 20000) (h2 : dpY t ≤ 300) : qr8 t = qcy t := by
 have := (qjo t 0 1 (by omega) (by omega) (by omega) (by omega)).1
 rw [qr8, Bool.eq_iff_iff, this, qcy, Bool.and_eq_true, Bool.and_eq_true, decide_eq_true_eq, decide_eq_true_eq]
 constructor
 ·rintro ⟨a1, a2, a3⟩; exact ⟨by omega, by omega, a3⟩
 ·rintro ⟨a1, a2, a3⟩; exact ⟨by omega, by omega, a3⟩
theorem ql2 {t : Ty} (h1 : szY t ≤ 20000) (h2 : dpY t ≤ 300) : qj Try.prog 12 [encY t] (.bool (qcy t)) := by
 refine qd c0u (by simp) (by simp only [go_sem]) rfl fun hw => ?_
 have e1 := qh0 t
 have e2 := qf4 t
 rw [qfb t (by omega)] at e1
 rw [qgg t (by omega)] at e2
 repeat' (first | refine vs_ ?_ | ((first | refine vr_ ?_ | refine qa e1 fun _ => ?_ | refine qa e2 fun _ => ?_ | refine qa (qls t) fun _ => ?_ | (refine cs_ ?_ ?_ <;> intro hc) | refine cj_ ?_ | fail) <;> (try refine ev_ ?_)) | with_reducible exact ti_)
 all_goals
  rw [qcy]
 ·rw [decide_eq_true (by omega), decide_eq_true (by omega)]; rfl
 ·rw [decide_eq_false (p := dpY t ≤ 100) (by omega), Bool.false_and, Bool.and_false]
 ·rw [decide_eq_false (p := szY t ≤ 4096) (by omega)]; rfl
theorem qb3 {t : Ty} (h1 : szY t ≤ 20000) (h2 : dpY t ≤ 300) : qj Try.prog 11 [encY t] (.bool (qcy t)) := by
 rw [← qpy h1 h2]; exact qk9 t
end Go.Proofs.Ytlahgbhhejkgbaa
