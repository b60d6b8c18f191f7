/- Texts of this proof, joined. -/
import Derived.Test.YtlahgbhhejkgbaaGreatKar

/- rows of integers: whether a number is there, each once -/
set_option maxRecDepth 4000
namespace Go.Proofs.YtlahgbhhejkgbaaGreat
open Go Go.RowKit Go.V
set_option linter.unusedVariables false
set_option linter.unusedSimpArgs false

def ints (l : List Int) : List AV := l.map (AV.int .i64)
theorem qdp (l : List Int) : (ints l).length = l.length := by simp [ints]
theorem qje (k : Nat) (l : List Int) : AV.bds k (ints l) = true := by rw [ints, qde]; simp [AV.bd]
theorem qr6 (σ : Nat → Nat) (l : List Int) : AV.rens σ (ints l) = ints l := qu (m := 0) (fun i hi => by omega) _ (qje 0 l)
theorem qky {l : List Int} {i : Nat} (h : i < l.length) : (ints l).getD i .junk = .int .i64 (l.getD i 0) := by
 rw [ints, List.getD_eq_getElem?_getD, List.getElem?_map, List.getElem?_eq_getElem h, List.getD_eq_getElem?_getD, List.getElem?_eq_getElem h]; rfl
theorem qwx (l : List Int) (v : Int) : ints l ++ [.int .i64 v] = ints (l ++ [v]) := by simp [ints]
theorem qsj (a b : List Int) : ints a ++ ints b = ints (a ++ b) := by simp [ints]
theorem q0x (v : Int) : [AV.int .i64 v] = ints [v] := rfl
theorem qdr : ints [] = [] := rfl
theorem qbv {l : List Int} (h : l ≠ []) : ints l ≠ [] := by cases l with | nil => exact absurd rfl h | cons _ _ => simp [ints]
attribute [go_sem] qdp qje qr6 cond_false cond_true
theorem qbcs {l : List Int} {i : Nat} (h : i < l.length) : l.drop i = l.getD i 0 :: l.drop (i + 1) := by
 rw [List.drop_eq_getElem_cons h, List.getD_eq_getElem?_getD, List.getElem?_eq_getElem h]; rfl
theorem q5a {l : List Int} {i : Nat} (h : i < l.length) : l.getD i 0 ∈ l := by
 rw [List.getD_eq_getElem?_getD, List.getElem?_eq_getElem h]; exact List.getElem_mem h
theorem capI {k : Nat} (h : k ≤ 1000000000) : qb5 k 8 := by unfold qb5; omega

def idxW (v : Int) : List Int → Int → Int
 | [], _ => -1
 | x :: r, k => if v = x then k else idxW v r (k + 1)
theorem qzm (v : Int) : ∀ (l : List Int) (k : Int), 0 ≤ k → (decide (0 ≤ idxW v l k) = decide (v ∈ l))
 | [], k, h => by simp [idxW]
 | x :: r, k, h => by
   rw [idxW]
   by_cases hx : v = x
   ·simp [hx, h]
   ·rw [if_neg hx, qzm v r (k + 1) (by omega)]; simp [hx]
theorem qop (l : List Int) (v : Int) : qj Tryz.prog 96 [.sl 1 (ints l), .int .i64 v] (.int .i64 (idxW v l 0)) := by
 refine qg c0bt (by simp) (by simp only [go_sem]) rfl fun hw => ?_
 have hl : l.length ≤ maxLen := by have := hw.1.1; rwa [qdp] at this
 repeat' (first | refine vs_ ?_ | ((first | refine vr_ ?_ | (refine cs_ ?_ ?_ <;> intro hc) | refine cj_ ?_ | simp (disch := omega) only [encs_getN, qb]) <;> (try refine ev_ ?_)) | with_reducible exact ti_)
 refine qq (S := Nat) (fun i => i ≤ l.length ∧ idxW v (l.drop i) i = idxW v l 0) (fun i => (⟨[(0, .sl 1 (ints l)), (1, .int .i64 v), (7, .int .i64 l.length), (8, .int .i64 i)], []⟩, [])) (fun i => l.length - i) ?_ fun i hi => ?_
 ·refine qi 0 [] ⟨Nat.zero_le _, rfl⟩ rfl (by simp) ?_ ?_ ?_ <;> (try refine ev_ ?_) <;> (try with_reducible exact ti_) <;> (try simp (disch := omega) only [qb, and_true, true_and])
 ·obtain ⟨hi, ha⟩ := hi
  repeat' (first | refine vs_ ?_ | ((first | refine vr_ ?_ | fail) <;> (try simp (disch := first | omega | (simp only [List.length_set, List.length_append, List.length_cons, List.length_nil]; done) | (simp only [List.length_set, List.length_append, List.length_cons, List.length_nil]; omega)) only [qky, qb, go_sem, ↓reduceIte])) | ((first | (refine cs_ ?_ ?_ <;> intro hc) | refine cj_ ?_ | simp (disch := omega) only [encs_getN, qb]) <;> (try refine ev_ ?_)) | with_reducible exact ti_)
  ·rw [← ha, qbcs (by omega), idxW, if_pos (by assumption)]
  ·refine qi (i + 1) [] ⟨⟨by omega, ?_⟩, by omega⟩ rfl (by simp) ?_ ?_ ?_ <;> (try refine ev_ ?_) <;> (try with_reducible exact ti_) <;> (try simp (disch := omega) only [qb, and_true, true_and])
   rw [← ha, qbcs (l := l) (i := i) (by omega), idxW, if_neg (by assumption)]; rfl
  ·rw [← ha, List.drop_of_length_le (by omega)]; rfl
theorem qfd (l : List Int) (v : Int) : qj Tryz.prog 75 [.sl 1 (ints l), .int .i64 v] (.bool (decide (v ∈ l))) := by
 refine qg c0bu (by simp) (by simp only [go_sem]) rfl fun hw => ?_
 repeat' (first | refine vs_ ?_ | ((first | refine vr_ ?_ | refine qa (qop _ _) fun _ => ?_ | (refine cs_ ?_ ?_ <;> intro hc) | refine cj_ ?_ | fail) <;> (try refine ev_ ?_)) | with_reducible exact ti_)
 rw [qzm v l 0 (by omega)]
theorem q22 (l : List Int) (v : Int) : qj Tryz.prog 95 [.sl 1 (ints l), .int .i64 v] (.bool (decide (v ∈ l))) := by
 refine qg c0bv (by simp) (by simp only [go_sem]) rfl fun hw => ?_
 have hl : l.length ≤ maxLen := by have := hw.1.1; rwa [qdp] at this
 repeat' (first | refine vs_ ?_ | ((first | refine vr_ ?_ | (refine cs_ ?_ ?_ <;> intro hc) | refine cj_ ?_ | simp (disch := omega) only [encs_getN, qb]) <;> (try refine ev_ ?_)) | with_reducible exact ti_)
 refine qq (S := Nat) (fun i => i ≤ l.length ∧ decide (v ∈ l.drop i) = decide (v ∈ l)) (fun i => (⟨[(0, .sl 1 (ints l)), (1, .int .i64 v), (5, .int .i64 i)], []⟩, [])) (fun i => l.length - i) ?_ fun i hi => ?_
 ·refine qi 0 [] ⟨Nat.zero_le _, rfl⟩ rfl (by simp) ?_ ?_ ?_ <;> (try refine ev_ ?_) <;> (try with_reducible exact ti_) <;> (try simp (disch := omega) only [qb, and_true, true_and])
 ·obtain ⟨hi, ha⟩ := hi
  repeat' (first | refine vs_ ?_ | ((first | refine vr_ ?_ | fail) <;> (try simp (disch := first | omega | (simp only [List.length_set, List.length_append, List.length_cons, List.length_nil]; done) | (simp only [List.length_set, List.length_append, List.length_cons, List.length_nil]; omega)) only [qky, qb, go_sem, ↓reduceIte])) | ((first | (refine cs_ ?_ ?_ <;> intro hc) | refine cj_ ?_ | simp (disch := omega) only [encs_getN, qb]) <;> (try refine ev_ ?_)) | with_reducible exact ti_)
  ·rename_i hc; rw [decide_eq_true (hc ▸ q5a (by omega))]
  ·refine qi (i + 1) [] ⟨⟨by omega, ?_⟩, by omega⟩ rfl (by simp) ?_ ?_ ?_ <;> (try refine ev_ ?_) <;> (try with_reducible exact ti_) <;> (try simp (disch := omega) only [qb, and_true, true_and])
   rw [← ha, qbcs (l := l) (i := i) (by omega)]
   have hne : ¬ v = l.getD i 0 := fun h => absurd h.symm (by assumption)
   refine decide_eq_decide.2 ?_
   rw [List.mem_cons]
   exact ⟨.inr, fun h => h.resolve_left hne⟩
  ·rw [← ha, List.drop_of_length_le (by omega)]; simp
/-! each once -/
theorem qbk {H : List Ent} {n : Nat} : co H (.sl n) .nils = .sl n [] := Eq.trans rfl rfl
/-! all variables -/
theorem qvt (l : List Ty) (i : Nat) (h : i < l.length) : qby (l.take (i + 1)) = qby (l.take i) ++ varY (l.getD i Y0) := by
 have h1 : l.take (i + 1) = l.take i ++ [l.getD i Y0] := by
  rw [List.take_add_one, List.getD_eq_getElem?_getD, List.getElem?_eq_getElem h]; rfl
 rw [h1]
 generalize l.take i = a
 generalize l.getD i Y0 = x
 induction a with
 | nil => simp [qby]
 | cons y a ih => simp only [List.cons_append, qby, ih, List.append_assoc]
def allE (t : Ty) (i : Nat) : List Int := (if t.con = [] then [t.var] else []) ++ qby (t.args.take i)
theorem q6u (t : Ty) : allE t 0 = if t.con = [] then [t.var] else [] := by simp [allE, qby]
theorem qwf {t : Ty} {i : Nat} (h : i < t.args.length) : allE t (i + 1) = allE t i ++ varY (t.args.getD i Y0) := by rw [allE, allE, qvt _ _ h, List.append_assoc]
theorem q4m {t : Ty} {i : Nat} (h : t.args.length ≤ i) : allE t i = varY t := by rw [allE, List.take_of_length_le h, qbhy]
theorem q6c (t : Ty) (i : Nat) : (allE t i).length ≤ szY t := by
 have h1 := qka t.args i
 have h2 := qi9 (t.args.take i)
 rw [allE, List.length_append, qdx]
 have : (if t.con = [] then [t.var] else []).length ≤ 1 := by split <;> simp
 omega
def qug (t : Ty) (x : Nat × Bool) : AF × List Ent :=
 (⟨[(1, .ptr 0 0), (3, if x.2 = true then .lit 1 (ints (allE t x.1)) else accV 1 (ints (allE t x.1))), (4, .int .i64 x.1)], []⟩, .blk (yc t) :: if x.2 = true then [] else accE 1 (ints (allE t x.1)))
set_option maxHeartbeats 2000000 in
theorem qx0 : ∀ t, szY t ≤ 1000000 → qj Tryz.prog 77 [encY t] (.sl 1 (ints (varY t))) := by
 refine Ty.ind fun t ih hb => ?_
 refine qg c0bw (by simp) (by simp only [go_sem]) (qje 0 _) fun hw => ?_
 have hk := qcq hw.1
 have hsz := qdx t
 have ih' : ∀ i, i < t.args.length → qj Tryz.prog 77 [encY (t.args.getD i Y0)] (.sl 1 (ints (varY (t.args.getD i Y0)))) := fun i hi => ih _ (qbb hi) (by have := qer (qbb hi); omega)
 repeat' (first | refine vs_ ?_ | ((first | refine vr_ ?_ | (refine cs_ ?_ ?_ <;> intro hc) | refine cj_ ?_ | simp (disch := omega) only [encs_getN, qb]) <;> (try refine ev_ ?_)) | with_reducible exact ti_)
 all_goals refine qq (S := Nat × Bool) (fun x => x.1 ≤ t.args.length) (qug t) (fun x => t.args.length - x.1) ?_ fun x hx => ?_
 case' refine_1.refine_1 => refine qi (0, true) [0] (Nat.zero_le _) rfl (by simp) ?_ ?_ ?_ <;> simp only [qug, q6u, if_pos (by assumption : t.con = []), if_true, q0x] <;> (try refine ev_ ?_) <;> (try with_reducible exact ti_) <;> (try simp (disch := omega) only [qb, and_true, true_and])
 case' refine_2.refine_1 => refine qi (0, false) [0] (Nat.zero_le _) rfl (by simp) ?_ ?_ ?_ <;> simp only [qug, q6u, if_neg (by assumption : ¬ t.con = []), if_false, qdr, qbg, qbh, Bool.false_eq_true] <;> (try refine ev_ ?_) <;> (try with_reducible exact ti_) <;> (try simp (disch := omega) only [qb, and_true, true_and])
 all_goals
  obtain ⟨i, fl⟩ := x
  dsimp only at hx
  by_cases hi : i < t.args.length
  ·have hn := qwf hi
   have hl1 := q6c t (i + 1)
   have hl2 := congrArg List.length hn
   rw [List.length_append] at hl2
   have hcap : qb5 ((allE t i).length + (varY (t.args.getD i Y0)).length) 8 = True := eq_true (capI (by omega))
   have hcap1 : qb5 (varY (t.args.getD i Y0)).length 8 = True := eq_true (capI (by omega))
   by_cases hy : varY (t.args.getD i Y0) = []
   ·have hy0 : (varY (t.args.getD i Y0)).length = 0 := by rw [hy]; rfl
    have hn' : allE t (i + 1) = allE t i := by rw [hn, hy, List.append_nil]
    unfold qug
    cases fl with
    | true =>
      simp only [if_true]
      repeat' (first | refine vs_ ?_ | ((first | refine vr_ ?_ | fail) <;> (try simp (disch := first | omega | (simp only [List.length_set, List.length_append, List.length_cons, List.length_nil]; done) | (simp only [List.length_set, List.length_append, List.length_cons, List.length_nil]; omega)) only [qo, qb, go_sem, ↓reduceIte])) | ((first | simp (disch := omega) only [hy0] | simp (disch := omega) only [hcap] | simp (disch := omega) only [hcap1] | (refine cs_ ?_ ?_ <;> intro hc) | refine cj_ ?_ | simp (disch := omega) only [encs_getN, qb] | refine qa (ih' i hi) fun _ => ?_) <;> (try refine ev_ ?_)) | with_reducible exact ti_)
      ·refine qi (i + 1, true) [0] ⟨by dsimp only; omega, by dsimp only; omega⟩ rfl (by simp) ?_ ?_ ?_ <;> simp only [hn', if_true] <;> (try refine ev_ ?_) <;> (try with_reducible exact ti_) <;> (try simp (disch := omega) only [qb, and_true, true_and])
      ·omega
    | false =>
      simp only [Bool.false_eq_true, if_false]
      by_cases h0 : allE t i = []
      ·simp only [h0, qdr, qbg, qbh]
       repeat' (first | refine vs_ ?_ | ((first | refine vr_ ?_ | fail) <;> (try simp (disch := first | omega | (simp only [List.length_set, List.length_append, List.length_cons, List.length_nil]; done) | (simp only [List.length_set, List.length_append, List.length_cons, List.length_nil]; omega)) only [qo, qb, go_sem, ↓reduceIte])) | ((first | simp (disch := omega) only [hy0] | simp (disch := omega) only [hcap] | simp (disch := omega) only [hcap1] | (refine cs_ ?_ ?_ <;> intro hc) | refine cj_ ?_ | simp (disch := omega) only [encs_getN, qb] | refine qa (ih' i hi) fun _ => ?_) <;> (try refine ev_ ?_)) | with_reducible exact ti_)
       ·refine qi (i + 1, false) [0] ⟨by dsimp only; omega, by dsimp only; omega⟩ rfl (by simp) ?_ ?_ ?_ <;> simp only [hn', h0, qdr, qbg, qbh, Bool.false_eq_true, if_false] <;> (try refine ev_ ?_) <;> (try with_reducible exact ti_) <;> (try simp (disch := omega) only [qb, and_true, true_and])
       ·omega
      ·simp only [qbw (qbv h0), qbp (qbv h0)]
       repeat' (first | refine vs_ ?_ | ((first | refine vr_ ?_ | fail) <;> (try simp (disch := first | omega | (simp only [List.length_set, List.length_append, List.length_cons, List.length_nil]; done) | (simp only [List.length_set, List.length_append, List.length_cons, List.length_nil]; omega)) only [qo, qb, go_sem, ↓reduceIte])) | ((first | simp (disch := omega) only [hcap] | (refine cs_ ?_ ?_ <;> intro hc) | refine cj_ ?_ | simp (disch := omega) only [encs_getN, qb] | refine qa (ih' i hi) fun _ => ?_) <;> (try refine ev_ ?_)) | with_reducible exact ti_)
       ·refine qi (i + 1, false) [0, 2] ⟨by dsimp only; omega, by dsimp only; omega⟩ rfl (by simp) ?_ ?_ ?_ <;> simp only [hn', qbw (qbv h0), qbp (qbv h0), Bool.false_eq_true, if_false, hy, qdr, List.append_nil, List.length_nil, Nat.add_zero, qdp] <;> (try refine ev_ ?_) <;> (try with_reducible exact ti_) <;> (try simp (disch := omega) only [qb, and_true, true_and])
       ·omega
   ·have hy0 : ((varY (t.args.getD i Y0)).length = 0) = False := eq_false fun h => hy (List.length_eq_zero_iff.1 h)
    have hne : allE t (i + 1) ≠ [] := fun h => hy (List.append_eq_nil_iff.1 (hn.symm.trans h)).2
    unfold qug
    cases fl with
    | true =>
      simp only [if_true]
      repeat' (first | refine vs_ ?_ | ((first | refine vr_ ?_ | fail) <;> (try simp (disch := first | omega | (simp only [List.length_set, List.length_append, List.length_cons, List.length_nil]; done) | (simp only [List.length_set, List.length_append, List.length_cons, List.length_nil]; omega)) only [qo, qb, go_sem, ↓reduceIte])) | ((first | simp (disch := omega) only [hy0] | simp (disch := omega) only [hcap] | simp (disch := omega) only [hcap1] | (refine cs_ ?_ ?_ <;> intro hc) | refine cj_ ?_ | simp (disch := omega) only [encs_getN, qb] | refine qa (ih' i hi) fun _ => ?_) <;> (try refine ev_ ?_)) | with_reducible exact ti_)
      ·refine qi (i + 1, false) [0, 1] ⟨by dsimp only; omega, by dsimp only; omega⟩ rfl (by simp) ?_ ?_ ?_ <;> simp only [qbw (qbv hne), qbp (qbv hne), qsj, ← hn, ← hl2, Bool.false_eq_true, if_false, qdp] <;> (try refine ev_ ?_) <;> (try with_reducible exact ti_) <;> (try simp (disch := omega) only [qb, and_true, true_and])
      ·omega
    | false =>
      simp only [Bool.false_eq_true, if_false]
      by_cases h0 : allE t i = []
      ·have hn2 : allE t (i + 1) = varY (t.args.getD i Y0) := by rw [hn, h0, List.nil_append]
       simp only [h0, qdr, qbg, qbh]
       repeat' (first | refine vs_ ?_ | ((first | refine vr_ ?_ | fail) <;> (try simp (disch := first | omega | (simp only [List.length_set, List.length_append, List.length_cons, List.length_nil]; done) | (simp only [List.length_set, List.length_append, List.length_cons, List.length_nil]; omega)) only [qo, qb, go_sem, ↓reduceIte])) | ((first | simp (disch := omega) only [hy0] | simp (disch := omega) only [hcap] | simp (disch := omega) only [hcap1] | (refine cs_ ?_ ?_ <;> intro hc) | refine cj_ ?_ | simp (disch := omega) only [encs_getN, qb] | refine qa (ih' i hi) fun _ => ?_) <;> (try refine ev_ ?_)) | with_reducible exact ti_)
       ·refine qi (i + 1, false) [0, 1] ⟨by dsimp only; omega, by dsimp only; omega⟩ rfl (by simp) ?_ ?_ ?_ <;> simp only [qbw (qbv hne), qbp (qbv hne), ← hn2, Bool.false_eq_true, if_false, qdp] <;> (try refine ev_ ?_) <;> (try with_reducible exact ti_) <;> (try simp (disch := omega) only [qb, and_true, true_and])
       ·omega
      ·simp only [qbw (qbv h0), qbp (qbv h0)]
       repeat' (first | refine vs_ ?_ | ((first | refine vr_ ?_ | fail) <;> (try simp (disch := first | omega | (simp only [List.length_set, List.length_append, List.length_cons, List.length_nil]; done) | (simp only [List.length_set, List.length_append, List.length_cons, List.length_nil]; omega)) only [qo, qb, go_sem, ↓reduceIte])) | ((first | simp (disch := omega) only [hcap] | (refine cs_ ?_ ?_ <;> intro hc) | refine cj_ ?_ | simp (disch := omega) only [encs_getN, qb] | refine qa (ih' i hi) fun _ => ?_) <;> (try refine ev_ ?_)) | with_reducible exact ti_)
       ·refine qi (i + 1, false) [0, 2] ⟨by dsimp only; omega, by dsimp only; omega⟩ rfl (by simp) ?_ ?_ ?_ <;> simp only [qbw (qbv hne), qbp (qbv hne), qsj, ← hn, ← hl2, Bool.false_eq_true, if_false, qdp] <;> (try refine ev_ ?_) <;> (try with_reducible exact ti_) <;> (try simp (disch := omega) only [qb, and_true, true_and])
       ·omega
  ·have hend := q4m (t := t) (i := i) (by omega)
   unfold qug
   cases fl with
   | true =>
     simp only [if_true, hend]
     repeat' (first | refine vs_ ?_ | ((first | refine vr_ ?_ | (refine cs_ ?_ ?_ <;> intro hc) | refine cj_ ?_ | simp (disch := omega) only [encs_getN, qb]) <;> (try refine ev_ ?_)) | with_reducible exact ti_)
     all_goals omega
   | false =>
     simp only [Bool.false_eq_true, if_false, hend]
     by_cases h0 : varY t = []
     ·simp only [h0, qdr, qbg, qbh]
      repeat' (first | refine vs_ ?_ | ((first | refine vr_ ?_ | (refine cs_ ?_ ?_ <;> intro hc) | refine cj_ ?_ | simp (disch := omega) only [encs_getN, qb]) <;> (try refine ev_ ?_)) | with_reducible exact ti_)
      all_goals omega
     ·simp only [qbw (qbv h0), qbp (qbv h0)]
      repeat' (first | refine vs_ ?_ | ((first | refine vr_ ?_ | (refine cs_ ?_ ?_ <;> intro hc) | refine cj_ ?_ | simp (disch := omega) only [encs_getN, qb]) <;> (try refine ev_ ?_)) | with_reducible exact ti_)
      all_goals omega
theorem qyw (t : Ty) (v : Int) (hb : szY t ≤ 1000000) : qj Tryz.prog 72 [encY t, .int .i64 v] (.bool (decide (v ∈ varY t))) := by
 refine qg c0bx (by simp) (by simp only [go_sem]) rfl fun hw => ?_
 have h1 := qx0 t hb
 repeat' (first | refine vs_ ?_ | ((first | refine vr_ ?_ | refine qa h1 fun _ => ?_ | refine qa (q22 _ _) fun _ => ?_ | (refine cs_ ?_ ?_ <;> intro hc) | refine cj_ ?_ | fail) <;> (try refine ev_ ?_)) | with_reducible exact ti_)

/-! the program's: a walk that gathers -/
def outE (l : List Int) : Ent := bun (.blk [accV 1 (ints l)] :: accE 1 (ints l))
def outN (l : List Int) (t : Ty) : List Int := if t.con = [] then (if t.var ∈ l then l else l ++ [t.var]) else l
theorem qfs {H' : List Ent} {l : List Int} {r : AV} (k : Nat) (h0 : l ≠ []) (hk : 0 < k) (hl : k < H'.length) (e0 : ent H' 0 = .blk [.row k l.length]) (e1 : ent H' k = .app 1 (ints l)) (hr : r.bd 1 = true) :
 qcp (fun H' o => H' = [outE l] ∧ o = .val r) H' (.val r) := by
 refine ⟨[.blk [.row 1 l.length], .app 1 (ints l)], [0, k], rfl, by simp, by simp; omega, ?_, hr, ?_, rfl⟩
 ·simp only [qfi, List.length_cons, List.length_nil, Ent.bd, AV.bds, AV.bd, Ent.ren, AV.rens, AV.ren, e0, e1, qje, qr6]
  exact ⟨⟨by omega, rfl, rfl⟩, ⟨hl, trivial, trivial⟩, trivial⟩
 ·rw [outE, qbw (qbv h0), qbp (qbv h0), qdp]
theorem qup {H' : List Ent} {r : AV} (hl : 0 < H'.length) (e0 : ent H' 0 = .blk [.nils]) (hr : r.bd 1 = true) :
 qcp (fun H' o => H' = [outE []] ∧ o = .val r) H' (.val r) := by
 refine ⟨[.blk [.nils]], [0], rfl, by simp, by simp, ?_, hr, rfl, rfl⟩
 exact ⟨⟨hl, rfl, by rw [e0]; rfl⟩, trivial⟩
theorem qbvs (l : List Int) (t : Ty) (k : Int) (hb : l.length ≤ 1000000) : VM Tryz.prog 74 (outE l) (outE (outN l t)) [encY t, .int .i64 k, .ptr 0 0] (.bool true) := by
 refine qfz ?_ (by simp [AV.bds, AV.bd, qz])
 have hcap : qb5 (l.length + 1) 8 = True := eq_true (capI (by omega))
 refine qnz c0by (by simp) ?_
 by_cases h0 : l = []
 ·subst h0
  simp only [qdr, qbg, qbh]
  repeat' (first | refine vs_ ?_ | ((first | refine vr_ ?_ | fail) <;> (try simp only [qbk, go_sem, ↓reduceIte])) | ((first | simp (disch := omega) only [hcap] | (refine cs_ ?_ ?_ <;> intro hc) | refine cj_ ?_ | fail | refine qa (qfd [] _) fun _ => ?_) <;> (try refine ev_ ?_)) | with_reducible exact ti_)
  ·have : outN [] t = [t.var] := by rw [outN, if_pos (by assumption), if_neg (by assumption)]; rfl
   rw [this]
   exact qfs (l := [t.var]) 2 (by simp) (by omega) (by simp) rfl rfl rfl
  ·exact absurd (by assumption : t.var ∈ []) (by simp)
  ·have : outN [] t = [] := by rw [outN, if_neg (by assumption)]
   rw [this]
   exact qup (by simp) rfl rfl
 ·simp only [qbw (qbv h0), qbp (qbv h0)]
  repeat' (first | refine vs_ ?_ | ((first | refine vr_ ?_ | refine qa (qfd l _) fun _ => ?_ | simp (disch := omega) only [hcap] | (refine cs_ ?_ ?_ <;> intro hc) | refine cj_ ?_ | fail) <;> (try refine ev_ ?_)) | with_reducible exact ti_)
  ·have : outN l t = l ++ [t.var] := by rw [outN, if_pos (by assumption), if_neg (by assumption)]
   rw [this, qwx]
   exact qfs (l := l ++ [t.var]) 3 (by simp) (by omega) (by simp) (by simp [ent]) rfl rfl
  ·have : outN l t = l := by rw [outN, if_pos (by assumption), if_pos (by assumption)]
   rw [this]
   exact qfs (l := l) 1 h0 (by omega) (by simp) rfl rfl rfl
  ·have : outN l t = l := by rw [outN, if_neg (by assumption)]
   rw [this]
   exact qfs (l := l) 1 h0 (by omega) (by simp) rfl rfl rfl
def qys (l : List Int) (t : Ty) (_ : Int) : List Int × Bool := (outN l t, true)
theorem qxk (l : List Int) (c : List UInt8) (v : Int) (a : List Ty) : outN l (.mk c v a) = qeb l (if c = [] then [v] else []) := by
 unfold outN
 by_cases hcn : c = []
 ·rw [if_pos (show (Ty.mk c v a).con = [] from hcn), if_pos hcn]; rfl
 ·rw [if_neg (show ¬ (Ty.mk c v a).con = [] from hcn), if_neg hcn]; rfl
mutual
theorem qbq3 : ∀ (t : Ty) (l : List Int) (k : Int), qch qys t l k = (qeb l (varY t), true)
 | .mk c v a, l, k => by
   rw [qch, if_pos (show (qys l (.mk c v a) k).2 = true from rfl), q69, varY, qo4]
   congr 2
   exact qxk l c v a
theorem q69 : ∀ (a : List Ty) (l : List Int) (k : Int), qbn qys a l k = (qeb l (qby a), true)
 | [], l, k => by rw [qbn, qby]; rfl
 | x :: r, l, k => by
   rw [qbn, qbq3 x, if_pos rfl, q69 r, qby, qo4]
end
theorem q1w (l : List Int) (t : Ty) : (outN l t).length ≤ l.length + 1 := by
 rw [outN]; split
 ·split
  ·omega
  ·simp
 ·omega
theorem qux (t : Ty) (hb : szY t ≤ 1000000) : qj Tryz.prog 51 [encY t] (.sl 1 (ints (qeb [] (varY t)))) := by
 refine qg c0bz (by simp) (by simp only [go_sem]) (qje 0 _) fun hw => ?_
 have hwalk := qh3 (st := outE) (step := qys) (f := 74) (ok := fun n l => l.length + n ≤ 1000000) (fun _ => rfl) (fun n l t k h => by have := q1w l t; simp only [qys]; omega) (fun n l h => by omega) (fun l t k h => qbvs l t k (by omega)) t [] 1 (by simpa using hb)
 rw [qbq3] at hwalk
 unfold k0bz
 refine qcg (qek ?_)
 (refine ev_ ?_; (try with_reducible exact ti_))
 refine qcg (qek ?_)
 (refine ev_ ?_; (try with_reducible exact ti_))
 refine qqv 1 rfl rfl ?_
 refine qcg (qek ?_)
 simp only [List.set_cons_succ, List.set_cons_zero]
 (refine ev_ ?_; (try with_reducible exact ti_))
 refine qbq 1 hwalk ?_
 simp only [List.set_cons_succ, List.set_cons_zero]
 (refine ev_ ?_; (try with_reducible exact ti_))
 refine qbjo 1 rfl (by simp) ?_
 simp only [List.set_cons_succ, List.set_cons_zero]
 by_cases h0 : qeb [] (varY t) = []
 ·simp only [h0, qdr, qbg, qbh]
  repeat' (first | refine vs_ ?_ | ((first | refine vr_ ?_ | (refine cs_ ?_ ?_ <;> intro hc) | refine cj_ ?_ | fail) <;> (try refine ev_ ?_)) | with_reducible exact ti_)
 ·simp only [qbw (qbv h0), qbp (qbv h0)]
  repeat' (first | refine vs_ ?_ | ((first | refine vr_ ?_ | (refine cs_ ?_ ?_ <;> intro hc) | refine cj_ ?_ | fail) <;> (try refine ev_ ?_)) | with_reducible exact ti_)
set_option maxRecDepth 4000

/-! the program's -/
abbrev numE (n : Int) : Ent := .blk [.int .i64 n]
def qe6 (n : Int) (t : Ty) (k : Int) : Int × Bool := (IntKind.i64.wrap (n + 1), decide (IntKind.i64.wrap (n + 1) ≤ 4096) && (decide (k ≤ 100) && mayY t))
theorem qbti (n : Int) (t : Ty) (k : Int) : VM Tryz.prog 57 (numE n) (numE (qe6 n t k).1) [encY t, .int .i64 k, .ptr 0 0] (.bool (qe6 n t k).2) := by
 refine qjn (by kernel_rfl) fun hw => ?_
 have hk := qcq hw.1
 refine qf c0bh 1 (by simp) (by simp) ?_
 repeat' (first | refine vs_ ?_ | ((first | refine vr_ ?_ | refine qa (qm2 _) fun _ => ?_ | refine qa (q6h _ _ _) fun _ => ?_ | (refine cs_ ?_ ?_ <;> intro hc) | refine cj_ ?_ | simp (disch := omega) only [encs_getN, qb]) <;> (try refine ev_ ?_)) | with_reducible exact ti_)
 ·simp_all [qe6]
 ·exact ⟨rfl, by simp only [qe6, *, decide_true, decide_false, Bool.true_and, Bool.false_and]⟩
 ·exact ⟨rfl, by simp only [qe6, *, decide_true, decide_false, Bool.true_and, Bool.false_and]⟩
def qqg (n : Int) (_ : Ty) (_ : Int) : Int × Bool := (IntKind.i64.wrap (n + 1), true)
theorem qbvw (n : Int) (t : Ty) (k : Int) : VM Tryz.prog 82 (numE n) (numE (qqg n t k).1) [encY t, .int .i64 k, .ptr 0 0] (.bool (qqg n t k).2) := by
 refine qf c0bi 1 (by simp) (by simp) ?_
 repeat' (first | refine vs_ ?_ | ((first | refine vr_ ?_ | (refine cs_ ?_ ?_ <;> intro hc) | refine cj_ ?_ | simp (disch := omega) only [encs_getN, qb]) <;> (try refine ev_ ?_)) | with_reducible exact ti_)
 exact ⟨rfl, rfl⟩
def qnw (n : Int) (_ : Ty) (k : Int) : Int × Bool := (if k > n then k else n, true)
theorem qbsp (n : Int) (t : Ty) (k : Int) : VM Tryz.prog 83 (numE n) (numE (qnw n t k).1) [encY t, .int .i64 k, .ptr 0 0] (.bool (qnw n t k).2) := by
 refine qf c0bj 1 (by simp) (by simp) ?_
 repeat' (first | refine vs_ ?_ | ((first | refine vr_ ?_ | (refine cs_ ?_ ?_ <;> intro hc) | refine cj_ ?_ | fail) <;> (try refine ev_ ?_)) | with_reducible exact ti_)
 exact ⟨rfl, rfl⟩
theorem qnr {f : FuncId} {step : Int → Ty → Int → Int × Bool} (h : ∀ n t k, VM Tryz.prog f (numE n) (numE (step n t k).1) [encY t, .int .i64 k, .ptr 0 0] (.bool (step n t k).2)) (t : Ty) (n k : Int) :
 VM Tryz.prog 56 (numE n) (numE (qch step t n k).1) [encY t, .int .i64 k, .fn f [] [.ptr 0 0]] (.bool (qch step t n k).2) :=
 qh3 (st := numE) (ok := fun _ _ => True) (fun _ => rfl) (fun _ _ _ _ _ => trivial) (fun _ _ _ => trivial) (fun n t k _ => h n t k) t n k trivial
def qxx (t : Ty) : Bool := (qch qe6 t 0 1).2
theorem qqi (t : Ty) : qj Tryz.prog 37 [encY t] (.bool (qxx t)) := by
 refine qg c0bk (by simp) (by simp only [go_sem]) rfl fun hw => ?_
 repeat' (first | refine vs_ ?_ | ((first | refine vr_ ?_ | refine qbq 1 (qnr qbti t 0 1) ?_ | (refine cs_ ?_ ?_ <;> intro hc) | refine cj_ ?_ | fail) <;> (try refine ev_ ?_)) | with_reducible exact ti_)
 rfl
theorem qus (t : Ty) : qj Tryz.prog 60 [encY t] (.int .i64 (qch qqg t 0 1).1) := by
 refine qg c0bl (by simp) (by simp only [go_sem]) rfl fun hw => ?_
 repeat' (first | refine vs_ ?_ | ((first | refine vr_ ?_ | refine qbq 1 (qnr qbvw t 0 1) ?_ | (refine cs_ ?_ ?_ <;> intro hc) | refine cj_ ?_ | fail) <;> (try refine ev_ ?_)) | with_reducible exact ti_)
theorem qri (t : Ty) : qj Tryz.prog 61 [encY t] (.int .i64 (qch qnw t 0 1).1) := by
 refine qg c0bm (by simp) (by simp only [go_sem]) rfl fun hw => ?_
 repeat' (first | refine vs_ ?_ | ((first | refine vr_ ?_ | refine qbq 1 (qnr qbsp t 0 1) ?_ | (refine cs_ ?_ ?_ <;> intro hc) | refine cj_ ?_ | fail) <;> (try refine ev_ ?_)) | with_reducible exact ti_)

/-! the references -/
mutual
def qih : Ty → Int
 | .mk _ _ l => qfe 1 l
def qfe : Int → List Ty → Int
 | a, [] => a
 | a, x :: r => qfe (IntKind.i64.wrap (a + qih x)) r
end
theorem q0a (t : Ty) : qih t = qfe 1 t.args := by cases t; rw [qih]; rfl
theorem qhr : ∀ t, qj Tryz.prog 23 [encY t] (.int .i64 (qih t)) := by
 refine Ty.ind fun t ih => ?_
 refine qg c0bn (by simp) (by simp only [go_sem]) rfl fun hw => ?_
 have hk := qcq hw.1
 repeat' (first | refine vs_ ?_ | ((first | refine vr_ ?_ | (refine cs_ ?_ ?_ <;> intro hc) | refine cj_ ?_ | simp (disch := omega) only [encs_getN, qb]) <;> (try refine ev_ ?_)) | with_reducible exact ti_)
 refine qq (S := Nat × Int) (fun s => s.1 ≤ t.args.length ∧ qfe s.2 (t.args.drop s.1) = qih t) (fun s => (⟨[(1, .ptr 0 0), (3, .int .i64 s.2), (4, .int .i64 s.1)], []⟩, [.blk (yc t)])) (fun s => t.args.length - s.1) ?_ fun s hs => ?_
 ·refine qi (0, 1) [0] ⟨Nat.zero_le _, (q0a t).symm⟩ rfl (by simp) ?_ ?_ ?_ <;> (try refine ev_ ?_) <;> (try with_reducible exact ti_) <;> (try simp (disch := omega) only [qb, and_true, true_and])
 ·obtain ⟨i, a⟩ := s
  obtain ⟨hi, ha⟩ := hs
  dsimp only at hi ha
  repeat' (first | refine vs_ ?_ | ((first | refine vr_ ?_ | fail) <;> (try simp (disch := first | omega | (simp only [List.length_set, List.length_append, List.length_cons, List.length_nil]; done) | (simp only [List.length_set, List.length_append, List.length_cons, List.length_nil]; omega)) only [qo, qb, go_sem, ↓reduceIte])) | ((first | (refine cs_ ?_ ?_ <;> intro hc) | refine cj_ ?_ | simp (disch := omega) only [encs_getN, qb] | refine qa (ih _ (qbb (by omega))) fun _ => ?_) <;> (try refine ev_ ?_)) | with_reducible exact ti_)
  ·refine qi (i + 1, IntKind.i64.wrap (a + qih (t.args.getD i Y0))) [0] ⟨⟨by dsimp only; omega, ?_⟩, by dsimp only; omega⟩ rfl (by simp) ?_ ?_ ?_ <;> (try refine ev_ ?_) <;> (try with_reducible exact ti_) <;> (try simp (disch := omega) only [qb, and_true, true_and])
   rw [← ha, qlb (l := t.args) (i := i) (by omega), qfe]
  ·rw [← ha, List.drop_of_length_le (by omega)]; rfl
mutual
def qnc : Ty → Int
 | .mk _ _ l => IntKind.i64.wrap (qgv 0 l + 1)
def qgv : Int → List Ty → Int
 | a, [] => a
 | a, x :: r => qgv (if qnc x > a then qnc x else a) r
end
theorem q2z (t : Ty) : qnc t = IntKind.i64.wrap (qgv 0 t.args + 1) := by cases t; rw [qnc]; rfl
theorem qrn : ∀ t, qj Tryz.prog 47 [encY t] (.int .i64 (qnc t)) := by
 refine Ty.ind fun t ih => ?_
 refine qg c0bo (by simp) (by simp only [go_sem]) rfl fun hw => ?_
 have hk := qcq hw.1
 repeat' (first | refine vs_ ?_ | ((first | refine vr_ ?_ | (refine cs_ ?_ ?_ <;> intro hc) | refine cj_ ?_ | simp (disch := omega) only [encs_getN, qb]) <;> (try refine ev_ ?_)) | with_reducible exact ti_)
 refine qq (S := Nat × Int) (fun s => s.1 ≤ t.args.length ∧ qgv s.2 (t.args.drop s.1) = qgv 0 t.args) (fun s => (⟨[(1, .ptr 0 0), (3, .int .i64 s.2), (4, .int .i64 s.1)], []⟩, [.blk (yc t)])) (fun s => t.args.length - s.1) ?_ fun s hs => ?_
 ·refine qi (0, 0) [0] ⟨Nat.zero_le _, rfl⟩ rfl (by simp) ?_ ?_ ?_ <;> (try refine ev_ ?_) <;> (try with_reducible exact ti_) <;> (try simp (disch := omega) only [qb, and_true, true_and])
 ·obtain ⟨i, a⟩ := s
  obtain ⟨hi, ha⟩ := hs
  dsimp only at hi ha
  repeat' (first | refine vs_ ?_ | ((first | refine vr_ ?_ | fail) <;> (try simp (disch := first | omega | (simp only [List.length_set, List.length_append, List.length_cons, List.length_nil]; done) | (simp only [List.length_set, List.length_append, List.length_cons, List.length_nil]; omega)) only [qo, qb, go_sem, ↓reduceIte])) | ((first | (refine cs_ ?_ ?_ <;> intro hc) | refine cj_ ?_ | simp (disch := omega) only [encs_getN, qb] | refine qa (ih _ (qbb (by omega))) fun _ => ?_) <;> (try refine ev_ ?_)) | with_reducible exact ti_)
  ·refine qi (i + 1, if qnc (t.args.getD i Y0) > a then qnc (t.args.getD i Y0) else a) [0] ⟨⟨by dsimp only; omega, ?_⟩, by dsimp only; omega⟩ rfl (by simp) ?_ ?_ ?_ <;> (try refine ev_ ?_) <;> (try with_reducible exact ti_) <;> (try simp (disch := omega) only [qb, and_true, true_and])
   rw [← ha, qlb (l := t.args) (i := i) (by omega), qgv]
  ·rw [q2z, ← ha, List.drop_of_length_le (by omega)]; rfl
mutual
def qb6 : Ty → Bool
 | .mk c v l => qbi l && mayW c v l.length
def qbi : List Ty → Bool
 | [] => true
 | x :: r => qb6 x && qbi r
end
theorem qd0 (t : Ty) : qb6 t = (qbi t.args && mayY t) := by cases t; rw [qb6]; rfl
theorem qid {l : List Ty} {i : Nat} (h : i < l.length) : qbi (l.drop i) = (qb6 (l.getD i Y0) && qbi (l.drop (i + 1))) := by rw [qlb h, qbi]
theorem qq5 : ∀ t, qj Tryz.prog 48 [encY t] (.bool (qb6 t)) := by
 refine Ty.ind fun t ih => ?_
 refine qg c0bp (by simp) (by simp only [go_sem]) rfl fun hw => ?_
 have hk := qcq hw.1
 repeat' (first | refine vs_ ?_ | ((first | refine vr_ ?_ | (refine cs_ ?_ ?_ <;> intro hc) | refine cj_ ?_ | simp (disch := omega) only [encs_getN, qb]) <;> (try refine ev_ ?_)) | with_reducible exact ti_)
 refine qq (S := Nat) (fun i => i ≤ t.args.length ∧ qbi (t.args.drop i) = qbi t.args) (fun i => (⟨[(1, .ptr 0 0), (3, .int .i64 i)], []⟩, [.blk (yc t)])) (fun i => t.args.length - i) ?_ fun i hi => ?_
 ·refine qi 0 [0] ⟨Nat.zero_le _, rfl⟩ rfl (by simp) ?_ ?_ ?_ <;> (try refine ev_ ?_) <;> (try with_reducible exact ti_) <;> (try simp (disch := omega) only [qb, and_true, true_and])
 ·obtain ⟨hi, ha⟩ := hi
  rw [qd0]
  repeat' (first | refine vs_ ?_ | ((first | refine vr_ ?_ | fail) <;> (try simp (disch := first | omega | (simp only [List.length_set, List.length_append, List.length_cons, List.length_nil]; done) | (simp only [List.length_set, List.length_append, List.length_cons, List.length_nil]; omega)) only [qo, qb, go_sem, ↓reduceIte])) | ((first | (refine cs_ ?_ ?_ <;> intro hc) | refine cj_ ?_ | simp (disch := omega) only [encs_getN, qb] | refine qa (ih _ (qbb (by omega))) fun _ => ?_ | refine qa (qqs _) fun _ => ?_ | refine qa (qyh _) fun _ => ?_) <;> (try refine ev_ ?_)) | with_reducible exact ti_)
  ·have : qbi t.args = false := by rw [← ha, qid (by omega), hc]; rfl
   rw [this]; rfl
  ·refine qi (i + 1) [0] ⟨⟨by omega, ?_⟩, by omega⟩ rfl (by simp) ?_ ?_ ?_ <;> (try refine ev_ ?_) <;> (try with_reducible exact ti_) <;> (try simp (disch := omega) only [qb, and_true, true_and])
   rw [← ha, qid (i := i) (by omega), hc, Bool.true_and]
  all_goals
   have hs : qbi t.args = true := by rw [← ha, List.drop_of_length_le (by omega)]; rfl
   rw [hs, Bool.true_and, mayY, mayW]
   simp only [arrW, *, if_true, if_false, decide_true, decide_false, Bool.and_true, Bool.and_false, Bool.false_eq_true]
   try rfl
/-! Few -/
mutual
def cntY : Ty → Int → Int → Int
 | .mk _ _ l, k, d => if d < 1 then -1 else qeh l (IntKind.i64.wrap (k - 1)) d
def qeh : List Ty → Int → Int → Int
 | [], a, _ => a
 | x :: r, a, d => if 0 ≤ a then qeh r (cntY x a (IntKind.i64.wrap (d - 1))) d else a
end
theorem qxo (t : Ty) (k d : Int) : cntY t k d = if d < 1 then -1 else qeh t.args (IntKind.i64.wrap (k - 1)) d := by cases t; rw [cntY]; rfl
theorem qg5 {a : Int} (h : a < 0) (l : List Ty) (d : Int) : qeh l a d = a := by
 cases l with
 | nil => rw [qeh]
 | cons x r => rw [qeh, if_neg (by omega)]
theorem q9x : ∀ t k d, qj Tryz.prog 40 [encY t, .int .i64 k, .int .i64 d] (.int .i64 (cntY t k d)) := by
 refine Ty.ind fun t ih k d => ?_
 refine qg c0bq (by simp) (by simp only [go_sem]) rfl fun hw => ?_
 have hk := qcq hw.1
 rw [qxo]
 repeat' (first | refine vs_ ?_ | ((first | refine vr_ ?_ | (refine cs_ ?_ ?_ <;> intro hc) | refine cj_ ?_ | simp (disch := omega) only [encs_getN, qb]) <;> (try refine ev_ ?_)) | with_reducible exact ti_)
 ·rw [if_pos (by assumption)]
 rw [if_neg (by assumption)]
 refine qq (S := Nat × Int) (fun s => s.1 ≤ t.args.length ∧ qeh (t.args.drop s.1) s.2 d = qeh t.args (IntKind.i64.wrap (k - 1)) d) (fun s => (⟨[(1, .int .i64 s.2), (2, .int .i64 d), (3, .ptr 0 0), (7, .int .i64 s.1)], []⟩, [.blk (yc t)])) (fun s => t.args.length - s.1) ?_ fun s hs => ?_
 ·refine qi (0, IntKind.i64.wrap (k - 1)) [0] ⟨Nat.zero_le _, rfl⟩ rfl (by simp) ?_ ?_ ?_ <;> (try refine ev_ ?_) <;> (try with_reducible exact ti_) <;> (try simp (disch := omega) only [qb, and_true, true_and])
 ·obtain ⟨i, a⟩ := s
  obtain ⟨hi, ha⟩ := hs
  dsimp only at hi ha
  repeat' (first | refine vs_ ?_ | ((first | refine vr_ ?_ | fail) <;> (try simp (disch := first | omega | (simp only [List.length_set, List.length_append, List.length_cons, List.length_nil]; done) | (simp only [List.length_set, List.length_append, List.length_cons, List.length_nil]; omega)) only [qo, qb, go_sem, ↓reduceIte])) | ((first | (refine cs_ ?_ ?_ <;> intro hc) | refine cj_ ?_ | simp (disch := omega) only [encs_getN, qb] | refine qa (ih _ (qbb (by omega)) _ _) fun _ => ?_) <;> (try refine ev_ ?_)) | with_reducible exact ti_)
  ·refine qi (i + 1, cntY (t.args.getD i Y0) a (IntKind.i64.wrap (d - 1))) [0] ⟨⟨by dsimp only; omega, ?_⟩, by dsimp only; omega⟩ rfl (by simp) ?_ ?_ ?_ <;> (try refine ev_ ?_) <;> (try with_reducible exact ti_) <;> (try simp (disch := omega) only [qb, and_true, true_and])
   rw [← ha, qlb (l := t.args) (i := i) (by omega), qeh, if_pos (by assumption)]
  ·rw [← ha, qg5 (by omega)]
  ·rw [← ha, List.drop_of_length_le (by omega)]; rfl
def qlc (a : Int) : List Ty → Int
 | [] => a
 | x :: r => qlc (cntY x a 300) r
def qg4 (l : List Ty) : Bool := decide (0 ≤ qlc 20000 l)
theorem qbsh (l : List Ty) : qj Tryz.prog 22 [.sl 3 (qt l)] (.int .i64 (if qg4 l = true then 1 else 0)) := by
 refine qg c0br (by simp) (by simp only [go_sem]) rfl fun hw => ?_
 have hk : l.length ≤ maxLen := by have := hw.1.1; rwa [qbu] at this
 repeat' (first | refine vs_ ?_ | ((first | refine vr_ ?_ | (refine cs_ ?_ ?_ <;> intro hc) | refine cj_ ?_ | simp (disch := omega) only [encs_getN, qb]) <;> (try refine ev_ ?_)) | with_reducible exact ti_)
 refine qq (S := Nat × Int) (fun s => s.1 ≤ l.length ∧ qlc s.2 (l.drop s.1) = qlc 20000 l) (fun s => (⟨[(0, .sl 3 (qt l)), (3, .int .i64 s.2), (4, .int .i64 s.1)], []⟩, [])) (fun s => l.length - s.1) ?_ fun s hs => ?_
 ·refine qi (0, 20000) [] ⟨Nat.zero_le _, rfl⟩ rfl (by simp) ?_ ?_ ?_ <;> (try refine ev_ ?_) <;> (try with_reducible exact ti_) <;> (try simp (disch := omega) only [qb, and_true, true_and])
 ·obtain ⟨i, a⟩ := s
  obtain ⟨hi, ha⟩ := hs
  dsimp only at hi ha
  repeat' (first | refine vs_ ?_ | ((first | refine vr_ ?_ | fail) <;> (try simp (disch := first | omega | (simp only [List.length_set, List.length_append, List.length_cons, List.length_nil]; done) | (simp only [List.length_set, List.length_append, List.length_cons, List.length_nil]; omega)) only [qo, qb, go_sem, ↓reduceIte])) | ((first | (refine cs_ ?_ ?_ <;> intro hc) | refine cj_ ?_ | simp (disch := omega) only [encs_getN, qb] | refine qa (q9x _ _ _) fun _ => ?_) <;> (try refine ev_ ?_)) | with_reducible exact ti_)
  ·refine qi (i + 1, cntY (l.getD i Y0) a 300) [] ⟨⟨by dsimp only; omega, ?_⟩, by dsimp only; omega⟩ rfl (by simp) ?_ ?_ ?_ <;> (try refine ev_ ?_) <;> (try with_reducible exact ti_) <;> (try simp (disch := omega) only [qb, and_true, true_and])
   rw [← ha, qlb (l := l) (i := i) (by omega), qlc]
  all_goals
   have hf : qlc 20000 l = a := by rw [← ha, List.drop_of_length_le (by omega)]; rfl
   rw [qg4, hf]
  ·rw [if_neg (by simp; omega)]
  ·rw [if_pos (by simp; omega)]

/-! the laws of sizes -/
mutual
theorem qxa : ∀ (t : Ty) (k d : Int), 0 ≤ k → k ≤ 20000 → d ≤ 300 → 0 ≤ cntY t k d → cntY t k d = k - szY t ∧ (dpY t : Int) ≤ d
 | .mk c v l, k, d, h0, h1, h2, h3 => by
   rw [cntY] at h3 ⊢
   by_cases hd : d < 1
   ·rw [if_pos hd] at h3; omega
   ·rw [if_neg hd] at h3 ⊢
    have hk : IntKind.i64.wrap (k - 1) = k - 1 := qw (by omega) (by omega)
    rw [hk] at h3 ⊢
    have h4 : 0 ≤ k - 1 := by
     by_cases h : 0 ≤ k - 1
     ·exact h
     ·rw [qg5 (by omega)] at h3; exact h3
    have := qs7 l (k - 1) d h4 (by omega) (by omega) h2 h3
    rw [szY, dpY]
    omega
theorem qs7 : ∀ (l : List Ty) (a d : Int), 0 ≤ a → a ≤ 20000 → 1 ≤ d → d ≤ 300 → 0 ≤ qeh l a d → qeh l a d = a - szYs l ∧ (dpYs l : Int) ≤ d - 1
 | [], a, d, h0, h1, h2, h3, h4 => by rw [qeh, szYs, dpYs]; omega
 | x :: r, a, d, h0, h1, h2, h3, h4 => by
   rw [qeh, if_pos h0] at h4 ⊢
   have hd : IntKind.i64.wrap (d - 1) = d - 1 := qw (by omega) (by omega)
   rw [hd] at h4 ⊢
   have h5 : 0 ≤ cntY x a (d - 1) := by
    by_cases h : 0 ≤ cntY x a (d - 1)
    ·exact h
    ·rw [qg5 (by omega)] at h4; exact absurd h4 h
   obtain ⟨h6, h7⟩ := qxa x a (d - 1) h0 h1 (by omega) h5
   obtain ⟨h8, h9⟩ := qs7 r _ d h5 (by omega) h2 h3 h4
   rw [szYs, dpYs]
   omega
end
mutual
theorem qx7 : ∀ (t : Ty) (k d : Int), 0 ≤ k → k ≤ 20000 → -1 ≤ cntY t k d
 | .mk c v l, k, d, h0, h1 => by
   rw [cntY]
   split
   ·omega
   ·rw [qw (z := k - 1) (by omega) (by omega)]
    exact qy8 l (k - 1) d (by omega) (by omega)
theorem qy8 : ∀ (l : List Ty) (a d : Int), -1 ≤ a → a ≤ 20000 → -1 ≤ qeh l a d
 | [], a, d, h0, _ => by rw [qeh]; exact h0
 | x :: r, a, d, h0, h1 => by
   rw [qeh]
   split
   ·rename_i h
    have h2 := qx7 x a (IntKind.i64.wrap (d - 1)) h h1
    have h3 := q6t x a (IntKind.i64.wrap (d - 1)) h h1
    exact qy8 r _ d h2 (by omega)
   ·exact h0
theorem q6t : ∀ (t : Ty) (k d : Int), 0 ≤ k → k ≤ 20000 → cntY t k d ≤ k
 | .mk c v l, k, d, h0, h1 => by
   rw [cntY]
   split
   ·omega
   ·rw [qw (z := k - 1) (by omega) (by omega)]
    have := qyd l (k - 1) d (by omega) (by omega)
    omega
theorem qyd : ∀ (l : List Ty) (a d : Int), -1 ≤ a → a ≤ 20000 → qeh l a d ≤ a
 | [], a, d, h0, _ => by rw [qeh]; exact Int.le_refl _
 | x :: r, a, d, h0, h1 => by
   rw [qeh]
   split
   ·rename_i h
    have h2 := qx7 x a (IntKind.i64.wrap (d - 1)) h h1
    have h3 := q6t x a (IntKind.i64.wrap (d - 1)) h h1
    have := qyd r _ d h2 (by omega)
    omega
   ·exact Int.le_refl _
end
theorem qsk : ∀ (l : List Ty) {a : Int}, a < 0 → -9223372036854775808 ≤ a - l.length → qlc a l < 0
 | [], a, h, _ => h
 | x :: r, a, h, h2 => by
   rw [qlc]
   have h3 : cntY x a 300 = IntKind.i64.wrap (a - 1) := by
    rw [qxo, if_neg (by omega)]
    have hk : IntKind.i64.wrap (a - 1) = a - 1 := qw (by simp only [List.length_cons] at h2; omega) (by omega)
    rw [hk, qg5 (by omega)]
   have hk : IntKind.i64.wrap (a - 1) = a - 1 := qw (by simp only [List.length_cons] at h2; omega) (by omega)
   rw [h3, hk]
   exact qsk r (by omega) (by simp only [List.length_cons] at h2; omega)
theorem qtf : ∀ (l : List Ty) (a : Int), 0 ≤ a → a ≤ 20000 → l.length ≤ 9223372036854775807 → 0 ≤ qlc a l → (szYs l : Int) ≤ a ∧ (dpYs l : Int) ≤ 300
 | [], a, h0, h1, _, h2 => by rw [szYs, dpYs]; omega
 | x :: r, a, h0, h1, hl, h2 => by
   rw [qlc] at h2
   simp only [List.length_cons] at hl
   have h5 : 0 ≤ cntY x a 300 := by
    by_cases h : 0 ≤ cntY x a 300
    ·exact h
    ·have : -1 ≤ cntY x a 300 := qx7 x a 300 h0 h1
     have := qsk r (a := cntY x a 300) (by omega) (by omega)
     omega
   obtain ⟨h6, h7⟩ := qxa x a 300 h0 h1 (by omega) h5
   obtain ⟨h8, h9⟩ := qtf r _ h5 (by omega) (by omega) h2
   rw [szYs, dpYs]
   omega
theorem qble {l : List Ty} (hl : l.length ≤ maxLen) (h : qg4 l = true) : szYs l ≤ 20000 ∧ dpYs l ≤ 300 := by
 have := qtf l 20000 (by omega) (by omega) (by unfold maxLen at hl; omega) (by simpa [qg4] using h)
 omega

mutual
theorem qfk : ∀ (t : Ty), szY t ≤ 1000000 → qih t = szY t
 | .mk c v l, h => by
   rw [szY] at h
   rw [qih, szY, qkg l 1 (by omega) (by omega)]
   omega
theorem qkg : ∀ (l : List Ty) (a : Int), 1 ≤ a → a + szYs l ≤ 1000001 → qfe a l = a + szYs l
 | [], a, _, _ => by rw [qfe, szYs]; omega
 | x :: r, a, h0, h => by
   rw [szYs] at h
   rw [qfe, qfk x (by omega), qw (by omega) (by omega), qkg r _ (by omega) (by omega), szYs]
   omega
end
mutual
theorem qn9 : ∀ (t : Ty), dpY t ≤ 1000000 → qnc t = dpY t
 | .mk c v l, h => by
   rw [dpY] at h
   rw [qnc, dpY, qlf l 0 (by omega) (by omega), qw (by omega) (by omega)]
   omega
theorem qlf : ∀ (l : List Ty) (a : Int), dpYs l ≤ 1000000 → 0 ≤ a → qgv a l = max a (dpYs l)
 | [], a, _, _ => by rw [qgv, dpYs]; omega
 | x :: r, a, h, h0 => by
   rw [dpYs] at h
   have h1 := qn9 x (by omega)
   rw [qgv, h1]
   have h2 : (if (dpY x : Int) > a then (dpY x : Int) else a) = max a (dpY x) := by split <;> omega
   rw [h2, qlf r _ (by omega) (by omega), dpYs]
   omega
end
mutual
theorem qn5 : ∀ (t : Ty) (n k : Int), 0 ≤ n → n + szY t ≤ 1000000 → qch qqg t n k = (n + szY t, true)
 | .mk c v l, n, k, h0, h => by
   rw [szY] at h
   rw [qch, if_pos (show (qqg n (.mk c v l) k).2 = true from rfl)]
   have h1 : (qqg n (.mk c v l) k).1 = n + 1 := qw (by omega) (by omega)
   rw [h1, ql2 l _ _ (by omega) (by omega), szY]
   congr 1; omega
theorem ql2 : ∀ (l : List Ty) (n k : Int), 0 ≤ n → n + szYs l ≤ 1000000 → qbn qqg l n k = (n + szYs l, true)
 | [], n, k, _, _ => by rw [qbn, szYs]; congr 1; omega
 | x :: r, n, k, h0, h => by
   rw [szYs] at h
   rw [qbn, qn5 x n k h0 (by omega), if_pos rfl, ql2 r _ k (by omega) (by omega), szYs]
   congr 1; omega
end
mutual
theorem qnu : ∀ (t : Ty) (n k : Int), 0 ≤ n → 1 ≤ k → k + dpY t ≤ 1000000 → qch qnw t n k = (max n (k + dpY t - 1), true)
 | .mk c v l, n, k, h0, h1, h => by
   rw [dpY] at h
   rw [qch, if_pos (show (qnw n (.mk c v l) k).2 = true from rfl)]
   have h2 : (qnw n (.mk c v l) k).1 = max n k := by simp only [qnw]; split <;> omega
   rw [h2, qw (z := k + 1) (by omega) (by omega), ql8 l _ _ (by omega) (by omega) (by omega), dpY]
   congr 1; split <;> omega
theorem ql8 : ∀ (l : List Ty) (n k : Int), 0 ≤ n → 1 ≤ k → k + dpYs l ≤ 1000000 → qbn qnw l n k = (if dpYs l = 0 then n else max n (k + dpYs l - 1), true)
 | [], n, k, _, _, _ => by rw [qbn, dpYs, if_pos rfl]
 | x :: r, n, k, h0, h1, h => by
   rw [dpYs] at h
   have hp := q7y x
   rw [qbn, qnu x n k h0 h1 (by omega), if_pos rfl, ql8 r _ k (by omega) h1 (by omega), dpYs]
   congr 1
   rw [if_neg (by omega : ¬ max (dpY x) (dpYs r) = 0)]
   split <;> omega
end
mutual
theorem qn2 : ∀ (t : Ty) (n k : Int), 0 ≤ n → n + szY t ≤ 1000000 → 1 ≤ k → k + dpY t ≤ 1000000 →
 ((qch qe6 t n k).2 = true ↔ n + szY t ≤ 4096 ∧ k + dpY t - 1 ≤ 100 ∧ qb6 t = true) ∧ ((qch qe6 t n k).2 = true → (qch qe6 t n k).1 = n + szY t)
 | .mk c v l, n, k, h0, h1, h2, h3 => by
   rw [szY] at h1
   rw [dpY] at h3
   have e1 : IntKind.i64.wrap (n + 1) = n + 1 := qw (by omega) (by omega)
   have e2 : IntKind.i64.wrap (k + 1) = k + 1 := qw (by omega) (by omega)
   have e3 : (qe6 n (.mk c v l) k).1 = n + 1 := e1
   have e4 : (qe6 n (.mk c v l) k).2 = true ↔ n + 1 ≤ 4096 ∧ k ≤ 100 ∧ mayW c v l.length = true := by
    simp only [qe6, e1, Bool.and_eq_true, decide_eq_true_eq]; rfl
   rw [qch, szY, dpY, qb6]
   by_cases hs : (qe6 n (.mk c v l) k).2 = true
   ·rw [if_pos hs, e3, e2]
    obtain ⟨q1, q2, q3⟩ := e4.1 hs
    obtain ⟨r1, r2⟩ := qlv l (n + 1) (k + 1) (by omega) (by omega) (by omega) (by omega) (by omega) (by omega)
    refine ⟨?_, fun h => by rw [r2 h]; omega⟩
    rw [r1, q3, Bool.and_true]
    constructor
    ·rintro ⟨a1, a2, a3⟩; exact ⟨by omega, by omega, a3⟩
    ·rintro ⟨a1, a2, a3⟩; exact ⟨by omega, by omega, a3⟩
   ·rw [if_neg hs]
    refine ⟨⟨fun h => (by cases h), fun ⟨a1, a2, a3⟩ => absurd (e4.2 ⟨by omega, by omega, (by rw [Bool.and_eq_true] at a3; exact a3.2)⟩) hs⟩, fun h => by cases h⟩
theorem qlv : ∀ (l : List Ty) (n k : Int), 0 ≤ n → n + szYs l ≤ 1000000 → 1 ≤ k → k + dpYs l ≤ 1000000 → n ≤ 4096 → k - 1 ≤ 100 →
 ((qbn qe6 l n k).2 = true ↔ n + szYs l ≤ 4096 ∧ k + dpYs l - 1 ≤ 100 ∧ qbi l = true) ∧ ((qbn qe6 l n k).2 = true → (qbn qe6 l n k).1 = n + szYs l)
 | [], n, k, h0, h1, h2, h3, h4, h5 => by
   rw [qbn, szYs, dpYs, qbi]
   exact ⟨⟨fun _ => ⟨by omega, by omega, rfl⟩, fun _ => rfl⟩, fun _ => by simp⟩
 | x :: r, n, k, h0, h1, h2, h3, h4, h5 => by
   rw [szYs] at h1
   rw [dpYs] at h3
   obtain ⟨q1, q2⟩ := qn2 x n k h0 (by omega) h2 (by omega)
   rw [qbn, szYs, dpYs, qbi]
   by_cases hs : (qch qe6 x n k).2 = true
   ·rw [if_pos hs, q2 hs]
    obtain ⟨a1, a2, a3⟩ := q1.1 hs
    obtain ⟨r1, r2⟩ := qlv r (n + szY x) k (by omega) (by omega) h2 (by omega) (by omega) h5
    refine ⟨?_, fun h => by rw [r2 h]; omega⟩
    rw [r1, a3, Bool.true_and]
    constructor
    ·rintro ⟨b1, b2, b3⟩; exact ⟨by omega, by omega, b3⟩
    ·rintro ⟨b1, b2, b3⟩; exact ⟨by omega, by omega, b3⟩
   ·rw [if_neg hs]
    refine ⟨⟨fun h => (by cases h), fun ⟨a1, a2, a3⟩ => absurd (q1.2 ⟨by omega, by omega, ?_⟩) hs⟩, fun h => by cases h⟩
    rw [Bool.and_eq_true] at a3
    exact a3.1
end
def qd (t : Ty) : Bool := decide (szY t ≤ 4096) && (decide (dpY t ≤ 100) && qb6 t)
theorem qzq {t : Ty} (h1 : szY t ≤ 20000) (h2 : dpY t ≤ 300) : qxx t = qd t := by
 have := (qn2 t 0 1 (by omega) (by omega) (by omega) (by omega)).1
 rw [qxx, Bool.eq_iff_iff, this, qd, Bool.and_eq_true, Bool.and_eq_true, decide_eq_true_eq, decide_eq_true_eq]
 constructor
 ·rintro ⟨a1, a2, a3⟩; exact ⟨by omega, by omega, a3⟩
 ·rintro ⟨a1, a2, a3⟩; exact ⟨by omega, by omega, a3⟩
theorem qdd {t : Ty} (h1 : szY t ≤ 20000) (h2 : dpY t ≤ 300) : qj Tryz.prog 29 [encY t] (.bool (qd t)) := by
 refine qg c0bs (by simp) (by simp only [go_sem]) rfl fun hw => ?_
 have e1 := qhr t
 have e2 := qrn t
 rw [qfk t (by omega)] at e1
 rw [qn9 t (by omega)] at e2
 repeat' (first | refine vs_ ?_ | ((first | refine vr_ ?_ | refine qa e1 fun _ => ?_ | refine qa e2 fun _ => ?_ | refine qa (qq5 t) fun _ => ?_ | (refine cs_ ?_ ?_ <;> intro hc) | refine cj_ ?_ | fail) <;> (try refine ev_ ?_)) | with_reducible exact ti_)
 all_goals
  rw [qd]
 ·rw [decide_eq_true (by omega), decide_eq_true (by omega)]; rfl
 ·rw [decide_eq_false (p := dpY t ≤ 100) (by omega), Bool.false_and, Bool.and_false]
 ·rw [decide_eq_false (p := szY t ≤ 4096) (by omega)]; rfl
theorem qc0 {t : Ty} (h1 : szY t ≤ 20000) (h2 : dpY t ≤ 300) : qj Tryz.prog 37 [encY t] (.bool (qd t)) := by
 rw [← qzq h1 h2]; exact qqi t
end Go.Proofs.YtlahgbhhejkgbaaGreat
