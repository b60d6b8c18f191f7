/- Texts of this proof, joined. -/
import Derived.Test.YtfpobiheiloamaaOam
import Derived.Test.YtfpobiheiloamaaOan
import Derived.Test.YtfpobiheiloamaaOao

/- terms: heads, sameness, the walk over a term -/
set_option maxRecDepth 4000
namespace Go.Proofs.Ytfpobiheiloamaa
open Go Go.RowKit Go.V
set_option linter.unusedVariables false
set_option linter.unusedSimpArgs false

abbrev hdA (t : Ty) : AV := .agg [.str t.con, .int .i64 t.var, .int .i64 t.args.length]
theorem qdx {t : Ty} (hw : (encY t).wf) : t.args.length ≤ maxLen := ((qhn t).1 hw).1
attribute [go_sem] hdA
theorem qey (t : Ty) : ql Try.prog 88 [encY t] (hdA t) := by
 refine qe c0n (by simp) (by simp only [go_sem]) rfl fun hw => ?_
 have hk := qdx hw.1
 repeat' (first | refine vs_ ?_ | ((first | refine vr_ ?_ | (refine cs_ ?_ ?_ <;> intro hc) | refine cj_ ?_ | fail) <;> (try refine ev_ ?_)) | with_reducible exact ti_)
 all_goals (try rfl)
def hdEq (a b : Ty) : Bool := decide (a.con = b.con) && (decide (a.var = b.var) && decide ((a.args.length : Int) = b.args.length))
theorem qm8 {a b : Ty} (h : hdEq a b = true) : a.con = b.con ∧ a.var = b.var ∧ a.args.length = b.args.length := by
 simp only [hdEq, Bool.and_eq_true, decide_eq_true_eq] at h
 exact ⟨h.1, h.2.1, by omega⟩
theorem qzk {a b : Ty} (h : hdEq a b = false) : qff a b = false := by
 cases hs : qff a b with
 | false => rfl
 | true =>
   have := (qmv a b).1 hs
   subst this
   simp [hdEq] at h
theorem qub {a b : Ty} {i : Nat} (h : hdEq a b = true) (ha : qx (a.args.drop i) (b.args.drop i) = qx a.args b.args) : qff a b = qx (a.args.drop i) (b.args.drop i) := by
 obtain ⟨h1, h2, h3⟩ := qm8 h
 rw [ha, qd4]; simp [h1, h2]
theorem qn2 : ∀ a b, ql Try.prog 76 [encY a, encY b] (.bool (qff a b)) := by
 refine Ty.ind fun a ih b => ?_
 refine qe c0o (by simp) (by simp only [go_sem]) rfl fun hw => ?_
 have hkl := qdx hw.1
 have hkr := qdx hw.2.1
 repeat' (first | refine vs_ ?_ | ((first | refine vr_ ?_ | refine qa (qey _) fun _ => ?_ | refine qf (qey _) ?_ | (refine cs_ ?_ ?_ <;> intro hc) | refine cj_ ?_ | simp (disch := omega) only [encs_getN, qb]) <;> (try refine ev_ ?_)) | with_reducible exact ti_)
 ·rw [qzk (by simpa [hdEq] using hc)]
 have hq : hdEq a b = true := by simpa [hdEq] using hc
 clear hc
 refine qs (S := Nat) (fun i => i ≤ a.args.length ∧ qx (a.args.drop i) (b.args.drop i) = qx a.args b.args) (fun i => (⟨[(2, .ptr 0 0), (3, .ptr 1 0), (13, .int .i64 a.args.length), (14, .int .i64 i)], []⟩, [.blk (yc a), .blk (yc b)])) (fun i => a.args.length - i) ?_ fun i hi => ?_
 ·refine qk 0 [0, 1] ⟨Nat.zero_le _, rfl⟩ rfl (by simp) ?_ ?_ ?_ <;> (try refine ev_ ?_) <;> (try with_reducible exact ti_) <;> (try simp (disch := omega) only [qb, and_true, true_and])
 ·obtain ⟨hi, ha⟩ := hi
  have hf := qub hq ha
  obtain ⟨q1, q2, q3⟩ := qm8 hq
  repeat' (first | refine vs_ ?_ | ((first | refine vr_ ?_ | fail) <;> (try simp (disch := first | omega | (simp only [List.length_set, List.length_append, List.length_cons, List.length_nil]; done) | (simp only [List.length_set, List.length_append, List.length_cons, List.length_nil]; omega)) only [qca, qb, go_sem, ↓reduceIte])) | ((first | (refine cs_ ?_ ?_ <;> intro hc) | refine cj_ ?_ | simp (disch := omega) only [encs_getN, qb] | refine qa (ih _ (qdd (by omega)) _) fun _ => ?_ | refine qf (ih _ (qdd (by omega)) _) ?_) <;> (try refine ev_ ?_)) | with_reducible exact ti_)
  ·rw [hf, qdc (by omega) (by omega), hc]; rfl
  ·refine qk (i + 1) [0, 1] ⟨⟨by omega, ?_⟩, by omega⟩ rfl (by simp) ?_ ?_ ?_ <;> (try refine ev_ ?_) <;> (try with_reducible exact ti_) <;> (try simp (disch := omega) only [qb, and_true, true_and])
   rw [← ha, qdc (l := a.args) (l' := b.args) (i := i) (by omega) (by omega), hc, Bool.true_and]
  ·rw [hf, qin (by omega) (by omega)]
theorem quz {a b : Ty} {i : Nat} (h1 : a.con = b.con) (h2 : a.var = b.var) (ha : qx (a.args.drop i) (b.args.drop i) = qx a.args b.args) : qff a b = qx (a.args.drop i) (b.args.drop i) := by
 rw [ha, qd4]; simp [h1, h2]
theorem qop : ∀ a b, ql Try.prog 39 [encY a, encY b] (.bool (qff a b)) := by
 refine Ty.ind fun a ih b => ?_
 refine qe c0p (by simp) (by simp only [go_sem]) rfl fun hw => ?_
 have hkl := qdx hw.1
 have hkr := qdx hw.2.1
 repeat' (first | refine vs_ ?_ | ((first | refine vr_ ?_ | (refine cs_ ?_ ?_ <;> intro hc) | refine cj_ ?_ | simp (disch := omega) only [encs_getN, qb]) <;> (try refine ev_ ?_)) | with_reducible exact ti_)
 ·rw [qd4]; simp [*]
 ·rw [qd4]; simp [*]
 ·rw [qd4, qis (by omega)]; simp
 rename_i h1 h2
 refine qs (S := Nat) (fun i => i ≤ a.args.length ∧ qx (a.args.drop i) (b.args.drop i) = qx a.args b.args) (fun i => (⟨[(2, .ptr 0 0), (3, .ptr 1 0), (5, .int .i64 i)], []⟩, [.blk (yc a), .blk (yc b)])) (fun i => a.args.length - i) ?_ fun i hi => ?_
 ·refine qk 0 [0, 1] ⟨Nat.zero_le _, rfl⟩ rfl (by simp) ?_ ?_ ?_ <;> (try refine ev_ ?_) <;> (try with_reducible exact ti_) <;> (try simp (disch := omega) only [qb, and_true, true_and])
 ·obtain ⟨hi, ha⟩ := hi
  have hf := quz h1 h2 ha
  repeat' (first | refine vs_ ?_ | ((first | refine vr_ ?_ | fail) <;> (try simp (disch := first | omega | (simp only [List.length_set, List.length_append, List.length_cons, List.length_nil]; done) | (simp only [List.length_set, List.length_append, List.length_cons, List.length_nil]; omega)) only [qca, qb, go_sem, ↓reduceIte])) | ((first | (refine cs_ ?_ ?_ <;> intro hc) | refine cj_ ?_ | simp (disch := omega) only [encs_getN, qb] | refine qa (ih _ (qdd (by omega)) _) fun _ => ?_ | refine qf (ih _ (qdd (by omega)) _) ?_) <;> (try refine ev_ ?_)) | with_reducible exact ti_)
  ·rw [hf, qdc (by omega) (by omega), hc]; rfl
  ·refine qk (i + 1) [0, 1] ⟨⟨by omega, ?_⟩, by omega⟩ rfl (by simp) ?_ ?_ ?_ <;> (try refine ev_ ?_) <;> (try with_reducible exact ti_) <;> (try simp (disch := omega) only [qb, and_true, true_and])
   rw [← ha, qdc (l := a.args) (l' := b.args) (i := i) (by omega) (by omega), hc, Bool.true_and]
  ·rw [hf, qin (by omega) (by omega)]
/-! heads -/
attribute [go_sem] q3f
def fixW (s : List UInt8) : Bool := pfx [33] s && (decide ((qh4 (s.drop 1)).2 = 0) && decide (digI (qh4 (s.drop 1)).1 = s.drop 1))
theorem qys {c : UInt8} {s : List UInt8} (h : pfx [c] s = true) : 1 ≤ s.length := by
 cases s with
 | nil => simp [pfx] at h
 | cons d r => simp
theorem qmp (s : List UInt8) : ql Try.prog 119 [.str s] (.bool (fixW s)) := by
 refine qe c0q (by simp) (by simp only [go_sem]) rfl fun hw => ?_
 cases hp : pfx [33] s with
 | false =>
   repeat' (first | refine vs_ ?_ | ((first | refine vr_ ?_ | fail) <;> (try simp only [hp, go_sem, ↓reduceIte])) | ((first | (refine cs_ ?_ ?_ <;> intro hc) | refine cj_ ?_ | fail | refine qa (qbk _ _) fun _ => ?_ | refine qf (qbk _ _) ?_) <;> (try refine ev_ ?_)) | with_reducible exact ti_)
   simp [fixW, hp]
 | true =>
   have hl := qys hp
   repeat' (first | refine vs_ ?_ | ((first | refine vr_ ?_ | fail) <;> (try simp only [hp, go_sem, ↓reduceIte])) | ((first | (refine cs_ ?_ ?_ <;> intro hc) | refine cj_ ?_ | fail | refine qa (qbk _ _) fun _ => ?_ | refine qa (qly _) fun _ => ?_ | refine qa (qe6 _) fun _ => ?_ | refine qf (qbk _ _) ?_ | refine qf (qly _) ?_ | refine qf (qe6 _) ?_) <;> (try refine ev_ ?_)) | with_reducible exact ti_)
   all_goals simp_all [fixW]
def mayW (c : List UInt8) (v n : Int) : Bool :=
 if c = [] then decide (n = 0) else if c = arrW then decide (v = 0) && decide (n = 2) else if fixW c = true then decide (v = 0) && decide (n = 0) else decide (v = 0) && conW c
theorem qtv (c : List UInt8) (v n : Int) : ql Try.prog 89 [.agg [.str c, .int .i64 v, .int .i64 n]] (.bool (mayW c v n)) := by
 refine qe c0r (by simp) (by simp only [go_sem]) rfl fun hw => ?_
 repeat' (first | refine vs_ ?_ | ((first | refine vr_ ?_ | refine qa (qmp _) fun _ => ?_ | refine qa (qk4 _) fun _ => ?_ | (refine cs_ ?_ ?_ <;> intro hc) | refine cj_ ?_ | fail) <;> (try refine ev_ ?_)) | with_reducible exact ti_)
 all_goals simp_all [mayW, arrW]
abbrev mayY (t : Ty) : Bool := mayW t.con t.var t.args.length

/-! the walk -/
section
variable {S : Type}
mutual
def qbw (step : S → Ty → Int → S × Bool) : Ty → S → Int → S × Bool
 | .mk c v l, s, k => if (step s (.mk c v l) k).2 = true then qbe step l (step s (.mk c v l) k).1 (IntKind.i64.wrap (k + 1)) else ((step s (.mk c v l) k).1, false)
def qbe (step : S → Ty → Int → S × Bool) : List Ty → S → Int → S × Bool
 | [], s, _ => (s, true)
 | x :: r, s, k => if (qbw step x s k).2 = true then qbe step r (qbw step x s k).1 k else ((qbw step x s k).1, false)
end
theorem qm0 (step : S → Ty → Int → S × Bool) (t : Ty) (s : S) (k : Int) : qbw step t s k = if (step s t k).2 = true then qbe step t.args (step s t k).1 (IntKind.i64.wrap (k + 1)) else ((step s t k).1, false) := by
 cases t; rw [qbw]; rfl
theorem qhs (step : S → Ty → Int → S × Bool) {l : List Ty} {i : Nat} (h : i < l.length) (s : S) (k : Int) :
 qbe step (l.drop i) s k = if (qbw step (l.getD i Y0) s k).2 = true then qbe step (l.drop (i + 1)) (qbw step (l.getD i Y0) s k).1 k else ((qbw step (l.getD i Y0) s k).1, false) := by
 rw [qo7 h, qbe]
theorem qok (step : S → Ty → Int → S × Bool) {l : List Ty} {i : Nat} (h : l.length ≤ i) (s : S) (k : Int) : qbe step (l.drop i) s k = (s, true) := by
 rw [List.drop_of_length_le h, qbe]
end
section
variable {S : Type} {step : S → Ty → Int → S × Bool} {ok : Nat → S → Prop}
theorem qrc (h2 : ∀ n s, ok (n + 1) s → ok n s) : ∀ (d n : Nat) (s : S), ok (n + d) s → ok n s
 | 0, n, s, h => h
 | d + 1, n, s, h => qrc h2 d n s (h2 _ _ h)
mutual
theorem qsa (h1 : ∀ n s t k, ok (n + 1) s → ok n (step s t k).1) (h2 : ∀ n s, ok (n + 1) s → ok n s) : ∀ (t : Ty) (s : S) (k : Int) (m : Nat), ok (szY t + m) s → ok m (qbw step t s k).1
 | .mk c v l, s, k, m, h => by
   rw [szY, show 1 + szYs l + m = szYs l + m + 1 by omega] at h
   have h3 := h1 _ s (.mk c v l) k h
   rw [qbw]
   split
   ·exact qnx h1 h2 l _ _ m h3
   ·exact qrc h2 (szYs l) m _ (by rw [Nat.add_comm]; exact h3)
theorem qnx (h1 : ∀ n s t k, ok (n + 1) s → ok n (step s t k).1) (h2 : ∀ n s, ok (n + 1) s → ok n s) : ∀ (l : List Ty) (s : S) (k : Int) (m : Nat), ok (szYs l + m) s → ok m (qbe step l s k).1
 | [], s, k, m, h => by rw [qbe]; rw [szYs, Nat.zero_add] at h; exact h
 | x :: r, s, k, m, h => by
   rw [szYs, Nat.add_assoc] at h
   have h3 := qsa h1 h2 x s k _ h
   rw [qbe]
   split
   ·exact qnx h1 h2 r _ _ m h3
   ·exact qrc h2 (szYs r) m _ (by rw [Nat.add_comm]; exact h3)
end
end
section
variable {S : Type}
variable {f : FuncId} {st : S → Ent} {step : S → Ty → Int → S × Bool} {ok : Nat → S → Prop} (hb : ∀ s, (st s).bd 0 = true) (h1 : ∀ n s t k, ok (n + 1) s → ok n (step s t k).1) (h2 : ∀ n s, ok (n + 1) s → ok n s)
 (hs : ∀ s t k, ok 1 s → VM Try.prog f (st s) (st (step s t k).1) [encY t, .int .i64 k, .ptr 0 0] (.bool (step s t k).2))
include hb h1 h2 hs
theorem qit : ∀ t s k, ok (szY t) s → VM Try.prog 86 (st s) (st (qbw step t s k).1) [encY t, .int .i64 k, .fn f [] [.ptr 0 0]] (.bool (qbw step t s k).2) := by
 refine Ty.ind fun t ih s k hok => ?_
 have hb1 : ∀ s k, (st s).bd k = true := fun s k => Ent.bd_le (Nat.zero_le _) _ (hb s)
 have hbr : ∀ s σ, (st s).ren σ = st s := fun s σ => Ent.ren_bd0 (hb s)
 refine qgx (by kernel_rfl) fun hw => ?_
 have hk := qdx hw.1
 have hok1 : ok 1 s := qrc h2 (szYs t.args) 1 s (by rw [← qww]; exact hok)
 have hok2 : ok (szYs t.args) (step s t k).1 := h1 _ _ _ _ (by rw [Nat.add_comm, ← qww]; exact hok)
 refine qcs c0s 1 (by simp) (by simp) ?_
 repeat' (first | refine vs_ ?_ | ((first | refine vr_ ?_ | fail) <;> (try simp only [hb1, hbr, go_sem, ↓reduceIte])) | ((first | (refine cs_ ?_ ?_ <;> intro hc) | refine cj_ ?_ | simp (disch := omega) only [encs_getN, qb] | refine qib 0 (hs _ _ _ hok1) ?_ (hb _) (hb _)) <;> (try refine ev_ ?_)) | with_reducible exact ti_)
 ·rw [qm0, if_neg (by rw [hc]; simp)]; exact ⟨hb1 _ _, rfl, rfl⟩
 have hw0 := qm0 step t s k
 rw [if_pos hc] at hw0
 generalize qbw step t s k = tg at hw0 ⊢
 generalize hk1 : IntKind.i64.wrap (k + 1) = k1 at hw0
 refine qs (S := Nat × S) (fun x => x.1 ≤ t.args.length ∧ qbe step (t.args.drop x.1) x.2 k1 = tg ∧ ok (szYs (t.args.drop x.1)) x.2) (fun x => (⟨[(1, .int .i64 k), (2, .fn f [] [.ptr 0 0]), (15, .sl 3 (q8 t.args)), (16, .int .i64 t.args.length), (17, .int .i64 x.1)], []⟩, [st x.2])) (fun x => t.args.length - x.1) ?_ fun x hx => ?_
 ·refine qwm (0, (step s t k).1) [.blk (yc t)] ⟨Nat.zero_le _, hw0.symm, hok2⟩ (Nat.le_refl _) rfl (by simp only [List.all_cons, List.all_nil, hb1, Bool.and_true]) ?_ rfl rfl <;> (try refine ev_ ?_) <;> (try with_reducible exact ti_) <;> (try simp (disch := omega) only [qb, and_true, true_and])
 ·obtain ⟨i, s1⟩ := x
  obtain ⟨hi, hx, hok3⟩ := hx
  dsimp only at hi hx hok3
  have hok4 : i < t.args.length → ok (szY (t.args.getD i Y0) + szYs (t.args.drop (i + 1))) s1 := fun h => by rw [qo7 h, szYs] at hok3; exact hok3
  have hok5 : i < t.args.length → ok (szY (t.args.getD i Y0)) s1 := fun h => qrc h2 _ _ _ (hok4 h)
  repeat' (first | refine vs_ ?_ | ((first | refine vr_ ?_ | fail) <;> (try simp (disch := first | omega | (simp only [List.length_set, List.length_append, List.length_cons, List.length_nil]; done) | (simp only [List.length_set, List.length_append, List.length_cons, List.length_nil]; omega)) only [hb1, hbr, qca, qb, hk1, go_sem, ↓reduceIte])) | ((first | (refine cs_ ?_ ?_ <;> intro hc) | refine cj_ ?_ | simp (disch := omega) only [encs_getN, qb] | refine qib 0 (ih (t.args.getD i Y0) (qdd (by omega)) s1 k1 (hok5 (by omega))) ?_ (hb _) (hb _)) <;> (try refine ev_ ?_)) | with_reducible exact ti_)
  ·rw [qhs step (by omega), if_neg (by rw [hc]; simp)] at hx
   subst hx
   exact ⟨hb1 _ _, rfl, rfl⟩
  ·rw [qhs step (by omega), if_pos (by rw [hc])] at hx
   refine qwm (i + 1, (qbw step (t.args.getD i Y0) s1 k1).1) [.blk (yc (t.args.getD i Y0))] ⟨⟨by dsimp only; omega, hx, qsa h1 h2 _ _ _ _ (hok4 (by omega))⟩, by dsimp only; omega⟩ (Nat.le_refl _) rfl (by simp only [List.all_cons, List.all_nil, hb1, Bool.and_true]) ?_ rfl rfl <;> (try refine ev_ ?_) <;> (try with_reducible exact ti_) <;> (try simp (disch := omega) only [qb, and_true, true_and])
  ·rw [qok step (by omega)] at hx
   subst hx
   exact ⟨hb1 _ _, rfl, rfl⟩
end
set_option maxRecDepth 4000

def ints (l : List Int) : List AV := l.map (AV.int .i64)
theorem qbo (l : List Int) : (ints l).length = l.length := by simp [ints]
theorem qfl (k : Nat) (l : List Int) : AV.bds k (ints l) = true := by rw [ints, qhm]; simp [AV.bd]
theorem qj5 (σ : Nat → Nat) (l : List Int) : AV.rens σ (ints l) = ints l := qj (m := 0) (fun i hi => by omega) _ (qfl 0 l)
theorem qdy {l : List Int} {i : Nat} (h : i < l.length) : (ints l).getD i .junk = .int .i64 (l.getD i 0) := by
 rw [ints, List.getD_eq_getElem?_getD, List.getElem?_map, List.getElem?_eq_getElem h, List.getD_eq_getElem?_getD, List.getElem?_eq_getElem h]; rfl
theorem qhp (l : List Int) (v : Int) : ints l ++ [.int .i64 v] = ints (l ++ [v]) := by simp [ints]
theorem qvv (v : Int) : [AV.int .i64 v] = ints [v] := rfl
theorem qbn : ints [] = [] := rfl
theorem qp {l : List Int} (h : l ≠ []) : ints l ≠ [] := by cases l with | nil => exact absurd rfl h | cons _ _ => simp [ints]
attribute [go_sem] qbo qfl qj5 cond_false cond_true
theorem qln {l : List Int} {i : Nat} (h : i < l.length) : l.drop i = l.getD i 0 :: l.drop (i + 1) := by
 rw [List.drop_eq_getElem_cons h, List.getD_eq_getElem?_getD, List.getElem?_eq_getElem h]; rfl
theorem capI {k : Nat} (h : k ≤ 1000000000) : qc1 k 8 := by unfold qc1; omega

def idxW (v : Int) : List Int → Int → Int
 | [], _ => -1
 | x :: r, k => if v = x then k else idxW v r (k + 1)
theorem qra (v : Int) : ∀ (l : List Int) (k : Int), 0 ≤ k → (decide (0 ≤ idxW v l k) = decide (v ∈ l))
 | [], k, h => by simp [idxW]
 | x :: r, k, h => by
   rw [idxW]
   by_cases hx : v = x
   ·simp [hx, h]
   ·rw [if_neg hx, qra v r (k + 1) (by omega)]; simp [hx]
theorem qk8 (l : List Int) (v : Int) : ql Try.prog 100 [.sl 1 (ints l), .int .i64 v] (.int .i64 (idxW v l 0)) := by
 refine qe c0i (by simp) (by simp only [go_sem]) rfl fun hw => ?_
 have hl : l.length ≤ maxLen := by have := hw.1.1; rwa [qbo] at this
 repeat' (first | refine vs_ ?_ | ((first | refine vr_ ?_ | (refine cs_ ?_ ?_ <;> intro hc) | refine cj_ ?_ | simp (disch := omega) only [encs_getN, qb]) <;> (try refine ev_ ?_)) | with_reducible exact ti_)
 refine qs (S := Nat) (fun i => i ≤ l.length ∧ idxW v (l.drop i) i = idxW v l 0) (fun i => (⟨[(0, .sl 1 (ints l)), (1, .int .i64 v), (7, .int .i64 l.length), (8, .int .i64 i)], []⟩, [])) (fun i => l.length - i) ?_ fun i hi => ?_
 ·refine qk 0 [] ⟨Nat.zero_le _, rfl⟩ rfl (by simp) ?_ ?_ ?_ <;> (try refine ev_ ?_) <;> (try with_reducible exact ti_) <;> (try simp (disch := omega) only [qb, and_true, true_and])
 ·obtain ⟨hi, ha⟩ := hi
  repeat' (first | refine vs_ ?_ | ((first | refine vr_ ?_ | fail) <;> (try simp (disch := first | omega | (simp only [List.length_set, List.length_append, List.length_cons, List.length_nil]; done) | (simp only [List.length_set, List.length_append, List.length_cons, List.length_nil]; omega)) only [qdy, qb, go_sem, ↓reduceIte])) | ((first | (refine cs_ ?_ ?_ <;> intro hc) | refine cj_ ?_ | simp (disch := omega) only [encs_getN, qb]) <;> (try refine ev_ ?_)) | with_reducible exact ti_)
  ·rw [← ha, qln (by omega), idxW, if_pos (by assumption)]
  ·refine qk (i + 1) [] ⟨⟨by omega, ?_⟩, by omega⟩ rfl (by simp) ?_ ?_ ?_ <;> (try refine ev_ ?_) <;> (try with_reducible exact ti_) <;> (try simp (disch := omega) only [qb, and_true, true_and])
   rw [← ha, qln (l := l) (i := i) (by omega), idxW, if_neg (by assumption)]; rfl
  ·rw [← ha, List.drop_of_length_le (by omega)]; rfl
theorem qba (l : List Int) (v : Int) : ql Try.prog 66 [.sl 1 (ints l), .int .i64 v] (.bool (decide (v ∈ l))) := by
 refine qe c0j (by simp) (by simp only [go_sem]) rfl fun hw => ?_
 repeat' (first | refine vs_ ?_ | ((first | refine vr_ ?_ | refine qa (qk8 _ _) fun _ => ?_ | (refine cs_ ?_ ?_ <;> intro hc) | refine cj_ ?_ | fail) <;> (try refine ev_ ?_)) | with_reducible exact ti_)
 rw [qra v l 0 (by omega)]
theorem qn7 (l m : List Int) : ql Try.prog 22 [.sl 1 (ints l), .sl 1 (ints m)] (.bool (decide (l = m))) := by
 refine qe c0k (by simp) (by simp only [go_sem]) rfl fun hw => ?_
 have hl : l.length ≤ maxLen := by have := hw.1.1; rwa [qbo] at this
 repeat' (first | refine vs_ ?_ | ((first | refine vr_ ?_ | (refine cs_ ?_ ?_ <;> intro hc) | refine cj_ ?_ | simp (disch := omega) only [encs_getN, qb]) <;> (try refine ev_ ?_)) | with_reducible exact ti_)
 ·rw [decide_eq_false]; rintro rfl; omega
 refine qs (S := Nat) (fun i => i ≤ l.length ∧ decide (l.drop i = m.drop i) = decide (l = m)) (fun i => (⟨[(0, .sl 1 (ints l)), (1, .sl 1 (ints m)), (5, .int .i64 i)], []⟩, [])) (fun i => l.length - i) ?_ fun i hi => ?_
 ·refine qk 0 [] ⟨Nat.zero_le _, rfl⟩ rfl (by simp) ?_ ?_ ?_ <;> (try refine ev_ ?_) <;> (try with_reducible exact ti_) <;> (try simp (disch := omega) only [qb, and_true, true_and])
 ·obtain ⟨hi, ha⟩ := hi
  repeat' (first | refine vs_ ?_ | ((first | refine vr_ ?_ | fail) <;> (try simp (disch := first | omega | (simp only [List.length_set, List.length_append, List.length_cons, List.length_nil]; done) | (simp only [List.length_set, List.length_append, List.length_cons, List.length_nil]; omega)) only [qdy, qb, go_sem, ↓reduceIte])) | ((first | (refine cs_ ?_ ?_ <;> intro hc) | refine cj_ ?_ | simp (disch := omega) only [encs_getN, qb]) <;> (try refine ev_ ?_)) | with_reducible exact ti_)
  ·rw [← ha, qln (l := l) (i := i) (by omega), qln (l := m) (i := i) (by omega), decide_eq_false]
   intro h
   exact absurd (List.cons.inj h).1 (by assumption)
  ·refine qk (i + 1) [] ⟨⟨by omega, ?_⟩, by omega⟩ rfl (by simp) ?_ ?_ ?_ <;> (try refine ev_ ?_) <;> (try with_reducible exact ti_) <;> (try simp (disch := omega) only [qb, and_true, true_and])
   rw [← ha, qln (l := l) (i := i) (by omega), qln (l := m) (i := i) (by omega)]
   refine decide_eq_decide.2 ⟨fun h => by rw [h]; congr 1, fun h => (List.cons.inj h).2⟩
  ·rw [← ha, List.drop_of_length_le (by omega), List.drop_of_length_le (by omega)]; rfl

/-! each once -/
theorem qbs {H : List Ent} {n : Nat} : co H (.sl n) .nils = .sl n [] := Eq.trans rfl rfl
theorem qfj (acc : List Int) {l : List Int} {i : Nat} (h : i < l.length) : qm acc (l.drop i) = if l.getD i 0 ∈ acc then qm acc (l.drop (i + 1)) else qm (acc ++ [l.getD i 0]) (l.drop (i + 1)) := by
 rw [qln h, qm]
/-! all variables -/
/-! the program's: a walk that gathers -/
def outE (l : List Int) : Ent := bun (.blk [accV 1 (ints l)] :: accE 1 (ints l))
def outN (l : List Int) (t : Ty) : List Int := if t.con = [] then (if t.var ∈ l then l else l ++ [t.var]) else l
theorem qd1 {H' : List Ent} {l : List Int} {r : AV} (k : Nat) (h0 : l ≠ []) (hk : 0 < k) (hl : k < H'.length) (e0 : ent H' 0 = .blk [.row k l.length]) (e1 : ent H' k = .app 1 (ints l)) (hr : r.bd 1 = true) :
 qky (fun H' o => H' = [outE l] ∧ o = .val r) H' (.val r) := by
 refine ⟨[.blk [.row 1 l.length], .app 1 (ints l)], [0, k], rfl, by simp, by simp; omega, ?_, hr, ?_, rfl⟩
 ·simp only [qdn, List.length_cons, List.length_nil, Ent.bd, AV.bds, AV.bd, Ent.ren, AV.rens, AV.ren, e0, e1, qfl, qj5]
  exact ⟨⟨by omega, rfl, rfl⟩, ⟨hl, trivial, trivial⟩, trivial⟩
 ·rw [outE, qbb (qp h0), qbc (qp h0), qbo]
theorem qn8 {H' : List Ent} {r : AV} (hl : 0 < H'.length) (e0 : ent H' 0 = .blk [.nils]) (hr : r.bd 1 = true) :
 qky (fun H' o => H' = [outE []] ∧ o = .val r) H' (.val r) := by
 refine ⟨[.blk [.nils]], [0], rfl, by simp, by simp, ?_, hr, rfl, rfl⟩
 exact ⟨⟨hl, rfl, by rw [e0]; rfl⟩, trivial⟩
theorem qbbc (l : List Int) (t : Ty) (k : Int) (hb : l.length ≤ 1000000) : VM Try.prog 99 (outE l) (outE (outN l t)) [encY t, .int .i64 k, .ptr 0 0] (.bool true) := by
 refine q88 ?_ (by simp [AV.bds, AV.bd, qjo])
 have hcap : qc1 (l.length + 1) 8 = True := eq_true (capI (by omega))
 refine qk0 c0l (by simp) ?_
 by_cases h0 : l = []
 ·subst h0
  simp only [qbn, qo, qn]
  repeat' (first | refine vs_ ?_ | ((first | refine vr_ ?_ | fail) <;> (try simp only [qbs, go_sem, ↓reduceIte])) | ((first | simp (disch := omega) only [hcap] | (refine cs_ ?_ ?_ <;> intro hc) | refine cj_ ?_ | fail | refine qa (qba [] _) fun _ => ?_) <;> (try refine ev_ ?_)) | with_reducible exact ti_)
  ·have : outN [] t = [t.var] := by rw [outN, if_pos (by assumption), if_neg (by assumption)]; rfl
   rw [this]
   exact qd1 (l := [t.var]) 2 (by simp) (by omega) (by simp) rfl rfl rfl
  ·exact absurd (by assumption : t.var ∈ []) (by simp)
  ·have : outN [] t = [] := by rw [outN, if_neg (by assumption)]
   rw [this]
   exact qn8 (by simp) rfl rfl
 ·simp only [qbb (qp h0), qbc (qp h0)]
  repeat' (first | refine vs_ ?_ | ((first | refine vr_ ?_ | refine qa (qba l _) fun _ => ?_ | simp (disch := omega) only [hcap] | (refine cs_ ?_ ?_ <;> intro hc) | refine cj_ ?_ | fail) <;> (try refine ev_ ?_)) | with_reducible exact ti_)
  ·have : outN l t = l ++ [t.var] := by rw [outN, if_pos (by assumption), if_neg (by assumption)]
   rw [this, qhp]
   exact qd1 (l := l ++ [t.var]) 3 (by simp) (by omega) (by simp) (by simp [ent]) rfl rfl
  ·have : outN l t = l := by rw [outN, if_pos (by assumption), if_pos (by assumption)]
   rw [this]
   exact qd1 (l := l) 1 h0 (by omega) (by simp) rfl rfl rfl
  ·have : outN l t = l := by rw [outN, if_neg (by assumption)]
   rw [this]
   exact qd1 (l := l) 1 h0 (by omega) (by simp) rfl rfl rfl
def qq1 (l : List Int) (t : Ty) (_ : Int) : List Int × Bool := (outN l t, true)
theorem qr4 (l : List Int) (c : List UInt8) (v : Int) (a : List Ty) : outN l (.mk c v a) = qm l (if c = [] then [v] else []) := by
 unfold outN
 by_cases hcn : c = []
 ·rw [if_pos (show (Ty.mk c v a).con = [] from hcn), if_pos hcn]; rfl
 ·rw [if_neg (show ¬ (Ty.mk c v a).con = [] from hcn), if_neg hcn]; rfl
mutual
theorem q8s : ∀ (t : Ty) (l : List Int) (k : Int), qbw qq1 t l k = (qm l (varY t), true)
 | .mk c v a, l, k => by
   rw [qbw, if_pos (show (qq1 l (.mk c v a) k).2 = true from rfl), qwg, varY, qdp]
   congr 2
   exact qr4 l c v a
theorem qwg : ∀ (a : List Ty) (l : List Int) (k : Int), qbe qq1 a l k = (qm l (qlc a), true)
 | [], l, k => by rw [qbe, qlc]; rfl
 | x :: r, l, k => by
   rw [qbe, q8s x, if_pos rfl, qwg r, qlc, qdp]
end
theorem qt4 (l : List Int) (t : Ty) : (outN l t).length ≤ l.length + 1 := by
 rw [outN]; split
 ·split
  ·omega
  ·simp
 ·omega
theorem qo0 (t : Ty) (hb : szY t ≤ 1000000) : ql Try.prog 65 [encY t] (.sl 1 (ints (qm [] (varY t)))) := by
 refine qe c0m (by simp) (by simp only [go_sem]) (qfl 0 _) fun hw => ?_
 have hwalk := qit (st := outE) (step := qq1) (f := 99) (ok := fun n l => l.length + n ≤ 1000000) (fun _ => rfl) (fun n l t k h => by have := qt4 l t; simp only [qq1]; omega) (fun n l h => by omega) (fun l t k h => qbbc l t k (by omega)) t [] 1 (by simpa using hb)
 rw [q8s] at hwalk
 unfold k0m
 refine qfz (qhd ?_)
 (refine ev_ ?_; (try with_reducible exact ti_))
 refine qfz (qhd ?_)
 (refine ev_ ?_; (try with_reducible exact ti_))
 refine q1b 1 rfl rfl ?_
 refine qfz (qhd ?_)
 simp only [List.set_cons_succ, List.set_cons_zero]
 (refine ev_ ?_; (try with_reducible exact ti_))
 refine qib 1 hwalk ?_
 simp only [List.set_cons_succ, List.set_cons_zero]
 (refine ev_ ?_; (try with_reducible exact ti_))
 refine qxs 1 rfl (by simp) ?_
 simp only [List.set_cons_succ, List.set_cons_zero]
 by_cases h0 : qm [] (varY t) = []
 ·simp only [h0, qbn, qo, qn]
  repeat' (first | refine vs_ ?_ | ((first | refine vr_ ?_ | (refine cs_ ?_ ?_ <;> intro hc) | refine cj_ ?_ | fail) <;> (try refine ev_ ?_)) | with_reducible exact ti_)
 ·simp only [qbb (qp h0), qbc (qp h0)]
  repeat' (first | refine vs_ ?_ | ((first | refine vr_ ?_ | (refine cs_ ?_ ?_ <;> intro hc) | refine cj_ ?_ | fail) <;> (try refine ev_ ?_)) | with_reducible exact ti_)
set_option maxRecDepth 4000

/-! the program's -/
abbrev numE (n : Int) : Ent := .blk [.int .i64 n]
def qds (n : Int) (t : Ty) (k : Int) : Int × Bool := (IntKind.i64.wrap (n + 1), decide (IntKind.i64.wrap (n + 1) ≤ 4096) && (decide (k ≤ 100) && mayY t))
theorem q4i (n : Int) (t : Ty) (k : Int) : VM Try.prog 87 (numE n) (numE (qds n t k).1) [encY t, .int .i64 k, .ptr 0 0] (.bool (qds n t k).2) := by
 refine qgx (by kernel_rfl) fun hw => ?_
 have hk := qdx hw.1
 refine qcs c0e 1 (by simp) (by simp) ?_
 repeat' (first | refine vs_ ?_ | ((first | refine vr_ ?_ | refine qa (qey _) fun _ => ?_ | refine qa (qtv _ _ _) fun _ => ?_ | (refine cs_ ?_ ?_ <;> intro hc) | refine cj_ ?_ | simp (disch := omega) only [encs_getN, qb]) <;> (try refine ev_ ?_)) | with_reducible exact ti_)
 ·simp_all [qds]
 ·exact ⟨rfl, by simp only [qds, *, decide_true, decide_false, Bool.true_and, Bool.false_and]⟩
 ·exact ⟨rfl, by simp only [qds, *, decide_true, decide_false, Bool.true_and, Bool.false_and]⟩
def qvd (n : Int) (_ : Ty) (_ : Int) : Int × Bool := (IntKind.i64.wrap (n + 1), true)
def qp2 (n : Int) (_ : Ty) (k : Int) : Int × Bool := (if k > n then k else n, true)
theorem qvy {f : FuncId} {step : Int → Ty → Int → Int × Bool} (h : ∀ n t k, VM Try.prog f (numE n) (numE (step n t k).1) [encY t, .int .i64 k, .ptr 0 0] (.bool (step n t k).2)) (t : Ty) (n k : Int) :
 VM Try.prog 86 (numE n) (numE (qbw step t n k).1) [encY t, .int .i64 k, .fn f [] [.ptr 0 0]] (.bool (qbw step t n k).2) :=
 qit (st := numE) (ok := fun _ _ => True) (fun _ => rfl) (fun _ _ _ _ _ => trivial) (fun _ _ _ => trivial) (fun n t k _ => h n t k) t n k trivial
def qqk (t : Ty) : Bool := (qbw qds t 0 1).2
theorem ql4 (t : Ty) : ql Try.prog 48 [encY t] (.bool (qqk t)) := by
 refine qe c0f (by simp) (by simp only [go_sem]) rfl fun hw => ?_
 repeat' (first | refine vs_ ?_ | ((first | refine vr_ ?_ | refine qib 1 (qvy q4i t 0 1) ?_ | (refine cs_ ?_ ?_ <;> intro hc) | refine cj_ ?_ | fail) <;> (try refine ev_ ?_)) | with_reducible exact ti_)
 rfl
/-! the references -/
mutual
def q45 : Ty → Int
 | .mk _ _ l => qrm 1 l
def qrm : Int → List Ty → Int
 | a, [] => a
 | a, x :: r => qrm (IntKind.i64.wrap (a + q45 x)) r
end
mutual
def qv : Ty → Bool
 | .mk c v l => qd0 l && mayW c v l.length
def qd0 : List Ty → Bool
 | [] => true
 | x :: r => qv x && qd0 r
end
theorem qg9 (t : Ty) : qv t = (qd0 t.args && mayY t) := by cases t; rw [qv]; rfl
/-! Few -/
mutual
def cntY : Ty → Int → Int → Int
 | .mk _ _ l, k, d => if d < 1 then -1 else qda l (IntKind.i64.wrap (k - 1)) d
def qda : List Ty → Int → Int → Int
 | [], a, _ => a
 | x :: r, a, d => if 0 ≤ a then qda r (cntY x a (IntKind.i64.wrap (d - 1))) d else a
end
theorem qpm (t : Ty) (k d : Int) : cntY t k d = if d < 1 then -1 else qda t.args (IntKind.i64.wrap (k - 1)) d := by cases t; rw [cntY]; rfl
theorem qe7 {a : Int} (h : a < 0) (l : List Ty) (d : Int) : qda l a d = a := by
 cases l with
 | nil => rw [qda]
 | cons x r => rw [qda, if_neg (by omega)]
theorem q3t : ∀ t k d, ql Try.prog 77 [encY t, .int .i64 k, .int .i64 d] (.int .i64 (cntY t k d)) := by
 refine Ty.ind fun t ih k d => ?_
 refine qe c0g (by simp) (by simp only [go_sem]) rfl fun hw => ?_
 have hk := qdx hw.1
 rw [qpm]
 repeat' (first | refine vs_ ?_ | ((first | refine vr_ ?_ | (refine cs_ ?_ ?_ <;> intro hc) | refine cj_ ?_ | simp (disch := omega) only [encs_getN, qb]) <;> (try refine ev_ ?_)) | with_reducible exact ti_)
 ·rw [if_pos (by assumption)]
 rw [if_neg (by assumption)]
 refine qs (S := Nat × Int) (fun s => s.1 ≤ t.args.length ∧ qda (t.args.drop s.1) s.2 d = qda t.args (IntKind.i64.wrap (k - 1)) d) (fun s => (⟨[(1, .int .i64 s.2), (2, .int .i64 d), (3, .ptr 0 0), (7, .int .i64 s.1)], []⟩, [.blk (yc t)])) (fun s => t.args.length - s.1) ?_ fun s hs => ?_
 ·refine qk (0, IntKind.i64.wrap (k - 1)) [0] ⟨Nat.zero_le _, rfl⟩ rfl (by simp) ?_ ?_ ?_ <;> (try refine ev_ ?_) <;> (try with_reducible exact ti_) <;> (try simp (disch := omega) only [qb, and_true, true_and])
 ·obtain ⟨i, a⟩ := s
  obtain ⟨hi, ha⟩ := hs
  dsimp only at hi ha
  repeat' (first | refine vs_ ?_ | ((first | refine vr_ ?_ | fail) <;> (try simp (disch := first | omega | (simp only [List.length_set, List.length_append, List.length_cons, List.length_nil]; done) | (simp only [List.length_set, List.length_append, List.length_cons, List.length_nil]; omega)) only [qca, qb, go_sem, ↓reduceIte])) | ((first | (refine cs_ ?_ ?_ <;> intro hc) | refine cj_ ?_ | simp (disch := omega) only [encs_getN, qb] | refine qa (ih _ (qdd (by omega)) _ _) fun _ => ?_) <;> (try refine ev_ ?_)) | with_reducible exact ti_)
  ·refine qk (i + 1, cntY (t.args.getD i Y0) a (IntKind.i64.wrap (d - 1))) [0] ⟨⟨by dsimp only; omega, ?_⟩, by dsimp only; omega⟩ rfl (by simp) ?_ ?_ ?_ <;> (try refine ev_ ?_) <;> (try with_reducible exact ti_) <;> (try simp (disch := omega) only [qb, and_true, true_and])
   rw [← ha, qo7 (l := t.args) (i := i) (by omega), qda, if_pos (by assumption)]
  ·rw [← ha, qe7 (by omega)]
  ·rw [← ha, List.drop_of_length_le (by omega)]; rfl
def qh2 (a : Int) : List Ty → Int
 | [] => a
 | x :: r => qh2 (cntY x a 300) r
def qi5 (l : List Ty) : Bool := decide (0 ≤ qh2 20000 l)
theorem qbbh (l : List Ty) : ql Try.prog 31 [.sl 3 (q8 l)] (.int .i64 (if qi5 l = true then 1 else 0)) := by
 refine qe c0h (by simp) (by simp only [go_sem]) rfl fun hw => ?_
 have hk : l.length ≤ maxLen := by have := hw.1.1; rwa [qb0] at this
 repeat' (first | refine vs_ ?_ | ((first | refine vr_ ?_ | (refine cs_ ?_ ?_ <;> intro hc) | refine cj_ ?_ | simp (disch := omega) only [encs_getN, qb]) <;> (try refine ev_ ?_)) | with_reducible exact ti_)
 refine qs (S := Nat × Int) (fun s => s.1 ≤ l.length ∧ qh2 s.2 (l.drop s.1) = qh2 20000 l) (fun s => (⟨[(0, .sl 3 (q8 l)), (3, .int .i64 s.2), (4, .int .i64 s.1)], []⟩, [])) (fun s => l.length - s.1) ?_ fun s hs => ?_
 ·refine qk (0, 20000) [] ⟨Nat.zero_le _, rfl⟩ rfl (by simp) ?_ ?_ ?_ <;> (try refine ev_ ?_) <;> (try with_reducible exact ti_) <;> (try simp (disch := omega) only [qb, and_true, true_and])
 ·obtain ⟨i, a⟩ := s
  obtain ⟨hi, ha⟩ := hs
  dsimp only at hi ha
  repeat' (first | refine vs_ ?_ | ((first | refine vr_ ?_ | fail) <;> (try simp (disch := first | omega | (simp only [List.length_set, List.length_append, List.length_cons, List.length_nil]; done) | (simp only [List.length_set, List.length_append, List.length_cons, List.length_nil]; omega)) only [qca, qb, go_sem, ↓reduceIte])) | ((first | (refine cs_ ?_ ?_ <;> intro hc) | refine cj_ ?_ | simp (disch := omega) only [encs_getN, qb] | refine qa (q3t _ _ _) fun _ => ?_) <;> (try refine ev_ ?_)) | with_reducible exact ti_)
  ·refine qk (i + 1, cntY (l.getD i Y0) a 300) [] ⟨⟨by dsimp only; omega, ?_⟩, by dsimp only; omega⟩ rfl (by simp) ?_ ?_ ?_ <;> (try refine ev_ ?_) <;> (try with_reducible exact ti_) <;> (try simp (disch := omega) only [qb, and_true, true_and])
   rw [← ha, qo7 (l := l) (i := i) (by omega), qh2]
  all_goals
   have hf : qh2 20000 l = a := by rw [← ha, List.drop_of_length_le (by omega)]; rfl
   rw [qi5, hf]
  ·rw [if_neg (by simp; omega)]
  ·rw [if_pos (by simp; omega)]

/-! the laws of sizes -/
mutual
theorem qsc : ∀ (t : Ty) (k d : Int), 0 ≤ k → k ≤ 20000 → d ≤ 300 → 0 ≤ cntY t k d → cntY t k d = k - szY t ∧ (dpY t : Int) ≤ d
 | .mk c v l, k, d, h0, h1, h2, h3 => by
   rw [cntY] at h3 ⊢
   by_cases hd : d < 1
   ·rw [if_pos hd] at h3; omega
   ·rw [if_neg hd] at h3 ⊢
    have hk : IntKind.i64.wrap (k - 1) = k - 1 := qcx (by omega) (by omega)
    rw [hk] at h3 ⊢
    have h4 : 0 ≤ k - 1 := by
     by_cases h : 0 ≤ k - 1
     ·exact h
     ·rw [qe7 (by omega)] at h3; exact h3
    have := qm2 l (k - 1) d h4 (by omega) (by omega) h2 h3
    rw [szY, dpY]
    omega
theorem qm2 : ∀ (l : List Ty) (a d : Int), 0 ≤ a → a ≤ 20000 → 1 ≤ d → d ≤ 300 → 0 ≤ qda l a d → qda l a d = a - szYs l ∧ (dpYs l : Int) ≤ d - 1
 | [], a, d, h0, h1, h2, h3, h4 => by rw [qda, szYs, dpYs]; omega
 | x :: r, a, d, h0, h1, h2, h3, h4 => by
   rw [qda, if_pos h0] at h4 ⊢
   have hd : IntKind.i64.wrap (d - 1) = d - 1 := qcx (by omega) (by omega)
   rw [hd] at h4 ⊢
   have h5 : 0 ≤ cntY x a (d - 1) := by
    by_cases h : 0 ≤ cntY x a (d - 1)
    ·exact h
    ·rw [qe7 (by omega)] at h4; exact absurd h4 h
   obtain ⟨h6, h7⟩ := qsc x a (d - 1) h0 h1 (by omega) h5
   obtain ⟨h8, h9⟩ := qm2 r _ d h5 (by omega) h2 h3 h4
   rw [szYs, dpYs]
   omega
end
mutual
theorem qp8 : ∀ (t : Ty) (k d : Int), 0 ≤ k → k ≤ 20000 → -1 ≤ cntY t k d
 | .mk c v l, k, d, h0, h1 => by
   rw [cntY]
   split
   ·omega
   ·rw [qcx (z := k - 1) (by omega) (by omega)]
    exact qrs l (k - 1) d (by omega) (by omega)
theorem qrs : ∀ (l : List Ty) (a d : Int), -1 ≤ a → a ≤ 20000 → -1 ≤ qda l a d
 | [], a, d, h0, _ => by rw [qda]; exact h0
 | x :: r, a, d, h0, h1 => by
   rw [qda]
   split
   ·rename_i h
    have h2 := qp8 x a (IntKind.i64.wrap (d - 1)) h h1
    have h3 := qwj x a (IntKind.i64.wrap (d - 1)) h h1
    exact qrs r _ d h2 (by omega)
   ·exact h0
theorem qwj : ∀ (t : Ty) (k d : Int), 0 ≤ k → k ≤ 20000 → cntY t k d ≤ k
 | .mk c v l, k, d, h0, h1 => by
   rw [cntY]
   split
   ·omega
   ·rw [qcx (z := k - 1) (by omega) (by omega)]
    have := qso l (k - 1) d (by omega) (by omega)
    omega
theorem qso : ∀ (l : List Ty) (a d : Int), -1 ≤ a → a ≤ 20000 → qda l a d ≤ a
 | [], a, d, h0, _ => by rw [qda]; exact Int.le_refl _
 | x :: r, a, d, h0, h1 => by
   rw [qda]
   split
   ·rename_i h
    have h2 := qp8 x a (IntKind.i64.wrap (d - 1)) h h1
    have h3 := qwj x a (IntKind.i64.wrap (d - 1)) h h1
    have := qso r _ d h2 (by omega)
    omega
   ·exact Int.le_refl _
end
theorem qnh : ∀ (l : List Ty) {a : Int}, a < 0 → -9223372036854775808 ≤ a - l.length → qh2 a l < 0
 | [], a, h, _ => h
 | x :: r, a, h, h2 => by
   rw [qh2]
   have h3 : cntY x a 300 = IntKind.i64.wrap (a - 1) := by
    rw [qpm, if_neg (by omega)]
    have hk : IntKind.i64.wrap (a - 1) = a - 1 := qcx (by simp only [List.length_cons] at h2; omega) (by omega)
    rw [hk, qe7 (by omega)]
   have hk : IntKind.i64.wrap (a - 1) = a - 1 := qcx (by simp only [List.length_cons] at h2; omega) (by omega)
   rw [h3, hk]
   exact qnh r (by omega) (by simp only [List.length_cons] at h2; omega)
theorem qni : ∀ (l : List Ty) (a : Int), 0 ≤ a → a ≤ 20000 → l.length ≤ 9223372036854775807 → 0 ≤ qh2 a l → (szYs l : Int) ≤ a ∧ (dpYs l : Int) ≤ 300
 | [], a, h0, h1, _, h2 => by rw [szYs, dpYs]; omega
 | x :: r, a, h0, h1, hl, h2 => by
   rw [qh2] at h2
   simp only [List.length_cons] at hl
   have h5 : 0 ≤ cntY x a 300 := by
    by_cases h : 0 ≤ cntY x a 300
    ·exact h
    ·have : -1 ≤ cntY x a 300 := qp8 x a 300 h0 h1
     have := qnh r (a := cntY x a 300) (by omega) (by omega)
     omega
   obtain ⟨h6, h7⟩ := qsc x a 300 h0 h1 (by omega) h5
   obtain ⟨h8, h9⟩ := qni r _ h5 (by omega) (by omega) h2
   rw [szYs, dpYs]
   omega
theorem q20 {l : List Ty} (hl : l.length ≤ maxLen) (h : qi5 l = true) : szYs l ≤ 20000 ∧ dpYs l ≤ 300 := by
 have := qni l 20000 (by omega) (by omega) (by unfold maxLen at hl; omega) (by simpa [qi5] using h)
 omega

mutual
theorem qrf : ∀ (t : Ty) (n k : Int), 0 ≤ n → n + szY t ≤ 1000000 → qbw qvd t n k = (n + szY t, true)
 | .mk c v l, n, k, h0, h => by
   rw [szY] at h
   rw [qbw, if_pos (show (qvd n (.mk c v l) k).2 = true from rfl)]
   have h1 : (qvd n (.mk c v l) k).1 = n + 1 := qcx (by omega) (by omega)
   rw [h1, qi9 l _ _ (by omega) (by omega), szY]
   congr 1; omega
theorem qi9 : ∀ (l : List Ty) (n k : Int), 0 ≤ n → n + szYs l ≤ 1000000 → qbe qvd l n k = (n + szYs l, true)
 | [], n, k, _, _ => by rw [qbe, szYs]; congr 1; omega
 | x :: r, n, k, h0, h => by
   rw [szYs] at h
   rw [qbe, qrf x n k h0 (by omega), if_pos rfl, qi9 r _ k (by omega) (by omega), szYs]
   congr 1; omega
end
mutual
theorem qqi : ∀ (t : Ty) (n k : Int), 0 ≤ n → 1 ≤ k → k + dpY t ≤ 1000000 → qbw qp2 t n k = (max n (k + dpY t - 1), true)
 | .mk c v l, n, k, h0, h1, h => by
   rw [dpY] at h
   rw [qbw, if_pos (show (qp2 n (.mk c v l) k).2 = true from rfl)]
   have h2 : (qp2 n (.mk c v l) k).1 = max n k := by simp only [qp2]; split <;> omega
   rw [h2, qcx (z := k + 1) (by omega) (by omega), qik l _ _ (by omega) (by omega) (by omega), dpY]
   congr 1; split <;> omega
theorem qik : ∀ (l : List Ty) (n k : Int), 0 ≤ n → 1 ≤ k → k + dpYs l ≤ 1000000 → qbe qp2 l n k = (if dpYs l = 0 then n else max n (k + dpYs l - 1), true)
 | [], n, k, _, _, _ => by rw [qbe, dpYs, if_pos rfl]
 | x :: r, n, k, h0, h1, h => by
   rw [dpYs] at h
   have hp := qw7 x
   rw [qbe, qqi x n k h0 h1 (by omega), if_pos rfl, qik r _ k (by omega) h1 (by omega), dpYs]
   congr 1
   rw [if_neg (by omega : ¬ max (dpY x) (dpYs r) = 0)]
   split <;> omega
end
mutual
theorem qk3 : ∀ (t : Ty) (n k : Int), 0 ≤ n → n + szY t ≤ 1000000 → 1 ≤ k → k + dpY t ≤ 1000000 →
 ((qbw qds t n k).2 = true ↔ n + szY t ≤ 4096 ∧ k + dpY t - 1 ≤ 100 ∧ qv t = true) ∧ ((qbw qds t n k).2 = true → (qbw qds t n k).1 = n + szY t)
 | .mk c v l, n, k, h0, h1, h2, h3 => by
   rw [szY] at h1
   rw [dpY] at h3
   have e1 : IntKind.i64.wrap (n + 1) = n + 1 := qcx (by omega) (by omega)
   have e2 : IntKind.i64.wrap (k + 1) = k + 1 := qcx (by omega) (by omega)
   have e3 : (qds n (.mk c v l) k).1 = n + 1 := e1
   have e4 : (qds n (.mk c v l) k).2 = true ↔ n + 1 ≤ 4096 ∧ k ≤ 100 ∧ mayW c v l.length = true := by
    simp only [qds, e1, Bool.and_eq_true, decide_eq_true_eq]; rfl
   rw [qbw, szY, dpY, qv]
   by_cases hs : (qds n (.mk c v l) k).2 = true
   ·rw [if_pos hs, e3, e2]
    obtain ⟨q1, q2, q3⟩ := e4.1 hs
    obtain ⟨r1, r2⟩ := qiw l (n + 1) (k + 1) (by omega) (by omega) (by omega) (by omega) (by omega) (by omega)
    refine ⟨?_, fun h => by rw [r2 h]; omega⟩
    rw [r1, q3, Bool.and_true]
    constructor
    ·rintro ⟨a1, a2, a3⟩; exact ⟨by omega, by omega, a3⟩
    ·rintro ⟨a1, a2, a3⟩; exact ⟨by omega, by omega, a3⟩
   ·rw [if_neg hs]
    refine ⟨⟨fun h => (by cases h), fun ⟨a1, a2, a3⟩ => absurd (e4.2 ⟨by omega, by omega, (by rw [Bool.and_eq_true] at a3; exact a3.2)⟩) hs⟩, fun h => by cases h⟩
theorem qiw : ∀ (l : List Ty) (n k : Int), 0 ≤ n → n + szYs l ≤ 1000000 → 1 ≤ k → k + dpYs l ≤ 1000000 → n ≤ 4096 → k - 1 ≤ 100 →
 ((qbe qds l n k).2 = true ↔ n + szYs l ≤ 4096 ∧ k + dpYs l - 1 ≤ 100 ∧ qd0 l = true) ∧ ((qbe qds l n k).2 = true → (qbe qds l n k).1 = n + szYs l)
 | [], n, k, h0, h1, h2, h3, h4, h5 => by
   rw [qbe, szYs, dpYs, qd0]
   exact ⟨⟨fun _ => ⟨by omega, by omega, rfl⟩, fun _ => rfl⟩, fun _ => by simp⟩
 | x :: r, n, k, h0, h1, h2, h3, h4, h5 => by
   rw [szYs] at h1
   rw [dpYs] at h3
   obtain ⟨q1, q2⟩ := qk3 x n k h0 (by omega) h2 (by omega)
   rw [qbe, szYs, dpYs, qd0]
   by_cases hs : (qbw qds x n k).2 = true
   ·rw [if_pos hs, q2 hs]
    obtain ⟨a1, a2, a3⟩ := q1.1 hs
    obtain ⟨r1, r2⟩ := qiw r (n + szY x) k (by omega) (by omega) h2 (by omega) (by omega) h5
    refine ⟨?_, fun h => by rw [r2 h]; omega⟩
    rw [r1, a3, Bool.true_and]
    constructor
    ·rintro ⟨b1, b2, b3⟩; exact ⟨by omega, by omega, b3⟩
    ·rintro ⟨b1, b2, b3⟩; exact ⟨by omega, by omega, b3⟩
   ·rw [if_neg hs]
    refine ⟨⟨fun h => (by cases h), fun ⟨a1, a2, a3⟩ => absurd (q1.2 ⟨by omega, by omega, ?_⟩) hs⟩, fun h => by cases h⟩
    rw [Bool.and_eq_true] at a3
    exact a3.1
end
def qf4 (t : Ty) : Bool := decide (szY t ≤ 4096) && (decide (dpY t ≤ 100) && qv t)
theorem qqt {t : Ty} (h1 : szY t ≤ 20000) (h2 : dpY t ≤ 300) : qqk t = qf4 t := by
 have := (qk3 t 0 1 (by omega) (by omega) (by omega) (by omega)).1
 rw [qqk, Bool.eq_iff_iff, this, qf4, Bool.and_eq_true, Bool.and_eq_true, decide_eq_true_eq, decide_eq_true_eq]
 constructor
 ·rintro ⟨a1, a2, a3⟩; exact ⟨by omega, by omega, a3⟩
 ·rintro ⟨a1, a2, a3⟩; exact ⟨by omega, by omega, a3⟩
theorem qf1 {t : Ty} (h1 : szY t ≤ 20000) (h2 : dpY t ≤ 300) : ql Try.prog 48 [encY t] (.bool (qf4 t)) := by
 rw [← qqt h1 h2]; exact ql4 t
set_option maxRecDepth 4000

theorem qgd {t a b : Ty} (h1 : t.con = arrW) (h2 : t.args = [a, b]) : txtY t = parW (decide (a.con = arrW)) (txtY a) ++ ([32, 45, 62, 32] ++ txtY b) := by
 cases t with
 | mk c v l =>
   have h1' : c = arrW := h1
   have h2' : l = [a, b] := h2
   subst h1' h2'
   rw [txtY, if_pos rfl]
theorem qd5 {t : Ty} (h1 : ¬ t.con = arrW) : txtY t = qby t ++ argY t.args := by
 cases t with
 | mk c v l =>
   have h1' : ¬ c = arrW := h1
   rcases l with _ | ⟨a, _ | ⟨b, _ | ⟨d, r⟩⟩⟩ <;> (simp only [txtY, if_neg h1']; rfl)
theorem qg5 (l : List Ty) (i : Nat) (h : i < l.length) : argY (l.take (i + 1)) = argY (l.take i) ++ (32 :: parW (decide ((l.getD i Y0).args ≠ [])) (txtY (l.getD i Y0))) := by
 have h1 : l.take (i + 1) = l.take i ++ [l.getD i Y0] := by
  rw [List.take_add_one, List.getD_eq_getElem?_getD, List.getElem?_eq_getElem h]; rfl
 rw [h1]
 generalize l.take i = a
 generalize l.getD i Y0 = x
 induction a with
 | nil => simp [argY]
 | cons y a ih => simp only [List.cons_append, argY, ih, List.append_assoc]
theorem qe1 (l : List Ty) (i : Nat) : (argY (l.take i)).length ≤ (argY l).length := by
 induction l generalizing i with
 | nil => simp
 | cons x r ih =>
   cases i with
   | zero => simp [argY]
   | succ i => rw [List.take_succ_cons, argY, argY, List.length_append, List.length_append]; have := ih i; omega
theorem qcu {t : Ty} (h : qv t = true) (h1 : t.con = arrW) : ∃ a b, t.args = [a, b] ∧ qv a = true ∧ qv b = true := by
 rw [qg9, Bool.and_eq_true] at h
 obtain ⟨h2, h3⟩ := h
 rw [mayY, mayW, h1, if_neg (by decide), if_pos rfl, Bool.and_eq_true, decide_eq_true_eq, decide_eq_true_eq] at h3
 have hl : t.args.length = 2 := by omega
 obtain ⟨a, b, hab⟩ : ∃ a b, t.args = [a, b] := by
  match hh : t.args, hl with
  | [a, b], _ => exact ⟨a, b, rfl⟩
 rw [hab] at h2
 simp only [qd0, Bool.and_eq_true] at h2
 exact ⟨a, b, hab, h2.1, h2.2.1⟩
theorem qdz {t x : Ty} (h : qv t = true) (hx : x ∈ t.args) : qv x = true := by
 rw [qg9, Bool.and_eq_true] at h
 have h2 := h.1
 generalize t.args = l at hx h2
 induction l with
 | nil => cases hx
 | cons y r ih =>
   rw [qd0, Bool.and_eq_true] at h2
   rcases List.mem_cons.1 hx with rfl | hx
   ·exact h2.1
   ·exact ih hx h2.2
theorem qgl (b : Bool) (s : List UInt8) : s.length ≤ (parW b s).length ∧ (parW b s).length ≤ s.length + 2 := by
 rw [parW]; split <;> simp <;> omega
def Big : Nat := 140737488355328
theorem qb3 {n : Nat} (h : n ≤ Big) : n ≤ maxLen := by unfold Big at h; unfold maxLen; omega

theorem q9y {v : Int} (h : (Lit.int .i64 v).wf = true) (h0 : v < 0) : IntKind.i64.wrap (-1 - v) = -1 - v := by
 have := qhk h
 exact qcx (by omega) (by omega)
end Go.Proofs.Ytfpobiheiloamaa
