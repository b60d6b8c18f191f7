/- Texts of this proof, joined. -/
import Derived.Test.YtfpobiheiloamaaPal
import Derived.Test.YtfpobiheiloamaaPan
import Derived.Test.YtfpobiheiloamaaPao

/- terms: heads, sameness, the walk over a term -/
set_option maxRecDepth 4000
namespace Go.Proofs.Ytfpobiheiloamaa
open Go Go.RowKit Go.V
set_option linter.unusedVariables false
set_option linter.unusedSimpArgs false

abbrev hdA (t : Ty) : AV := .agg [.str t.con, .int .i64 t.var, .int .i64 t.args.length]
theorem qde {t : Ty} (hw : (encY t).wf) : t.args.length ≤ maxLen := ((qo0 t).1 hw).1
attribute [go_sem] hdA
theorem qd1 (t : Ty) : qm Try.prog 88 [encY t] (hdA t) := by
 refine qd c0bi (by simp) (by simp only [go_sem]) rfl fun hw => ?_
 have hk := qde hw.1
 repeat' (first | refine vs_ ?_ | ((first | refine vr_ ?_ | (refine cs_ ?_ ?_ <;> intro hc) | refine cj_ ?_ | fail) <;> (try refine ev_ ?_)) | with_reducible exact ti_)
 all_goals (try rfl)
def hdEq (a b : Ty) : Bool := decide (a.con = b.con) && (decide (a.var = b.var) && decide ((a.args.length : Int) = b.args.length))
theorem qma {a b : Ty} (h : hdEq a b = true) : a.con = b.con ∧ a.var = b.var ∧ a.args.length = b.args.length := by
 simp only [hdEq, Bool.and_eq_true, decide_eq_true_eq] at h
 exact ⟨h.1, h.2.1, by omega⟩
theorem q0b {a b : Ty} (h : hdEq a b = false) : qev a b = false := by
 cases hs : qev a b with
 | false => rfl
 | true =>
   have := (qlp a b).1 hs
   subst this
   simp [hdEq] at h
theorem qt5 {a b : Ty} {i : Nat} (h : hdEq a b = true) (ha : qx (a.args.drop i) (b.args.drop i) = qx a.args b.args) : qev a b = qx (a.args.drop i) (b.args.drop i) := by
 obtain ⟨h1, h2, h3⟩ := qma h
 rw [ha, qdn]; simp [h1, h2]
theorem qmk : ∀ a b, qm Try.prog 76 [encY a, encY b] (.bool (qev a b)) := by
 refine Ty.ind fun a ih b => ?_
 refine qd c0bj (by simp) (by simp only [go_sem]) rfl fun hw => ?_
 have hkl := qde hw.1
 have hkr := qde hw.2.1
 repeat' (first | refine vs_ ?_ | ((first | refine vr_ ?_ | refine qa (qd1 _) fun _ => ?_ | refine qf (qd1 _) ?_ | (refine cs_ ?_ ?_ <;> intro hc) | refine cj_ ?_ | simp (disch := omega) only [encs_getN, qb]) <;> (try refine ev_ ?_)) | with_reducible exact ti_)
 ·rw [q0b (by simpa [hdEq] using hc)]
 have hq : hdEq a b = true := by simpa [hdEq] using hc
 clear hc
 refine qs (S := Nat) (fun i => i ≤ a.args.length ∧ qx (a.args.drop i) (b.args.drop i) = qx a.args b.args) (fun i => (⟨[(2, .ptr 0 0), (3, .ptr 1 0), (13, .int .i64 a.args.length), (14, .int .i64 i)], []⟩, [.blk (yc a), .blk (yc b)])) (fun i => a.args.length - i) ?_ fun i hi => ?_
 ·refine qk 0 [0, 1] ⟨Nat.zero_le _, rfl⟩ rfl (by simp) ?_ ?_ ?_ <;> (try refine ev_ ?_) <;> (try with_reducible exact ti_) <;> (try simp (disch := omega) only [qb, and_true, true_and])
 ·obtain ⟨hi, ha⟩ := hi
  have hf := qt5 hq ha
  obtain ⟨q1, q2, q3⟩ := qma hq
  repeat' (first | refine vs_ ?_ | ((first | refine vr_ ?_ | fail) <;> (try simp (disch := first | omega | (simp only [List.length_set, List.length_append, List.length_cons, List.length_nil]; done) | (simp only [List.length_set, List.length_append, List.length_cons, List.length_nil]; omega)) only [qb6, qb, go_sem, ↓reduceIte])) | ((first | (refine cs_ ?_ ?_ <;> intro hc) | refine cj_ ?_ | simp (disch := omega) only [encs_getN, qb] | refine qa (ih _ (qcz (by omega)) _) fun _ => ?_ | refine qf (ih _ (qcz (by omega)) _) ?_) <;> (try refine ev_ ?_)) | with_reducible exact ti_)
  ·rw [hf, qcp (by omega) (by omega), hc]; rfl
  ·refine qk (i + 1) [0, 1] ⟨⟨by omega, ?_⟩, by omega⟩ rfl (by simp) ?_ ?_ ?_ <;> (try refine ev_ ?_) <;> (try with_reducible exact ti_) <;> (try simp (disch := omega) only [qb, and_true, true_and])
   rw [← ha, qcp (l := a.args) (l' := b.args) (i := i) (by omega) (by omega), hc, Bool.true_and]
  ·rw [hf, qhi (by omega) (by omega)]
theorem qsb {a b : Ty} {i : Nat} (h1 : a.con = b.con) (h2 : a.var = b.var) (ha : qx (a.args.drop i) (b.args.drop i) = qx a.args b.args) : qev a b = qx (a.args.drop i) (b.args.drop i) := by
 rw [ha, qdn]; simp [h1, h2]
theorem qmh : ∀ a b, qm Try.prog 39 [encY a, encY b] (.bool (qev a b)) := by
 refine Ty.ind fun a ih b => ?_
 refine qd c0bk (by simp) (by simp only [go_sem]) rfl fun hw => ?_
 have hkl := qde hw.1
 have hkr := qde hw.2.1
 repeat' (first | refine vs_ ?_ | ((first | refine vr_ ?_ | (refine cs_ ?_ ?_ <;> intro hc) | refine cj_ ?_ | simp (disch := omega) only [encs_getN, qb]) <;> (try refine ev_ ?_)) | with_reducible exact ti_)
 ·rw [qdn]; simp [*]
 ·rw [qdn]; simp [*]
 ·rw [qdn, qht (by omega)]; simp
 rename_i h1 h2
 refine qs (S := Nat) (fun i => i ≤ a.args.length ∧ qx (a.args.drop i) (b.args.drop i) = qx a.args b.args) (fun i => (⟨[(2, .ptr 0 0), (3, .ptr 1 0), (5, .int .i64 i)], []⟩, [.blk (yc a), .blk (yc b)])) (fun i => a.args.length - i) ?_ fun i hi => ?_
 ·refine qk 0 [0, 1] ⟨Nat.zero_le _, rfl⟩ rfl (by simp) ?_ ?_ ?_ <;> (try refine ev_ ?_) <;> (try with_reducible exact ti_) <;> (try simp (disch := omega) only [qb, and_true, true_and])
 ·obtain ⟨hi, ha⟩ := hi
  have hf := qsb h1 h2 ha
  repeat' (first | refine vs_ ?_ | ((first | refine vr_ ?_ | fail) <;> (try simp (disch := first | omega | (simp only [List.length_set, List.length_append, List.length_cons, List.length_nil]; done) | (simp only [List.length_set, List.length_append, List.length_cons, List.length_nil]; omega)) only [qb6, qb, go_sem, ↓reduceIte])) | ((first | (refine cs_ ?_ ?_ <;> intro hc) | refine cj_ ?_ | simp (disch := omega) only [encs_getN, qb] | refine qa (ih _ (qcz (by omega)) _) fun _ => ?_ | refine qf (ih _ (qcz (by omega)) _) ?_) <;> (try refine ev_ ?_)) | with_reducible exact ti_)
  ·rw [hf, qcp (by omega) (by omega), hc]; rfl
  ·refine qk (i + 1) [0, 1] ⟨⟨by omega, ?_⟩, by omega⟩ rfl (by simp) ?_ ?_ ?_ <;> (try refine ev_ ?_) <;> (try with_reducible exact ti_) <;> (try simp (disch := omega) only [qb, and_true, true_and])
   rw [← ha, qcp (l := a.args) (l' := b.args) (i := i) (by omega) (by omega), hc, Bool.true_and]
  ·rw [hf, qhi (by omega) (by omega)]
/-! heads -/
attribute [go_sem] q18
def fixW (s : List UInt8) : Bool := pfx [33] s && (decide ((qg5 (s.drop 1)).2 = 0) && decide (digI (qg5 (s.drop 1)).1 = s.drop 1))
theorem qwp {c : UInt8} {s : List UInt8} (h : pfx [c] s = true) : 1 ≤ s.length := by
 cases s with
 | nil => simp [pfx] at h
 | cons d r => simp
theorem qkt (s : List UInt8) : qm Try.prog 119 [.str s] (.bool (fixW s)) := by
 refine qd c0bl (by simp) (by simp only [go_sem]) rfl fun hw => ?_
 cases hp : pfx [33] s with
 | false =>
   repeat' (first | refine vs_ ?_ | ((first | refine vr_ ?_ | fail) <;> (try simp only [hp, go_sem, ↓reduceIte])) | ((first | (refine cs_ ?_ ?_ <;> intro hc) | refine cj_ ?_ | fail | refine qa (qbf _ _) fun _ => ?_ | refine qf (qbf _ _) ?_) <;> (try refine ev_ ?_)) | with_reducible exact ti_)
   simp [fixW, hp]
 | true =>
   have hl := qwp hp
   repeat' (first | refine vs_ ?_ | ((first | refine vr_ ?_ | fail) <;> (try simp only [hp, go_sem, ↓reduceIte])) | ((first | (refine cs_ ?_ ?_ <;> intro hc) | refine cj_ ?_ | fail | refine qa (qbf _ _) fun _ => ?_ | refine qa (qj5 _) fun _ => ?_ | refine qa (qej _) fun _ => ?_ | refine qf (qbf _ _) ?_ | refine qf (qj5 _) ?_ | refine qf (qej _) ?_) <;> (try refine ev_ ?_)) | with_reducible exact ti_)
   all_goals simp_all [fixW]
def mayW (c : List UInt8) (v n : Int) : Bool :=
 if c = [] then decide (n = 0) else if c = arrW then decide (v = 0) && decide (n = 2) else if fixW c = true then decide (v = 0) && decide (n = 0) else decide (v = 0) && conW c
theorem qsl (c : List UInt8) (v n : Int) : qm Try.prog 89 [.agg [.str c, .int .i64 v, .int .i64 n]] (.bool (mayW c v n)) := by
 refine qd c0bm (by simp) (by simp only [go_sem]) rfl fun hw => ?_
 repeat' (first | refine vs_ ?_ | ((first | refine vr_ ?_ | refine qa (qkt _) fun _ => ?_ | refine qa (qjo _) fun _ => ?_ | (refine cs_ ?_ ?_ <;> intro hc) | refine cj_ ?_ | fail) <;> (try refine ev_ ?_)) | with_reducible exact ti_)
 all_goals simp_all [mayW, arrW]
abbrev mayY (t : Ty) : Bool := mayW t.con t.var t.args.length

/-! the walk -/
section
variable {S : Type}
mutual
def qbt (step : S → Ty → Int → S × Bool) : Ty → S → Int → S × Bool
 | .mk c v l, s, k => if (step s (.mk c v l) k).2 = true then qbb step l (step s (.mk c v l) k).1 (IntKind.i64.wrap (k + 1)) else ((step s (.mk c v l) k).1, false)
def qbb (step : S → Ty → Int → S × Bool) : List Ty → S → Int → S × Bool
 | [], s, _ => (s, true)
 | x :: r, s, k => if (qbt step x s k).2 = true then qbb step r (qbt step x s k).1 k else ((qbt step x s k).1, false)
end
theorem qlr (step : S → Ty → Int → S × Bool) (t : Ty) (s : S) (k : Int) : qbt step t s k = if (step s t k).2 = true then qbb step t.args (step s t k).1 (IntKind.i64.wrap (k + 1)) else ((step s t k).1, false) := by
 cases t; rw [qbt]; rfl
theorem qf5 (step : S → Ty → Int → S × Bool) {l : List Ty} {i : Nat} (h : i < l.length) (s : S) (k : Int) :
 qbb step (l.drop i) s k = if (qbt step (l.getD i Y0) s k).2 = true then qbb step (l.drop (i + 1)) (qbt step (l.getD i Y0) s k).1 k else ((qbt step (l.getD i Y0) s k).1, false) := by
 rw [qnr h, qbb]
theorem qm5 (step : S → Ty → Int → S × Bool) {l : List Ty} {i : Nat} (h : l.length ≤ i) (s : S) (k : Int) : qbb step (l.drop i) s k = (s, true) := by
 rw [List.drop_of_length_le h, qbb]
end
section
variable {S : Type} {step : S → Ty → Int → S × Bool} {ok : Nat → S → Prop}
theorem qpq (h2 : ∀ n s, ok (n + 1) s → ok n s) : ∀ (d n : Nat) (s : S), ok (n + d) s → ok n s
 | 0, n, s, h => h
 | d + 1, n, s, h => qpq h2 d n s (h2 _ _ h)
mutual
theorem qqk (h1 : ∀ n s t k, ok (n + 1) s → ok n (step s t k).1) (h2 : ∀ n s, ok (n + 1) s → ok n s) : ∀ (t : Ty) (s : S) (k : Int) (m : Nat), ok (szY t + m) s → ok m (qbt step t s k).1
 | .mk c v l, s, k, m, h => by
   rw [szY, show 1 + szYs l + m = szYs l + m + 1 by omega] at h
   have h3 := h1 _ s (.mk c v l) k h
   rw [qbt]
   split
   ·exact qlk h1 h2 l _ _ m h3
   ·exact qpq h2 (szYs l) m _ (by rw [Nat.add_comm]; exact h3)
theorem qlk (h1 : ∀ n s t k, ok (n + 1) s → ok n (step s t k).1) (h2 : ∀ n s, ok (n + 1) s → ok n s) : ∀ (l : List Ty) (s : S) (k : Int) (m : Nat), ok (szYs l + m) s → ok m (qbb step l s k).1
 | [], s, k, m, h => by rw [qbb]; rw [szYs, Nat.zero_add] at h; exact h
 | x :: r, s, k, m, h => by
   rw [szYs, Nat.add_assoc] at h
   have h3 := qqk h1 h2 x s k _ h
   rw [qbb]
   split
   ·exact qlk h1 h2 r _ _ m h3
   ·exact qpq h2 (szYs r) m _ (by rw [Nat.add_comm]; exact h3)
end
end
section
variable {S : Type}
variable {f : FuncId} {st : S → Ent} {step : S → Ty → Int → S × Bool} {ok : Nat → S → Prop} (hb : ∀ s, (st s).bd 0 = true) (h1 : ∀ n s t k, ok (n + 1) s → ok n (step s t k).1) (h2 : ∀ n s, ok (n + 1) s → ok n s)
 (hs : ∀ s t k, ok 1 s → VM Try.prog f (st s) (st (step s t k).1) [encY t, .int .i64 k, .ptr 0 0] (.bool (step s t k).2))
include hb h1 h2 hs
theorem qhm : ∀ t s k, ok (szY t) s → VM Try.prog 86 (st s) (st (qbt step t s k).1) [encY t, .int .i64 k, .fn f [] [.ptr 0 0]] (.bool (qbt step t s k).2) := by
 refine Ty.ind fun t ih s k hok => ?_
 have hb1 : ∀ s k, (st s).bd k = true := fun s k => Ent.bd_le (Nat.zero_le _) _ (hb s)
 have hbr : ∀ s σ, (st s).ren σ = st s := fun s σ => Ent.ren_bd0 (hb s)
 refine qgw (by kernel_rfl) fun hw => ?_
 have hk := qde hw.1
 have hok1 : ok 1 s := qpq h2 (szYs t.args) 1 s (by rw [← qur]; exact hok)
 have hok2 : ok (szYs t.args) (step s t k).1 := h1 _ _ _ _ (by rw [Nat.add_comm, ← qur]; exact hok)
 refine qcn c0bn 1 (by simp) (by simp) ?_
 repeat' (first | refine vs_ ?_ | ((first | refine vr_ ?_ | fail) <;> (try simp only [hb1, hbr, go_sem, ↓reduceIte])) | ((first | (refine cs_ ?_ ?_ <;> intro hc) | refine cj_ ?_ | simp (disch := omega) only [encs_getN, qb] | refine qg3 0 (hs _ _ _ hok1) ?_ (hb _) (hb _)) <;> (try refine ev_ ?_)) | with_reducible exact ti_)
 ·rw [qlr, if_neg (by rw [hc]; simp)]; exact ⟨hb1 _ _, rfl, rfl⟩
 have hw0 := qlr step t s k
 rw [if_pos hc] at hw0
 generalize qbt step t s k = tg at hw0 ⊢
 generalize hk1 : IntKind.i64.wrap (k + 1) = k1 at hw0
 refine qs (S := Nat × S) (fun x => x.1 ≤ t.args.length ∧ qbb step (t.args.drop x.1) x.2 k1 = tg ∧ ok (szYs (t.args.drop x.1)) x.2) (fun x => (⟨[(1, .int .i64 k), (2, .fn f [] [.ptr 0 0]), (15, .sl 3 (qba t.args)), (16, .int .i64 t.args.length), (17, .int .i64 x.1)], []⟩, [st x.2])) (fun x => t.args.length - x.1) ?_ fun x hx => ?_
 ·refine quw (0, (step s t k).1) [.blk (yc t)] ⟨Nat.zero_le _, hw0.symm, hok2⟩ (Nat.le_refl _) rfl (by simp only [List.all_cons, List.all_nil, hb1, Bool.and_true]) ?_ rfl rfl <;> (try refine ev_ ?_) <;> (try with_reducible exact ti_) <;> (try simp (disch := omega) only [qb, and_true, true_and])
 ·obtain ⟨i, s1⟩ := x
  obtain ⟨hi, hx, hok3⟩ := hx
  dsimp only at hi hx hok3
  have hok4 : i < t.args.length → ok (szY (t.args.getD i Y0) + szYs (t.args.drop (i + 1))) s1 := fun h => by rw [qnr h, szYs] at hok3; exact hok3
  have hok5 : i < t.args.length → ok (szY (t.args.getD i Y0)) s1 := fun h => qpq h2 _ _ _ (hok4 h)
  repeat' (first | refine vs_ ?_ | ((first | refine vr_ ?_ | fail) <;> (try simp (disch := first | omega | (simp only [List.length_set, List.length_append, List.length_cons, List.length_nil]; done) | (simp only [List.length_set, List.length_append, List.length_cons, List.length_nil]; omega)) only [hb1, hbr, qb6, qb, hk1, go_sem, ↓reduceIte])) | ((first | (refine cs_ ?_ ?_ <;> intro hc) | refine cj_ ?_ | simp (disch := omega) only [encs_getN, qb] | refine qg3 0 (ih (t.args.getD i Y0) (qcz (by omega)) s1 k1 (hok5 (by omega))) ?_ (hb _) (hb _)) <;> (try refine ev_ ?_)) | with_reducible exact ti_)
  ·rw [qf5 step (by omega), if_neg (by rw [hc]; simp)] at hx
   subst hx
   exact ⟨hb1 _ _, rfl, rfl⟩
  ·rw [qf5 step (by omega), if_pos (by rw [hc])] at hx
   refine quw (i + 1, (qbt step (t.args.getD i Y0) s1 k1).1) [.blk (yc (t.args.getD i Y0))] ⟨⟨by dsimp only; omega, hx, qqk h1 h2 _ _ _ _ (hok4 (by omega))⟩, by dsimp only; omega⟩ (Nat.le_refl _) rfl (by simp only [List.all_cons, List.all_nil, hb1, Bool.and_true]) ?_ rfl rfl <;> (try refine ev_ ?_) <;> (try with_reducible exact ti_) <;> (try simp (disch := omega) only [qb, and_true, true_and])
  ·rw [qm5 step (by omega)] at hx
   subst hx
   exact ⟨hb1 _ _, rfl, rfl⟩
end
set_option maxRecDepth 4000

def ints (l : List Int) : List AV := l.map (AV.int .i64)
theorem qbi (l : List Int) : (ints l).length = l.length := by simp [ints]
theorem qe5 (k : Nat) (l : List Int) : AV.bds k (ints l) = true := by rw [ints, qgo]; simp [AV.bd]
theorem qh3 (σ : Nat → Nat) (l : List Int) : AV.rens σ (ints l) = ints l := ql (m := 0) (fun i hi => by omega) _ (qe5 0 l)
theorem qdg {l : List Int} {i : Nat} (h : i < l.length) : (ints l).getD i .junk = .int .i64 (l.getD i 0) := by
 rw [ints, List.getD_eq_getElem?_getD, List.getElem?_map, List.getElem?_eq_getElem h, List.getD_eq_getElem?_getD, List.getElem?_eq_getElem h]; rfl
theorem qgh (l : List Int) (v : Int) : ints l ++ [.int .i64 v] = ints (l ++ [v]) := by simp [ints]
theorem quh (v : Int) : [AV.int .i64 v] = ints [v] := rfl
theorem qbj : ints [] = [] := rfl
theorem qr {l : List Int} (h : l ≠ []) : ints l ≠ [] := by cases l with | nil => exact absurd rfl h | cons _ _ => simp [ints]
attribute [go_sem] qbi qe5 qh3 cond_false cond_true
theorem qjg {l : List Int} {i : Nat} (h : i < l.length) : l.drop i = l.getD i 0 :: l.drop (i + 1) := by
 rw [List.drop_eq_getElem_cons h, List.getD_eq_getElem?_getD, List.getElem?_eq_getElem h]; rfl
theorem capI {k : Nat} (h : k ≤ 1000000000) : qch k 8 := by unfold qch; omega

def idxW (v : Int) : List Int → Int → Int
 | [], _ => -1
 | x :: r, k => if v = x then k else idxW v r (k + 1)
theorem qqs (v : Int) : ∀ (l : List Int) (k : Int), 0 ≤ k → (decide (0 ≤ idxW v l k) = decide (v ∈ l))
 | [], k, h => by simp [idxW]
 | x :: r, k, h => by
   rw [idxW]
   by_cases hx : v = x
   ·simp [hx, h]
   ·rw [if_neg hx, qqs v r (k + 1) (by omega)]; simp [hx]
theorem qix (l : List Int) (v : Int) : qm Try.prog 100 [.sl 1 (ints l), .int .i64 v] (.int .i64 (idxW v l 0)) := by
 refine qd c0bd (by simp) (by simp only [go_sem]) rfl fun hw => ?_
 have hl : l.length ≤ maxLen := by have := hw.1.1; rwa [qbi] at this
 repeat' (first | refine vs_ ?_ | ((first | refine vr_ ?_ | (refine cs_ ?_ ?_ <;> intro hc) | refine cj_ ?_ | simp (disch := omega) only [encs_getN, qb]) <;> (try refine ev_ ?_)) | with_reducible exact ti_)
 refine qs (S := Nat) (fun i => i ≤ l.length ∧ idxW v (l.drop i) i = idxW v l 0) (fun i => (⟨[(0, .sl 1 (ints l)), (1, .int .i64 v), (7, .int .i64 l.length), (8, .int .i64 i)], []⟩, [])) (fun i => l.length - i) ?_ fun i hi => ?_
 ·refine qk 0 [] ⟨Nat.zero_le _, rfl⟩ rfl (by simp) ?_ ?_ ?_ <;> (try refine ev_ ?_) <;> (try with_reducible exact ti_) <;> (try simp (disch := omega) only [qb, and_true, true_and])
 ·obtain ⟨hi, ha⟩ := hi
  repeat' (first | refine vs_ ?_ | ((first | refine vr_ ?_ | fail) <;> (try simp (disch := first | omega | (simp only [List.length_set, List.length_append, List.length_cons, List.length_nil]; done) | (simp only [List.length_set, List.length_append, List.length_cons, List.length_nil]; omega)) only [qdg, qb, go_sem, ↓reduceIte])) | ((first | (refine cs_ ?_ ?_ <;> intro hc) | refine cj_ ?_ | simp (disch := omega) only [encs_getN, qb]) <;> (try refine ev_ ?_)) | with_reducible exact ti_)
  ·rw [← ha, qjg (by omega), idxW, if_pos (by assumption)]
  ·refine qk (i + 1) [] ⟨⟨by omega, ?_⟩, by omega⟩ rfl (by simp) ?_ ?_ ?_ <;> (try refine ev_ ?_) <;> (try with_reducible exact ti_) <;> (try simp (disch := omega) only [qb, and_true, true_and])
   rw [← ha, qjg (l := l) (i := i) (by omega), idxW, if_neg (by assumption)]; rfl
  ·rw [← ha, List.drop_of_length_le (by omega)]; rfl
theorem q7 (l : List Int) (v : Int) : qm Try.prog 66 [.sl 1 (ints l), .int .i64 v] (.bool (decide (v ∈ l))) := by
 refine qd c0be (by simp) (by simp only [go_sem]) rfl fun hw => ?_
 repeat' (first | refine vs_ ?_ | ((first | refine vr_ ?_ | refine qa (qix _ _) fun _ => ?_ | (refine cs_ ?_ ?_ <;> intro hc) | refine cj_ ?_ | fail) <;> (try refine ev_ ?_)) | with_reducible exact ti_)
 rw [qqs v l 0 (by omega)]
theorem qnn (l m : List Int) : qm Try.prog 22 [.sl 1 (ints l), .sl 1 (ints m)] (.bool (decide (l = m))) := by
 refine qd c0bf (by simp) (by simp only [go_sem]) rfl fun hw => ?_
 have hl : l.length ≤ maxLen := by have := hw.1.1; rwa [qbi] at this
 repeat' (first | refine vs_ ?_ | ((first | refine vr_ ?_ | (refine cs_ ?_ ?_ <;> intro hc) | refine cj_ ?_ | simp (disch := omega) only [encs_getN, qb]) <;> (try refine ev_ ?_)) | with_reducible exact ti_)
 ·rw [decide_eq_false]; rintro rfl; omega
 refine qs (S := Nat) (fun i => i ≤ l.length ∧ decide (l.drop i = m.drop i) = decide (l = m)) (fun i => (⟨[(0, .sl 1 (ints l)), (1, .sl 1 (ints m)), (5, .int .i64 i)], []⟩, [])) (fun i => l.length - i) ?_ fun i hi => ?_
 ·refine qk 0 [] ⟨Nat.zero_le _, rfl⟩ rfl (by simp) ?_ ?_ ?_ <;> (try refine ev_ ?_) <;> (try with_reducible exact ti_) <;> (try simp (disch := omega) only [qb, and_true, true_and])
 ·obtain ⟨hi, ha⟩ := hi
  repeat' (first | refine vs_ ?_ | ((first | refine vr_ ?_ | fail) <;> (try simp (disch := first | omega | (simp only [List.length_set, List.length_append, List.length_cons, List.length_nil]; done) | (simp only [List.length_set, List.length_append, List.length_cons, List.length_nil]; omega)) only [qdg, qb, go_sem, ↓reduceIte])) | ((first | (refine cs_ ?_ ?_ <;> intro hc) | refine cj_ ?_ | simp (disch := omega) only [encs_getN, qb]) <;> (try refine ev_ ?_)) | with_reducible exact ti_)
  ·rw [← ha, qjg (l := l) (i := i) (by omega), qjg (l := m) (i := i) (by omega), decide_eq_false]
   intro h
   exact absurd (List.cons.inj h).1 (by assumption)
  ·refine qk (i + 1) [] ⟨⟨by omega, ?_⟩, by omega⟩ rfl (by simp) ?_ ?_ ?_ <;> (try refine ev_ ?_) <;> (try with_reducible exact ti_) <;> (try simp (disch := omega) only [qb, and_true, true_and])
   rw [← ha, qjg (l := l) (i := i) (by omega), qjg (l := m) (i := i) (by omega)]
   refine decide_eq_decide.2 ⟨fun h => by rw [h]; congr 1, fun h => (List.cons.inj h).2⟩
  ·rw [← ha, List.drop_of_length_le (by omega), List.drop_of_length_le (by omega)]; rfl

/-! each once -/
theorem qbn {H : List Ent} {n : Nat} : co H (.sl n) .nils = .sl n [] := Eq.trans rfl rfl
theorem qex (acc : List Int) {l : List Int} {i : Nat} (h : i < l.length) : qn acc (l.drop i) = if l.getD i 0 ∈ acc then qn acc (l.drop (i + 1)) else qn (acc ++ [l.getD i 0]) (l.drop (i + 1)) := by
 rw [qjg h, qn]
/-! all variables -/
/-! the program's: a walk that gathers -/
def outE (l : List Int) : Ent := bun (.blk [accV 1 (ints l)] :: accE 1 (ints l))
def outN (l : List Int) (t : Ty) : List Int := if t.con = [] then (if t.var ∈ l then l else l ++ [t.var]) else l
theorem qdk {H' : List Ent} {l : List Int} {r : AV} (k : Nat) (h0 : l ≠ []) (hk : 0 < k) (hl : k < H'.length) (e0 : ent H' 0 = .blk [.row k l.length]) (e1 : ent H' k = .app 1 (ints l)) (hr : r.bd 1 = true) :
 qjw (fun H' o => H' = [outE l] ∧ o = .val r) H' (.val r) := by
 refine ⟨[.blk [.row 1 l.length], .app 1 (ints l)], [0, k], rfl, by simp, by simp; omega, ?_, hr, ?_, rfl⟩
 ·simp only [qdi, List.length_cons, List.length_nil, Ent.bd, AV.bds, AV.bd, Ent.ren, AV.rens, AV.ren, e0, e1, qe5, qh3]
  exact ⟨⟨by omega, rfl, rfl⟩, ⟨hl, trivial, trivial⟩, trivial⟩
 ·rw [outE, q9 (qr h0), q8 (qr h0), qbi]
theorem qns {H' : List Ent} {r : AV} (hl : 0 < H'.length) (e0 : ent H' 0 = .blk [.nils]) (hr : r.bd 1 = true) :
 qjw (fun H' o => H' = [outE []] ∧ o = .val r) H' (.val r) := by
 refine ⟨[.blk [.nils]], [0], rfl, by simp, by simp, ?_, hr, rfl, rfl⟩
 exact ⟨⟨hl, rfl, by rw [e0]; rfl⟩, trivial⟩
theorem q86 (l : List Int) (t : Ty) (k : Int) (hb : l.length ≤ 1000000) : VM Try.prog 99 (outE l) (outE (outN l t)) [encY t, .int .i64 k, .ptr 0 0] (.bool true) := by
 refine q41 ?_ (by simp [AV.bds, AV.bd, qip])
 have hcap : qch (l.length + 1) 8 = True := eq_true (capI (by omega))
 refine qjq c0bg (by simp) ?_
 by_cases h0 : l = []
 ·subst h0
  simp only [qbj, qo, qp]
  repeat' (first | refine vs_ ?_ | ((first | refine vr_ ?_ | fail) <;> (try simp only [qbn, go_sem, ↓reduceIte])) | ((first | simp (disch := omega) only [hcap] | (refine cs_ ?_ ?_ <;> intro hc) | refine cj_ ?_ | fail | refine qa (q7 [] _) fun _ => ?_) <;> (try refine ev_ ?_)) | with_reducible exact ti_)
  ·have : outN [] t = [t.var] := by rw [outN, if_pos (by assumption), if_neg (by assumption)]; rfl
   rw [this]
   exact qdk (l := [t.var]) 2 (by simp) (by omega) (by simp) rfl rfl rfl
  ·exact absurd (by assumption : t.var ∈ []) (by simp)
  ·have : outN [] t = [] := by rw [outN, if_neg (by assumption)]
   rw [this]
   exact qns (by simp) rfl rfl
 ·simp only [q9 (qr h0), q8 (qr h0)]
  repeat' (first | refine vs_ ?_ | ((first | refine vr_ ?_ | refine qa (q7 l _) fun _ => ?_ | simp (disch := omega) only [hcap] | (refine cs_ ?_ ?_ <;> intro hc) | refine cj_ ?_ | fail) <;> (try refine ev_ ?_)) | with_reducible exact ti_)
  ·have : outN l t = l ++ [t.var] := by rw [outN, if_pos (by assumption), if_neg (by assumption)]
   rw [this, qgh]
   exact qdk (l := l ++ [t.var]) 3 (by simp) (by omega) (by simp) (by simp [ent]) rfl rfl
  ·have : outN l t = l := by rw [outN, if_pos (by assumption), if_pos (by assumption)]
   rw [this]
   exact qdk (l := l) 1 h0 (by omega) (by simp) rfl rfl rfl
  ·have : outN l t = l := by rw [outN, if_neg (by assumption)]
   rw [this]
   exact qdk (l := l) 1 h0 (by omega) (by simp) rfl rfl rfl
def qqc (l : List Int) (t : Ty) (_ : Int) : List Int × Bool := (outN l t, true)
theorem qp2 (l : List Int) (c : List UInt8) (v : Int) (a : List Ty) : outN l (.mk c v a) = qn l (if c = [] then [v] else []) := by
 unfold outN
 by_cases hcn : c = []
 ·rw [if_pos (show (Ty.mk c v a).con = [] from hcn), if_pos hcn]; rfl
 ·rw [if_neg (show ¬ (Ty.mk c v a).con = [] from hcn), if_neg hcn]; rfl
mutual
theorem q6p : ∀ (t : Ty) (l : List Int) (k : Int), qbt qqc t l k = (qn l (varY t), true)
 | .mk c v a, l, k => by
   rw [qbt, if_pos (show (qqc l (.mk c v a) k).2 = true from rfl), qu3, varY, qc4]
   congr 2
   exact qp2 l c v a
theorem qu3 : ∀ (a : List Ty) (l : List Int) (k : Int), qbb qqc a l k = (qn l (qkf a), true)
 | [], l, k => by rw [qbb, qkf]; rfl
 | x :: r, l, k => by
   rw [qbb, q6p x, if_pos rfl, qu3 r, qkf, qc4]
end
theorem qsu (l : List Int) (t : Ty) : (outN l t).length ≤ l.length + 1 := by
 rw [outN]; split
 ·split
  ·omega
  ·simp
 ·omega
theorem qmn (t : Ty) (hb : szY t ≤ 1000000) : qm Try.prog 65 [encY t] (.sl 1 (ints (qn [] (varY t)))) := by
 refine qd c0bh (by simp) (by simp only [go_sem]) (qe5 0 _) fun hw => ?_
 have hwalk := qhm (st := outE) (step := qqc) (f := 99) (ok := fun n l => l.length + n ≤ 1000000) (fun _ => rfl) (fun n l t k h => by have := qsu l t; simp only [qqc]; omega) (fun n l h => by omega) (fun l t k h => q86 l t k (by omega)) t [] 1 (by simpa using hb)
 rw [q6p] at hwalk
 unfold k0bh
 refine qfc (qgt ?_)
 (refine ev_ ?_; (try with_reducible exact ti_))
 refine qfc (qgt ?_)
 (refine ev_ ?_; (try with_reducible exact ti_))
 refine q11 1 rfl rfl ?_
 refine qfc (qgt ?_)
 simp only [List.set_cons_succ, List.set_cons_zero]
 (refine ev_ ?_; (try with_reducible exact ti_))
 refine qg3 1 hwalk ?_
 simp only [List.set_cons_succ, List.set_cons_zero]
 (refine ev_ ?_; (try with_reducible exact ti_))
 refine qwf 1 rfl (by simp) ?_
 simp only [List.set_cons_succ, List.set_cons_zero]
 by_cases h0 : qn [] (varY t) = []
 ·simp only [h0, qbj, qo, qp]
  repeat' (first | refine vs_ ?_ | ((first | refine vr_ ?_ | (refine cs_ ?_ ?_ <;> intro hc) | refine cj_ ?_ | fail) <;> (try refine ev_ ?_)) | with_reducible exact ti_)
 ·simp only [q9 (qr h0), q8 (qr h0)]
  repeat' (first | refine vs_ ?_ | ((first | refine vr_ ?_ | (refine cs_ ?_ ?_ <;> intro hc) | refine cj_ ?_ | fail) <;> (try refine ev_ ?_)) | with_reducible exact ti_)
set_option maxRecDepth 4000

/-! the program's -/
abbrev numE (n : Int) : Ent := .blk [.int .i64 n]
def qc9 (n : Int) (t : Ty) (k : Int) : Int × Bool := (IntKind.i64.wrap (n + 1), decide (IntKind.i64.wrap (n + 1) ≤ 4096) && (decide (k ≤ 100) && mayY t))
theorem q7r (n : Int) (t : Ty) (k : Int) : VM Try.prog 87 (numE n) (numE (qc9 n t k).1) [encY t, .int .i64 k, .ptr 0 0] (.bool (qc9 n t k).2) := by
 refine qgw (by kernel_rfl) fun hw => ?_
 have hk := qde hw.1
 refine qcn c0z 1 (by simp) (by simp) ?_
 repeat' (first | refine vs_ ?_ | ((first | refine vr_ ?_ | refine qa (qd1 _) fun _ => ?_ | refine qa (qsl _ _ _) fun _ => ?_ | (refine cs_ ?_ ?_ <;> intro hc) | refine cj_ ?_ | simp (disch := omega) only [encs_getN, qb]) <;> (try refine ev_ ?_)) | with_reducible exact ti_)
 ·simp_all [qc9]
 ·exact ⟨rfl, by simp only [qc9, *, decide_true, decide_false, Bool.true_and, Bool.false_and]⟩
 ·exact ⟨rfl, by simp only [qc9, *, decide_true, decide_false, Bool.true_and, Bool.false_and]⟩
def qt3 (n : Int) (_ : Ty) (_ : Int) : Int × Bool := (IntKind.i64.wrap (n + 1), true)
def qo3 (n : Int) (_ : Ty) (k : Int) : Int × Bool := (if k > n then k else n, true)
theorem qtc {f : FuncId} {step : Int → Ty → Int → Int × Bool} (h : ∀ n t k, VM Try.prog f (numE n) (numE (step n t k).1) [encY t, .int .i64 k, .ptr 0 0] (.bool (step n t k).2)) (t : Ty) (n k : Int) :
 VM Try.prog 86 (numE n) (numE (qbt step t n k).1) [encY t, .int .i64 k, .fn f [] [.ptr 0 0]] (.bool (qbt step t n k).2) :=
 qhm (st := numE) (ok := fun _ _ => True) (fun _ => rfl) (fun _ _ _ _ _ => trivial) (fun _ _ _ => trivial) (fun n t k _ => h n t k) t n k trivial
def qqx (t : Ty) : Bool := (qbt qc9 t 0 1).2
theorem qks (t : Ty) : qm Try.prog 48 [encY t] (.bool (qqx t)) := by
 refine qd c0ba (by simp) (by simp only [go_sem]) rfl fun hw => ?_
 repeat' (first | refine vs_ ?_ | ((first | refine vr_ ?_ | refine qg3 1 (qtc q7r t 0 1) ?_ | (refine cs_ ?_ ?_ <;> intro hc) | refine cj_ ?_ | fail) <;> (try refine ev_ ?_)) | with_reducible exact ti_)
 rfl
/-! the references -/
mutual
def q2w : Ty → Int
 | .mk _ _ l => qqf 1 l
def qqf : Int → List Ty → Int
 | a, [] => a
 | a, x :: r => qqf (IntKind.i64.wrap (a + q2w x)) r
end
mutual
def qck : Ty → Bool
 | .mk c v l => qdb l && mayW c v l.length
def qdb : List Ty → Bool
 | [] => true
 | x :: r => qck x && qdb r
end
theorem qjb (t : Ty) : qck t = (qdb t.args && mayY t) := by cases t; rw [qck]; rfl
/-! Few -/
mutual
def cntY : Ty → Int → Int → Int
 | .mk _ _ l, k, d => if d < 1 then -1 else qiq l (IntKind.i64.wrap (k - 1)) d
def qiq : List Ty → Int → Int → Int
 | [], a, _ => a
 | x :: r, a, d => if 0 ≤ a then qiq r (cntY x a (IntKind.i64.wrap (d - 1))) d else a
end
theorem qu9 (t : Ty) (k d : Int) : cntY t k d = if d < 1 then -1 else qiq t.args (IntKind.i64.wrap (k - 1)) d := by cases t; rw [cntY]; rfl
theorem qoh {a : Int} (h : a < 0) (l : List Ty) (d : Int) : qiq l a d = a := by
 cases l with
 | nil => rw [qiq]
 | cons x r => rw [qiq, if_neg (by omega)]
theorem qxk : ∀ t k d, qm Try.prog 77 [encY t, .int .i64 k, .int .i64 d] (.int .i64 (cntY t k d)) := by
 refine Ty.ind fun t ih k d => ?_
 refine qd c0bb (by simp) (by simp only [go_sem]) rfl fun hw => ?_
 have hk := qde hw.1
 rw [qu9]
 repeat' (first | refine vs_ ?_ | ((first | refine vr_ ?_ | (refine cs_ ?_ ?_ <;> intro hc) | refine cj_ ?_ | simp (disch := omega) only [encs_getN, qb]) <;> (try refine ev_ ?_)) | with_reducible exact ti_)
 ·rw [if_pos (by assumption)]
 rw [if_neg (by assumption)]
 refine qs (S := Nat × Int) (fun s => s.1 ≤ t.args.length ∧ qiq (t.args.drop s.1) s.2 d = qiq t.args (IntKind.i64.wrap (k - 1)) d) (fun s => (⟨[(1, .int .i64 s.2), (2, .int .i64 d), (3, .ptr 0 0), (7, .int .i64 s.1)], []⟩, [.blk (yc t)])) (fun s => t.args.length - s.1) ?_ fun s hs => ?_
 ·refine qk (0, IntKind.i64.wrap (k - 1)) [0] ⟨Nat.zero_le _, rfl⟩ rfl (by simp) ?_ ?_ ?_ <;> (try refine ev_ ?_) <;> (try with_reducible exact ti_) <;> (try simp (disch := omega) only [qb, and_true, true_and])
 ·obtain ⟨i, a⟩ := s
  obtain ⟨hi, ha⟩ := hs
  dsimp only at hi ha
  repeat' (first | refine vs_ ?_ | ((first | refine vr_ ?_ | fail) <;> (try simp (disch := first | omega | (simp only [List.length_set, List.length_append, List.length_cons, List.length_nil]; done) | (simp only [List.length_set, List.length_append, List.length_cons, List.length_nil]; omega)) only [qb6, qb, go_sem, ↓reduceIte])) | ((first | (refine cs_ ?_ ?_ <;> intro hc) | refine cj_ ?_ | simp (disch := omega) only [encs_getN, qb] | refine qa (ih _ (qcz (by omega)) _ _) fun _ => ?_) <;> (try refine ev_ ?_)) | with_reducible exact ti_)
  ·refine qk (i + 1, cntY (t.args.getD i Y0) a (IntKind.i64.wrap (d - 1))) [0] ⟨⟨by dsimp only; omega, ?_⟩, by dsimp only; omega⟩ rfl (by simp) ?_ ?_ ?_ <;> (try refine ev_ ?_) <;> (try with_reducible exact ti_) <;> (try simp (disch := omega) only [qb, and_true, true_and])
   rw [← ha, qnr (l := t.args) (i := i) (by omega), qiq, if_pos (by assumption)]
  ·rw [← ha, qoh (by omega)]
  ·rw [← ha, List.drop_of_length_le (by omega)]; rfl
def qnp (a : Int) : List Ty → Int
 | [] => a
 | x :: r => qnp (cntY x a 300) r
def qll (l : List Ty) : Bool := decide (0 ≤ qnp 20000 l)
theorem q84 (l : List Ty) : qm Try.prog 31 [.sl 3 (qba l)] (.int .i64 (if qll l = true then 1 else 0)) := by
 refine qd c0bc (by simp) (by simp only [go_sem]) rfl fun hw => ?_
 have hk : l.length ≤ maxLen := by have := hw.1.1; rwa [qbv] at this
 repeat' (first | refine vs_ ?_ | ((first | refine vr_ ?_ | (refine cs_ ?_ ?_ <;> intro hc) | refine cj_ ?_ | simp (disch := omega) only [encs_getN, qb]) <;> (try refine ev_ ?_)) | with_reducible exact ti_)
 refine qs (S := Nat × Int) (fun s => s.1 ≤ l.length ∧ qnp s.2 (l.drop s.1) = qnp 20000 l) (fun s => (⟨[(0, .sl 3 (qba l)), (3, .int .i64 s.2), (4, .int .i64 s.1)], []⟩, [])) (fun s => l.length - s.1) ?_ fun s hs => ?_
 ·refine qk (0, 20000) [] ⟨Nat.zero_le _, rfl⟩ rfl (by simp) ?_ ?_ ?_ <;> (try refine ev_ ?_) <;> (try with_reducible exact ti_) <;> (try simp (disch := omega) only [qb, and_true, true_and])
 ·obtain ⟨i, a⟩ := s
  obtain ⟨hi, ha⟩ := hs
  dsimp only at hi ha
  repeat' (first | refine vs_ ?_ | ((first | refine vr_ ?_ | fail) <;> (try simp (disch := first | omega | (simp only [List.length_set, List.length_append, List.length_cons, List.length_nil]; done) | (simp only [List.length_set, List.length_append, List.length_cons, List.length_nil]; omega)) only [qb6, qb, go_sem, ↓reduceIte])) | ((first | (refine cs_ ?_ ?_ <;> intro hc) | refine cj_ ?_ | simp (disch := omega) only [encs_getN, qb] | refine qa (qxk _ _ _) fun _ => ?_) <;> (try refine ev_ ?_)) | with_reducible exact ti_)
  ·refine qk (i + 1, cntY (l.getD i Y0) a 300) [] ⟨⟨by dsimp only; omega, ?_⟩, by dsimp only; omega⟩ rfl (by simp) ?_ ?_ ?_ <;> (try refine ev_ ?_) <;> (try with_reducible exact ti_) <;> (try simp (disch := omega) only [qb, and_true, true_and])
   rw [← ha, qnr (l := l) (i := i) (by omega), qnp]
  all_goals
   have hf : qnp 20000 l = a := by rw [← ha, List.drop_of_length_le (by omega)]; rfl
   rw [qll, hf]
  ·rw [if_neg (by simp; omega)]
  ·rw [if_pos (by simp; omega)]

/-! the laws of sizes -/
mutual
theorem qql : ∀ (t : Ty) (n k : Int), 0 ≤ n → n + szY t ≤ 1000000 → qbt qt3 t n k = (n + szY t, true)
 | .mk c v l, n, k, h0, h => by
   rw [szY] at h
   rw [qbt, if_pos (show (qt3 n (.mk c v l) k).2 = true from rfl)]
   have h1 : (qt3 n (.mk c v l) k).1 = n + 1 := qhc (by omega) (by omega)
   rw [h1, qhf l _ _ (by omega) (by omega), szY]
   congr 1; omega
theorem qhf : ∀ (l : List Ty) (n k : Int), 0 ≤ n → n + szYs l ≤ 1000000 → qbb qt3 l n k = (n + szYs l, true)
 | [], n, k, _, _ => by rw [qbb, szYs]; congr 1; omega
 | x :: r, n, k, h0, h => by
   rw [szYs] at h
   rw [qbb, qql x n k h0 (by omega), if_pos rfl, qhf r _ k (by omega) (by omega), szYs]
   congr 1; omega
end
mutual
theorem qpm : ∀ (t : Ty) (n k : Int), 0 ≤ n → 1 ≤ k → k + dpY t ≤ 1000000 → qbt qo3 t n k = (max n (k + dpY t - 1), true)
 | .mk c v l, n, k, h0, h1, h => by
   rw [dpY] at h
   rw [qbt, if_pos (show (qo3 n (.mk c v l) k).2 = true from rfl)]
   have h2 : (qo3 n (.mk c v l) k).1 = max n k := by simp only [qo3]; split <;> omega
   rw [h2, qhc (z := k + 1) (by omega) (by omega), qhx l _ _ (by omega) (by omega) (by omega), dpY]
   congr 1; split <;> omega
theorem qhx : ∀ (l : List Ty) (n k : Int), 0 ≤ n → 1 ≤ k → k + dpYs l ≤ 1000000 → qbb qo3 l n k = (if dpYs l = 0 then n else max n (k + dpYs l - 1), true)
 | [], n, k, _, _, _ => by rw [qbb, dpYs, if_pos rfl]
 | x :: r, n, k, h0, h1, h => by
   rw [dpYs] at h
   have hp := q1m x
   rw [qbb, qpm x n k h0 h1 (by omega), if_pos rfl, qhx r _ k (by omega) h1 (by omega), dpYs]
   congr 1
   rw [if_neg (by omega : ¬ max (dpY x) (dpYs r) = 0)]
   split <;> omega
end
mutual
theorem qi0 : ∀ (t : Ty) (n k : Int), 0 ≤ n → n + szY t ≤ 1000000 → 1 ≤ k → k + dpY t ≤ 1000000 →
 ((qbt qc9 t n k).2 = true ↔ n + szY t ≤ 4096 ∧ k + dpY t - 1 ≤ 100 ∧ qck t = true) ∧ ((qbt qc9 t n k).2 = true → (qbt qc9 t n k).1 = n + szY t)
 | .mk c v l, n, k, h0, h1, h2, h3 => by
   rw [szY] at h1
   rw [dpY] at h3
   have e1 : IntKind.i64.wrap (n + 1) = n + 1 := qhc (by omega) (by omega)
   have e2 : IntKind.i64.wrap (k + 1) = k + 1 := qhc (by omega) (by omega)
   have e3 : (qc9 n (.mk c v l) k).1 = n + 1 := e1
   have e4 : (qc9 n (.mk c v l) k).2 = true ↔ n + 1 ≤ 4096 ∧ k ≤ 100 ∧ mayW c v l.length = true := by
    simp only [qc9, e1, Bool.and_eq_true, decide_eq_true_eq]; rfl
   rw [qbt, szY, dpY, qck]
   by_cases hs : (qc9 n (.mk c v l) k).2 = true
   ·rw [if_pos hs, e3, e2]
    obtain ⟨q1, q2, q3⟩ := e4.1 hs
    obtain ⟨r1, r2⟩ := qhv l (n + 1) (k + 1) (by omega) (by omega) (by omega) (by omega) (by omega) (by omega)
    refine ⟨?_, fun h => by rw [r2 h]; omega⟩
    rw [r1, q3, Bool.and_true]
    constructor
    ·rintro ⟨a1, a2, a3⟩; exact ⟨by omega, by omega, a3⟩
    ·rintro ⟨a1, a2, a3⟩; exact ⟨by omega, by omega, a3⟩
   ·rw [if_neg hs]
    refine ⟨⟨fun h => (by cases h), fun ⟨a1, a2, a3⟩ => absurd (e4.2 ⟨by omega, by omega, (by rw [Bool.and_eq_true] at a3; exact a3.2)⟩) hs⟩, fun h => by cases h⟩
theorem qhv : ∀ (l : List Ty) (n k : Int), 0 ≤ n → n + szYs l ≤ 1000000 → 1 ≤ k → k + dpYs l ≤ 1000000 → n ≤ 4096 → k - 1 ≤ 100 →
 ((qbb qc9 l n k).2 = true ↔ n + szYs l ≤ 4096 ∧ k + dpYs l - 1 ≤ 100 ∧ qdb l = true) ∧ ((qbb qc9 l n k).2 = true → (qbb qc9 l n k).1 = n + szYs l)
 | [], n, k, h0, h1, h2, h3, h4, h5 => by
   rw [qbb, szYs, dpYs, qdb]
   exact ⟨⟨fun _ => ⟨by omega, by omega, rfl⟩, fun _ => rfl⟩, fun _ => by simp⟩
 | x :: r, n, k, h0, h1, h2, h3, h4, h5 => by
   rw [szYs] at h1
   rw [dpYs] at h3
   obtain ⟨q1, q2⟩ := qi0 x n k h0 (by omega) h2 (by omega)
   rw [qbb, szYs, dpYs, qdb]
   by_cases hs : (qbt qc9 x n k).2 = true
   ·rw [if_pos hs, q2 hs]
    obtain ⟨a1, a2, a3⟩ := q1.1 hs
    obtain ⟨r1, r2⟩ := qhv r (n + szY x) k (by omega) (by omega) h2 (by omega) (by omega) h5
    refine ⟨?_, fun h => by rw [r2 h]; omega⟩
    rw [r1, a3, Bool.true_and]
    constructor
    ·rintro ⟨b1, b2, b3⟩; exact ⟨by omega, by omega, b3⟩
    ·rintro ⟨b1, b2, b3⟩; exact ⟨by omega, by omega, b3⟩
   ·rw [if_neg hs]
    refine ⟨⟨fun h => (by cases h), fun ⟨a1, a2, a3⟩ => absurd (q1.2 ⟨by omega, by omega, ?_⟩) hs⟩, fun h => by cases h⟩
    rw [Bool.and_eq_true] at a3
    exact a3.1
end
def qfb (t : Ty) : Bool := decide (szY t ≤ 4096) && (decide (dpY t ≤ 100) && qck t)
theorem qq1 {t : Ty} (h1 : szY t ≤ 20000) (h2 : dpY t ≤ 300) : qqx t = qfb t := by
 have := (qi0 t 0 1 (by omega) (by omega) (by omega) (by omega)).1
 rw [qqx, Bool.eq_iff_iff, this, qfb, Bool.and_eq_true, Bool.and_eq_true, decide_eq_true_eq, decide_eq_true_eq]
 constructor
 ·rintro ⟨a1, a2, a3⟩; exact ⟨by omega, by omega, a3⟩
 ·rintro ⟨a1, a2, a3⟩; exact ⟨by omega, by omega, a3⟩
theorem qfd {t : Ty} (h1 : szY t ≤ 20000) (h2 : dpY t ≤ 300) : qm Try.prog 48 [encY t] (.bool (qfb t)) := by
 rw [← qq1 h1 h2]; exact qks t
set_option maxRecDepth 4000

theorem qs0 {t a b : Ty} (h1 : t.con = arrW) (h2 : t.args = [a, b]) : txtY t = parW (decide (a.con = arrW)) (txtY a) ++ ([32, 45, 62, 32] ++ txtY b) := by
 cases t with
 | mk c v l =>
   have h1' : c = arrW := h1
   have h2' : l = [a, b] := h2
   subst h1' h2'
   rw [txtY, if_pos rfl]
theorem qsd {t : Ty} (h1 : ¬ t.con = arrW) : txtY t = qe2 t ++ argY t.args := by
 cases t with
 | mk c v l =>
   have h1' : ¬ c = arrW := h1
   rcases l with _ | ⟨a, _ | ⟨b, _ | ⟨d, r⟩⟩⟩ <;> (simp only [txtY, if_neg h1']; rfl)
theorem qgs (l : List Ty) (i : Nat) (h : i < l.length) : argY (l.take (i + 1)) = argY (l.take i) ++ (32 :: parW (decide ((l.getD i Y0).args ≠ [])) (txtY (l.getD i Y0))) := by
 have h1 : l.take (i + 1) = l.take i ++ [l.getD i Y0] := by
  rw [List.take_add_one, List.getD_eq_getElem?_getD, List.getElem?_eq_getElem h]; rfl
 rw [h1]
 generalize l.take i = a
 generalize l.getD i Y0 = x
 induction a with
 | nil => simp [argY]
 | cons y a ih => simp only [List.cons_append, argY, ih, List.append_assoc]
theorem qei (l : List Ty) (i : Nat) : (argY (l.take i)).length ≤ (argY l).length := by
 induction l generalizing i with
 | nil => simp
 | cons x r ih =>
   cases i with
   | zero => simp [argY]
   | succ i => rw [List.take_succ_cons, argY, argY, List.length_append, List.length_append]; have := ih i; omega
theorem qot {t : Ty} (h : qck t = true) (h1 : t.con = arrW) : ∃ a b, t.args = [a, b] ∧ qck a = true ∧ qck b = true := by
 rw [qjb, Bool.and_eq_true] at h
 obtain ⟨h2, h3⟩ := h
 rw [mayY, mayW, h1, if_neg (by decide), if_pos rfl, Bool.and_eq_true, decide_eq_true_eq, decide_eq_true_eq] at h3
 have hl : t.args.length = 2 := by omega
 obtain ⟨a, b, hab⟩ : ∃ a b, t.args = [a, b] := by
  match hh : t.args, hl with
  | [a, b], _ => exact ⟨a, b, rfl⟩
 rw [hab] at h2
 simp only [qdb, Bool.and_eq_true] at h2
 exact ⟨a, b, hab, h2.1, h2.2.1⟩
theorem qq2 {t x : Ty} (h : qck t = true) (hx : x ∈ t.args) : qck x = true := by
 rw [qjb, Bool.and_eq_true] at h
 have h2 := h.1
 generalize t.args = l at hx h2
 induction l with
 | nil => cases hx
 | cons y r ih =>
   rw [qdb, Bool.and_eq_true] at h2
   rcases List.mem_cons.1 hx with rfl | hx
   ·exact h2.1
   ·exact ih hx h2.2
theorem qlv (b : Bool) (s : List UInt8) : s.length ≤ (parW b s).length ∧ (parW b s).length ≤ s.length + 2 := by
 rw [parW]; split <;> simp <;> omega
def Big : Nat := 140737488355328
theorem qbz {n : Nat} (h : n ≤ Big) : n ≤ maxLen := by unfold Big at h; unfold maxLen; omega

theorem q8h {v : Int} (h : (Lit.int .i64 v).wf = true) (h0 : v < 0) : IntKind.i64.wrap (-1 - v) = -1 - v := by
 have := qfx h
 exact qhc (by omega) (by omega)
end Go.Proofs.Ytfpobiheiloamaa
