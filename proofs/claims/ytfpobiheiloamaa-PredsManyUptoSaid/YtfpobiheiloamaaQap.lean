/- Texts of this proof, joined. -/
import Derived.Test.YtfpobiheiloamaaQan
import Derived.Test.YtfpobiheiloamaaQao

/- terms: heads, sameness, the walk over a term -/
set_option maxRecDepth 4000
namespace Go.Proofs.Ytfpobiheiloamaa
open Go Go.RowKit Go.V
set_option linter.unusedVariables false
set_option linter.unusedSimpArgs false

abbrev hdA (t : Ty) : AV := .agg [.str t.con, .int .i64 t.var, .int .i64 t.args.length]
theorem qb8 {t : Ty} (hw : (encY t).wf) : t.args.length ≤ maxLen := ((qfh t).1 hw).1
attribute [go_sem] hdA
theorem qe7 (t : Ty) : ql Try.prog 88 [encY t] (hdA t) := by
 refine qc c0x (by simp) (by simp only [go_sem]) rfl fun hw => ?_
 have hk := qb8 hw.1
 repeat' (first | refine vs_ ?_ | ((first | refine vr_ ?_ | (refine cs_ ?_ ?_ <;> intro hc) | refine cj_ ?_ | fail) <;> (try refine ev_ ?_)) | with_reducible exact ti_)
 all_goals (try rfl)
def hdEq (a b : Ty) : Bool := decide (a.con = b.con) && (decide (a.var = b.var) && decide ((a.args.length : Int) = b.args.length))
theorem qny {a b : Ty} (h : hdEq a b = true) : a.con = b.con ∧ a.var = b.var ∧ a.args.length = b.args.length := by
 simp only [hdEq, Bool.and_eq_true, decide_eq_true_eq] at h
 exact ⟨h.1, h.2.1, by omega⟩
theorem q7b {a b : Ty} (h : hdEq a b = false) : qfk a b = false := by
 cases hs : qfk a b with
 | false => rfl
 | true =>
   have := (qno a b).1 hs
   subst this
   simp [hdEq] at h
theorem qto {a b : Ty} {i : Nat} (h : hdEq a b = true) (ha : qba (a.args.drop i) (b.args.drop i) = qba a.args b.args) : qfk a b = qba (a.args.drop i) (b.args.drop i) := by
 obtain ⟨h1, h2, h3⟩ := qny h
 rw [ha, qd7]; simp [h1, h2]
theorem qov : ∀ a b, ql Try.prog 76 [encY a, encY b] (.bool (qfk a b)) := by
 refine Ty.ind fun a ih b => ?_
 refine qc c0y (by simp) (by simp only [go_sem]) rfl fun hw => ?_
 have hkl := qb8 hw.1
 have hkr := qb8 hw.2.1
 repeat' (first | refine vs_ ?_ | ((first | refine vr_ ?_ | refine qa (qe7 _) fun _ => ?_ | refine qe (qe7 _) ?_ | (refine cs_ ?_ ?_ <;> intro hc) | refine cj_ ?_ | simp (disch := omega) only [encs_getN, qb]) <;> (try refine ev_ ?_)) | with_reducible exact ti_)
 ·rw [q7b (by simpa [hdEq] using hc)]
 have hq : hdEq a b = true := by simpa [hdEq] using hc
 clear hc
 refine qo (S := Nat) (fun i => i ≤ a.args.length ∧ qba (a.args.drop i) (b.args.drop i) = qba a.args b.args) (fun i => (⟨[(2, .ptr 0 0), (3, .ptr 1 0), (13, .int .i64 a.args.length), (14, .int .i64 i)], []⟩, [.blk (yc a), .blk (yc b)])) (fun i => a.args.length - i) ?_ fun i hi => ?_
 ·refine qi 0 [0, 1] ⟨Nat.zero_le _, rfl⟩ rfl (by simp) ?_ ?_ ?_ <;> (try refine ev_ ?_) <;> (try with_reducible exact ti_) <;> (try simp (disch := omega) only [qb, and_true, true_and])
 ·obtain ⟨hi, ha⟩ := hi
  have hf := qto hq ha
  obtain ⟨q1, q2, q3⟩ := qny hq
  repeat' (first | refine vs_ ?_ | ((first | refine vr_ ?_ | fail) <;> (try simp (disch := first | omega | (simp only [List.length_set, List.length_append, List.length_cons, List.length_nil]; done) | (simp only [List.length_set, List.length_append, List.length_cons, List.length_nil]; omega)) only [qx, qb, go_sem, ↓reduceIte])) | ((first | (refine cs_ ?_ ?_ <;> intro hc) | refine cj_ ?_ | simp (disch := omega) only [encs_getN, qb] | refine qa (ih _ (qbo (by omega)) _) fun _ => ?_ | refine qe (ih _ (qbo (by omega)) _) ?_) <;> (try refine ev_ ?_)) | with_reducible exact ti_)
  ·rw [hf, qdg (by omega) (by omega), hc]; rfl
  ·refine qi (i + 1) [0, 1] ⟨⟨by omega, ?_⟩, by omega⟩ rfl (by simp) ?_ ?_ ?_ <;> (try refine ev_ ?_) <;> (try with_reducible exact ti_) <;> (try simp (disch := omega) only [qb, and_true, true_and])
   rw [← ha, qdg (l := a.args) (l' := b.args) (i := i) (by omega) (by omega), hc, Bool.true_and]
  ·rw [hf, qi8 (by omega) (by omega)]
theorem qtr {a b : Ty} {i : Nat} (h1 : a.con = b.con) (h2 : a.var = b.var) (ha : qba (a.args.drop i) (b.args.drop i) = qba a.args b.args) : qfk a b = qba (a.args.drop i) (b.args.drop i) := by
 rw [ha, qd7]; simp [h1, h2]
theorem qo5 : ∀ a b, ql Try.prog 39 [encY a, encY b] (.bool (qfk a b)) := by
 refine Ty.ind fun a ih b => ?_
 refine qc c0z (by simp) (by simp only [go_sem]) rfl fun hw => ?_
 have hkl := qb8 hw.1
 have hkr := qb8 hw.2.1
 repeat' (first | refine vs_ ?_ | ((first | refine vr_ ?_ | (refine cs_ ?_ ?_ <;> intro hc) | refine cj_ ?_ | simp (disch := omega) only [encs_getN, qb]) <;> (try refine ev_ ?_)) | with_reducible exact ti_)
 ·rw [qd7]; simp [*]
 ·rw [qd7]; simp [*]
 ·rw [qd7, qic (by omega)]; simp
 rename_i h1 h2
 refine qo (S := Nat) (fun i => i ≤ a.args.length ∧ qba (a.args.drop i) (b.args.drop i) = qba a.args b.args) (fun i => (⟨[(2, .ptr 0 0), (3, .ptr 1 0), (5, .int .i64 i)], []⟩, [.blk (yc a), .blk (yc b)])) (fun i => a.args.length - i) ?_ fun i hi => ?_
 ·refine qi 0 [0, 1] ⟨Nat.zero_le _, rfl⟩ rfl (by simp) ?_ ?_ ?_ <;> (try refine ev_ ?_) <;> (try with_reducible exact ti_) <;> (try simp (disch := omega) only [qb, and_true, true_and])
 ·obtain ⟨hi, ha⟩ := hi
  have hf := qtr h1 h2 ha
  repeat' (first | refine vs_ ?_ | ((first | refine vr_ ?_ | fail) <;> (try simp (disch := first | omega | (simp only [List.length_set, List.length_append, List.length_cons, List.length_nil]; done) | (simp only [List.length_set, List.length_append, List.length_cons, List.length_nil]; omega)) only [qx, qb, go_sem, ↓reduceIte])) | ((first | (refine cs_ ?_ ?_ <;> intro hc) | refine cj_ ?_ | simp (disch := omega) only [encs_getN, qb] | refine qa (ih _ (qbo (by omega)) _) fun _ => ?_ | refine qe (ih _ (qbo (by omega)) _) ?_) <;> (try refine ev_ ?_)) | with_reducible exact ti_)
  ·rw [hf, qdg (by omega) (by omega), hc]; rfl
  ·refine qi (i + 1) [0, 1] ⟨⟨by omega, ?_⟩, by omega⟩ rfl (by simp) ?_ ?_ ?_ <;> (try refine ev_ ?_) <;> (try with_reducible exact ti_) <;> (try simp (disch := omega) only [qb, and_true, true_and])
   rw [← ha, qdg (l := a.args) (l' := b.args) (i := i) (by omega) (by omega), hc, Bool.true_and]
  ·rw [hf, qi8 (by omega) (by omega)]
/-! heads -/
attribute [go_sem] q3y
def fixW (s : List UInt8) : Bool := pfx [33] s && (decide ((qh3 (s.drop 1)).2 = 0) && decide (digI (qh3 (s.drop 1)).1 = s.drop 1))
theorem q11 {c : UInt8} {s : List UInt8} (h : pfx [c] s = true) : 1 ≤ s.length := by
 cases s with
 | nil => simp [pfx] at h
 | cons d r => simp
theorem qmx (s : List UInt8) : ql Try.prog 119 [.str s] (.bool (fixW s)) := by
 refine qc c0ba (by simp) (by simp only [go_sem]) rfl fun hw => ?_
 cases hp : pfx [33] s with
 | false =>
   repeat' (first | refine vs_ ?_ | ((first | refine vr_ ?_ | fail) <;> (try simp only [hp, go_sem, ↓reduceIte])) | ((first | (refine cs_ ?_ ?_ <;> intro hc) | refine cj_ ?_ | fail | refine qa (qbl _ _) fun _ => ?_ | refine qe (qbl _ _) ?_) <;> (try refine ev_ ?_)) | with_reducible exact ti_)
   simp [fixW, hp]
 | true =>
   have hl := q11 hp
   repeat' (first | refine vs_ ?_ | ((first | refine vr_ ?_ | fail) <;> (try simp only [hp, go_sem, ↓reduceIte])) | ((first | (refine cs_ ?_ ?_ <;> intro hc) | refine cj_ ?_ | fail | refine qa (qbl _ _) fun _ => ?_ | refine qa (qlu _) fun _ => ?_ | refine qa (qew _) fun _ => ?_ | refine qe (qbl _ _) ?_ | refine qe (qlu _) ?_ | refine qe (qew _) ?_) <;> (try refine ev_ ?_)) | with_reducible exact ti_)
   all_goals simp_all [fixW]
theorem qmn (s : List UInt8) : ql Try.prog 133 [.str s] (.bool (fixW s)) := by
 refine qc c0bb (by simp) (by simp only [go_sem]) rfl fun hw => ?_
 cases s with
 | nil =>
   repeat' (first | refine vs_ ?_ | ((first | refine vr_ ?_ | (refine cs_ ?_ ?_ <;> intro hc) | refine cj_ ?_ | simp (disch := omega) only [encs_getN, qb]) <;> (try refine ev_ ?_)) | with_reducible exact ti_)
   all_goals first | (exact absurd rfl (by assumption)) | (simp [fixW, pfx])
 | cons c r =>
   have hp : pfx [33] (c :: r) = decide ((c.toNat : Int) = 33) := by
    have : (c = 33) = ((c.toNat : Int) = 33) := by
     have h3 : c = 33 ↔ c.toNat = (33 : UInt8).toNat := UInt8.toNat_inj.symm
     have h4 : (33 : UInt8).toNat = 33 := rfl
     rw [h4] at h3
     exact propext (h3.trans (by omega))
    simp [pfx, this]
   repeat' (first | refine vs_ ?_ | ((first | refine vr_ ?_ | refine qa (qif _) fun _ => ?_ | refine qa (qd9 _) fun _ => ?_ | refine qe (qif _) ?_ | refine qe (qd9 _) ?_ | (refine cs_ ?_ ?_ <;> intro hc) | refine cj_ ?_ | simp (disch := omega) only [encs_getN, qb]) <;> (try refine ev_ ?_)) | with_reducible exact ti_)
   all_goals simp_all [fixW]
def mayW (c : List UInt8) (v n : Int) : Bool :=
 if c = [] then decide (n = 0) else if c = arrW then decide (v = 0) && decide (n = 2) else if fixW c = true then decide (v = 0) && decide (n = 0) else decide (v = 0) && conW c
theorem qwi (c : List UInt8) (v n : Int) : ql Try.prog 89 [.agg [.str c, .int .i64 v, .int .i64 n]] (.bool (mayW c v n)) := by
 refine qc c0bc (by simp) (by simp only [go_sem]) rfl fun hw => ?_
 repeat' (first | refine vs_ ?_ | ((first | refine vr_ ?_ | refine qa (qmx _) fun _ => ?_ | refine qa (qkl _) fun _ => ?_ | (refine cs_ ?_ ?_ <;> intro hc) | refine cj_ ?_ | fail) <;> (try refine ev_ ?_)) | with_reducible exact ti_)
 all_goals simp_all [mayW, arrW]
abbrev mayY (t : Ty) : Bool := mayW t.con t.var t.args.length

/-! the walk -/
section
variable {S : Type}
mutual
def qbz (step : S → Ty → Int → S × Bool) : Ty → S → Int → S × Bool
 | .mk c v l, s, k => if (step s (.mk c v l) k).2 = true then qbg step l (step s (.mk c v l) k).1 (IntKind.i64.wrap (k + 1)) else ((step s (.mk c v l) k).1, false)
def qbg (step : S → Ty → Int → S × Bool) : List Ty → S → Int → S × Bool
 | [], s, _ => (s, true)
 | x :: r, s, k => if (qbz step x s k).2 = true then qbg step r (qbz step x s k).1 k else ((qbz step x s k).1, false)
end
theorem qnn (step : S → Ty → Int → S × Bool) (t : Ty) (s : S) (k : Int) : qbz step t s k = if (step s t k).2 = true then qbg step t.args (step s t k).1 (IntKind.i64.wrap (k + 1)) else ((step s t k).1, false) := by
 cases t; rw [qbz]; rfl
theorem qgv (step : S → Ty → Int → S × Bool) {l : List Ty} {i : Nat} (h : i < l.length) (s : S) (k : Int) :
 qbg step (l.drop i) s k = if (qbz step (l.getD i Y0) s k).2 = true then qbg step (l.drop (i + 1)) (qbz step (l.getD i Y0) s k).1 k else ((qbz step (l.getD i Y0) s k).1, false) := by
 rw [qjv h, qbg]
theorem qof (step : S → Ty → Int → S × Bool) {l : List Ty} {i : Nat} (h : l.length ≤ i) (s : S) (k : Int) : qbg step (l.drop i) s k = (s, true) := by
 rw [List.drop_of_length_le h, qbg]
end
section
variable {S : Type} {step : S → Ty → Int → S × Bool} {ok : Nat → S → Prop}
theorem qti (h2 : ∀ n s, ok (n + 1) s → ok n s) : ∀ (d n : Nat) (s : S), ok (n + d) s → ok n s
 | 0, n, s, h => h
 | d + 1, n, s, h => qti h2 d n s (h2 _ _ h)
mutual
theorem qqy (h1 : ∀ n s t k, ok (n + 1) s → ok n (step s t k).1) (h2 : ∀ n s, ok (n + 1) s → ok n s) : ∀ (t : Ty) (s : S) (k : Int) (m : Nat), ok (szY t + m) s → ok m (qbz step t s k).1
 | .mk c v l, s, k, m, h => by
   rw [szY, show 1 + szYs l + m = szYs l + m + 1 by omega] at h
   have h3 := h1 _ s (.mk c v l) k h
   rw [qbz]
   split
   ·exact qnj h1 h2 l _ _ m h3
   ·exact qti h2 (szYs l) m _ (by rw [Nat.add_comm]; exact h3)
theorem qnj (h1 : ∀ n s t k, ok (n + 1) s → ok n (step s t k).1) (h2 : ∀ n s, ok (n + 1) s → ok n s) : ∀ (l : List Ty) (s : S) (k : Int) (m : Nat), ok (szYs l + m) s → ok m (qbg step l s k).1
 | [], s, k, m, h => by rw [qbg]; rw [szYs, Nat.zero_add] at h; exact h
 | x :: r, s, k, m, h => by
   rw [szYs, Nat.add_assoc] at h
   have h3 := qqy h1 h2 x s k _ h
   rw [qbg]
   split
   ·exact qnj h1 h2 r _ _ m h3
   ·exact qti h2 (szYs r) m _ (by rw [Nat.add_comm]; exact h3)
end
end
section
variable {S : Type}
variable {f : FuncId} {st : S → Ent} {step : S → Ty → Int → S × Bool} {ok : Nat → S → Prop} (hb : ∀ s, (st s).bd 0 = true) (h1 : ∀ n s t k, ok (n + 1) s → ok n (step s t k).1) (h2 : ∀ n s, ok (n + 1) s → ok n s)
 (hs : ∀ s t k, ok 1 s → VM Try.prog f (st s) (st (step s t k).1) [encY t, .int .i64 k, .ptr 0 0] (.bool (step s t k).2))
include hb h1 h2 hs
theorem qja : ∀ t s k, ok (szY t) s → VM Try.prog 86 (st s) (st (qbz step t s k).1) [encY t, .int .i64 k, .fn f [] [.ptr 0 0]] (.bool (qbz step t s k).2) := by
 refine Ty.ind fun t ih s k hok => ?_
 have hb1 : ∀ s k, (st s).bd k = true := fun s k => Ent.bd_le (Nat.zero_le _) _ (hb s)
 have hbr : ∀ s σ, (st s).ren σ = st s := fun s σ => Ent.ren_bd0 (hb s)
 refine qhn (by kernel_rfl) fun hw => ?_
 have hk := qb8 hw.1
 have hok1 : ok 1 s := qti h2 (szYs t.args) 1 s (by rw [← qm3]; exact hok)
 have hok2 : ok (szYs t.args) (step s t k).1 := h1 _ _ _ _ (by rw [Nat.add_comm, ← qm3]; exact hok)
 refine qc5 c0bd 1 (by simp) (by simp) ?_
 repeat' (first | refine vs_ ?_ | ((first | refine vr_ ?_ | fail) <;> (try simp only [hb1, hbr, go_sem, ↓reduceIte])) | ((first | (refine cs_ ?_ ?_ <;> intro hc) | refine cj_ ?_ | simp (disch := omega) only [encs_getN, qb] | refine qh2 0 (hs _ _ _ hok1) ?_ (hb _) (hb _)) <;> (try refine ev_ ?_)) | with_reducible exact ti_)
 ·rw [qnn, if_neg (by rw [hc]; simp)]; exact ⟨hb1 _ _, rfl, rfl⟩
 have hw0 := qnn step t s k
 rw [if_pos hc] at hw0
 generalize qbz step t s k = tg at hw0 ⊢
 generalize hk1 : IntKind.i64.wrap (k + 1) = k1 at hw0
 refine qo (S := Nat × S) (fun x => x.1 ≤ t.args.length ∧ qbg step (t.args.drop x.1) x.2 k1 = tg ∧ ok (szYs (t.args.drop x.1)) x.2) (fun x => (⟨[(1, .int .i64 k), (2, .fn f [] [.ptr 0 0]), (15, .sl 3 (q8 t.args)), (16, .int .i64 t.args.length), (17, .int .i64 x.1)], []⟩, [st x.2])) (fun x => t.args.length - x.1) ?_ fun x hx => ?_
 ·refine qxz (0, (step s t k).1) [.blk (yc t)] ⟨Nat.zero_le _, hw0.symm, hok2⟩ (Nat.le_refl _) rfl (by simp only [List.all_cons, List.all_nil, hb1, Bool.and_true]) ?_ rfl rfl <;> (try refine ev_ ?_) <;> (try with_reducible exact ti_) <;> (try simp (disch := omega) only [qb, and_true, true_and])
 ·obtain ⟨i, s1⟩ := x
  obtain ⟨hi, hx, hok3⟩ := hx
  dsimp only at hi hx hok3
  have hok4 : i < t.args.length → ok (szY (t.args.getD i Y0) + szYs (t.args.drop (i + 1))) s1 := fun h => by rw [qjv h, szYs] at hok3; exact hok3
  have hok5 : i < t.args.length → ok (szY (t.args.getD i Y0)) s1 := fun h => qti h2 _ _ _ (hok4 h)
  repeat' (first | refine vs_ ?_ | ((first | refine vr_ ?_ | fail) <;> (try simp (disch := first | omega | (simp only [List.length_set, List.length_append, List.length_cons, List.length_nil]; done) | (simp only [List.length_set, List.length_append, List.length_cons, List.length_nil]; omega)) only [hb1, hbr, qx, qb, hk1, go_sem, ↓reduceIte])) | ((first | (refine cs_ ?_ ?_ <;> intro hc) | refine cj_ ?_ | simp (disch := omega) only [encs_getN, qb] | refine qh2 0 (ih (t.args.getD i Y0) (qbo (by omega)) s1 k1 (hok5 (by omega))) ?_ (hb _) (hb _)) <;> (try refine ev_ ?_)) | with_reducible exact ti_)
  ·rw [qgv step (by omega), if_neg (by rw [hc]; simp)] at hx
   subst hx
   exact ⟨hb1 _ _, rfl, rfl⟩
  ·rw [qgv step (by omega), if_pos (by rw [hc])] at hx
   refine qxz (i + 1, (qbz step (t.args.getD i Y0) s1 k1).1) [.blk (yc (t.args.getD i Y0))] ⟨⟨by dsimp only; omega, hx, qqy h1 h2 _ _ _ _ (hok4 (by omega))⟩, by dsimp only; omega⟩ (Nat.le_refl _) rfl (by simp only [List.all_cons, List.all_nil, hb1, Bool.and_true]) ?_ rfl rfl <;> (try refine ev_ ?_) <;> (try with_reducible exact ti_) <;> (try simp (disch := omega) only [qb, and_true, true_and])
  ·rw [qof step (by omega)] at hx
   subst hx
   exact ⟨hb1 _ _, rfl, rfl⟩
end
set_option maxRecDepth 4000

def ints (l : List Int) : List AV := l.map (AV.int .i64)
theorem qy (l : List Int) : (ints l).length = l.length := by simp [ints]
theorem qco (k : Nat) (l : List Int) : AV.bds k (ints l) = true := by rw [ints, qg8]; simp [AV.bd]
theorem qgc (σ : Nat → Nat) (l : List Int) : AV.rens σ (ints l) = ints l := qw (m := 0) (fun i hi => by omega) _ (qco 0 l)
theorem qb2 {l : List Int} {i : Nat} (h : i < l.length) : (ints l).getD i .junk = .int .i64 (l.getD i 0) := by
 rw [ints, List.getD_eq_getElem?_getD, List.getElem?_map, List.getElem?_eq_getElem h, List.getD_eq_getElem?_getD, List.getElem?_eq_getElem h]; rfl
theorem qds (l : List Int) (v : Int) : ints l ++ [.int .i64 v] = ints (l ++ [v]) := by simp [ints]
theorem qj9 (a b : List Int) : ints a ++ ints b = ints (a ++ b) := by simp [ints]
theorem qj8 (v : Int) : [AV.int .i64 v] = ints [v] := rfl
theorem qu : ints [] = [] := rfl
theorem qg {l : List Int} (h : l ≠ []) : ints l ≠ [] := by cases l with | nil => exact absurd rfl h | cons _ _ => simp [ints]
attribute [go_sem] qy qco qgc cond_false cond_true
theorem qj1 {l : List Int} {i : Nat} (h : i < l.length) : l.drop i = l.getD i 0 :: l.drop (i + 1) := by
 rw [List.drop_eq_getElem_cons h, List.getD_eq_getElem?_getD, List.getElem?_eq_getElem h]; rfl
theorem qwm {l : List Int} {i : Nat} (h : i < l.length) : l.getD i 0 ∈ l := by
 rw [List.getD_eq_getElem?_getD, List.getElem?_eq_getElem h]; exact List.getElem_mem h
theorem capI {k : Nat} (h : k ≤ 1000000000) : qb3 k 8 := by unfold qb3; omega

def idxW (v : Int) : List Int → Int → Int
 | [], _ => -1
 | x :: r, k => if v = x then k else idxW v r (k + 1)
theorem qp3 (v : Int) : ∀ (l : List Int) (k : Int), 0 ≤ k → (decide (0 ≤ idxW v l k) = decide (v ∈ l))
 | [], k, h => by simp [idxW]
 | x :: r, k, h => by
   rw [idxW]
   by_cases hx : v = x
   ·simp [hx, h]
   ·rw [if_neg hx, qp3 v r (k + 1) (by omega)]; simp [hx]
theorem qku (l : List Int) (v : Int) : ql Try.prog 100 [.sl 1 (ints l), .int .i64 v] (.int .i64 (idxW v l 0)) := by
 refine qc c0o (by simp) (by simp only [go_sem]) rfl fun hw => ?_
 have hl : l.length ≤ maxLen := by have := hw.1.1; rwa [qy] at this
 repeat' (first | refine vs_ ?_ | ((first | refine vr_ ?_ | (refine cs_ ?_ ?_ <;> intro hc) | refine cj_ ?_ | simp (disch := omega) only [encs_getN, qb]) <;> (try refine ev_ ?_)) | with_reducible exact ti_)
 refine qo (S := Nat) (fun i => i ≤ l.length ∧ idxW v (l.drop i) i = idxW v l 0) (fun i => (⟨[(0, .sl 1 (ints l)), (1, .int .i64 v), (7, .int .i64 l.length), (8, .int .i64 i)], []⟩, [])) (fun i => l.length - i) ?_ fun i hi => ?_
 ·refine qi 0 [] ⟨Nat.zero_le _, rfl⟩ rfl (by simp) ?_ ?_ ?_ <;> (try refine ev_ ?_) <;> (try with_reducible exact ti_) <;> (try simp (disch := omega) only [qb, and_true, true_and])
 ·obtain ⟨hi, ha⟩ := hi
  repeat' (first | refine vs_ ?_ | ((first | refine vr_ ?_ | fail) <;> (try simp (disch := first | omega | (simp only [List.length_set, List.length_append, List.length_cons, List.length_nil]; done) | (simp only [List.length_set, List.length_append, List.length_cons, List.length_nil]; omega)) only [qb2, qb, go_sem, ↓reduceIte])) | ((first | (refine cs_ ?_ ?_ <;> intro hc) | refine cj_ ?_ | simp (disch := omega) only [encs_getN, qb]) <;> (try refine ev_ ?_)) | with_reducible exact ti_)
  ·rw [← ha, qj1 (by omega), idxW, if_pos (by assumption)]
  ·refine qi (i + 1) [] ⟨⟨by omega, ?_⟩, by omega⟩ rfl (by simp) ?_ ?_ ?_ <;> (try refine ev_ ?_) <;> (try with_reducible exact ti_) <;> (try simp (disch := omega) only [qb, and_true, true_and])
   rw [← ha, qj1 (l := l) (i := i) (by omega), idxW, if_neg (by assumption)]; rfl
  ·rw [← ha, List.drop_of_length_le (by omega)]; rfl
theorem qbe (l : List Int) (v : Int) : ql Try.prog 66 [.sl 1 (ints l), .int .i64 v] (.bool (decide (v ∈ l))) := by
 refine qc c0p (by simp) (by simp only [go_sem]) rfl fun hw => ?_
 repeat' (first | refine vs_ ?_ | ((first | refine vr_ ?_ | refine qa (qku _ _) fun _ => ?_ | (refine cs_ ?_ ?_ <;> intro hc) | refine cj_ ?_ | fail) <;> (try refine ev_ ?_)) | with_reducible exact ti_)
 rw [qp3 v l 0 (by omega)]
theorem qnb (l : List Int) (v : Int) : ql Try.prog 84 [.sl 1 (ints l), .int .i64 v] (.bool (decide (v ∈ l))) := by
 refine qc c0q (by simp) (by simp only [go_sem]) rfl fun hw => ?_
 have hl : l.length ≤ maxLen := by have := hw.1.1; rwa [qy] at this
 repeat' (first | refine vs_ ?_ | ((first | refine vr_ ?_ | (refine cs_ ?_ ?_ <;> intro hc) | refine cj_ ?_ | simp (disch := omega) only [encs_getN, qb]) <;> (try refine ev_ ?_)) | with_reducible exact ti_)
 refine qo (S := Nat) (fun i => i ≤ l.length ∧ decide (v ∈ l.drop i) = decide (v ∈ l)) (fun i => (⟨[(0, .sl 1 (ints l)), (1, .int .i64 v), (5, .int .i64 i)], []⟩, [])) (fun i => l.length - i) ?_ fun i hi => ?_
 ·refine qi 0 [] ⟨Nat.zero_le _, rfl⟩ rfl (by simp) ?_ ?_ ?_ <;> (try refine ev_ ?_) <;> (try with_reducible exact ti_) <;> (try simp (disch := omega) only [qb, and_true, true_and])
 ·obtain ⟨hi, ha⟩ := hi
  repeat' (first | refine vs_ ?_ | ((first | refine vr_ ?_ | fail) <;> (try simp (disch := first | omega | (simp only [List.length_set, List.length_append, List.length_cons, List.length_nil]; done) | (simp only [List.length_set, List.length_append, List.length_cons, List.length_nil]; omega)) only [qb2, qb, go_sem, ↓reduceIte])) | ((first | (refine cs_ ?_ ?_ <;> intro hc) | refine cj_ ?_ | simp (disch := omega) only [encs_getN, qb]) <;> (try refine ev_ ?_)) | with_reducible exact ti_)
  ·rename_i hc; rw [decide_eq_true (hc ▸ qwm (by omega))]
  ·refine qi (i + 1) [] ⟨⟨by omega, ?_⟩, by omega⟩ rfl (by simp) ?_ ?_ ?_ <;> (try refine ev_ ?_) <;> (try with_reducible exact ti_) <;> (try simp (disch := omega) only [qb, and_true, true_and])
   rw [← ha, qj1 (l := l) (i := i) (by omega)]
   have hne : ¬ v = l.getD i 0 := fun h => absurd h.symm (by assumption)
   refine decide_eq_decide.2 ?_
   rw [List.mem_cons]
   exact ⟨.inr, fun h => h.resolve_left hne⟩
  ·rw [← ha, List.drop_of_length_le (by omega)]; simp
theorem qia (l m : List Int) : ql Try.prog 22 [.sl 1 (ints l), .sl 1 (ints m)] (.bool (decide (l = m))) := by
 refine qc c0r (by simp) (by simp only [go_sem]) rfl fun hw => ?_
 have hl : l.length ≤ maxLen := by have := hw.1.1; rwa [qy] at this
 repeat' (first | refine vs_ ?_ | ((first | refine vr_ ?_ | (refine cs_ ?_ ?_ <;> intro hc) | refine cj_ ?_ | simp (disch := omega) only [encs_getN, qb]) <;> (try refine ev_ ?_)) | with_reducible exact ti_)
 ·rw [decide_eq_false]; rintro rfl; omega
 refine qo (S := Nat) (fun i => i ≤ l.length ∧ decide (l.drop i = m.drop i) = decide (l = m)) (fun i => (⟨[(0, .sl 1 (ints l)), (1, .sl 1 (ints m)), (5, .int .i64 i)], []⟩, [])) (fun i => l.length - i) ?_ fun i hi => ?_
 ·refine qi 0 [] ⟨Nat.zero_le _, rfl⟩ rfl (by simp) ?_ ?_ ?_ <;> (try refine ev_ ?_) <;> (try with_reducible exact ti_) <;> (try simp (disch := omega) only [qb, and_true, true_and])
 ·obtain ⟨hi, ha⟩ := hi
  repeat' (first | refine vs_ ?_ | ((first | refine vr_ ?_ | fail) <;> (try simp (disch := first | omega | (simp only [List.length_set, List.length_append, List.length_cons, List.length_nil]; done) | (simp only [List.length_set, List.length_append, List.length_cons, List.length_nil]; omega)) only [qb2, qb, go_sem, ↓reduceIte])) | ((first | (refine cs_ ?_ ?_ <;> intro hc) | refine cj_ ?_ | simp (disch := omega) only [encs_getN, qb]) <;> (try refine ev_ ?_)) | with_reducible exact ti_)
  ·rw [← ha, qj1 (l := l) (i := i) (by omega), qj1 (l := m) (i := i) (by omega), decide_eq_false]
   intro h
   exact absurd (List.cons.inj h).1 (by assumption)
  ·refine qi (i + 1) [] ⟨⟨by omega, ?_⟩, by omega⟩ rfl (by simp) ?_ ?_ ?_ <;> (try refine ev_ ?_) <;> (try with_reducible exact ti_) <;> (try simp (disch := omega) only [qb, and_true, true_and])
   rw [← ha, qj1 (l := l) (i := i) (by omega), qj1 (l := m) (i := i) (by omega)]
   refine decide_eq_decide.2 ⟨fun h => by rw [h]; congr 1, fun h => (List.cons.inj h).2⟩
  ·rw [← ha, List.drop_of_length_le (by omega), List.drop_of_length_le (by omega)]; rfl

/-! each once -/
theorem qbf {H : List Ent} {n : Nat} : co H (.sl n) .nils = .sl n [] := Eq.trans rfl rfl
theorem qci (acc : List Int) {l : List Int} {i : Nat} (h : i < l.length) : qs acc (l.drop i) = if l.getD i 0 ∈ acc then qs acc (l.drop (i + 1)) else qs (acc ++ [l.getD i 0]) (l.drop (i + 1)) := by
 rw [qj1 h, qs]
def qi6 (l : List Int) (x : Nat × List Int) : AF × List Ent := (⟨[(0, .sl 1 (ints l)), (3, accV 0 (ints x.2)), (4, .int .i64 x.1)], []⟩, accE 1 (ints x.2))
theorem qi0 (l : List Int) (hb : l.length ≤ 1000000) : ql Try.prog 67 [.sl 1 (ints l)] (.sl 1 (ints (qs [] l))) := by
 refine qc c0s (by simp) (by simp only [go_sem]) (qco 0 _) fun hw => ?_
 have hl : l.length ≤ maxLen := by have := hw.1.1; rwa [qy] at this
 repeat' (first | refine vs_ ?_ | ((first | refine vr_ ?_ | (refine cs_ ?_ ?_ <;> intro hc) | refine cj_ ?_ | simp (disch := omega) only [encs_getN, qb]) <;> (try refine ev_ ?_)) | with_reducible exact ti_)
 refine qo (S := Nat × List Int) (fun x => x.1 ≤ l.length ∧ qs x.2 (l.drop x.1) = qs [] l ∧ x.2.length ≤ x.1) (qi6 l) (fun x => l.length - x.1) ?_ fun x hx => ?_
 ·refine qi (0, []) [] ⟨Nat.zero_le _, rfl, Nat.le_refl _⟩ rfl (by simp) ?_ ?_ ?_ <;> simp only [qi6, qu, qk, qj] <;> (try refine ev_ ?_) <;> (try with_reducible exact ti_) <;> (try simp (disch := omega) only [qb, and_true, true_and])
 ·obtain ⟨i, acc⟩ := x
  obtain ⟨hi, ha, hc⟩ := hx
  dsimp only at hi ha hc
  have hcap : qb3 (acc.length + 1) 8 := capI (by omega)
  unfold qi6
  by_cases h0 : acc = []
  ·subst h0
   simp only [qu, qk, qj]
   repeat' (first | refine vs_ ?_ | ((first | refine vr_ ?_ | fail) <;> (try simp (disch := first | omega | (simp only [List.length_set, List.length_append, List.length_cons, List.length_nil]; done) | (simp only [List.length_set, List.length_append, List.length_cons, List.length_nil]; omega)) only [qb2, qb, qbf, go_sem, ↓reduceIte])) | ((first | (refine cs_ ?_ ?_ <;> intro hc) | refine cj_ ?_ | simp (disch := omega) only [encs_getN, qb] | refine qa (qnb [] _) fun _ => ?_) <;> (try refine ev_ ?_)) | with_reducible exact ti_)
   ·refine qi (i + 1, [] ++ [l.getD i 0]) [0] ⟨⟨by dsimp only; omega, ?_, by simp⟩, by dsimp only; omega⟩ rfl (by simp) ?_ ?_ ?_ <;> simp only [qi6, List.nil_append, ← qj8, qdd, qdh] <;> (try refine ev_ ?_) <;> (try with_reducible exact ti_) <;> (try simp (disch := omega) only [qb, and_true, true_and])
    rw [← ha, qci (i := i) _ (by omega), if_neg (by assumption)]; rfl
   ·exact absurd (by assumption : l.getD i 0 ∈ []) (by simp)
   ·rw [← ha, List.drop_of_length_le (by omega)]; rfl
  ·simp only [qr (qg h0), qq (qg h0)]
   repeat' (first | refine vs_ ?_ | ((first | refine vr_ ?_ | fail) <;> (try simp (disch := first | omega | (simp only [List.length_set, List.length_append, List.length_cons, List.length_nil]; done) | (simp only [List.length_set, List.length_append, List.length_cons, List.length_nil]; omega)) only [qb2, qb, go_sem, ↓reduceIte])) | ((first | (refine cs_ ?_ ?_ <;> intro hc) | refine cj_ ?_ | simp (disch := omega) only [encs_getN, qb] | refine qa (qnb acc _) fun _ => ?_) <;> (try refine ev_ ?_)) | with_reducible exact ti_)
   ·refine qi (i + 1, acc ++ [l.getD i 0]) [1] ⟨⟨by dsimp only; omega, ?_, by simp; omega⟩, by dsimp only; omega⟩ rfl (by simp) ?_ ?_ ?_ <;> simp only [qi6, ← qds, qct, qcm, qy] <;> (try refine ev_ ?_) <;> (try with_reducible exact ti_) <;> (try simp (disch := omega) only [qb, and_true, true_and])
    ·rw [← ha, qci (i := i) _ (by omega), if_neg (by assumption)]
    all_goals (simp only [qds]; exact ⟨qco _ _, by rw [qgc]⟩)
   ·refine qi (i + 1, acc) [0] ⟨⟨by dsimp only; omega, ?_, by dsimp only; omega⟩, by dsimp only; omega⟩ rfl (by simp) ?_ ?_ ?_ <;> simp only [qi6, qr (qg h0), qq (qg h0)] <;> (try refine ev_ ?_) <;> (try with_reducible exact ti_) <;> (try simp (disch := omega) only [qb, and_true, true_and])
    rw [← ha, qci (i := i) _ (by omega), if_pos (by assumption)]
   ·rw [← ha, List.drop_of_length_le (by omega)]; rfl

/-! all variables -/
theorem qoa (l : List Ty) (i : Nat) (h : i < l.length) : qem (l.take (i + 1)) = qem (l.take i) ++ varY (l.getD i Y0) := by
 have h1 : l.take (i + 1) = l.take i ++ [l.getD i Y0] := by
  rw [List.take_add_one, List.getD_eq_getElem?_getD, List.getElem?_eq_getElem h]; rfl
 rw [h1]
 generalize l.take i = a
 generalize l.getD i Y0 = x
 induction a with
 | nil => simp [qem]
 | cons y a ih => simp only [List.cons_append, qem, ih, List.append_assoc]
def allE (t : Ty) (i : Nat) : List Int := (if t.con = [] then [t.var] else []) ++ qem (t.args.take i)
theorem qxx (t : Ty) : allE t 0 = if t.con = [] then [t.var] else [] := by simp [allE, qem]
theorem qqm {t : Ty} {i : Nat} (h : i < t.args.length) : allE t (i + 1) = allE t i ++ varY (t.args.getD i Y0) := by rw [allE, allE, qoa _ _ h, List.append_assoc]
theorem qwb {t : Ty} {i : Nat} (h : t.args.length ≤ i) : allE t i = varY t := by rw [allE, List.take_of_length_le h, q6z]
theorem qu6 (t : Ty) (i : Nat) : (allE t i).length ≤ szY t := by
 have h1 := qk6 t.args i
 have h2 := qgu (t.args.take i)
 rw [allE, List.length_append, qm3]
 have : (if t.con = [] then [t.var] else []).length ≤ 1 := by split <;> simp
 omega
def qpr (t : Ty) (x : Nat × Bool) : AF × List Ent :=
 (⟨[(1, .ptr 0 0), (3, if x.2 = true then .lit 1 (ints (allE t x.1)) else accV 1 (ints (allE t x.1))), (4, .int .i64 x.1)], []⟩, .blk (yc t) :: if x.2 = true then [] else accE 1 (ints (allE t x.1)))
set_option maxHeartbeats 2000000 in
theorem qqx : ∀ t, szY t ≤ 1000000 → ql Try.prog 97 [encY t] (.sl 1 (ints (varY t))) := by
 refine Ty.ind fun t ih hb => ?_
 refine qc c0t (by simp) (by simp only [go_sem]) (qco 0 _) fun hw => ?_
 have hk := qb8 hw.1
 have hsz := qm3 t
 have ih' : ∀ i, i < t.args.length → ql Try.prog 97 [encY (t.args.getD i Y0)] (.sl 1 (ints (varY (t.args.getD i Y0)))) := fun i hi => ih _ (qbo hi) (by have := qjn (qbo hi); omega)
 repeat' (first | refine vs_ ?_ | ((first | refine vr_ ?_ | (refine cs_ ?_ ?_ <;> intro hc) | refine cj_ ?_ | simp (disch := omega) only [encs_getN, qb]) <;> (try refine ev_ ?_)) | with_reducible exact ti_)
 all_goals refine qo (S := Nat × Bool) (fun x => x.1 ≤ t.args.length) (qpr t) (fun x => t.args.length - x.1) ?_ fun x hx => ?_
 case' refine_1.refine_1 => refine qi (0, true) [0] (Nat.zero_le _) rfl (by simp) ?_ ?_ ?_ <;> simp only [qpr, qxx, if_pos (by assumption : t.con = []), if_true, qj8] <;> (try refine ev_ ?_) <;> (try with_reducible exact ti_) <;> (try simp (disch := omega) only [qb, and_true, true_and])
 case' refine_2.refine_1 => refine qi (0, false) [0] (Nat.zero_le _) rfl (by simp) ?_ ?_ ?_ <;> simp only [qpr, qxx, if_neg (by assumption : ¬ t.con = []), if_false, qu, qk, qj, Bool.false_eq_true] <;> (try refine ev_ ?_) <;> (try with_reducible exact ti_) <;> (try simp (disch := omega) only [qb, and_true, true_and])
 all_goals
  obtain ⟨i, fl⟩ := x
  dsimp only at hx
  by_cases hi : i < t.args.length
  ·have hn := qqm hi
   have hl1 := qu6 t (i + 1)
   have hl2 := congrArg List.length hn
   rw [List.length_append] at hl2
   have hcap : qb3 ((allE t i).length + (varY (t.args.getD i Y0)).length) 8 = True := eq_true (capI (by omega))
   have hcap1 : qb3 (varY (t.args.getD i Y0)).length 8 = True := eq_true (capI (by omega))
   by_cases hy : varY (t.args.getD i Y0) = []
   ·have hy0 : (varY (t.args.getD i Y0)).length = 0 := by rw [hy]; rfl
    have hn' : allE t (i + 1) = allE t i := by rw [hn, hy, List.append_nil]
    unfold qpr
    cases fl with
    | true =>
      simp only [if_true]
      repeat' (first | refine vs_ ?_ | ((first | refine vr_ ?_ | fail) <;> (try simp (disch := first | omega | (simp only [List.length_set, List.length_append, List.length_cons, List.length_nil]; done) | (simp only [List.length_set, List.length_append, List.length_cons, List.length_nil]; omega)) only [qx, qb, go_sem, ↓reduceIte])) | ((first | simp (disch := omega) only [hy0] | simp (disch := omega) only [hcap] | simp (disch := omega) only [hcap1] | (refine cs_ ?_ ?_ <;> intro hc) | refine cj_ ?_ | simp (disch := omega) only [encs_getN, qb] | refine qa (ih' i hi) fun _ => ?_) <;> (try refine ev_ ?_)) | with_reducible exact ti_)
      ·refine qi (i + 1, true) [0] ⟨by dsimp only; omega, by dsimp only; omega⟩ rfl (by simp) ?_ ?_ ?_ <;> simp only [hn', if_true] <;> (try refine ev_ ?_) <;> (try with_reducible exact ti_) <;> (try simp (disch := omega) only [qb, and_true, true_and])
      ·omega
    | false =>
      simp only [Bool.false_eq_true, if_false]
      by_cases h0 : allE t i = []
      ·simp only [h0, qu, qk, qj]
       repeat' (first | refine vs_ ?_ | ((first | refine vr_ ?_ | fail) <;> (try simp (disch := first | omega | (simp only [List.length_set, List.length_append, List.length_cons, List.length_nil]; done) | (simp only [List.length_set, List.length_append, List.length_cons, List.length_nil]; omega)) only [qx, qb, go_sem, ↓reduceIte])) | ((first | simp (disch := omega) only [hy0] | simp (disch := omega) only [hcap] | simp (disch := omega) only [hcap1] | (refine cs_ ?_ ?_ <;> intro hc) | refine cj_ ?_ | simp (disch := omega) only [encs_getN, qb] | refine qa (ih' i hi) fun _ => ?_) <;> (try refine ev_ ?_)) | with_reducible exact ti_)
       ·refine qi (i + 1, false) [0] ⟨by dsimp only; omega, by dsimp only; omega⟩ rfl (by simp) ?_ ?_ ?_ <;> simp only [hn', h0, qu, qk, qj, Bool.false_eq_true, if_false] <;> (try refine ev_ ?_) <;> (try with_reducible exact ti_) <;> (try simp (disch := omega) only [qb, and_true, true_and])
       ·omega
      ·simp only [qr (qg h0), qq (qg h0)]
       repeat' (first | refine vs_ ?_ | ((first | refine vr_ ?_ | fail) <;> (try simp (disch := first | omega | (simp only [List.length_set, List.length_append, List.length_cons, List.length_nil]; done) | (simp only [List.length_set, List.length_append, List.length_cons, List.length_nil]; omega)) only [qx, qb, go_sem, ↓reduceIte])) | ((first | simp (disch := omega) only [hcap] | (refine cs_ ?_ ?_ <;> intro hc) | refine cj_ ?_ | simp (disch := omega) only [encs_getN, qb] | refine qa (ih' i hi) fun _ => ?_) <;> (try refine ev_ ?_)) | with_reducible exact ti_)
       ·refine qi (i + 1, false) [0, 2] ⟨by dsimp only; omega, by dsimp only; omega⟩ rfl (by simp) ?_ ?_ ?_ <;> simp only [hn', qr (qg h0), qq (qg h0), Bool.false_eq_true, if_false, hy, qu, List.append_nil, List.length_nil, Nat.add_zero, qy] <;> (try refine ev_ ?_) <;> (try with_reducible exact ti_) <;> (try simp (disch := omega) only [qb, and_true, true_and])
       ·omega
   ·have hy0 : ((varY (t.args.getD i Y0)).length = 0) = False := eq_false fun h => hy (List.length_eq_zero_iff.1 h)
    have hne : allE t (i + 1) ≠ [] := fun h => hy (List.append_eq_nil_iff.1 (hn.symm.trans h)).2
    unfold qpr
    cases fl with
    | true =>
      simp only [if_true]
      repeat' (first | refine vs_ ?_ | ((first | refine vr_ ?_ | fail) <;> (try simp (disch := first | omega | (simp only [List.length_set, List.length_append, List.length_cons, List.length_nil]; done) | (simp only [List.length_set, List.length_append, List.length_cons, List.length_nil]; omega)) only [qx, qb, go_sem, ↓reduceIte])) | ((first | simp (disch := omega) only [hy0] | simp (disch := omega) only [hcap] | simp (disch := omega) only [hcap1] | (refine cs_ ?_ ?_ <;> intro hc) | refine cj_ ?_ | simp (disch := omega) only [encs_getN, qb] | refine qa (ih' i hi) fun _ => ?_) <;> (try refine ev_ ?_)) | with_reducible exact ti_)
      ·refine qi (i + 1, false) [0, 1] ⟨by dsimp only; omega, by dsimp only; omega⟩ rfl (by simp) ?_ ?_ ?_ <;> simp only [qr (qg hne), qq (qg hne), qj9, ← hn, ← hl2, Bool.false_eq_true, if_false, qy] <;> (try refine ev_ ?_) <;> (try with_reducible exact ti_) <;> (try simp (disch := omega) only [qb, and_true, true_and])
      ·omega
    | false =>
      simp only [Bool.false_eq_true, if_false]
      by_cases h0 : allE t i = []
      ·have hn2 : allE t (i + 1) = varY (t.args.getD i Y0) := by rw [hn, h0, List.nil_append]
       simp only [h0, qu, qk, qj]
       repeat' (first | refine vs_ ?_ | ((first | refine vr_ ?_ | fail) <;> (try simp (disch := first | omega | (simp only [List.length_set, List.length_append, List.length_cons, List.length_nil]; done) | (simp only [List.length_set, List.length_append, List.length_cons, List.length_nil]; omega)) only [qx, qb, go_sem, ↓reduceIte])) | ((first | simp (disch := omega) only [hy0] | simp (disch := omega) only [hcap] | simp (disch := omega) only [hcap1] | (refine cs_ ?_ ?_ <;> intro hc) | refine cj_ ?_ | simp (disch := omega) only [encs_getN, qb] | refine qa (ih' i hi) fun _ => ?_) <;> (try refine ev_ ?_)) | with_reducible exact ti_)
       ·refine qi (i + 1, false) [0, 1] ⟨by dsimp only; omega, by dsimp only; omega⟩ rfl (by simp) ?_ ?_ ?_ <;> simp only [qr (qg hne), qq (qg hne), ← hn2, Bool.false_eq_true, if_false, qy] <;> (try refine ev_ ?_) <;> (try with_reducible exact ti_) <;> (try simp (disch := omega) only [qb, and_true, true_and])
       ·omega
      ·simp only [qr (qg h0), qq (qg h0)]
       repeat' (first | refine vs_ ?_ | ((first | refine vr_ ?_ | fail) <;> (try simp (disch := first | omega | (simp only [List.length_set, List.length_append, List.length_cons, List.length_nil]; done) | (simp only [List.length_set, List.length_append, List.length_cons, List.length_nil]; omega)) only [qx, qb, go_sem, ↓reduceIte])) | ((first | simp (disch := omega) only [hcap] | (refine cs_ ?_ ?_ <;> intro hc) | refine cj_ ?_ | simp (disch := omega) only [encs_getN, qb] | refine qa (ih' i hi) fun _ => ?_) <;> (try refine ev_ ?_)) | with_reducible exact ti_)
       ·refine qi (i + 1, false) [0, 2] ⟨by dsimp only; omega, by dsimp only; omega⟩ rfl (by simp) ?_ ?_ ?_ <;> simp only [qr (qg hne), qq (qg hne), qj9, ← hn, ← hl2, Bool.false_eq_true, if_false, qy] <;> (try refine ev_ ?_) <;> (try with_reducible exact ti_) <;> (try simp (disch := omega) only [qb, and_true, true_and])
       ·omega
  ·have hend := qwb (t := t) (i := i) (by omega)
   unfold qpr
   cases fl with
   | true =>
     simp only [if_true, hend]
     repeat' (first | refine vs_ ?_ | ((first | refine vr_ ?_ | (refine cs_ ?_ ?_ <;> intro hc) | refine cj_ ?_ | simp (disch := omega) only [encs_getN, qb]) <;> (try refine ev_ ?_)) | with_reducible exact ti_)
     all_goals omega
   | false =>
     simp only [Bool.false_eq_true, if_false, hend]
     by_cases h0 : varY t = []
     ·simp only [h0, qu, qk, qj]
      repeat' (first | refine vs_ ?_ | ((first | refine vr_ ?_ | (refine cs_ ?_ ?_ <;> intro hc) | refine cj_ ?_ | simp (disch := omega) only [encs_getN, qb]) <;> (try refine ev_ ?_)) | with_reducible exact ti_)
      all_goals omega
     ·simp only [qr (qg h0), qq (qg h0)]
      repeat' (first | refine vs_ ?_ | ((first | refine vr_ ?_ | (refine cs_ ?_ ?_ <;> intro hc) | refine cj_ ?_ | simp (disch := omega) only [encs_getN, qb]) <;> (try refine ev_ ?_)) | with_reducible exact ti_)
      all_goals omega
theorem qpu (t : Ty) (hb : szY t ≤ 1000000) : ql Try.prog 60 [encY t] (.sl 1 (ints (qs [] (varY t)))) := by
 refine qc c0u (by simp) (by simp only [go_sem]) (qco 0 _) fun hw => ?_
 have h1 := qqx t hb
 have h2 := qi0 (varY t) (by have := qfb t; omega)
 repeat' (first | refine vs_ ?_ | ((first | refine vr_ ?_ | refine qa h1 fun _ => ?_ | refine qa h2 fun _ => ?_ | (refine cs_ ?_ ?_ <;> intro hc) | refine cj_ ?_ | fail) <;> (try refine ev_ ?_)) | with_reducible exact ti_)
/-! the program's: a walk that gathers -/
def outE (l : List Int) : Ent := bun (.blk [accV 1 (ints l)] :: accE 1 (ints l))
def outN (l : List Int) (t : Ty) : List Int := if t.con = [] then (if t.var ∈ l then l else l ++ [t.var]) else l
theorem qd5 {H' : List Ent} {l : List Int} {r : AV} (k : Nat) (h0 : l ≠ []) (hk : 0 < k) (hl : k < H'.length) (e0 : ent H' 0 = .blk [.row k l.length]) (e1 : ent H' k = .app 1 (ints l)) (hr : r.bd 1 = true) :
 qke (fun H' o => H' = [outE l] ∧ o = .val r) H' (.val r) := by
 refine ⟨[.blk [.row 1 l.length], .app 1 (ints l)], [0, k], rfl, by simp, by simp; omega, ?_, hr, ?_, rfl⟩
 ·simp only [qdr, List.length_cons, List.length_nil, Ent.bd, AV.bds, AV.bd, Ent.ren, AV.rens, AV.ren, e0, e1, qco, qgc]
  exact ⟨⟨by omega, rfl, rfl⟩, ⟨hl, trivial, trivial⟩, trivial⟩
 ·rw [outE, qr (qg h0), qq (qg h0), qy]
theorem qpn {H' : List Ent} {r : AV} (hl : 0 < H'.length) (e0 : ent H' 0 = .blk [.nils]) (hr : r.bd 1 = true) :
 qke (fun H' o => H' = [outE []] ∧ o = .val r) H' (.val r) := by
 refine ⟨[.blk [.nils]], [0], rfl, by simp, by simp, ?_, hr, rfl, rfl⟩
 exact ⟨⟨hl, rfl, by rw [e0]; rfl⟩, trivial⟩
theorem qbfm (l : List Int) (t : Ty) (k : Int) (hb : l.length ≤ 1000000) : VM Try.prog 99 (outE l) (outE (outN l t)) [encY t, .int .i64 k, .ptr 0 0] (.bool true) := by
 refine qba6 ?_ (by simp [AV.bds, AV.bd, qj6])
 have hcap : qb3 (l.length + 1) 8 = True := eq_true (capI (by omega))
 refine qld c0v (by simp) ?_
 by_cases h0 : l = []
 ·subst h0
  simp only [qu, qk, qj]
  repeat' (first | refine vs_ ?_ | ((first | refine vr_ ?_ | fail) <;> (try simp only [qbf, go_sem, ↓reduceIte])) | ((first | simp (disch := omega) only [hcap] | (refine cs_ ?_ ?_ <;> intro hc) | refine cj_ ?_ | fail | refine qa (qbe [] _) fun _ => ?_) <;> (try refine ev_ ?_)) | with_reducible exact ti_)
  ·have : outN [] t = [t.var] := by rw [outN, if_pos (by assumption), if_neg (by assumption)]; rfl
   rw [this]
   exact qd5 (l := [t.var]) 2 (by simp) (by omega) (by simp) rfl rfl rfl
  ·exact absurd (by assumption : t.var ∈ []) (by simp)
  ·have : outN [] t = [] := by rw [outN, if_neg (by assumption)]
   rw [this]
   exact qpn (by simp) rfl rfl
 ·simp only [qr (qg h0), qq (qg h0)]
  repeat' (first | refine vs_ ?_ | ((first | refine vr_ ?_ | refine qa (qbe l _) fun _ => ?_ | simp (disch := omega) only [hcap] | (refine cs_ ?_ ?_ <;> intro hc) | refine cj_ ?_ | fail) <;> (try refine ev_ ?_)) | with_reducible exact ti_)
  ·have : outN l t = l ++ [t.var] := by rw [outN, if_pos (by assumption), if_neg (by assumption)]
   rw [this, qds]
   exact qd5 (l := l ++ [t.var]) 3 (by simp) (by omega) (by simp) (by simp [ent]) rfl rfl
  ·have : outN l t = l := by rw [outN, if_pos (by assumption), if_pos (by assumption)]
   rw [this]
   exact qd5 (l := l) 1 h0 (by omega) (by simp) rfl rfl rfl
  ·have : outN l t = l := by rw [outN, if_neg (by assumption)]
   rw [this]
   exact qd5 (l := l) 1 h0 (by omega) (by simp) rfl rfl rfl
def qp0 (l : List Int) (t : Ty) (_ : Int) : List Int × Bool := (outN l t, true)
theorem qq5 (l : List Int) (c : List UInt8) (v : Int) (a : List Ty) : outN l (.mk c v a) = qs l (if c = [] then [v] else []) := by
 unfold outN
 by_cases hcn : c = []
 ·rw [if_pos (show (Ty.mk c v a).con = [] from hcn), if_pos hcn]; rfl
 ·rw [if_neg (show ¬ (Ty.mk c v a).con = [] from hcn), if_neg hcn]; rfl
mutual
theorem qba7 : ∀ (t : Ty) (l : List Int) (k : Int), qbz qp0 t l k = (qs l (varY t), true)
 | .mk c v a, l, k => by
   rw [qbz, if_pos (show (qp0 l (.mk c v a) k).2 = true from rfl), qx3, varY, qc3]
   congr 2
   exact qq5 l c v a
theorem qx3 : ∀ (a : List Ty) (l : List Int) (k : Int), qbg qp0 a l k = (qs l (qem a), true)
 | [], l, k => by rw [qbg, qem]; rfl
 | x :: r, l, k => by
   rw [qbg, qba7 x, if_pos rfl, qx3 r, qem, qc3]
end
theorem qvp (l : List Int) (t : Ty) : (outN l t).length ≤ l.length + 1 := by
 rw [outN]; split
 ·split
  ·omega
  ·simp
 ·omega
theorem qn7 (t : Ty) (hb : szY t ≤ 1000000) : ql Try.prog 65 [encY t] (.sl 1 (ints (qs [] (varY t)))) := by
 refine qc c0w (by simp) (by simp only [go_sem]) (qco 0 _) fun hw => ?_
 have hwalk := qja (st := outE) (step := qp0) (f := 99) (ok := fun n l => l.length + n ≤ 1000000) (fun _ => rfl) (fun n l t k h => by have := qvp l t; simp only [qp0]; omega) (fun n l h => by omega) (fun l t k h => qbfm l t k (by omega)) t [] 1 (by simpa using hb)
 rw [qba7] at hwalk
 unfold k0w
 refine qf4 (qhm ?_)
 (refine ev_ ?_; (try with_reducible exact ti_))
 refine qf4 (qhm ?_)
 (refine ev_ ?_; (try with_reducible exact ti_))
 refine q1u 1 rfl rfl ?_
 refine qf4 (qhm ?_)
 simp only [List.set_cons_succ, List.set_cons_zero]
 (refine ev_ ?_; (try with_reducible exact ti_))
 refine qh2 1 hwalk ?_
 simp only [List.set_cons_succ, List.set_cons_zero]
 (refine ev_ ?_; (try with_reducible exact ti_))
 refine q4m 1 rfl (by simp) ?_
 simp only [List.set_cons_succ, List.set_cons_zero]
 by_cases h0 : qs [] (varY t) = []
 ·simp only [h0, qu, qk, qj]
  repeat' (first | refine vs_ ?_ | ((first | refine vr_ ?_ | (refine cs_ ?_ ?_ <;> intro hc) | refine cj_ ?_ | fail) <;> (try refine ev_ ?_)) | with_reducible exact ti_)
 ·simp only [qr (qg h0), qq (qg h0)]
  repeat' (first | refine vs_ ?_ | ((first | refine vr_ ?_ | (refine cs_ ?_ ?_ <;> intro hc) | refine cj_ ?_ | fail) <;> (try refine ev_ ?_)) | with_reducible exact ti_)
set_option maxRecDepth 4000

/-! the program's -/
abbrev numE (n : Int) : Ent := .blk [.int .i64 n]
def qdx (n : Int) (t : Ty) (k : Int) : Int × Bool := (IntKind.i64.wrap (n + 1), decide (IntKind.i64.wrap (n + 1) ≤ 4096) && (decide (k ≤ 100) && mayY t))
theorem q9d (n : Int) (t : Ty) (k : Int) : VM Try.prog 87 (numE n) (numE (qdx n t k).1) [encY t, .int .i64 k, .ptr 0 0] (.bool (qdx n t k).2) := by
 refine qhn (by kernel_rfl) fun hw => ?_
 have hk := qb8 hw.1
 refine qc5 c0g 1 (by simp) (by simp) ?_
 repeat' (first | refine vs_ ?_ | ((first | refine vr_ ?_ | refine qa (qe7 _) fun _ => ?_ | refine qa (qwi _ _ _) fun _ => ?_ | (refine cs_ ?_ ?_ <;> intro hc) | refine cj_ ?_ | simp (disch := omega) only [encs_getN, qb]) <;> (try refine ev_ ?_)) | with_reducible exact ti_)
 ·simp_all [qdx]
 ·exact ⟨rfl, by simp only [qdx, *, decide_true, decide_false, Bool.true_and, Bool.false_and]⟩
 ·exact ⟨rfl, by simp only [qdx, *, decide_true, decide_false, Bool.true_and, Bool.false_and]⟩
def qt7 (n : Int) (_ : Ty) (_ : Int) : Int × Bool := (IntKind.i64.wrap (n + 1), true)
def qr8 (n : Int) (_ : Ty) (k : Int) : Int × Bool := (if k > n then k else n, true)
theorem qwz {f : FuncId} {step : Int → Ty → Int → Int × Bool} (h : ∀ n t k, VM Try.prog f (numE n) (numE (step n t k).1) [encY t, .int .i64 k, .ptr 0 0] (.bool (step n t k).2)) (t : Ty) (n k : Int) :
 VM Try.prog 86 (numE n) (numE (qbz step t n k).1) [encY t, .int .i64 k, .fn f [] [.ptr 0 0]] (.bool (qbz step t n k).2) :=
 qja (st := numE) (ok := fun _ _ => True) (fun _ => rfl) (fun _ _ _ _ _ => trivial) (fun _ _ _ => trivial) (fun n t k _ => h n t k) t n k trivial
def qre (t : Ty) : Bool := (qbz qdx t 0 1).2
theorem qmg (t : Ty) : ql Try.prog 48 [encY t] (.bool (qre t)) := by
 refine qc c0h (by simp) (by simp only [go_sem]) rfl fun hw => ?_
 repeat' (first | refine vs_ ?_ | ((first | refine vr_ ?_ | refine qh2 1 (qwz q9d t 0 1) ?_ | (refine cs_ ?_ ?_ <;> intro hc) | refine cj_ ?_ | fail) <;> (try refine ev_ ?_)) | with_reducible exact ti_)
 rfl
/-! the references -/
mutual
def qf6 : Ty → Int
 | .mk _ _ l => qdt 1 l
def qdt : Int → List Ty → Int
 | a, [] => a
 | a, x :: r => qdt (IntKind.i64.wrap (a + qf6 x)) r
end
theorem qsi (t : Ty) : qf6 t = qdt 1 t.args := by cases t; rw [qf6]; rfl
theorem qo0 : ∀ t, ql Try.prog 112 [encY t] (.int .i64 (qf6 t)) := by
 refine Ty.ind fun t ih => ?_
 refine qc c0i (by simp) (by simp only [go_sem]) rfl fun hw => ?_
 have hk := qb8 hw.1
 repeat' (first | refine vs_ ?_ | ((first | refine vr_ ?_ | (refine cs_ ?_ ?_ <;> intro hc) | refine cj_ ?_ | simp (disch := omega) only [encs_getN, qb]) <;> (try refine ev_ ?_)) | with_reducible exact ti_)
 refine qo (S := Nat × Int) (fun s => s.1 ≤ t.args.length ∧ qdt s.2 (t.args.drop s.1) = qf6 t) (fun s => (⟨[(1, .ptr 0 0), (3, .int .i64 s.2), (4, .int .i64 s.1)], []⟩, [.blk (yc t)])) (fun s => t.args.length - s.1) ?_ fun s hs => ?_
 ·refine qi (0, 1) [0] ⟨Nat.zero_le _, (qsi t).symm⟩ rfl (by simp) ?_ ?_ ?_ <;> (try refine ev_ ?_) <;> (try with_reducible exact ti_) <;> (try simp (disch := omega) only [qb, and_true, true_and])
 ·obtain ⟨i, a⟩ := s
  obtain ⟨hi, ha⟩ := hs
  dsimp only at hi ha
  repeat' (first | refine vs_ ?_ | ((first | refine vr_ ?_ | fail) <;> (try simp (disch := first | omega | (simp only [List.length_set, List.length_append, List.length_cons, List.length_nil]; done) | (simp only [List.length_set, List.length_append, List.length_cons, List.length_nil]; omega)) only [qx, qb, go_sem, ↓reduceIte])) | ((first | (refine cs_ ?_ ?_ <;> intro hc) | refine cj_ ?_ | simp (disch := omega) only [encs_getN, qb] | refine qa (ih _ (qbo (by omega))) fun _ => ?_) <;> (try refine ev_ ?_)) | with_reducible exact ti_)
  ·refine qi (i + 1, IntKind.i64.wrap (a + qf6 (t.args.getD i Y0))) [0] ⟨⟨by dsimp only; omega, ?_⟩, by dsimp only; omega⟩ rfl (by simp) ?_ ?_ ?_ <;> (try refine ev_ ?_) <;> (try with_reducible exact ti_) <;> (try simp (disch := omega) only [qb, and_true, true_and])
   rw [← ha, qjv (l := t.args) (i := i) (by omega), qdt]
  ·rw [← ha, List.drop_of_length_le (by omega)]; rfl
mutual
def qjc : Ty → Int
 | .mk _ _ l => IntKind.i64.wrap (qfa 0 l + 1)
def qfa : Int → List Ty → Int
 | a, [] => a
 | a, x :: r => qfa (if qjc x > a then qjc x else a) r
end
theorem qwn (t : Ty) : qjc t = IntKind.i64.wrap (qfa 0 t.args + 1) := by cases t; rw [qjc]; rfl
theorem qm0 : ∀ t, ql Try.prog 113 [encY t] (.int .i64 (qjc t)) := by
 refine Ty.ind fun t ih => ?_
 refine qc c0j (by simp) (by simp only [go_sem]) rfl fun hw => ?_
 have hk := qb8 hw.1
 repeat' (first | refine vs_ ?_ | ((first | refine vr_ ?_ | (refine cs_ ?_ ?_ <;> intro hc) | refine cj_ ?_ | simp (disch := omega) only [encs_getN, qb]) <;> (try refine ev_ ?_)) | with_reducible exact ti_)
 refine qo (S := Nat × Int) (fun s => s.1 ≤ t.args.length ∧ qfa s.2 (t.args.drop s.1) = qfa 0 t.args) (fun s => (⟨[(1, .ptr 0 0), (3, .int .i64 s.2), (4, .int .i64 s.1)], []⟩, [.blk (yc t)])) (fun s => t.args.length - s.1) ?_ fun s hs => ?_
 ·refine qi (0, 0) [0] ⟨Nat.zero_le _, rfl⟩ rfl (by simp) ?_ ?_ ?_ <;> (try refine ev_ ?_) <;> (try with_reducible exact ti_) <;> (try simp (disch := omega) only [qb, and_true, true_and])
 ·obtain ⟨i, a⟩ := s
  obtain ⟨hi, ha⟩ := hs
  dsimp only at hi ha
  repeat' (first | refine vs_ ?_ | ((first | refine vr_ ?_ | fail) <;> (try simp (disch := first | omega | (simp only [List.length_set, List.length_append, List.length_cons, List.length_nil]; done) | (simp only [List.length_set, List.length_append, List.length_cons, List.length_nil]; omega)) only [qx, qb, go_sem, ↓reduceIte])) | ((first | (refine cs_ ?_ ?_ <;> intro hc) | refine cj_ ?_ | simp (disch := omega) only [encs_getN, qb] | refine qa (ih _ (qbo (by omega))) fun _ => ?_) <;> (try refine ev_ ?_)) | with_reducible exact ti_)
  ·refine qi (i + 1, if qjc (t.args.getD i Y0) > a then qjc (t.args.getD i Y0) else a) [0] ⟨⟨by dsimp only; omega, ?_⟩, by dsimp only; omega⟩ rfl (by simp) ?_ ?_ ?_ <;> (try refine ev_ ?_) <;> (try with_reducible exact ti_) <;> (try simp (disch := omega) only [qb, and_true, true_and])
   rw [← ha, qjv (l := t.args) (i := i) (by omega), qfa]
  ·rw [qwn, ← ha, List.drop_of_length_le (by omega)]; rfl
mutual
def qb0 : Ty → Bool
 | .mk c v l => qbt l && mayW c v l.length
def qbt : List Ty → Bool
 | [] => true
 | x :: r => qb0 x && qbt r
end
theorem qe9 (t : Ty) : qb0 t = (qbt t.args && mayY t) := by cases t; rw [qb0]; rfl
theorem qf5 {l : List Ty} {i : Nat} (h : i < l.length) : qbt (l.drop i) = (qb0 (l.getD i Y0) && qbt (l.drop (i + 1))) := by rw [qjv h, qbt]
theorem qmu : ∀ t, ql Try.prog 114 [encY t] (.bool (qb0 t)) := by
 refine Ty.ind fun t ih => ?_
 refine qc c0k (by simp) (by simp only [go_sem]) rfl fun hw => ?_
 have hk := qb8 hw.1
 repeat' (first | refine vs_ ?_ | ((first | refine vr_ ?_ | (refine cs_ ?_ ?_ <;> intro hc) | refine cj_ ?_ | simp (disch := omega) only [encs_getN, qb]) <;> (try refine ev_ ?_)) | with_reducible exact ti_)
 refine qo (S := Nat) (fun i => i ≤ t.args.length ∧ qbt (t.args.drop i) = qbt t.args) (fun i => (⟨[(1, .ptr 0 0), (3, .int .i64 i)], []⟩, [.blk (yc t)])) (fun i => t.args.length - i) ?_ fun i hi => ?_
 ·refine qi 0 [0] ⟨Nat.zero_le _, rfl⟩ rfl (by simp) ?_ ?_ ?_ <;> (try refine ev_ ?_) <;> (try with_reducible exact ti_) <;> (try simp (disch := omega) only [qb, and_true, true_and])
 ·obtain ⟨hi, ha⟩ := hi
  rw [qe9]
  repeat' (first | refine vs_ ?_ | ((first | refine vr_ ?_ | fail) <;> (try simp (disch := first | omega | (simp only [List.length_set, List.length_append, List.length_cons, List.length_nil]; done) | (simp only [List.length_set, List.length_append, List.length_cons, List.length_nil]; omega)) only [qx, qb, go_sem, ↓reduceIte])) | ((first | (refine cs_ ?_ ?_ <;> intro hc) | refine cj_ ?_ | simp (disch := omega) only [encs_getN, qb] | refine qa (ih _ (qbo (by omega))) fun _ => ?_ | refine qa (qmn _) fun _ => ?_ | refine qa (qli _) fun _ => ?_) <;> (try refine ev_ ?_)) | with_reducible exact ti_)
  ·have : qbt t.args = false := by rw [← ha, qf5 (by omega), hc]; rfl
   rw [this]; rfl
  ·refine qi (i + 1) [0] ⟨⟨by omega, ?_⟩, by omega⟩ rfl (by simp) ?_ ?_ ?_ <;> (try refine ev_ ?_) <;> (try with_reducible exact ti_) <;> (try simp (disch := omega) only [qb, and_true, true_and])
   rw [← ha, qf5 (i := i) (by omega), hc, Bool.true_and]
  all_goals
   have hs : qbt t.args = true := by rw [← ha, List.drop_of_length_le (by omega)]; rfl
   rw [hs, Bool.true_and, mayY, mayW]
   simp only [arrW, *, if_true, if_false, decide_true, decide_false, Bool.and_true, Bool.and_false, Bool.false_eq_true]
   try rfl
/-! Few -/
mutual
def cntY : Ty → Int → Int → Int
 | .mk _ _ l, k, d => if d < 1 then -1 else qda l (IntKind.i64.wrap (k - 1)) d
def qda : List Ty → Int → Int → Int
 | [], a, _ => a
 | x :: r, a, d => if 0 ≤ a then qda r (cntY x a (IntKind.i64.wrap (d - 1))) d else a
end
theorem qsh (t : Ty) (k d : Int) : cntY t k d = if d < 1 then -1 else qda t.args (IntKind.i64.wrap (k - 1)) d := by cases t; rw [cntY]; rfl
theorem qe3 {a : Int} (h : a < 0) (l : List Ty) (d : Int) : qda l a d = a := by
 cases l with
 | nil => rw [qda]
 | cons x r => rw [qda, if_neg (by omega)]
theorem q7h : ∀ t k d, ql Try.prog 77 [encY t, .int .i64 k, .int .i64 d] (.int .i64 (cntY t k d)) := by
 refine Ty.ind fun t ih k d => ?_
 refine qc c0l (by simp) (by simp only [go_sem]) rfl fun hw => ?_
 have hk := qb8 hw.1
 rw [qsh]
 repeat' (first | refine vs_ ?_ | ((first | refine vr_ ?_ | (refine cs_ ?_ ?_ <;> intro hc) | refine cj_ ?_ | simp (disch := omega) only [encs_getN, qb]) <;> (try refine ev_ ?_)) | with_reducible exact ti_)
 ·rw [if_pos (by assumption)]
 rw [if_neg (by assumption)]
 refine qo (S := Nat × Int) (fun s => s.1 ≤ t.args.length ∧ qda (t.args.drop s.1) s.2 d = qda t.args (IntKind.i64.wrap (k - 1)) d) (fun s => (⟨[(1, .int .i64 s.2), (2, .int .i64 d), (3, .ptr 0 0), (7, .int .i64 s.1)], []⟩, [.blk (yc t)])) (fun s => t.args.length - s.1) ?_ fun s hs => ?_
 ·refine qi (0, IntKind.i64.wrap (k - 1)) [0] ⟨Nat.zero_le _, rfl⟩ rfl (by simp) ?_ ?_ ?_ <;> (try refine ev_ ?_) <;> (try with_reducible exact ti_) <;> (try simp (disch := omega) only [qb, and_true, true_and])
 ·obtain ⟨i, a⟩ := s
  obtain ⟨hi, ha⟩ := hs
  dsimp only at hi ha
  repeat' (first | refine vs_ ?_ | ((first | refine vr_ ?_ | fail) <;> (try simp (disch := first | omega | (simp only [List.length_set, List.length_append, List.length_cons, List.length_nil]; done) | (simp only [List.length_set, List.length_append, List.length_cons, List.length_nil]; omega)) only [qx, qb, go_sem, ↓reduceIte])) | ((first | (refine cs_ ?_ ?_ <;> intro hc) | refine cj_ ?_ | simp (disch := omega) only [encs_getN, qb] | refine qa (ih _ (qbo (by omega)) _ _) fun _ => ?_) <;> (try refine ev_ ?_)) | with_reducible exact ti_)
  ·refine qi (i + 1, cntY (t.args.getD i Y0) a (IntKind.i64.wrap (d - 1))) [0] ⟨⟨by dsimp only; omega, ?_⟩, by dsimp only; omega⟩ rfl (by simp) ?_ ?_ ?_ <;> (try refine ev_ ?_) <;> (try with_reducible exact ti_) <;> (try simp (disch := omega) only [qb, and_true, true_and])
   rw [← ha, qjv (l := t.args) (i := i) (by omega), qda, if_pos (by assumption)]
  ·rw [← ha, qe3 (by omega)]
  ·rw [← ha, List.drop_of_length_le (by omega)]; rfl
def qh9 (a : Int) : List Ty → Int
 | [] => a
 | x :: r => qh9 (cntY x a 300) r
def qi9 (l : List Ty) : Bool := decide (0 ≤ qh9 20000 l)
theorem qbfv (l : List Ty) : ql Try.prog 31 [.sl 3 (q8 l)] (.int .i64 (if qi9 l = true then 1 else 0)) := by
 refine qc c0m (by simp) (by simp only [go_sem]) rfl fun hw => ?_
 have hk : l.length ≤ maxLen := by have := hw.1.1; rwa [qb5] at this
 repeat' (first | refine vs_ ?_ | ((first | refine vr_ ?_ | (refine cs_ ?_ ?_ <;> intro hc) | refine cj_ ?_ | simp (disch := omega) only [encs_getN, qb]) <;> (try refine ev_ ?_)) | with_reducible exact ti_)
 refine qo (S := Nat × Int) (fun s => s.1 ≤ l.length ∧ qh9 s.2 (l.drop s.1) = qh9 20000 l) (fun s => (⟨[(0, .sl 3 (q8 l)), (3, .int .i64 s.2), (4, .int .i64 s.1)], []⟩, [])) (fun s => l.length - s.1) ?_ fun s hs => ?_
 ·refine qi (0, 20000) [] ⟨Nat.zero_le _, rfl⟩ rfl (by simp) ?_ ?_ ?_ <;> (try refine ev_ ?_) <;> (try with_reducible exact ti_) <;> (try simp (disch := omega) only [qb, and_true, true_and])
 ·obtain ⟨i, a⟩ := s
  obtain ⟨hi, ha⟩ := hs
  dsimp only at hi ha
  repeat' (first | refine vs_ ?_ | ((first | refine vr_ ?_ | fail) <;> (try simp (disch := first | omega | (simp only [List.length_set, List.length_append, List.length_cons, List.length_nil]; done) | (simp only [List.length_set, List.length_append, List.length_cons, List.length_nil]; omega)) only [qx, qb, go_sem, ↓reduceIte])) | ((first | (refine cs_ ?_ ?_ <;> intro hc) | refine cj_ ?_ | simp (disch := omega) only [encs_getN, qb] | refine qa (q7h _ _ _) fun _ => ?_) <;> (try refine ev_ ?_)) | with_reducible exact ti_)
  ·refine qi (i + 1, cntY (l.getD i Y0) a 300) [] ⟨⟨by dsimp only; omega, ?_⟩, by dsimp only; omega⟩ rfl (by simp) ?_ ?_ ?_ <;> (try refine ev_ ?_) <;> (try with_reducible exact ti_) <;> (try simp (disch := omega) only [qb, and_true, true_and])
   rw [← ha, qjv (l := l) (i := i) (by omega), qh9]
  all_goals
   have hf : qh9 20000 l = a := by rw [← ha, List.drop_of_length_le (by omega)]; rfl
   rw [qi9, hf]
  ·rw [if_neg (by simp; omega)]
  ·rw [if_pos (by simp; omega)]

/-! the laws of sizes -/
mutual
theorem qsr : ∀ (t : Ty) (k d : Int), 0 ≤ k → k ≤ 20000 → d ≤ 300 → 0 ≤ cntY t k d → cntY t k d = k - szY t ∧ (dpY t : Int) ≤ d
 | .mk c v l, k, d, h0, h1, h2, h3 => by
   rw [cntY] at h3 ⊢
   by_cases hd : d < 1
   ·rw [if_pos hd] at h3; omega
   ·rw [if_neg hd] at h3 ⊢
    have hk : IntKind.i64.wrap (k - 1) = k - 1 := qcr (by omega) (by omega)
    rw [hk] at h3 ⊢
    have h4 : 0 ≤ k - 1 := by
     by_cases h : 0 ≤ k - 1
     ·exact h
     ·rw [qe3 (by omega)] at h3; exact h3
    have := qm8 l (k - 1) d h4 (by omega) (by omega) h2 h3
    rw [szY, dpY]
    omega
theorem qm8 : ∀ (l : List Ty) (a d : Int), 0 ≤ a → a ≤ 20000 → 1 ≤ d → d ≤ 300 → 0 ≤ qda l a d → qda l a d = a - szYs l ∧ (dpYs l : Int) ≤ d - 1
 | [], a, d, h0, h1, h2, h3, h4 => by rw [qda, szYs, dpYs]; omega
 | x :: r, a, d, h0, h1, h2, h3, h4 => by
   rw [qda, if_pos h0] at h4 ⊢
   have hd : IntKind.i64.wrap (d - 1) = d - 1 := qcr (by omega) (by omega)
   rw [hd] at h4 ⊢
   have h5 : 0 ≤ cntY x a (d - 1) := by
    by_cases h : 0 ≤ cntY x a (d - 1)
    ·exact h
    ·rw [qe3 (by omega)] at h4; exact absurd h4 h
   obtain ⟨h6, h7⟩ := qsr x a (d - 1) h0 h1 (by omega) h5
   obtain ⟨h8, h9⟩ := qm8 r _ d h5 (by omega) h2 h3 h4
   rw [szYs, dpYs]
   omega
end
mutual
theorem qru : ∀ (t : Ty) (k d : Int), 0 ≤ k → k ≤ 20000 → -1 ≤ cntY t k d
 | .mk c v l, k, d, h0, h1 => by
   rw [cntY]
   split
   ·omega
   ·rw [qcr (z := k - 1) (by omega) (by omega)]
    exact qs3 l (k - 1) d (by omega) (by omega)
theorem qs3 : ∀ (l : List Ty) (a d : Int), -1 ≤ a → a ≤ 20000 → -1 ≤ qda l a d
 | [], a, d, h0, _ => by rw [qda]; exact h0
 | x :: r, a, d, h0, h1 => by
   rw [qda]
   split
   ·rename_i h
    have h2 := qru x a (IntKind.i64.wrap (d - 1)) h h1
    have h3 := qx1 x a (IntKind.i64.wrap (d - 1)) h h1
    exact qs3 r _ d h2 (by omega)
   ·exact h0
theorem qx1 : ∀ (t : Ty) (k d : Int), 0 ≤ k → k ≤ 20000 → cntY t k d ≤ k
 | .mk c v l, k, d, h0, h1 => by
   rw [cntY]
   split
   ·omega
   ·rw [qcr (z := k - 1) (by omega) (by omega)]
    have := qsy l (k - 1) d (by omega) (by omega)
    omega
theorem qsy : ∀ (l : List Ty) (a d : Int), -1 ≤ a → a ≤ 20000 → qda l a d ≤ a
 | [], a, d, h0, _ => by rw [qda]; exact Int.le_refl _
 | x :: r, a, d, h0, h1 => by
   rw [qda]
   split
   ·rename_i h
    have h2 := qru x a (IntKind.i64.wrap (d - 1)) h h1
    have h3 := qx1 x a (IntKind.i64.wrap (d - 1)) h h1
    have := qsy r _ d h2 (by omega)
    omega
   ·exact Int.le_refl _
end
theorem qnw : ∀ (l : List Ty) {a : Int}, a < 0 → -9223372036854775808 ≤ a - l.length → qh9 a l < 0
 | [], a, h, _ => h
 | x :: r, a, h, h2 => by
   rw [qh9]
   have h3 : cntY x a 300 = IntKind.i64.wrap (a - 1) := by
    rw [qsh, if_neg (by omega)]
    have hk : IntKind.i64.wrap (a - 1) = a - 1 := qcr (by simp only [List.length_cons] at h2; omega) (by omega)
    rw [hk, qe3 (by omega)]
   have hk : IntKind.i64.wrap (a - 1) = a - 1 := qcr (by simp only [List.length_cons] at h2; omega) (by omega)
   rw [h3, hk]
   exact qnw r (by omega) (by simp only [List.length_cons] at h2; omega)
theorem qnz : ∀ (l : List Ty) (a : Int), 0 ≤ a → a ≤ 20000 → l.length ≤ 9223372036854775807 → 0 ≤ qh9 a l → (szYs l : Int) ≤ a ∧ (dpYs l : Int) ≤ 300
 | [], a, h0, h1, _, h2 => by rw [szYs, dpYs]; omega
 | x :: r, a, h0, h1, hl, h2 => by
   rw [qh9] at h2
   simp only [List.length_cons] at hl
   have h5 : 0 ≤ cntY x a 300 := by
    by_cases h : 0 ≤ cntY x a 300
    ·exact h
    ·have : -1 ≤ cntY x a 300 := qru x a 300 h0 h1
     have := qnw r (a := cntY x a 300) (by omega) (by omega)
     omega
   obtain ⟨h6, h7⟩ := qsr x a 300 h0 h1 (by omega) h5
   obtain ⟨h8, h9⟩ := qnz r _ h5 (by omega) (by omega) h2
   rw [szYs, dpYs]
   omega
theorem qqi {l : List Ty} (hl : l.length ≤ maxLen) (h : qi9 l = true) : szYs l ≤ 20000 ∧ dpYs l ≤ 300 := by
 have := qnz l 20000 (by omega) (by omega) (by unfold maxLen at hl; omega) (by simpa [qi9] using h)
 omega

mutual
theorem qit : ∀ (t : Ty), szY t ≤ 1000000 → qf6 t = szY t
 | .mk c v l, h => by
   rw [szY] at h
   rw [qf6, szY, qgn l 1 (by omega) (by omega)]
   omega
theorem qgn : ∀ (l : List Ty) (a : Int), 1 ≤ a → a + szYs l ≤ 1000001 → qdt a l = a + szYs l
 | [], a, _, _ => by rw [qdt, szYs]; omega
 | x :: r, a, h0, h => by
   rw [szYs] at h
   rw [qdt, qit x (by omega), qcr (by omega) (by omega), qgn r _ (by omega) (by omega), szYs]
   omega
end
mutual
theorem qkg : ∀ (t : Ty), dpY t ≤ 1000000 → qjc t = dpY t
 | .mk c v l, h => by
   rw [dpY] at h
   rw [qjc, dpY, qi7 l 0 (by omega) (by omega), qcr (by omega) (by omega)]
   omega
theorem qi7 : ∀ (l : List Ty) (a : Int), dpYs l ≤ 1000000 → 0 ≤ a → qfa a l = max a (dpYs l)
 | [], a, _, _ => by rw [qfa, dpYs]; omega
 | x :: r, a, h, h0 => by
   rw [dpYs] at h
   have h1 := qkg x (by omega)
   rw [qfa, h1]
   have h2 : (if (dpY x : Int) > a then (dpY x : Int) else a) = max a (dpY x) := by split <;> omega
   rw [h2, qi7 r _ (by omega) (by omega), dpYs]
   omega
end
mutual
theorem qs5 : ∀ (t : Ty) (n k : Int), 0 ≤ n → n + szY t ≤ 1000000 → qbz qt7 t n k = (n + szY t, true)
 | .mk c v l, n, k, h0, h => by
   rw [szY] at h
   rw [qbz, if_pos (show (qt7 n (.mk c v l) k).2 = true from rfl)]
   have h1 : (qt7 n (.mk c v l) k).1 = n + 1 := qcr (by omega) (by omega)
   rw [h1, qiv l _ _ (by omega) (by omega), szY]
   congr 1; omega
theorem qiv : ∀ (l : List Ty) (n k : Int), 0 ≤ n → n + szYs l ≤ 1000000 → qbg qt7 l n k = (n + szYs l, true)
 | [], n, k, _, _ => by rw [qbg, szYs]; congr 1; omega
 | x :: r, n, k, h0, h => by
   rw [szYs] at h
   rw [qbg, qs5 x n k h0 (by omega), if_pos rfl, qiv r _ k (by omega) (by omega), szYs]
   congr 1; omega
end
mutual
theorem qql : ∀ (t : Ty) (n k : Int), 0 ≤ n → 1 ≤ k → k + dpY t ≤ 1000000 → qbz qr8 t n k = (max n (k + dpY t - 1), true)
 | .mk c v l, n, k, h0, h1, h => by
   rw [dpY] at h
   rw [qbz, if_pos (show (qr8 n (.mk c v l) k).2 = true from rfl)]
   have h2 : (qr8 n (.mk c v l) k).1 = max n k := by simp only [qr8]; split <;> omega
   rw [h2, qcr (z := k + 1) (by omega) (by omega), qir l _ _ (by omega) (by omega) (by omega), dpY]
   congr 1; split <;> omega
theorem qir : ∀ (l : List Ty) (n k : Int), 0 ≤ n → 1 ≤ k → k + dpYs l ≤ 1000000 → qbg qr8 l n k = (if dpYs l = 0 then n else max n (k + dpYs l - 1), true)
 | [], n, k, _, _, _ => by rw [qbg, dpYs, if_pos rfl]
 | x :: r, n, k, h0, h1, h => by
   rw [dpYs] at h
   have hp := q5w x
   rw [qbg, qql x n k h0 h1 (by omega), if_pos rfl, qir r _ k (by omega) h1 (by omega), dpYs]
   congr 1
   rw [if_neg (by omega : ¬ max (dpY x) (dpYs r) = 0)]
   split <;> omega
end
mutual
theorem qk9 : ∀ (t : Ty) (n k : Int), 0 ≤ n → n + szY t ≤ 1000000 → 1 ≤ k → k + dpY t ≤ 1000000 →
 ((qbz qdx t n k).2 = true ↔ n + szY t ≤ 4096 ∧ k + dpY t - 1 ≤ 100 ∧ qb0 t = true) ∧ ((qbz qdx t n k).2 = true → (qbz qdx t n k).1 = n + szY t)
 | .mk c v l, n, k, h0, h1, h2, h3 => by
   rw [szY] at h1
   rw [dpY] at h3
   have e1 : IntKind.i64.wrap (n + 1) = n + 1 := qcr (by omega) (by omega)
   have e2 : IntKind.i64.wrap (k + 1) = k + 1 := qcr (by omega) (by omega)
   have e3 : (qdx n (.mk c v l) k).1 = n + 1 := e1
   have e4 : (qdx n (.mk c v l) k).2 = true ↔ n + 1 ≤ 4096 ∧ k ≤ 100 ∧ mayW c v l.length = true := by
    simp only [qdx, e1, Bool.and_eq_true, decide_eq_true_eq]; rfl
   rw [qbz, szY, dpY, qb0]
   by_cases hs : (qdx n (.mk c v l) k).2 = true
   ·rw [if_pos hs, e3, e2]
    obtain ⟨q1, q2, q3⟩ := e4.1 hs
    obtain ⟨r1, r2⟩ := qim l (n + 1) (k + 1) (by omega) (by omega) (by omega) (by omega) (by omega) (by omega)
    refine ⟨?_, fun h => by rw [r2 h]; omega⟩
    rw [r1, q3, Bool.and_true]
    constructor
    ·rintro ⟨a1, a2, a3⟩; exact ⟨by omega, by omega, a3⟩
    ·rintro ⟨a1, a2, a3⟩; exact ⟨by omega, by omega, a3⟩
   ·rw [if_neg hs]
    refine ⟨⟨fun h => (by cases h), fun ⟨a1, a2, a3⟩ => absurd (e4.2 ⟨by omega, by omega, (by rw [Bool.and_eq_true] at a3; exact a3.2)⟩) hs⟩, fun h => by cases h⟩
theorem qim : ∀ (l : List Ty) (n k : Int), 0 ≤ n → n + szYs l ≤ 1000000 → 1 ≤ k → k + dpYs l ≤ 1000000 → n ≤ 4096 → k - 1 ≤ 100 →
 ((qbg qdx l n k).2 = true ↔ n + szYs l ≤ 4096 ∧ k + dpYs l - 1 ≤ 100 ∧ qbt l = true) ∧ ((qbg qdx l n k).2 = true → (qbg qdx l n k).1 = n + szYs l)
 | [], n, k, h0, h1, h2, h3, h4, h5 => by
   rw [qbg, szYs, dpYs, qbt]
   exact ⟨⟨fun _ => ⟨by omega, by omega, rfl⟩, fun _ => rfl⟩, fun _ => by simp⟩
 | x :: r, n, k, h0, h1, h2, h3, h4, h5 => by
   rw [szYs] at h1
   rw [dpYs] at h3
   obtain ⟨q1, q2⟩ := qk9 x n k h0 (by omega) h2 (by omega)
   rw [qbg, szYs, dpYs, qbt]
   by_cases hs : (qbz qdx x n k).2 = true
   ·rw [if_pos hs, q2 hs]
    obtain ⟨a1, a2, a3⟩ := q1.1 hs
    obtain ⟨r1, r2⟩ := qim r (n + szY x) k (by omega) (by omega) h2 (by omega) (by omega) h5
    refine ⟨?_, fun h => by rw [r2 h]; omega⟩
    rw [r1, a3, Bool.true_and]
    constructor
    ·rintro ⟨b1, b2, b3⟩; exact ⟨by omega, by omega, b3⟩
    ·rintro ⟨b1, b2, b3⟩; exact ⟨by omega, by omega, b3⟩
   ·rw [if_neg hs]
    refine ⟨⟨fun h => (by cases h), fun ⟨a1, a2, a3⟩ => absurd (q1.2 ⟨by omega, by omega, ?_⟩) hs⟩, fun h => by cases h⟩
    rw [Bool.and_eq_true] at a3
    exact a3.1
end
def qdm (t : Ty) : Bool := decide (szY t ≤ 4096) && (decide (dpY t ≤ 100) && qb0 t)
theorem qqv {t : Ty} (h1 : szY t ≤ 20000) (h2 : dpY t ≤ 300) : qre t = qdm t := by
 have := (qk9 t 0 1 (by omega) (by omega) (by omega) (by omega)).1
 rw [qre, Bool.eq_iff_iff, this, qdm, Bool.and_eq_true, Bool.and_eq_true, decide_eq_true_eq, decide_eq_true_eq]
 constructor
 ·rintro ⟨a1, a2, a3⟩; exact ⟨by omega, by omega, a3⟩
 ·rintro ⟨a1, a2, a3⟩; exact ⟨by omega, by omega, a3⟩
theorem qmt {t : Ty} (h1 : szY t ≤ 20000) (h2 : dpY t ≤ 300) : ql Try.prog 79 [encY t] (.bool (qdm t)) := by
 refine qc c0n (by simp) (by simp only [go_sem]) rfl fun hw => ?_
 have e1 := qo0 t
 have e2 := qm0 t
 rw [qit t (by omega)] at e1
 rw [qkg t (by omega)] at e2
 repeat' (first | refine vs_ ?_ | ((first | refine vr_ ?_ | refine qa e1 fun _ => ?_ | refine qa e2 fun _ => ?_ | refine qa (qmu t) fun _ => ?_ | (refine cs_ ?_ ?_ <;> intro hc) | refine cj_ ?_ | fail) <;> (try refine ev_ ?_)) | with_reducible exact ti_)
 all_goals
  rw [qdm]
 ·rw [decide_eq_true (by omega), decide_eq_true (by omega)]; rfl
 ·rw [decide_eq_false (p := dpY t ≤ 100) (by omega), Bool.false_and, Bool.and_false]
 ·rw [decide_eq_false (p := szY t ≤ 4096) (by omega)]; rfl
theorem qf3 {t : Ty} (h1 : szY t ≤ 20000) (h2 : dpY t ≤ 300) : ql Try.prog 48 [encY t] (.bool (qdm t)) := by
 rw [← qqv h1 h2]; exact qmg t
set_option maxRecDepth 4000

theorem qjg {t a b : Ty} (h1 : t.con = arrW) (h2 : t.args = [a, b]) : txtY t = parW (decide (a.con = arrW)) (txtY a) ++ ([32, 45, 62, 32] ++ txtY b) := by
 cases t with
 | mk c v l =>
   have h1' : c = arrW := h1
   have h2' : l = [a, b] := h2
   subst h1' h2'
   rw [txtY, if_pos rfl]
theorem qgb {t : Ty} (h1 : ¬ t.con = arrW) : txtY t = qde t ++ argY t.args := by
 cases t with
 | mk c v l =>
   have h1' : ¬ c = arrW := h1
   rcases l with _ | ⟨a, _ | ⟨b, _ | ⟨d, r⟩⟩⟩ <;> (simp only [txtY, if_neg h1']; rfl)
theorem qc7 (l : List Ty) (i : Nat) (h : i < l.length) : argY (l.take (i + 1)) = argY (l.take i) ++ (32 :: parW (decide ((l.getD i Y0).args ≠ [])) (txtY (l.getD i Y0))) := by
 have h1 : l.take (i + 1) = l.take i ++ [l.getD i Y0] := by
  rw [List.take_add_one, List.getD_eq_getElem?_getD, List.getElem?_eq_getElem h]; rfl
 rw [h1]
 generalize l.take i = a
 generalize l.getD i Y0 = x
 induction a with
 | nil => simp [argY]
 | cons y a ih => simp only [List.cons_append, argY, ih, List.append_assoc]
theorem qcd (l : List Ty) (i : Nat) : (argY (l.take i)).length ≤ (argY l).length := by
 induction l generalizing i with
 | nil => simp
 | cons x r ih =>
   cases i with
   | zero => simp [argY]
   | succ i => rw [List.take_succ_cons, argY, argY, List.length_append, List.length_append]; have := ih i; omega
theorem qhr {t : Ty} (h : qb0 t = true) (h1 : t.con = arrW) : ∃ a b, t.args = [a, b] ∧ qb0 a = true ∧ qb0 b = true := by
 rw [qe9, Bool.and_eq_true] at h
 obtain ⟨h2, h3⟩ := h
 rw [mayY, mayW, h1, if_neg (by decide), if_pos rfl, Bool.and_eq_true, decide_eq_true_eq, decide_eq_true_eq] at h3
 have hl : t.args.length = 2 := by omega
 obtain ⟨a, b, hab⟩ : ∃ a b, t.args = [a, b] := by
  match hh : t.args, hl with
  | [a, b], _ => exact ⟨a, b, rfl⟩
 rw [hab] at h2
 simp only [qbt, Bool.and_eq_true] at h2
 exact ⟨a, b, hab, h2.1, h2.2.1⟩
theorem qp2 {t : Ty} (h : qb0 t = true) (h1 : t.con = []) : t.args = [] := by
 rw [qe9, Bool.and_eq_true] at h
 have h3 := h.2
 rw [mayY, mayW, h1, if_pos rfl, decide_eq_true_eq] at h3
 exact List.length_eq_zero_iff.1 (by omega)
theorem qhb {t x : Ty} (h : qb0 t = true) (hx : x ∈ t.args) : qb0 x = true := by
 rw [qe9, Bool.and_eq_true] at h
 have h2 := h.1
 generalize t.args = l at hx h2
 induction l with
 | nil => cases hx
 | cons y r ih =>
   rw [qbt, Bool.and_eq_true] at h2
   rcases List.mem_cons.1 hx with rfl | hx
   ·exact h2.1
   ·exact ih hx h2.2
theorem qcy (b : Bool) (s : List UInt8) : s.length ≤ (parW b s).length ∧ (parW b s).length ≤ s.length + 2 := by
 rw [parW]; split <;> simp <;> omega
def Big : Nat := 140737488355328
theorem qv {n : Nat} (h : n ≤ Big) : n ≤ maxLen := by unfold Big at h; unfold maxLen; omega

theorem qev {a : Ty} (h : ql Try.prog 105 [encY a] (.str (txtY a))) (hl : (txtY a).length + 2 ≤ Big) : ql Try.prog 71 [encY a] (.str (parW (decide (a.args ≠ [])) (txtY a))) := by
 refine qc c0e (by simp) (by simp only [go_sem]) rfl fun hw => ?_
 have h1 : 1 + (txtY a).length ≤ maxLen := qv (by omega)
 have h2 : (txtY a).length + 1 + 1 ≤ maxLen := qv (by omega)
 repeat' (first | refine vs_ ?_ | ((first | refine vr_ ?_ | refine qa h fun _ => ?_ | (refine cs_ ?_ ?_ <;> intro hc) | refine cj_ ?_ | simp (disch := omega) only [encs_getN, qb]) <;> (try refine ev_ ?_)) | with_reducible exact ti_)
 ·have hne : a.args ≠ [] := fun h => by rw [h] at hc; simp at hc
  rw [parW, if_pos (by simp [hne])]
 ·have hne : a.args = [] := List.length_eq_zero_iff.1 (by omega)
  rw [parW, if_neg (by simp [hne])]
theorem qxy {v : Int} (h : (Lit.int .i64 v).wf = true) (h0 : v < 0) : IntKind.i64.wrap (-1 - v) = -1 - v := by
 have := qe5 h
 exact qcr (by omega) (by omega)
theorem qoz : ∀ t, qb0 t = true → (txtY t).length ≤ Big → ql Try.prog 105 [encY t] (.str (txtY t)) := by
 refine Ty.ind fun t ih hs hl => ?_
 refine qc c0f (by simp) (by simp only [go_sem]) rfl fun hw => ?_
 obtain ⟨hk, _, hv, _⟩ := (qfh t).1 hw.1
 by_cases hc0 : t.con = []
 ·have hn : ¬ t.con = arrW := by rw [hc0]; decide
  have ha := qp2 hs hc0
  rw [qgb hn, ha] at hl ⊢
  by_cases h0 : 0 ≤ t.var
  ·repeat' (first | refine vs_ ?_ | ((first | refine vr_ ?_ | fail) <;> (try simp only [hc0, h0, go_sem, ↓reduceIte])) | ((first | (refine cs_ ?_ ?_ <;> intro hc) | refine cj_ ?_ | simp (disch := omega) only [encs_getN, qb] | refine qa (qlh _) fun _ => ?_) <;> (try refine ev_ ?_)) | with_reducible exact ti_)
   rw [qde, if_pos hc0, if_pos h0, argY, List.append_nil]
  ·have hneg := qxy hv (by omega)
   have hd := qnp (n := -1 - t.var) (by have := qe5 hv; simp [Lit.wf, IntKind.min, IntKind.max, IntKind.signed, IntKind.bits]; omega)
   have hm : 1 + (digI (-1 - t.var)).length ≤ maxLen := by unfold maxLen; omega
   repeat' (first | refine vs_ ?_ | ((first | refine vr_ ?_ | fail) <;> (try simp only [hc0, h0, hneg, go_sem, ↓reduceIte])) | ((first | (refine cs_ ?_ ?_ <;> intro hc) | refine cj_ ?_ | simp (disch := omega) only [encs_getN, qb] | refine qa (qd9 _) fun _ => ?_) <;> (try refine ev_ ?_)) | with_reducible exact ti_)
   rw [qde, if_pos hc0, if_neg h0, argY, List.append_nil]
 ·by_cases hca : t.con = arrW
  ·obtain ⟨a, b, hab, sa, sb⟩ := qhr hs hca
   have e := qjg hca hab
   have hlen := congrArg List.length e
   simp only [List.length_append, List.length_cons, List.length_nil] at hlen
   have hp := qcy (decide (a.con = arrW)) (txtY a)
   have iha := ih a (by rw [hab]; simp) sa (by omega)
   have ihb := ih b (by rw [hab]; simp) sb (by omega)
   have e0 : (q8 t.args).getD 0 .junk = encY a := by rw [hab]; rfl
   have e1 : (q8 t.args).getD 1 .junk = encY b := by rw [hab]; rfl
   have e2 : t.args.length = 2 := by rw [hab]; rfl
   have hca' : t.con = [45, 62] := hca
   have hc1 : ¬ ([45, 62] : List UInt8) = [] := by decide
   by_cases haa : a.con = [45, 62]
   ·rw [decide_eq_true (show a.con = arrW from haa), parW, if_pos rfl] at e hlen
    simp only [List.length_append, List.length_cons, List.length_nil] at hlen
    have m1 : 1 + (txtY a).length ≤ maxLen := qv (by omega)
    have m2 : (txtY a).length + 1 + 1 ≤ maxLen := qv (by omega)
    have m3 : (txtY a).length + 1 + 1 + 4 ≤ maxLen := qv (by omega)
    have m4 : (txtY a).length + 1 + 1 + 4 + (txtY b).length ≤ maxLen := qv (by omega)
    repeat' (first | refine vs_ ?_ | ((first | refine vr_ ?_ | fail) <;> (try simp only [hca', hc1, e0, e1, e2, haa, go_sem, ↓reduceIte])) | ((first | (refine cs_ ?_ ?_ <;> intro hc) | refine cj_ ?_ | simp (disch := omega) only [encs_getN, qb] | refine qa iha fun _ => ?_ | refine qa ihb fun _ => ?_) <;> (try refine ev_ ?_)) | with_reducible exact ti_)
    rw [e]; simp
   ·rw [decide_eq_false (show ¬ a.con = arrW from haa), parW, if_neg (by simp)] at e hlen
    have m3 : (txtY a).length + 4 ≤ maxLen := qv (by omega)
    have m4 : (txtY a).length + 4 + (txtY b).length ≤ maxLen := qv (by omega)
    repeat' (first | refine vs_ ?_ | ((first | refine vr_ ?_ | fail) <;> (try simp only [hca', hc1, e0, e1, e2, haa, go_sem, ↓reduceIte])) | ((first | (refine cs_ ?_ ?_ <;> intro hc) | refine cj_ ?_ | simp (disch := omega) only [encs_getN, qb] | refine qa iha fun _ => ?_ | refine qa ihb fun _ => ?_) <;> (try refine ev_ ?_)) | with_reducible exact ti_)
    rw [e]; simp
  ·have e := qgb hca
   have hn : qde t = t.con := by rw [qde, if_neg hc0]
   have hca' : ¬ t.con = [45, 62] := hca
   have hlen := congrArg List.length e
   rw [List.length_append, hn] at hlen
   have ihA : ∀ i, i < t.args.length → ql Try.prog 71 [encY (t.args.getD i Y0)] (.str (parW (decide ((t.args.getD i Y0).args ≠ [])) (txtY (t.args.getD i Y0)))) := fun i hi => by
    have hm := qbo hi
    have h1 := qc7 t.args i hi
    have h2 := congrArg List.length h1
    simp only [List.length_append, List.length_cons] at h2
    have h3 := qcd t.args (i + 1)
    have h4 := qcy (decide ((t.args.getD i Y0).args ≠ [])) (txtY (t.args.getD i Y0))
    have h5 : 1 ≤ t.con.length := by cases hh : t.con with | nil => exact absurd hh hc0 | cons _ _ => simp
    exact qev (ih _ hm (qhb hs hm) (by omega)) (by omega)
   have htk : ∀ i, i < t.args.length → t.con.length + (argY (t.args.take i)).length + ((parW (decide ((t.args.getD i Y0).args ≠ [])) (txtY (t.args.getD i Y0))).length + 1) ≤ Big := fun i hi => by
    have h1 := qc7 t.args i hi
    have h2 := congrArg List.length h1
    simp only [List.length_append, List.length_cons] at h2
    have h3 := qcd t.args (i + 1)
    omega
   repeat' (first | refine vs_ ?_ | ((first | refine vr_ ?_ | fail) <;> (try simp only [hc0, hca', go_sem, ↓reduceIte])) | ((first | (refine cs_ ?_ ?_ <;> intro hc) | refine cj_ ?_ | simp (disch := omega) only [encs_getN, qb]) <;> (try refine ev_ ?_)) | with_reducible exact ti_)
   refine qo (S := Nat) (fun i => i ≤ t.args.length) (fun i => (⟨[(1, .ptr 0 0), (4, .str (t.con ++ argY (t.args.take i))), (5, .int .i64 i)], []⟩, [.blk (yc t)])) (fun i => t.args.length - i) ?_ fun i hi => ?_
   ·refine qi 0 [0] (Nat.zero_le _) rfl (by simp) ?_ ?_ ?_ <;> simp only [List.take_zero, argY, List.append_nil] <;> (try refine ev_ ?_) <;> (try with_reducible exact ti_) <;> (try simp (disch := omega) only [qb, and_true, true_and])
   ·by_cases hlt : i < t.args.length
    ·have hb := htk i hlt
     have m1 : 1 + (parW (decide ((t.args.getD i Y0).args ≠ [])) (txtY (t.args.getD i Y0))).length ≤ maxLen := qv (by omega)
     have m2 : t.con.length + (argY (t.args.take i)).length + ((parW (decide ((t.args.getD i Y0).args ≠ [])) (txtY (t.args.getD i Y0))).length + 1) ≤ maxLen := qv hb
     repeat' (first | refine vs_ ?_ | ((first | refine vr_ ?_ | fail) <;> (try simp (disch := first | omega | (simp only [List.length_set, List.length_append, List.length_cons, List.length_nil]; done) | (simp only [List.length_set, List.length_append, List.length_cons, List.length_nil]; omega)) only [qx, qb, go_sem, ↓reduceIte])) | ((first | (refine cs_ ?_ ?_ <;> intro hc) | refine cj_ ?_ | simp (disch := omega) only [encs_getN, qb] | refine qa (ihA i hlt) fun _ => ?_) <;> (try refine ev_ ?_)) | with_reducible exact ti_)
     ·refine qi (i + 1) [0] ⟨by omega, by omega⟩ rfl (by simp) ?_ ?_ ?_ <;> simp only [qc7 _ _ hlt] <;> (try refine ev_ ?_) <;> (try with_reducible exact ti_) <;> (try simp (disch := omega) only [qb, and_true, true_and])
     ·omega
    ·repeat' (first | refine vs_ ?_ | ((first | refine vr_ ?_ | (refine cs_ ?_ ?_ <;> intro hc) | refine cj_ ?_ | simp (disch := omega) only [encs_getN, qb]) <;> (try refine ev_ ?_)) | with_reducible exact ti_)
     ·omega
     ·rw [e, hn, List.take_of_length_le (by omega)]
end Go.Proofs.Ytfpobiheiloamaa
