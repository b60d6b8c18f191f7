/- A text of this proof. -/
import Derived.Test.YtlahgbhhejkgbaaRan
import Derived.Test.YtlahgbhhejkgbaaRao
import Derived.Test.YtlahgbhhejkgbaaRap

/- terms: heads, sameness, the walk over a term -/
set_option maxRecDepth 4000
namespace Go.Proofs.Ytlahgbhhejkgbaa
open Go Go.RowKit Go.V
set_option linter.unusedVariables false
set_option linter.unusedSimpArgs false

abbrev hdA (t : Ty) : AV := .agg [.str t.con, .int .i64 t.var, .int .i64 t.args.length]
theorem qdg {t : Ty} (hw : (encY t).wf) : t.args.length ≤ maxLen := ((qut t).1 hw).1
attribute [go_sem] hdA
theorem qgc (t : Ty) : qp Try.prog 40 [encY t] (hdA t) := by
 refine qh c0bs (by simp) (by simp only [go_sem]) rfl fun hw => ?_
 have hk := qdg hw.1
 repeat' (first | refine vs_ ?_ | ((first | refine vr_ ?_ | (refine cs_ ?_ ?_ <;> intro hc) | refine cj_ ?_ | fail) <;> (try refine ev_ ?_)) | with_reducible exact ti_)
 all_goals (try rfl)
def hdEq (a b : Ty) : Bool := decide (a.con = b.con) && (decide (a.var = b.var) && decide ((a.args.length : Int) = b.args.length))
theorem qqk {a b : Ty} (h : hdEq a b = true) : a.con = b.con ∧ a.var = b.var ∧ a.args.length = b.args.length := by
 simp only [hdEq, Bool.and_eq_true, decide_eq_true_eq] at h
 exact ⟨h.1, h.2.1, by omega⟩
theorem qbdw {a b : Ty} (h : hdEq a b = false) : qf7 a b = false := by
 cases hs : qf7 a b with
 | false => rfl
 | true =>
   have := (q17 a b).1 hs
   subst this
   simp [hdEq] at h
theorem q0v {a b : Ty} {i : Nat} (h : hdEq a b = true) (ha : qbd (a.args.drop i) (b.args.drop i) = qbd a.args b.args) : qf7 a b = qbd (a.args.drop i) (b.args.drop i) := by
 obtain ⟨h1, h2, h3⟩ := qqk h
 rw [ha, qe9]; simp [h1, h2]
theorem qbfu : ∀ a b, qp Try.prog 22 [encY a, encY b] (.bool (qf7 a b)) := by
 refine Ty.ind fun a ih b => ?_
 refine qh c0bt (by simp) (by simp only [go_sem]) rfl fun hw => ?_
 have hkl := qdg hw.1
 have hkr := qdg hw.2.1
 repeat' (first | refine vs_ ?_ | ((first | refine vr_ ?_ | refine qa (qgc _) fun _ => ?_ | refine qg (qgc _) ?_ | (refine cs_ ?_ ?_ <;> intro hc) | refine cj_ ?_ | simp (disch := omega) only [encs_getN, qb]) <;> (try refine ev_ ?_)) | with_reducible exact ti_)
 ·rw [qbdw (by simpa [hdEq] using hc)]
 have hq : hdEq a b = true := by simpa [hdEq] using hc
 clear hc
 refine qu (S := Nat) (fun i => i ≤ a.args.length ∧ qbd (a.args.drop i) (b.args.drop i) = qbd a.args b.args) (fun i => (⟨[(2, .ptr 0 0), (3, .ptr 1 0), (13, .int .i64 a.args.length), (14, .int .i64 i)], []⟩, [.blk (yc a), .blk (yc b)])) (fun i => a.args.length - i) ?_ fun i hi => ?_
 ·refine qn 0 [0, 1] ⟨Nat.zero_le _, rfl⟩ rfl (by simp) ?_ ?_ ?_ <;> (try refine ev_ ?_) <;> (try with_reducible exact ti_) <;> (try simp (disch := omega) only [qb, and_true, true_and])
 ·obtain ⟨hi, ha⟩ := hi
  have hf := q0v hq ha
  obtain ⟨q1, q2, q3⟩ := qqk hq
  repeat' (first | refine vs_ ?_ | ((first | refine vr_ ?_ | fail) <;> (try simp (disch := first | omega | (simp only [List.length_set, List.length_append, List.length_cons, List.length_nil]; done) | (simp only [List.length_set, List.length_append, List.length_cons, List.length_nil]; omega)) only [qbe, qb, go_sem, ↓reduceIte])) | ((first | (refine cs_ ?_ ?_ <;> intro hc) | refine cj_ ?_ | simp (disch := omega) only [encs_getN, qb] | refine qa (ih _ (qbw (by omega)) _) fun _ => ?_ | refine qg (ih _ (qbw (by omega)) _) ?_) <;> (try refine ev_ ?_)) | with_reducible exact ti_)
  ·rw [hf, qdv (by omega) (by omega), hc]; rfl
  ·refine qn (i + 1) [0, 1] ⟨⟨by omega, ?_⟩, by omega⟩ rfl (by simp) ?_ ?_ ?_ <;> (try refine ev_ ?_) <;> (try with_reducible exact ti_) <;> (try simp (disch := omega) only [qb, and_true, true_and])
   rw [← ha, qdv (l := a.args) (l' := b.args) (i := i) (by omega) (by omega), hc, Bool.true_and]
  ·rw [hf, qkl (by omega) (by omega)]
theorem qzs {a b : Ty} {i : Nat} (h1 : a.con = b.con) (h2 : a.var = b.var) (ha : qbd (a.args.drop i) (b.args.drop i) = qbd a.args b.args) : qf7 a b = qbd (a.args.drop i) (b.args.drop i) := by
 rw [ha, qe9]; simp [h1, h2]
theorem qtg : ∀ a b, qp Try.prog 23 [encY a, encY b] (.bool (qf7 a b)) := by
 refine Ty.ind fun a ih b => ?_
 refine qh c0bu (by simp) (by simp only [go_sem]) rfl fun hw => ?_
 have hkl := qdg hw.1
 have hkr := qdg hw.2.1
 repeat' (first | refine vs_ ?_ | ((first | refine vr_ ?_ | (refine cs_ ?_ ?_ <;> intro hc) | refine cj_ ?_ | simp (disch := omega) only [encs_getN, qb]) <;> (try refine ev_ ?_)) | with_reducible exact ti_)
 ·rw [qe9]; simp [*]
 ·rw [qe9]; simp [*]
 ·rw [qe9, qk2 (by omega)]; simp
 rename_i h1 h2
 refine qu (S := Nat) (fun i => i ≤ a.args.length ∧ qbd (a.args.drop i) (b.args.drop i) = qbd a.args b.args) (fun i => (⟨[(2, .ptr 0 0), (3, .ptr 1 0), (5, .int .i64 i)], []⟩, [.blk (yc a), .blk (yc b)])) (fun i => a.args.length - i) ?_ fun i hi => ?_
 ·refine qn 0 [0, 1] ⟨Nat.zero_le _, rfl⟩ rfl (by simp) ?_ ?_ ?_ <;> (try refine ev_ ?_) <;> (try with_reducible exact ti_) <;> (try simp (disch := omega) only [qb, and_true, true_and])
 ·obtain ⟨hi, ha⟩ := hi
  have hf := qzs h1 h2 ha
  repeat' (first | refine vs_ ?_ | ((first | refine vr_ ?_ | fail) <;> (try simp (disch := first | omega | (simp only [List.length_set, List.length_append, List.length_cons, List.length_nil]; done) | (simp only [List.length_set, List.length_append, List.length_cons, List.length_nil]; omega)) only [qbe, qb, go_sem, ↓reduceIte])) | ((first | (refine cs_ ?_ ?_ <;> intro hc) | refine cj_ ?_ | simp (disch := omega) only [encs_getN, qb] | refine qa (ih _ (qbw (by omega)) _) fun _ => ?_ | refine qg (ih _ (qbw (by omega)) _) ?_) <;> (try refine ev_ ?_)) | with_reducible exact ti_)
  ·rw [hf, qdv (by omega) (by omega), hc]; rfl
  ·refine qn (i + 1) [0, 1] ⟨⟨by omega, ?_⟩, by omega⟩ rfl (by simp) ?_ ?_ ?_ <;> (try refine ev_ ?_) <;> (try with_reducible exact ti_) <;> (try simp (disch := omega) only [qb, and_true, true_and])
   rw [← ha, qdv (l := a.args) (l' := b.args) (i := i) (by omega) (by omega), hc, Bool.true_and]
  ·rw [hf, qkl (by omega) (by omega)]
/-! heads -/
attribute [go_sem] q22
def fixW (s : List UInt8) : Bool := pfx [33] s && (decide ((qd7 (s.drop 1)).2 = 0) && decide (digI (qd7 (s.drop 1)).1 = s.drop 1))
theorem qx5 {c : UInt8} {s : List UInt8} (h : pfx [c] s = true) : 1 ≤ s.length := by
 cases s with
 | nil => simp [pfx] at h
 | cons d r => simp
theorem qpk (s : List UInt8) : qp Try.prog 65 [.str s] (.bool (fixW s)) := by
 refine qh c0bv (by simp) (by simp only [go_sem]) rfl fun hw => ?_
 cases hp : pfx [33] s with
 | false =>
   repeat' (first | refine vs_ ?_ | ((first | refine vr_ ?_ | fail) <;> (try simp only [hp, go_sem, ↓reduceIte])) | ((first | (refine cs_ ?_ ?_ <;> intro hc) | refine cj_ ?_ | fail | refine qa (qi _ _) fun _ => ?_ | refine qg (qi _ _) ?_) <;> (try refine ev_ ?_)) | with_reducible exact ti_)
   simp [fixW, hp]
 | true =>
   have hl := qx5 hp
   repeat' (first | refine vs_ ?_ | ((first | refine vr_ ?_ | fail) <;> (try simp only [hp, go_sem, ↓reduceIte])) | ((first | (refine cs_ ?_ ?_ <;> intro hc) | refine cj_ ?_ | fail | refine qa (qi _ _) fun _ => ?_ | refine qa (qgk _) fun _ => ?_ | refine qa (qgp _) fun _ => ?_ | refine qg (qi _ _) ?_ | refine qg (qgk _) ?_ | refine qg (qgp _) ?_) <;> (try refine ev_ ?_)) | with_reducible exact ti_)
   all_goals simp_all [fixW]
def mayW (c : List UInt8) (v n : Int) : Bool :=
 if c = [] then decide (n = 0) else if c = arrW then decide (v = 0) && decide (n = 2) else if fixW c = true then decide (v = 0) && decide (n = 0) else decide (v = 0) && conW c
theorem qzx (c : List UInt8) (v n : Int) : qp Try.prog 41 [.agg [.str c, .int .i64 v, .int .i64 n]] (.bool (mayW c v n)) := by
 refine qh c0bw (by simp) (by simp only [go_sem]) rfl fun hw => ?_
 repeat' (first | refine vs_ ?_ | ((first | refine vr_ ?_ | refine qa (qpk _) fun _ => ?_ | refine qa (qwi _) fun _ => ?_ | (refine cs_ ?_ ?_ <;> intro hc) | refine cj_ ?_ | fail) <;> (try refine ev_ ?_)) | with_reducible exact ti_)
 all_goals simp_all [mayW, arrW]
abbrev mayY (t : Ty) : Bool := mayW t.con t.var t.args.length

/-! the walk -/
section
variable {S : Type}
mutual
def qb2 (step : S → Ty → Int → S × Bool) : Ty → S → Int → S × Bool
 | .mk c v l, s, k => if (step s (.mk c v l) k).2 = true then qbf step l (step s (.mk c v l) k).1 (IntKind.i64.wrap (k + 1)) else ((step s (.mk c v l) k).1, false)
def qbf (step : S → Ty → Int → S × Bool) : List Ty → S → Int → S × Bool
 | [], s, _ => (s, true)
 | x :: r, s, k => if (qb2 step x s k).2 = true then qbf step r (qb2 step x s k).1 k else ((qb2 step x s k).1, false)
end
theorem qrf (step : S → Ty → Int → S × Bool) (t : Ty) (s : S) (k : Int) : qb2 step t s k = if (step s t k).2 = true then qbf step t.args (step s t k).1 (IntKind.i64.wrap (k + 1)) else ((step s t k).1, false) := by
 cases t; rw [qb2]; rfl
theorem qjl (step : S → Ty → Int → S × Bool) {l : List Ty} {i : Nat} (h : i < l.length) (s : S) (k : Int) :
 qbf step (l.drop i) s k = if (qb2 step (l.getD i Y0) s k).2 = true then qbf step (l.drop (i + 1)) (qb2 step (l.getD i Y0) s k).1 k else ((qb2 step (l.getD i Y0) s k).1, false) := by
 rw [qm0 h, qbf]
theorem qtl (step : S → Ty → Int → S × Bool) {l : List Ty} {i : Nat} (h : l.length ≤ i) (s : S) (k : Int) : qbf step (l.drop i) s k = (s, true) := by
 rw [List.drop_of_length_le h, qbf]
end
section
variable {S : Type} {step : S → Ty → Int → S × Bool} {ok : Nat → S → Prop}
theorem qxn (h2 : ∀ n s, ok (n + 1) s → ok n s) : ∀ (d n : Nat) (s : S), ok (n + d) s → ok n s
 | 0, n, s, h => h
 | d + 1, n, s, h => qxn h2 d n s (h2 _ _ h)
mutual
theorem qv8 (h1 : ∀ n s t k, ok (n + 1) s → ok n (step s t k).1) (h2 : ∀ n s, ok (n + 1) s → ok n s) : ∀ (t : Ty) (s : S) (k : Int) (m : Nat), ok (szY t + m) s → ok m (qb2 step t s k).1
 | .mk c v l, s, k, m, h => by
   rw [szY, show 1 + szYs l + m = szYs l + m + 1 by omega] at h
   have h3 := h1 _ s (.mk c v l) k h
   rw [qb2]
   split
   ·exact qqg h1 h2 l _ _ m h3
   ·exact qxn h2 (szYs l) m _ (by rw [Nat.add_comm]; exact h3)
theorem qqg (h1 : ∀ n s t k, ok (n + 1) s → ok n (step s t k).1) (h2 : ∀ n s, ok (n + 1) s → ok n s) : ∀ (l : List Ty) (s : S) (k : Int) (m : Nat), ok (szYs l + m) s → ok m (qbf step l s k).1
 | [], s, k, m, h => by rw [qbf]; rw [szYs, Nat.zero_add] at h; exact h
 | x :: r, s, k, m, h => by
   rw [szYs, Nat.add_assoc] at h
   have h3 := qv8 h1 h2 x s k _ h
   rw [qbf]
   split
   ·exact qqg h1 h2 r _ _ m h3
   ·exact qxn h2 (szYs r) m _ (by rw [Nat.add_comm]; exact h3)
end
end
section
variable {S : Type}
variable {f : FuncId} {st : S → Ent} {step : S → Ty → Int → S × Bool} {ok : Nat → S → Prop} (hb : ∀ s, (st s).bd 0 = true) (h1 : ∀ n s t k, ok (n + 1) s → ok n (step s t k).1) (h2 : ∀ n s, ok (n + 1) s → ok n s)
 (hs : ∀ s t k, ok 1 s → VM Try.prog f (st s) (st (step s t k).1) [encY t, .int .i64 k, .ptr 0 0] (.bool (step s t k).2))
include hb h1 h2 hs
theorem qha : ∀ t s k, ok (szY t) s → VM Try.prog 38 (st s) (st (qb2 step t s k).1) [encY t, .int .i64 k, .fn f [] [.ptr 0 0]] (.bool (qb2 step t s k).2) := by
 refine Ty.ind fun t ih s k hok => ?_
 have hb1 : ∀ s k, (st s).bd k = true := fun s k => Ent.bd_le (Nat.zero_le _) _ (hb s)
 have hbr : ∀ s σ, (st s).ren σ = st s := fun s σ => Ent.ren_bd0 (hb s)
 refine qju (by kernel_rfl) fun hw => ?_
 have hk := qdg hw.1
 have hok1 : ok 1 s := qxn h2 (szYs t.args) 1 s (by rw [← qil]; exact hok)
 have hok2 : ok (szYs t.args) (step s t k).1 := h1 _ _ _ _ (by rw [Nat.add_comm, ← qil]; exact hok)
 refine qe c0bx 1 (by simp) (by simp) ?_
 repeat' (first | refine vs_ ?_ | ((first | refine vr_ ?_ | fail) <;> (try simp only [hb1, hbr, go_sem, ↓reduceIte])) | ((first | (refine cs_ ?_ ?_ <;> intro hc) | refine cj_ ?_ | simp (disch := omega) only [encs_getN, qb] | refine qbh 0 (hs _ _ _ hok1) ?_ (hb _) (hb _)) <;> (try refine ev_ ?_)) | with_reducible exact ti_)
 ·rw [qrf, if_neg (by rw [hc]; simp)]; exact ⟨hb1 _ _, rfl, rfl⟩
 have hw0 := qrf step t s k
 rw [if_pos hc] at hw0
 generalize qb2 step t s k = tg at hw0 ⊢
 generalize hk1 : IntKind.i64.wrap (k + 1) = k1 at hw0
 refine qu (S := Nat × S) (fun x => x.1 ≤ t.args.length ∧ qbf step (t.args.drop x.1) x.2 k1 = tg ∧ ok (szYs (t.args.drop x.1)) x.2) (fun x => (⟨[(1, .int .i64 k), (2, .fn f [] [.ptr 0 0]), (15, .sl 3 (qs t.args)), (16, .int .i64 t.args.length), (17, .int .i64 x.1)], []⟩, [st x.2])) (fun x => t.args.length - x.1) ?_ fun x hx => ?_
 ·refine q31 (0, (step s t k).1) [.blk (yc t)] ⟨Nat.zero_le _, hw0.symm, hok2⟩ (Nat.le_refl _) rfl (by simp only [List.all_cons, List.all_nil, hb1, Bool.and_true]) ?_ rfl rfl <;> (try refine ev_ ?_) <;> (try with_reducible exact ti_) <;> (try simp (disch := omega) only [qb, and_true, true_and])
 ·obtain ⟨i, s1⟩ := x
  obtain ⟨hi, hx, hok3⟩ := hx
  dsimp only at hi hx hok3
  have hok4 : i < t.args.length → ok (szY (t.args.getD i Y0) + szYs (t.args.drop (i + 1))) s1 := fun h => by rw [qm0 h, szYs] at hok3; exact hok3
  have hok5 : i < t.args.length → ok (szY (t.args.getD i Y0)) s1 := fun h => qxn h2 _ _ _ (hok4 h)
  repeat' (first | refine vs_ ?_ | ((first | refine vr_ ?_ | fail) <;> (try simp (disch := first | omega | (simp only [List.length_set, List.length_append, List.length_cons, List.length_nil]; done) | (simp only [List.length_set, List.length_append, List.length_cons, List.length_nil]; omega)) only [hb1, hbr, qbe, qb, hk1, go_sem, ↓reduceIte])) | ((first | (refine cs_ ?_ ?_ <;> intro hc) | refine cj_ ?_ | simp (disch := omega) only [encs_getN, qb] | refine qbh 0 (ih (t.args.getD i Y0) (qbw (by omega)) s1 k1 (hok5 (by omega))) ?_ (hb _) (hb _)) <;> (try refine ev_ ?_)) | with_reducible exact ti_)
  ·rw [qjl step (by omega), if_neg (by rw [hc]; simp)] at hx
   subst hx
   exact ⟨hb1 _ _, rfl, rfl⟩
  ·rw [qjl step (by omega), if_pos (by rw [hc])] at hx
   refine q31 (i + 1, (qb2 step (t.args.getD i Y0) s1 k1).1) [.blk (yc (t.args.getD i Y0))] ⟨⟨by dsimp only; omega, hx, qv8 h1 h2 _ _ _ _ (hok4 (by omega))⟩, by dsimp only; omega⟩ (Nat.le_refl _) rfl (by simp only [List.all_cons, List.all_nil, hb1, Bool.and_true]) ?_ rfl rfl <;> (try refine ev_ ?_) <;> (try with_reducible exact ti_) <;> (try simp (disch := omega) only [qb, and_true, true_and])
  ·rw [qtl step (by omega)] at hx
   subst hx
   exact ⟨hb1 _ _, rfl, rfl⟩
end
end Go.Proofs.Ytlahgbhhejkgbaa
