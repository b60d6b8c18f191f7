/- A text of this proof. -/
import Derived.Test.YtlahgbhhejkgbaaGreatLaq
import Derived.Test.YtlahgbhhejkgbaaGreatLar

/- terms: heads, sameness, the walk over a term -/
set_option maxRecDepth 4000
namespace Go.Proofs.YtlahgbhhejkgbaaGreat
open Go Go.RowKit Go.V
set_option linter.unusedVariables false
set_option linter.unusedSimpArgs false

abbrev hdA (t : Ty) : AV := .agg [.str t.con, .int .i64 t.var, .int .i64 t.args.length]
theorem qct {t : Ty} (hw : (encY t).wf) : t.args.length ≤ maxLen := ((qzz t).1 hw).1
attribute [go_sem] hdA
theorem qmt (t : Ty) : qn Tryz.prog 58 [encY t] (hdA t) := by
 refine qf c0ca (by simp) (by simp only [go_sem]) rfl fun hw => ?_
 have hk := qct hw.1
 repeat' (first | refine vs_ ?_ | ((first | refine vr_ ?_ | (refine cs_ ?_ ?_ <;> intro hc) | refine cj_ ?_ | fail) <;> (try refine ev_ ?_)) | with_reducible exact ti_)
 all_goals (try rfl)
theorem q2r {a b : Ty} {i : Nat} (h1 : a.con = b.con) (h2 : a.var = b.var) (ha : qby (a.args.drop i) (b.args.drop i) = qby a.args b.args) : qhd a b = qby (a.args.drop i) (b.args.drop i) := by
 rw [ha, qgx]; simp [h1, h2]
theorem qhw : ∀ a b, qn Tryz.prog 20 [encY a, encY b] (.bool (qhd a b)) := by
 refine Ty.ind fun a ih b => ?_
 refine qf c0cb (by simp) (by simp only [go_sem]) rfl fun hw => ?_
 have hkl := qct hw.1
 have hkr := qct hw.2.1
 repeat' (first | refine vs_ ?_ | ((first | refine vr_ ?_ | (refine cs_ ?_ ?_ <;> intro hc) | refine cj_ ?_ | simp (disch := omega) only [encs_getN, qb]) <;> (try refine ev_ ?_)) | with_reducible exact ti_)
 ·rw [qgx]; simp [*]
 ·rw [qgx]; simp [*]
 ·rw [qgx, qk9 (by omega)]; simp
 rename_i h1 h2
 refine qp (S := Nat) (fun i => i ≤ a.args.length ∧ qby (a.args.drop i) (b.args.drop i) = qby a.args b.args) (fun i => (⟨[(2, .ptr 0 0), (3, .ptr 1 0), (5, .int .i64 i)], []⟩, [.blk (yc a), .blk (yc b)])) (fun i => a.args.length - i) ?_ fun i hi => ?_
 ·refine qm 0 [0, 1] ⟨Nat.zero_le _, rfl⟩ rfl (by simp) ?_ ?_ ?_ <;> (try refine ev_ ?_) <;> (try with_reducible exact ti_) <;> (try simp (disch := omega) only [qb, and_true, true_and])
 ·obtain ⟨hi, ha⟩ := hi
  have hf := q2r h1 h2 ha
  repeat' (first | refine vs_ ?_ | ((first | refine vr_ ?_ | fail) <;> (try simp (disch := first | omega | (simp only [List.length_set, List.length_append, List.length_cons, List.length_nil]; done) | (simp only [List.length_set, List.length_append, List.length_cons, List.length_nil]; omega)) only [q8, qb, go_sem, ↓reduceIte])) | ((first | (refine cs_ ?_ ?_ <;> intro hc) | refine cj_ ?_ | simp (disch := omega) only [encs_getN, qb] | refine qa (ih _ (qbs (by omega)) _) fun _ => ?_ | refine qg (ih _ (qbs (by omega)) _) ?_) <;> (try refine ev_ ?_)) | with_reducible exact ti_)
  ·rw [hf, qkf (by omega) (by omega), hc]; rfl
  ·refine qm (i + 1) [0, 1] ⟨⟨by omega, ?_⟩, by omega⟩ rfl (by simp) ?_ ?_ ?_ <;> (try refine ev_ ?_) <;> (try with_reducible exact ti_) <;> (try simp (disch := omega) only [qb, and_true, true_and])
   rw [← ha, qkf (l := a.args) (l' := b.args) (i := i) (by omega) (by omega), hc, Bool.true_and]
  ·rw [hf, qve (by omega) (by omega)]
/-! heads -/
attribute [go_sem] q3d
def fixW (s : List UInt8) : Bool := pfx [33] s && (decide ((qea (s.drop 1)).2 = 0) && decide (digI (qea (s.drop 1)).1 = s.drop 1))
theorem qyr {c : UInt8} {s : List UInt8} (h : pfx [c] s = true) : 1 ≤ s.length := by
 cases s with
 | nil => simp [pfx] at h
 | cons d r => simp
theorem qql (s : List UInt8) : qn Tryz.prog 80 [.str s] (.bool (fixW s)) := by
 refine qf c0cc (by simp) (by simp only [go_sem]) rfl fun hw => ?_
 cases hp : pfx [33] s with
 | false =>
   repeat' (first | refine vs_ ?_ | ((first | refine vr_ ?_ | fail) <;> (try simp only [hp, go_sem, ↓reduceIte])) | ((first | (refine cs_ ?_ ?_ <;> intro hc) | refine cj_ ?_ | fail | refine qa (qj _ _) fun _ => ?_ | refine qg (qj _ _) ?_) <;> (try refine ev_ ?_)) | with_reducible exact ti_)
   simp [fixW, hp]
 | true =>
   have hl := qyr hp
   repeat' (first | refine vs_ ?_ | ((first | refine vr_ ?_ | fail) <;> (try simp only [hp, go_sem, ↓reduceIte])) | ((first | (refine cs_ ?_ ?_ <;> intro hc) | refine cj_ ?_ | fail | refine qa (qj _ _) fun _ => ?_ | refine qa (qgr _) fun _ => ?_ | refine qa (qgw _) fun _ => ?_ | refine qg (qj _ _) ?_ | refine qg (qgr _) ?_ | refine qg (qgw _) ?_) <;> (try refine ev_ ?_)) | with_reducible exact ti_)
   all_goals simp_all [fixW]
theorem qp7 (s : List UInt8) : qn Tryz.prog 68 [.str s] (.bool (fixW s)) := by
 refine qf c0cd (by simp) (by simp only [go_sem]) rfl fun hw => ?_
 cases s with
 | nil =>
   repeat' (first | refine vs_ ?_ | ((first | refine vr_ ?_ | (refine cs_ ?_ ?_ <;> intro hc) | refine cj_ ?_ | simp (disch := omega) only [encs_getN, qb]) <;> (try refine ev_ ?_)) | with_reducible exact ti_)
   all_goals first | (exact absurd rfl (by assumption)) | (simp [fixW, pfx])
 | cons c r =>
   have hp : pfx [33] (c :: r) = decide ((c.toNat : Int) = 33) := by
    have : (c = 33) = ((c.toNat : Int) = 33) := by
     have h3 : c = 33 ↔ c.toNat = (33 : UInt8).toNat := UInt8.toNat_inj.symm
     have h4 : (33 : UInt8).toNat = 33 := rfl
     rw [h4] at h3
     exact propext (h3.trans (by omega))
    simp [pfx, this]
   repeat' (first | refine vs_ ?_ | ((first | refine vr_ ?_ | refine qa (ql0 _) fun _ => ?_ | refine qa (qk7 _) fun _ => ?_ | refine qg (ql0 _) ?_ | refine qg (qk7 _) ?_ | (refine cs_ ?_ ?_ <;> intro hc) | refine cj_ ?_ | simp (disch := omega) only [encs_getN, qb]) <;> (try refine ev_ ?_)) | with_reducible exact ti_)
   all_goals simp_all [fixW]
def mayW (c : List UInt8) (v n : Int) : Bool :=
 if c = [] then decide (n = 0) else if c = arrW then decide (v = 0) && decide (n = 2) else if fixW c = true then decide (v = 0) && decide (n = 0) else decide (v = 0) && conW c
theorem q1p (c : List UInt8) (v n : Int) : qn Tryz.prog 59 [.agg [.str c, .int .i64 v, .int .i64 n]] (.bool (mayW c v n)) := by
 refine qf c0ce (by simp) (by simp only [go_sem]) rfl fun hw => ?_
 repeat' (first | refine vs_ ?_ | ((first | refine vr_ ?_ | refine qa (qql _) fun _ => ?_ | refine qa (qv9 _) fun _ => ?_ | (refine cs_ ?_ ?_ <;> intro hc) | refine cj_ ?_ | fail) <;> (try refine ev_ ?_)) | with_reducible exact ti_)
 all_goals simp_all [mayW, arrW]
abbrev mayY (t : Ty) : Bool := mayW t.con t.var t.args.length

/-! the walk -/
section
variable {S : Type}
mutual
def qb9 (step : S → Ty → Int → S × Bool) : Ty → S → Int → S × Bool
 | .mk c v l, s, k => if (step s (.mk c v l) k).2 = true then qbl step l (step s (.mk c v l) k).1 (IntKind.i64.wrap (k + 1)) else ((step s (.mk c v l) k).1, false)
def qbl (step : S → Ty → Int → S × Bool) : List Ty → S → Int → S × Bool
 | [], s, _ => (s, true)
 | x :: r, s, k => if (qb9 step x s k).2 = true then qbl step r (qb9 step x s k).1 k else ((qb9 step x s k).1, false)
end
theorem qsv (step : S → Ty → Int → S × Bool) (t : Ty) (s : S) (k : Int) : qb9 step t s k = if (step s t k).2 = true then qbl step t.args (step s t k).1 (IntKind.i64.wrap (k + 1)) else ((step s t k).1, false) := by
 cases t; rw [qb9]; rfl
theorem qi6 (step : S → Ty → Int → S × Bool) {l : List Ty} {i : Nat} (h : i < l.length) (s : S) (k : Int) :
 qbl step (l.drop i) s k = if (qb9 step (l.getD i Y0) s k).2 = true then qbl step (l.drop (i + 1)) (qb9 step (l.getD i Y0) s k).1 k else ((qb9 step (l.getD i Y0) s k).1, false) := by
 rw [qhn h, qbl]
theorem quw (step : S → Ty → Int → S × Bool) {l : List Ty} {i : Nat} (h : l.length ≤ i) (s : S) (k : Int) : qbl step (l.drop i) s k = (s, true) := by
 rw [List.drop_of_length_le h, qbl]
end
section
variable {S : Type} {step : S → Ty → Int → S × Bool} {ok : Nat → S → Prop}
theorem qwf (h2 : ∀ n s, ok (n + 1) s → ok n s) : ∀ (d n : Nat) (s : S), ok (n + d) s → ok n s
 | 0, n, s, h => h
 | d + 1, n, s, h => qwf h2 d n s (h2 _ _ h)
mutual
theorem qxk (h1 : ∀ n s t k, ok (n + 1) s → ok n (step s t k).1) (h2 : ∀ n s, ok (n + 1) s → ok n s) : ∀ (t : Ty) (s : S) (k : Int) (m : Nat), ok (szY t + m) s → ok m (qb9 step t s k).1
 | .mk c v l, s, k, m, h => by
   rw [szY, show 1 + szYs l + m = szYs l + m + 1 by omega] at h
   have h3 := h1 _ s (.mk c v l) k h
   rw [qb9]
   split
   ·exact qs3 h1 h2 l _ _ m h3
   ·exact qwf h2 (szYs l) m _ (by rw [Nat.add_comm]; exact h3)
theorem qs3 (h1 : ∀ n s t k, ok (n + 1) s → ok n (step s t k).1) (h2 : ∀ n s, ok (n + 1) s → ok n s) : ∀ (l : List Ty) (s : S) (k : Int) (m : Nat), ok (szYs l + m) s → ok m (qbl step l s k).1
 | [], s, k, m, h => by rw [qbl]; rw [szYs, Nat.zero_add] at h; exact h
 | x :: r, s, k, m, h => by
   rw [szYs, Nat.add_assoc] at h
   have h3 := qxk h1 h2 x s k _ h
   rw [qbl]
   split
   ·exact qs3 h1 h2 r _ _ m h3
   ·exact qwf h2 (szYs r) m _ (by rw [Nat.add_comm]; exact h3)
end
end
section
variable {S : Type}
variable {f : FuncId} {st : S → Ent} {step : S → Ty → Int → S × Bool} {ok : Nat → S → Prop} (hb : ∀ s, (st s).bd 0 = true) (h1 : ∀ n s t k, ok (n + 1) s → ok n (step s t k).1) (h2 : ∀ n s, ok (n + 1) s → ok n s)
 (hs : ∀ s t k, ok 1 s → VM Tryz.prog f (st s) (st (step s t k).1) [encY t, .int .i64 k, .ptr 0 0] (.bool (step s t k).2))
include hb h1 h2 hs
theorem qhs : ∀ t s k, ok (szY t) s → VM Tryz.prog 56 (st s) (st (qb9 step t s k).1) [encY t, .int .i64 k, .fn f [] [.ptr 0 0]] (.bool (qb9 step t s k).2) := by
 refine Ty.ind fun t ih s k hok => ?_
 have hb1 : ∀ s k, (st s).bd k = true := fun s k => Ent.bd_le (Nat.zero_le _) _ (hb s)
 have hbr : ∀ s σ, (st s).ren σ = st s := fun s σ => Ent.ren_bd0 (hb s)
 refine qi8 (by kernel_rfl) fun hw => ?_
 have hk := qct hw.1
 have hok1 : ok 1 s := qwf h2 (szYs t.args) 1 s (by rw [← qge]; exact hok)
 have hok2 : ok (szYs t.args) (step s t k).1 := h1 _ _ _ _ (by rw [Nat.add_comm, ← qge]; exact hok)
 refine qe c0cf 1 (by simp) (by simp) ?_
 repeat' (first | refine vs_ ?_ | ((first | refine vr_ ?_ | fail) <;> (try simp only [hb1, hbr, go_sem, ↓reduceIte])) | ((first | (refine cs_ ?_ ?_ <;> intro hc) | refine cj_ ?_ | simp (disch := omega) only [encs_getN, qb] | refine qbp 0 (hs _ _ _ hok1) ?_ (hb _) (hb _)) <;> (try refine ev_ ?_)) | with_reducible exact ti_)
 ·rw [qsv, if_neg (by rw [hc]; simp)]; exact ⟨hb1 _ _, rfl, rfl⟩
 have hw0 := qsv step t s k
 rw [if_pos hc] at hw0
 generalize qb9 step t s k = tg at hw0 ⊢
 generalize hk1 : IntKind.i64.wrap (k + 1) = k1 at hw0
 refine qp (S := Nat × S) (fun x => x.1 ≤ t.args.length ∧ qbl step (t.args.drop x.1) x.2 k1 = tg ∧ ok (szYs (t.args.drop x.1)) x.2) (fun x => (⟨[(1, .int .i64 k), (2, .fn f [] [.ptr 0 0]), (15, .sl 3 (qq t.args)), (16, .int .i64 t.args.length), (17, .int .i64 x.1)], []⟩, [st x.2])) (fun x => t.args.length - x.1) ?_ fun x hx => ?_
 ·refine q52 (0, (step s t k).1) [.blk (yc t)] ⟨Nat.zero_le _, hw0.symm, hok2⟩ (Nat.le_refl _) rfl (by simp only [List.all_cons, List.all_nil, hb1, Bool.and_true]) ?_ rfl rfl <;> (try refine ev_ ?_) <;> (try with_reducible exact ti_) <;> (try simp (disch := omega) only [qb, and_true, true_and])
 ·obtain ⟨i, s1⟩ := x
  obtain ⟨hi, hx, hok3⟩ := hx
  dsimp only at hi hx hok3
  have hok4 : i < t.args.length → ok (szY (t.args.getD i Y0) + szYs (t.args.drop (i + 1))) s1 := fun h => by rw [qhn h, szYs] at hok3; exact hok3
  have hok5 : i < t.args.length → ok (szY (t.args.getD i Y0)) s1 := fun h => qwf h2 _ _ _ (hok4 h)
  repeat' (first | refine vs_ ?_ | ((first | refine vr_ ?_ | fail) <;> (try simp (disch := first | omega | (simp only [List.length_set, List.length_append, List.length_cons, List.length_nil]; done) | (simp only [List.length_set, List.length_append, List.length_cons, List.length_nil]; omega)) only [hb1, hbr, q8, qb, hk1, go_sem, ↓reduceIte])) | ((first | (refine cs_ ?_ ?_ <;> intro hc) | refine cj_ ?_ | simp (disch := omega) only [encs_getN, qb] | refine qbp 0 (ih (t.args.getD i Y0) (qbs (by omega)) s1 k1 (hok5 (by omega))) ?_ (hb _) (hb _)) <;> (try refine ev_ ?_)) | with_reducible exact ti_)
  ·rw [qi6 step (by omega), if_neg (by rw [hc]; simp)] at hx
   subst hx
   exact ⟨hb1 _ _, rfl, rfl⟩
  ·rw [qi6 step (by omega), if_pos (by rw [hc])] at hx
   refine q52 (i + 1, (qb9 step (t.args.getD i Y0) s1 k1).1) [.blk (yc (t.args.getD i Y0))] ⟨⟨by dsimp only; omega, hx, qxk h1 h2 _ _ _ _ (hok4 (by omega))⟩, by dsimp only; omega⟩ (Nat.le_refl _) rfl (by simp only [List.all_cons, List.all_nil, hb1, Bool.and_true]) ?_ rfl rfl <;> (try refine ev_ ?_) <;> (try with_reducible exact ti_) <;> (try simp (disch := omega) only [qb, and_true, true_and])
  ·rw [quw step (by omega)] at hx
   subst hx
   exact ⟨hb1 _ _, rfl, rfl⟩
end
end Go.Proofs.YtlahgbhhejkgbaaGreat
