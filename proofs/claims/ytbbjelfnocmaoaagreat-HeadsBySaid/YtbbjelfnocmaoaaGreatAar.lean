/- A text of this proof. -/
import Derived.Test.YtbbjelfnocmaoaaGreatAap
import Derived.Test.YtbbjelfnocmaoaaGreatAaq

/- terms: heads, sameness, the walk over a term -/
set_option maxRecDepth 4000
namespace Go.Proofs.YtbbjelfnocmaoaaGreat
open Go Go.RowKit Go.V
set_option linter.unusedVariables false
set_option linter.unusedSimpArgs false

abbrev hdA (t : Ty) : AV := .agg [.str t.con, .int .i64 t.var, .int .i64 t.args.length]
theorem qbz {t : Ty} (hw : (encY t).wf) : t.args.length ≤ maxLen := ((qxc t).1 hw).1
attribute [go_sem] hdA
theorem qfj (t : Ty) : qg Tryz.prog 73 [encY t] (hdA t) := by
 refine qc c0bm (by simp) (by simp only [go_sem]) rfl fun hw => ?_
 have hk := qbz hw.1
 repeat' (first | refine vs_ ?_ | ((first | refine vr_ ?_ | (refine cs_ ?_ ?_ <;> intro hc) | refine cj_ ?_ | fail) <;> (try refine ev_ ?_)) | with_reducible exact ti_)
 all_goals (try rfl)
def hdEq (a b : Ty) : Bool := decide (a.con = b.con) && (decide (a.var = b.var) && decide ((a.args.length : Int) = b.args.length))
theorem qqh {a b : Ty} (h : hdEq a b = true) : a.con = b.con ∧ a.var = b.var ∧ a.args.length = b.args.length := by
 simp only [hdEq, Bool.and_eq_true, decide_eq_true_eq] at h
 exact ⟨h.1, h.2.1, by omega⟩
theorem qbfm {a b : Ty} (h : hdEq a b = false) : qgw a b = false := by
 cases hs : qgw a b with
 | false => rfl
 | true =>
   have := (qq8 a b).1 hs
   subst this
   simp [hdEq] at h
theorem qze {a b : Ty} {i : Nat} (h : hdEq a b = true) (ha : qbh (a.args.drop i) (b.args.drop i) = qbh a.args b.args) : qgw a b = qbh (a.args.drop i) (b.args.drop i) := by
 obtain ⟨h1, h2, h3⟩ := qqh h
 rw [ha, qew]; simp [h1, h2]
theorem qbg8 : ∀ a b, qg Tryz.prog 113 [encY a, encY b] (.bool (qgw a b)) := by
 refine Ty.ind fun a ih b => ?_
 refine qc c0bn (by simp) (by simp only [go_sem]) rfl fun hw => ?_
 have hkl := qbz hw.1
 have hkr := qbz hw.2.1
 repeat' (first | refine vs_ ?_ | ((first | refine vr_ ?_ | refine qa (qfj _) fun _ => ?_ | refine qe (qfj _) ?_ | (refine cs_ ?_ ?_ <;> intro hc) | refine cj_ ?_ | simp (disch := omega) only [encs_getN, qb]) <;> (try refine ev_ ?_)) | with_reducible exact ti_)
 ·rw [qbfm (by simpa [hdEq] using hc)]
 have hq : hdEq a b = true := by simpa [hdEq] using hc
 clear hc
 refine qm (S := Nat) (fun i => i ≤ a.args.length ∧ qbh (a.args.drop i) (b.args.drop i) = qbh a.args b.args) (fun i => (⟨[(2, .ptr 0 0), (3, .ptr 1 0), (13, .int .i64 a.args.length), (14, .int .i64 i)], []⟩, [.blk (yc a), .blk (yc b)])) (fun i => a.args.length - i) ?_ fun i hi => ?_
 ·refine qi 0 [0, 1] ⟨Nat.zero_le _, rfl⟩ rfl (by simp) ?_ ?_ ?_ <;> (try refine ev_ ?_) <;> (try with_reducible exact ti_) <;> (try simp (disch := omega) only [qb, and_true, true_and])
 ·obtain ⟨hi, ha⟩ := hi
  have hf := qze hq ha
  obtain ⟨q1, q2, q3⟩ := qqh hq
  repeat' (first | refine vs_ ?_ | ((first | refine vr_ ?_ | fail) <;> (try simp (disch := first | omega | (simp only [List.length_set, List.length_append, List.length_cons, List.length_nil]; done) | (simp only [List.length_set, List.length_append, List.length_cons, List.length_nil]; omega)) only [qq, qb, go_sem, ↓reduceIte])) | ((first | (refine cs_ ?_ ?_ <;> intro hc) | refine cj_ ?_ | simp (disch := omega) only [encs_getN, qb] | refine qa (ih _ (q6 (by omega)) _) fun _ => ?_ | refine qe (ih _ (q6 (by omega)) _) ?_) <;> (try refine ev_ ?_)) | with_reducible exact ti_)
  ·rw [hf, qdw (by omega) (by omega), hc]; rfl
  ·refine qi (i + 1) [0, 1] ⟨⟨by omega, ?_⟩, by omega⟩ rfl (by simp) ?_ ?_ ?_ <;> (try refine ev_ ?_) <;> (try with_reducible exact ti_) <;> (try simp (disch := omega) only [qb, and_true, true_and])
   rw [← ha, qdw (l := a.args) (l' := b.args) (i := i) (by omega) (by omega), hc, Bool.true_and]
  ·rw [hf, qkq (by omega) (by omega)]
theorem q0u {a b : Ty} {i : Nat} (h1 : a.con = b.con) (h2 : a.var = b.var) (ha : qbh (a.args.drop i) (b.args.drop i) = qbh a.args b.args) : qgw a b = qbh (a.args.drop i) (b.args.drop i) := by
 rw [ha, qew]; simp [h1, h2]
theorem qsp : ∀ a b, qg Tryz.prog 61 [encY a, encY b] (.bool (qgw a b)) := by
 refine Ty.ind fun a ih b => ?_
 refine qc c0bo (by simp) (by simp only [go_sem]) rfl fun hw => ?_
 have hkl := qbz hw.1
 have hkr := qbz hw.2.1
 repeat' (first | refine vs_ ?_ | ((first | refine vr_ ?_ | (refine cs_ ?_ ?_ <;> intro hc) | refine cj_ ?_ | simp (disch := omega) only [encs_getN, qb]) <;> (try refine ev_ ?_)) | with_reducible exact ti_)
 ·rw [qew]; simp [*]
 ·rw [qew]; simp [*]
 ·rw [qew, qkt (by omega)]; simp
 rename_i h1 h2
 refine qm (S := Nat) (fun i => i ≤ a.args.length ∧ qbh (a.args.drop i) (b.args.drop i) = qbh a.args b.args) (fun i => (⟨[(2, .ptr 0 0), (3, .ptr 1 0), (5, .int .i64 i)], []⟩, [.blk (yc a), .blk (yc b)])) (fun i => a.args.length - i) ?_ fun i hi => ?_
 ·refine qi 0 [0, 1] ⟨Nat.zero_le _, rfl⟩ rfl (by simp) ?_ ?_ ?_ <;> (try refine ev_ ?_) <;> (try with_reducible exact ti_) <;> (try simp (disch := omega) only [qb, and_true, true_and])
 ·obtain ⟨hi, ha⟩ := hi
  have hf := q0u h1 h2 ha
  repeat' (first | refine vs_ ?_ | ((first | refine vr_ ?_ | fail) <;> (try simp (disch := first | omega | (simp only [List.length_set, List.length_append, List.length_cons, List.length_nil]; done) | (simp only [List.length_set, List.length_append, List.length_cons, List.length_nil]; omega)) only [qq, qb, go_sem, ↓reduceIte])) | ((first | (refine cs_ ?_ ?_ <;> intro hc) | refine cj_ ?_ | simp (disch := omega) only [encs_getN, qb] | refine qa (ih _ (q6 (by omega)) _) fun _ => ?_ | refine qe (ih _ (q6 (by omega)) _) ?_) <;> (try refine ev_ ?_)) | with_reducible exact ti_)
  ·rw [hf, qdw (by omega) (by omega), hc]; rfl
  ·refine qi (i + 1) [0, 1] ⟨⟨by omega, ?_⟩, by omega⟩ rfl (by simp) ?_ ?_ ?_ <;> (try refine ev_ ?_) <;> (try with_reducible exact ti_) <;> (try simp (disch := omega) only [qb, and_true, true_and])
   rw [← ha, qdw (l := a.args) (l' := b.args) (i := i) (by omega) (by omega), hc, Bool.true_and]
  ·rw [hf, qkq (by omega) (by omega)]
/-! heads -/
attribute [go_sem] q2h
def fixW (s : List UInt8) : Bool := pfx [33] s && (decide ((qd7 (s.drop 1)).2 = 0) && decide (digI (qd7 (s.drop 1)).1 = s.drop 1))
theorem qwu {c : UInt8} {s : List UInt8} (h : pfx [c] s = true) : 1 ≤ s.length := by
 cases s with
 | nil => simp [pfx] at h
 | cons d r => simp
theorem qoo (s : List UInt8) : qg Tryz.prog 100 [.str s] (.bool (fixW s)) := by
 refine qc c0bp (by simp) (by simp only [go_sem]) rfl fun hw => ?_
 cases hp : pfx [33] s with
 | false =>
   repeat' (first | refine vs_ ?_ | ((first | refine vr_ ?_ | fail) <;> (try simp only [hp, go_sem, ↓reduceIte])) | ((first | (refine cs_ ?_ ?_ <;> intro hc) | refine cj_ ?_ | fail | refine qa (qh _ _) fun _ => ?_ | refine qe (qh _ _) ?_) <;> (try refine ev_ ?_)) | with_reducible exact ti_)
   simp [fixW, hp]
 | true =>
   have hl := qwu hp
   repeat' (first | refine vs_ ?_ | ((first | refine vr_ ?_ | fail) <;> (try simp only [hp, go_sem, ↓reduceIte])) | ((first | (refine cs_ ?_ ?_ <;> intro hc) | refine cj_ ?_ | fail | refine qa (qh _ _) fun _ => ?_ | refine qa (qf7 _) fun _ => ?_ | refine qa (qfn _) fun _ => ?_ | refine qe (qh _ _) ?_ | refine qe (qf7 _) ?_ | refine qe (qfn _) ?_) <;> (try refine ev_ ?_)) | with_reducible exact ti_)
   all_goals simp_all [fixW]
theorem qn6 (s : List UInt8) : qg Tryz.prog 62 [.str s] (.bool (fixW s)) := by
 refine qc c0bq (by simp) (by simp only [go_sem]) rfl fun hw => ?_
 cases s with
 | nil =>
   repeat' (first | refine vs_ ?_ | ((first | refine vr_ ?_ | (refine cs_ ?_ ?_ <;> intro hc) | refine cj_ ?_ | simp (disch := omega) only [encs_getN, qb]) <;> (try refine ev_ ?_)) | with_reducible exact ti_)
   all_goals first | (exact absurd rfl (by assumption)) | (simp [fixW, pfx])
 | cons c r =>
   have hp : pfx [33] (c :: r) = decide ((c.toNat : Int) = 33) := by
    have : (c = 33) = ((c.toNat : Int) = 33) := by
     have h3 : c = 33 ↔ c.toNat = (33 : UInt8).toNat := UInt8.toNat_inj.symm
     have h4 : (33 : UInt8).toNat = 33 := rfl
     rw [h4] at h3
     exact propext (h3.trans (by omega))
    simp [pfx, this]
   repeat' (first | refine vs_ ?_ | ((first | refine vr_ ?_ | refine qa (qka _) fun _ => ?_ | refine qa (qkf _) fun _ => ?_ | refine qe (qka _) ?_ | refine qe (qkf _) ?_ | (refine cs_ ?_ ?_ <;> intro hc) | refine cj_ ?_ | simp (disch := omega) only [encs_getN, qb]) <;> (try refine ev_ ?_)) | with_reducible exact ti_)
   all_goals simp_all [fixW]
def mayW (c : List UInt8) (v n : Int) : Bool :=
 if c = [] then decide (n = 0) else if c = arrW then decide (v = 0) && decide (n = 2) else if fixW c = true then decide (v = 0) && decide (n = 0) else decide (v = 0) && conW c
theorem q0p (c : List UInt8) (v n : Int) : qg Tryz.prog 74 [.agg [.str c, .int .i64 v, .int .i64 n]] (.bool (mayW c v n)) := by
 refine qc c0br (by simp) (by simp only [go_sem]) rfl fun hw => ?_
 repeat' (first | refine vs_ ?_ | ((first | refine vr_ ?_ | refine qa (qoo _) fun _ => ?_ | refine qa (qf8 _) fun _ => ?_ | (refine cs_ ?_ ?_ <;> intro hc) | refine cj_ ?_ | fail) <;> (try refine ev_ ?_)) | with_reducible exact ti_)
 all_goals simp_all [mayW, arrW]
abbrev mayY (t : Ty) : Bool := mayW t.con t.var t.args.length

/-! the walk -/
section
variable {S : Type}
mutual
def qcg (step : S → Ty → Int → S × Bool) : Ty → S → Int → S × Bool
 | .mk c v l, s, k => if (step s (.mk c v l) k).2 = true then qbs step l (step s (.mk c v l) k).1 (IntKind.i64.wrap (k + 1)) else ((step s (.mk c v l) k).1, false)
def qbs (step : S → Ty → Int → S × Bool) : List Ty → S → Int → S × Bool
 | [], s, _ => (s, true)
 | x :: r, s, k => if (qcg step x s k).2 = true then qbs step r (qcg step x s k).1 k else ((qcg step x s k).1, false)
end
theorem qqs (step : S → Ty → Int → S × Bool) (t : Ty) (s : S) (k : Int) : qcg step t s k = if (step s t k).2 = true then qbs step t.args (step s t k).1 (IntKind.i64.wrap (k + 1)) else ((step s t k).1, false) := by
 cases t; rw [qcg]; rfl
theorem qid (step : S → Ty → Int → S × Bool) {l : List Ty} {i : Nat} (h : i < l.length) (s : S) (k : Int) :
 qbs step (l.drop i) s k = if (qcg step (l.getD i Y0) s k).2 = true then qbs step (l.drop (i + 1)) (qcg step (l.getD i Y0) s k).1 k else ((qcg step (l.getD i Y0) s k).1, false) := by
 rw [ql2 h, qbs]
theorem qtd (step : S → Ty → Int → S × Bool) {l : List Ty} {i : Nat} (h : l.length ≤ i) (s : S) (k : Int) : qbs step (l.drop i) s k = (s, true) := by
 rw [List.drop_of_length_le h, qbs]
end
section
variable {S : Type} {step : S → Ty → Int → S × Bool} {ok : Nat → S → Prop}
theorem qwn (h2 : ∀ n s, ok (n + 1) s → ok n s) : ∀ (d n : Nat) (s : S), ok (n + d) s → ok n s
 | 0, n, s, h => h
 | d + 1, n, s, h => qwn h2 d n s (h2 _ _ h)
mutual
theorem qxt (h1 : ∀ n s t k, ok (n + 1) s → ok n (step s t k).1) (h2 : ∀ n s, ok (n + 1) s → ok n s) : ∀ (t : Ty) (s : S) (k : Int) (m : Nat), ok (szY t + m) s → ok m (qcg step t s k).1
 | .mk c v l, s, k, m, h => by
   rw [szY, show 1 + szYs l + m = szYs l + m + 1 by omega] at h
   have h3 := h1 _ s (.mk c v l) k h
   rw [qcg]
   split
   ·exact qq9 h1 h2 l _ _ m h3
   ·exact qwn h2 (szYs l) m _ (by rw [Nat.add_comm]; exact h3)
theorem qq9 (h1 : ∀ n s t k, ok (n + 1) s → ok n (step s t k).1) (h2 : ∀ n s, ok (n + 1) s → ok n s) : ∀ (l : List Ty) (s : S) (k : Int) (m : Nat), ok (szYs l + m) s → ok m (qbs step l s k).1
 | [], s, k, m, h => by rw [qbs]; rw [szYs, Nat.zero_add] at h; exact h
 | x :: r, s, k, m, h => by
   rw [szYs, Nat.add_assoc] at h
   have h3 := qxt h1 h2 x s k _ h
   rw [qbs]
   split
   ·exact qq9 h1 h2 r _ _ m h3
   ·exact qwn h2 (szYs r) m _ (by rw [Nat.add_comm]; exact h3)
end
end
section
variable {S : Type}
variable {f : FuncId} {st : S → Ent} {step : S → Ty → Int → S × Bool} {ok : Nat → S → Prop} (hb : ∀ s, (st s).bd 0 = true) (h1 : ∀ n s t k, ok (n + 1) s → ok n (step s t k).1) (h2 : ∀ n s, ok (n + 1) s → ok n s)
 (hs : ∀ s t k, ok 1 s → VM Tryz.prog f (st s) (st (step s t k).1) [encY t, .int .i64 k, .ptr 0 0] (.bool (step s t k).2))
include hb h1 h2 hs
theorem qtc : ∀ t s k, ok (szY t) s → VM Tryz.prog 71 (st s) (st (qcg step t s k).1) [encY t, .int .i64 k, .fn f [] [.ptr 0 0]] (.bool (qcg step t s k).2) := by
 refine Ty.ind fun t ih s k hok => ?_
 have hb1 : ∀ s k, (st s).bd k = true := fun s k => Ent.bd_le (Nat.zero_le _) _ (hb s)
 have hbr : ∀ s σ, (st s).ren σ = st s := fun s σ => Ent.ren_bd0 (hb s)
 refine qiu (by kernel_rfl) fun hw => ?_
 have hk := qbz hw.1
 have hok1 : ok 1 s := qwn h2 (szYs t.args) 1 s (by rw [← qd6]; exact hok)
 have hok2 : ok (szYs t.args) (step s t k).1 := h1 _ _ _ _ (by rw [Nat.add_comm, ← qd6]; exact hok)
 refine qp c0bs 1 (by simp) (by simp) ?_
 repeat' (first | refine vs_ ?_ | ((first | refine vr_ ?_ | fail) <;> (try simp only [hb1, hbr, go_sem, ↓reduceIte])) | ((first | (refine cs_ ?_ ?_ <;> intro hc) | refine cj_ ?_ | simp (disch := omega) only [encs_getN, qb] | refine qb4 0 (hs _ _ _ hok1) ?_ (hb _) (hb _)) <;> (try refine ev_ ?_)) | with_reducible exact ti_)
 ·rw [qqs, if_neg (by rw [hc]; simp)]; exact ⟨hb1 _ _, rfl, rfl⟩
 have hw0 := qqs step t s k
 rw [if_pos hc] at hw0
 generalize qcg step t s k = tg at hw0 ⊢
 generalize hk1 : IntKind.i64.wrap (k + 1) = k1 at hw0
 refine qm (S := Nat × S) (fun x => x.1 ≤ t.args.length ∧ qbs step (t.args.drop x.1) x.2 k1 = tg ∧ ok (szYs (t.args.drop x.1)) x.2) (fun x => (⟨[(1, .int .i64 k), (2, .fn f [] [.ptr 0 0]), (15, .sl 3 (ql t.args)), (16, .int .i64 t.args.length), (17, .int .i64 x.1)], []⟩, [st x.2])) (fun x => t.args.length - x.1) ?_ fun x hx => ?_
 ·refine q3f (0, (step s t k).1) [.blk (yc t)] ⟨Nat.zero_le _, hw0.symm, hok2⟩ (Nat.le_refl _) rfl (by simp only [List.all_cons, List.all_nil, hb1, Bool.and_true]) ?_ rfl rfl <;> (try refine ev_ ?_) <;> (try with_reducible exact ti_) <;> (try simp (disch := omega) only [qb, and_true, true_and])
 ·obtain ⟨i, s1⟩ := x
  obtain ⟨hi, hx, hok3⟩ := hx
  dsimp only at hi hx hok3
  have hok4 : i < t.args.length → ok (szY (t.args.getD i Y0) + szYs (t.args.drop (i + 1))) s1 := fun h => by rw [ql2 h, szYs] at hok3; exact hok3
  have hok5 : i < t.args.length → ok (szY (t.args.getD i Y0)) s1 := fun h => qwn h2 _ _ _ (hok4 h)
  repeat' (first | refine vs_ ?_ | ((first | refine vr_ ?_ | fail) <;> (try simp (disch := first | omega | (simp only [List.length_set, List.length_append, List.length_cons, List.length_nil]; done) | (simp only [List.length_set, List.length_append, List.length_cons, List.length_nil]; omega)) only [hb1, hbr, qq, qb, hk1, go_sem, ↓reduceIte])) | ((first | (refine cs_ ?_ ?_ <;> intro hc) | refine cj_ ?_ | simp (disch := omega) only [encs_getN, qb] | refine qb4 0 (ih (t.args.getD i Y0) (q6 (by omega)) s1 k1 (hok5 (by omega))) ?_ (hb _) (hb _)) <;> (try refine ev_ ?_)) | with_reducible exact ti_)
  ·rw [qid step (by omega), if_neg (by rw [hc]; simp)] at hx
   subst hx
   exact ⟨hb1 _ _, rfl, rfl⟩
  ·rw [qid step (by omega), if_pos (by rw [hc])] at hx
   refine q3f (i + 1, (qcg step (t.args.getD i Y0) s1 k1).1) [.blk (yc (t.args.getD i Y0))] ⟨⟨by dsimp only; omega, hx, qxt h1 h2 _ _ _ _ (hok4 (by omega))⟩, by dsimp only; omega⟩ (Nat.le_refl _) rfl (by simp only [List.all_cons, List.all_nil, hb1, Bool.and_true]) ?_ rfl rfl <;> (try refine ev_ ?_) <;> (try with_reducible exact ti_) <;> (try simp (disch := omega) only [qb, and_true, true_and])
  ·rw [qtd step (by omega)] at hx
   subst hx
   exact ⟨hb1 _ _, rfl, rfl⟩
end
end Go.Proofs.YtbbjelfnocmaoaaGreat
