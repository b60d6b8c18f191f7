/- A text of this proof. -/
import Derived.Test.YtbbjelfnocmaoaaAao
import Derived.Test.YtbbjelfnocmaoaaAap
import Derived.Test.YtbbjelfnocmaoaaAaq

/- terms: heads, sameness, the walk over a term -/
set_option maxRecDepth 4000
namespace Go.Proofs.Ytbbjelfnocmaoaa
open Go Go.RowKit Go.V
set_option linter.unusedVariables false
set_option linter.unusedSimpArgs false

abbrev hdA (t : Ty) : AV := .agg [.str t.con, .int .i64 t.var, .int .i64 t.args.length]
theorem qf5 {t : Ty} (hw : (encY t).wf) : t.args.length ≤ maxLen := ((qvf t).1 hw).1
attribute [go_sem] hdA
theorem qj5 (t : Ty) : qk Try.prog 41 [encY t] (hdA t) := by
 refine qf c0bf (by simp) (by simp only [go_sem]) rfl fun hw => ?_
 have hk := qf5 hw.1
 repeat' (first | refine vs_ ?_ | ((first | refine vr_ ?_ | (refine cs_ ?_ ?_ <;> intro hc) | refine cj_ ?_ | fail) <;> (try refine ev_ ?_)) | with_reducible exact ti_)
 all_goals (try rfl)
/-! heads -/
attribute [go_sem] q40
def fixW (s : List UInt8) : Bool := pfx [33] s && (decide ((qeh (s.drop 1)).2 = 0) && decide (digI (qeh (s.drop 1)).1 = s.drop 1))
theorem qub {c : UInt8} {s : List UInt8} (h : pfx [c] s = true) : 1 ≤ s.length := by
 cases s with
 | nil => simp [pfx] at h
 | cons d r => simp
theorem qm6 (s : List UInt8) : qk Try.prog 57 [.str s] (.bool (fixW s)) := by
 refine qf c0bg (by simp) (by simp only [go_sem]) rfl fun hw => ?_
 cases hp : pfx [33] s with
 | false =>
   repeat' (first | refine vs_ ?_ | ((first | refine vr_ ?_ | fail) <;> (try simp only [hp, go_sem, ↓reduceIte])) | ((first | (refine cs_ ?_ ?_ <;> intro hc) | refine cj_ ?_ | fail | refine qa (qe _ _) fun _ => ?_ | refine qg (qe _ _) ?_) <;> (try refine ev_ ?_)) | with_reducible exact ti_)
   simp [fixW, hp]
 | true =>
   have hl := qub hp
   repeat' (first | refine vs_ ?_ | ((first | refine vr_ ?_ | fail) <;> (try simp only [hp, go_sem, ↓reduceIte])) | ((first | (refine cs_ ?_ ?_ <;> intro hc) | refine cj_ ?_ | fail | refine qa (qe _ _) fun _ => ?_ | refine qa (qe0 _) fun _ => ?_ | refine qa (qfe _) fun _ => ?_ | refine qg (qe _ _) ?_ | refine qg (qe0 _) ?_ | refine qg (qfe _) ?_) <;> (try refine ev_ ?_)) | with_reducible exact ti_)
   all_goals simp_all [fixW]
def mayW (c : List UInt8) (v n : Int) : Bool :=
 if c = [] then decide (n = 0) else if c = arrW then decide (v = 0) && decide (n = 2) else if fixW c = true then decide (v = 0) && decide (n = 0) else decide (v = 0) && conW c
theorem qys (c : List UInt8) (v n : Int) : qk Try.prog 42 [.agg [.str c, .int .i64 v, .int .i64 n]] (.bool (mayW c v n)) := by
 refine qf c0bh (by simp) (by simp only [go_sem]) rfl fun hw => ?_
 repeat' (first | refine vs_ ?_ | ((first | refine vr_ ?_ | refine qa (qm6 _) fun _ => ?_ | refine qa (qfb _) fun _ => ?_ | (refine cs_ ?_ ?_ <;> intro hc) | refine cj_ ?_ | fail) <;> (try refine ev_ ?_)) | with_reducible exact ti_)
 all_goals simp_all [mayW, arrW]
abbrev mayY (t : Ty) : Bool := mayW t.con t.var t.args.length

/-! the walk -/
section
variable {S : Type}
mutual
def qbz (step : S → Ty → Int → S × Bool) : Ty → S → Int → S × Bool
 | .mk c v l, s, k => if (step s (.mk c v l) k).2 = true then qbg step l (step s (.mk c v l) k).1 (IntKind.i64.wrap (k + 1)) else ((step s (.mk c v l) k).1, false)
def qbg (step : S → Ty → Int → S × Bool) : List Ty → S → Int → S × Bool
 | [], s, _ => (s, true)
 | x :: r, s, k => if (qbz step x s k).2 = true then qbg step r (qbz step x s k).1 k else ((qbz step x s k).1, false)
end
theorem qpp (step : S → Ty → Int → S × Bool) (t : Ty) (s : S) (k : Int) : qbz step t s k = if (step s t k).2 = true then qbg step t.args (step s t k).1 (IntKind.i64.wrap (k + 1)) else ((step s t k).1, false) := by
 cases t; rw [qbz]; rfl
theorem qg3 (step : S → Ty → Int → S × Bool) {l : List Ty} {i : Nat} (h : i < l.length) (s : S) (k : Int) :
 qbg step (l.drop i) s k = if (qbz step (l.getD i Y0) s k).2 = true then qbg step (l.drop (i + 1)) (qbz step (l.getD i Y0) s k).1 k else ((qbz step (l.getD i Y0) s k).1, false) := by
 rw [qyg h, qbg]
theorem qqu (step : S → Ty → Int → S × Bool) {l : List Ty} {i : Nat} (h : l.length ≤ i) (s : S) (k : Int) : qbg step (l.drop i) s k = (s, true) := by
 rw [List.drop_of_length_le h, qbg]
end
section
variable {S : Type} {step : S → Ty → Int → S × Bool} {ok : Nat → S → Prop}
theorem qsd (h2 : ∀ n s, ok (n + 1) s → ok n s) : ∀ (d n : Nat) (s : S), ok (n + d) s → ok n s
 | 0, n, s, h => h
 | d + 1, n, s, h => qsd h2 d n s (h2 _ _ h)
mutual
theorem qs1 (h1 : ∀ n s t k, ok (n + 1) s → ok n (step s t k).1) (h2 : ∀ n s, ok (n + 1) s → ok n s) : ∀ (t : Ty) (s : S) (k : Int) (m : Nat), ok (szY t + m) s → ok m (qbz step t s k).1
 | .mk c v l, s, k, m, h => by
   rw [szY, show 1 + szYs l + m = szYs l + m + 1 by omega] at h
   have h3 := h1 _ s (.mk c v l) k h
   rw [qbz]
   split
   ·exact qpn h1 h2 l _ _ m h3
   ·exact qsd h2 (szYs l) m _ (by rw [Nat.add_comm]; exact h3)
theorem qpn (h1 : ∀ n s t k, ok (n + 1) s → ok n (step s t k).1) (h2 : ∀ n s, ok (n + 1) s → ok n s) : ∀ (l : List Ty) (s : S) (k : Int) (m : Nat), ok (szYs l + m) s → ok m (qbg step l s k).1
 | [], s, k, m, h => by rw [qbg]; rw [szYs, Nat.zero_add] at h; exact h
 | x :: r, s, k, m, h => by
   rw [szYs, Nat.add_assoc] at h
   have h3 := qs1 h1 h2 x s k _ h
   rw [qbg]
   split
   ·exact qpn h1 h2 r _ _ m h3
   ·exact qsd h2 (szYs r) m _ (by rw [Nat.add_comm]; exact h3)
end
end
section
variable {S : Type}
variable {f : FuncId} {st : S → Ent} {step : S → Ty → Int → S × Bool} {ok : Nat → S → Prop} (hb : ∀ s, (st s).bd 0 = true) (h1 : ∀ n s t k, ok (n + 1) s → ok n (step s t k).1) (h2 : ∀ n s, ok (n + 1) s → ok n s)
 (hs : ∀ s t k, ok 1 s → VM Try.prog f (st s) (st (step s t k).1) [encY t, .int .i64 k, .ptr 0 0] (.bool (step s t k).2))
include hb h1 h2 hs
theorem qqs : ∀ t s k, ok (szY t) s → VM Try.prog 39 (st s) (st (qbz step t s k).1) [encY t, .int .i64 k, .fn f [] [.ptr 0 0]] (.bool (qbz step t s k).2) := by
 refine Ty.ind fun t ih s k hok => ?_
 have hb1 : ∀ s k, (st s).bd k = true := fun s k => Ent.bd_le (Nat.zero_le _) _ (hb s)
 have hbr : ∀ s σ, (st s).ren σ = st s := fun s σ => Ent.ren_bd0 (hb s)
 refine qhm (by kernel_rfl) fun hw => ?_
 have hk := qf5 hw.1
 have hok1 : ok 1 s := qsd h2 (szYs t.args) 1 s (by rw [← qhf]; exact hok)
 have hok2 : ok (szYs t.args) (step s t k).1 := h1 _ _ _ _ (by rw [Nat.add_comm, ← qhf]; exact hok)
 refine qn c0bi 1 (by simp) (by simp) ?_
 repeat' (first | refine vs_ ?_ | ((first | refine vr_ ?_ | fail) <;> (try simp only [hb1, hbr, go_sem, ↓reduceIte])) | ((first | (refine cs_ ?_ ?_ <;> intro hc) | refine cj_ ?_ | simp (disch := omega) only [encs_getN, qb] | refine qbr 0 (hs _ _ _ hok1) ?_ (hb _) (hb _)) <;> (try refine ev_ ?_)) | with_reducible exact ti_)
 ·rw [qpp, if_neg (by rw [hc]; simp)]; exact ⟨hb1 _ _, rfl, rfl⟩
 have hw0 := qpp step t s k
 rw [if_pos hc] at hw0
 generalize qbz step t s k = tg at hw0 ⊢
 generalize hk1 : IntKind.i64.wrap (k + 1) = k1 at hw0
 refine qz (S := Nat × S) (fun x => x.1 ≤ t.args.length ∧ qbg step (t.args.drop x.1) x.2 k1 = tg ∧ ok (szYs (t.args.drop x.1)) x.2) (fun x => (⟨[(1, .int .i64 k), (2, .fn f [] [.ptr 0 0]), (15, .sl 3 (ql t.args)), (16, .int .i64 t.args.length), (17, .int .i64 x.1)], []⟩, [st x.2])) (fun x => t.args.length - x.1) ?_ fun x hx => ?_
 ·refine qz4 (0, (step s t k).1) [.blk (yc t)] ⟨Nat.zero_le _, hw0.symm, hok2⟩ (Nat.le_refl _) rfl (by simp only [List.all_cons, List.all_nil, hb1, Bool.and_true]) ?_ rfl rfl <;> (try refine ev_ ?_) <;> (try with_reducible exact ti_) <;> (try simp (disch := omega) only [qb, and_true, true_and])
 ·obtain ⟨i, s1⟩ := x
  obtain ⟨hi, hx, hok3⟩ := hx
  dsimp only at hi hx hok3
  have hok4 : i < t.args.length → ok (szY (t.args.getD i Y0) + szYs (t.args.drop (i + 1))) s1 := fun h => by rw [qyg h, szYs] at hok3; exact hok3
  have hok5 : i < t.args.length → ok (szY (t.args.getD i Y0)) s1 := fun h => qsd h2 _ _ _ (hok4 h)
  repeat' (first | refine vs_ ?_ | ((first | refine vr_ ?_ | fail) <;> (try simp (disch := first | omega | (simp only [List.length_set, List.length_append, List.length_cons, List.length_nil]; done) | (simp only [List.length_set, List.length_append, List.length_cons, List.length_nil]; omega)) only [hb1, hbr, qb1, qb, hk1, go_sem, ↓reduceIte])) | ((first | (refine cs_ ?_ ?_ <;> intro hc) | refine cj_ ?_ | simp (disch := omega) only [encs_getN, qb] | refine qbr 0 (ih (t.args.getD i Y0) (qdm (by omega)) s1 k1 (hok5 (by omega))) ?_ (hb _) (hb _)) <;> (try refine ev_ ?_)) | with_reducible exact ti_)
  ·rw [qg3 step (by omega), if_neg (by rw [hc]; simp)] at hx
   subst hx
   exact ⟨hb1 _ _, rfl, rfl⟩
  ·rw [qg3 step (by omega), if_pos (by rw [hc])] at hx
   refine qz4 (i + 1, (qbz step (t.args.getD i Y0) s1 k1).1) [.blk (yc (t.args.getD i Y0))] ⟨⟨by dsimp only; omega, hx, qs1 h1 h2 _ _ _ _ (hok4 (by omega))⟩, by dsimp only; omega⟩ (Nat.le_refl _) rfl (by simp only [List.all_cons, List.all_nil, hb1, Bool.and_true]) ?_ rfl rfl <;> (try refine ev_ ?_) <;> (try with_reducible exact ti_) <;> (try simp (disch := omega) only [qb, and_true, true_and])
  ·rw [qqu step (by omega)] at hx
   subst hx
   exact ⟨hb1 _ _, rfl, rfl⟩
end
end Go.Proofs.Ytbbjelfnocmaoaa
