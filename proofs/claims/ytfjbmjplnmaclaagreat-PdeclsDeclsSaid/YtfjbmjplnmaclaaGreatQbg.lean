/- A text of this proof. -/
import Derived.Test.YtfjbmjplnmaclaaGreatQbb
import Derived.Test.YtfjbmjplnmaclaaGreatQbf

/- patterns: the reference -/
set_option maxRecDepth 4000
namespace Go.Proofs.YtfjbmjplnmaclaaGreat
open Go Go.RowKit Go.V
set_option linter.unusedVariables false
set_option linter.unusedSimpArgs false

theorem q3p {c : K} (h : (qkg c).isSome = true) : c.err = 0 ∧ rest (qu c) + 1 = rest c := by
 obtain ⟨n, hn⟩ := Option.isSome_iff_exists.1 h
 exact ⟨(qe5 (qnd hn)).1, qbk (qnd hn)⟩
theorem qbk2 {c : K} (h : begP c = true) : c.err = 0 := by
 simp only [begP, Bool.or_eq_true] at h
 rcases h with h | h
 ·exact (q3p h).1
 ·exact q0h h
theorem qv7 {c : K} (h : c.err ≠ 0) : begP c = false := by
 cases hb : begP c with
 | false => rfl
 | true => exact absurd (qbk2 hb) h
def qdf (rec : K → K × N) (c : K) : K × N :=
 if begP c = true then
  if isK c [40] = true then (qcj (qi (rec (qi (qc c).1 [40]).1).1 [41]).1, (rec (qi (qc c).1 [40]).1).2)
  else (qu c, (qkg c).getD N0)
 else (qdh c 5, N0)
def qfq (rec : K → K × N) : Nat → K → List N → K × List N
 | 0, c, acc => (c, acc)
 | f + 1, c, acc => if begP c = true then qfq rec f (qdf rec c).1 (acc ++ [(qdf rec c).2]) else (c, acc)
def qen : Nat → K → K × N
 | 0, c => (c, N0)
 | f + 1, c =>
   if (qq (qc c).1).kind = 2 then
    (qcj (qfq (qen f) (em (qu (qc c).1) + 1) (qu (qc c).1) []).1, .mk 14 (qq (qc c).1).pos 0 (qq (qc c).1).text (qfq (qen f) (em (qu (qc c).1) + 1) (qu (qc c).1) []).2)
   else (qcj (qdf (qen f) (qc c).1).1, (qdf (qen f) (qc c).1).2)
section
variable {rec : K → K × N} (hm : ∀ c, Mon c (rec c).1)
include hm
theorem qzj (c : K) : Mon (qi (qc c).1 [40]).1 (qcj (qi (rec (qi (qc c).1 [40]).1).1 [41]).1) := ((hm _).trans (qd _ _)).trans (qbv _)
theorem qhw (c : K) : Mon c (qdf rec c).1 := by
 unfold qdf
 split
 ·split
  ·exact ((qm c).trans (qd _ _)).trans (qzj hm c)
  ·exact qbo c
 ·exact qeg c 5
theorem qko {c : K} (h : begP c = true) : em (qdf rec c).1 < em c := by
 unfold qdf
 rw [if_pos h]
 split
 ·have h1 := qfn (c := c) (by assumption)
  have h2 := (qzj hm c).em
  simp only; omega
 ·rename_i hk
  have h1 := q3p (c := c) (by simpa [begP, hk] using h)
  have h2 := qgo (qu c)
  rw [qbtu h1.1]
  simp only; omega
theorem qmd : ∀ (f : Nat) (c : K) (acc : List N), Mon c (qfq rec f c acc).1
 | 0, c, acc => Mon.refl c
 | f + 1, c, acc => by
   rw [qfq]
   split
   ·exact (qhw hm c).trans (qmd f _ _)
   ·exact Mon.refl c
end
theorem qhy : ∀ (f : Nat) (c : K), Mon c (qen f c).1
 | 0, c => Mon.refl c
 | f + 1, c => by
   rw [qen]
   split
   ·exact (((qm c).trans (qbo _)).trans (qmd (qhy f) _ _ _)).trans (qbv _)
   ·exact ((qm c).trans (qhw (qhy f) _)).trans (qbv _)

/-! The program. -/
theorem qf3 (c : K) : qz Tryz.prog 164 [refC c] (.bool (begP c)) := by
 refine qj c0fw (by simp) (by simp only [go_sem]) rfl fun hw => ?_
 repeat' (first | refine vs_ ?_ | ((first | refine vr_ ?_ | refine qa (ql c) fun _ => ?_ | refine qa (qcw c _) fun _ => ?_ | (refine cs_ ?_ ?_ <;> intro hc) | refine cj_ ?_ | fail) <;> (try refine ev_ ?_)) | with_reducible exact ti_)
 all_goals (have := @qv7 c; unfold begP qkg at *; simp_all)
theorem qht {rec : K → K × N} {b : Nat} (hm : ∀ c, Mon c (rec c).1) (ih : ∀ c, c.good → em c < b → qz Tryz.prog 156 [refC c] (.tup [refC (rec c).1, enc (rec c).2])) (c : K) (hg : c.good) (hr : em c ≤ b) :
 qz Tryz.prog 163 [refC c] (.tup [refC (qdf rec c).1, enc (qdf rec c).2]) := by
 have g1 : (qi (qc c).1 [40]).1.good := ((qm c).trans (qd _ _)).1 hg
 have g2 : (qi (rec (qi (qc c).1 [40]).1).1 [41]).1.good := ((hm _).trans (qd _ _)).1 g1
 refine qj c0fx (by simp) (by simp only [go_sem]) (by simp only [go_sem]) fun hw => ?_
 repeat' (first | refine vs_ ?_ | ((first | refine vr_ ?_ | refine qa (ql c) fun _ => ?_ | refine qa (qcw c _) fun _ => ?_ | refine qa (qf3 c) fun _ => ?_ | refine qa (qcr c _) fun _ => ?_ | refine qa (qcp c) fun _ => ?_ | refine qa (qba _ _) fun _ => ?_ | refine qa (ih _ g1 (Nat.lt_of_lt_of_le (qfn (by assumption)) hr)) fun _ => ?_ | refine qa (qb4 _ g2.2.2) fun _ => ?_ | refine qa (qc3 c) fun _ => ?_ | refine qb (ql c) ?_ | refine qb (qcw c _) ?_ | refine qb (qf3 c) ?_ | refine qb (qcr c _) ?_ | refine qb (qcp c) ?_ | refine qb (qba _ _) ?_ | refine qb (ih _ g1 (Nat.lt_of_lt_of_le (qfn (by assumption)) hr)) ?_ | refine qb (qb4 _ g2.2.2) ?_ | refine qb (qc3 c) ?_ | (refine cs_ ?_ ?_ <;> intro hc) | refine cj_ ?_ | fail) <;> (try refine ev_ ?_)) | with_reducible exact ti_)
 all_goals (unfold qdf; simp only [*, qdt, Int.reduceEq, if_true, if_false, reduceIte, Bool.false_eq_true, Option.getD_none, Option.getD_some, Option.isSome_none, Option.isSome_some, and_self, true_and, and_true]; try rfl)
 all_goals
  have hb : begP c = true := by assumption
  have hk : isK c [40] = false := by assumption
  simp only [begP, hk, Bool.or_false] at hb
  unfold qkg at hb ⊢
  clear ih
  simp_all [enc, encs]
def qba2 (p : Int) (t : List UInt8) (x : Nat × K × List N) : AF × List Ent :=
 (⟨[(1, .ptr 0 0), (2, .ptr 1 0), (3, .ptr 2 0), (7, .ptr 3 0)], []⟩,
   .blk (refC x.2.1).cells :: .blk [.nils, .int .i64 0, .int .i64 0, .int .i64 0, .str [], .int .i64 0, .int .i64 0, .int .i64 0] :: .blk [.int .i64 0, .int .i64 0, .int .i64 0, .str [], .nils] :: .blk [.int .i64 14, .int .i64 p, .int .i64 0, .str t, accV 4 (encs x.2.2)] :: accE 5 (encs x.2.2))
theorem qw1 {f : Nat} (ih : ∀ c, c.good → em c < f → qz Tryz.prog 156 [refC c] (.tup [refC (qen f c).1, enc (qen f c).2])) (c : K) (hg : c.good) (hr : em c < f + 1) :
 qz Tryz.prog 156 [refC c] (.tup [refC (qen (f + 1) c).1, enc (qen (f + 1) c).2]) := by
 have hm := qhy f
 have g1 : (qc c).1.good := (qm c).1 hg
 have hr1 : em (qc c).1 ≤ f := by have := (qm c).em; omega
 refine qj c0fy (by simp) (by simp only [go_sem]) (by simp only [go_sem]) fun hw => ?_
 by_cases hk : (qq (qc c).1).kind = 2
 ·have hpa : qen (f + 1) c = (qcj (qfq (qen f) (em (qu (qc c).1) + 1) (qu (qc c).1) []).1, .mk 14 (qq (qc c).1).pos 0 (qq (qc c).1).text (qfq (qen f) (em (qu (qc c).1) + 1) (qu (qc c).1) []).2) := by rw [qen, if_pos hk]
  rw [hpa]
  clear hpa
  have g2 : (qu (qc c).1).good := (qbo _).1 g1
  have hr2 : em (qu (qc c).1) ≤ f := by have := (qbo (qc c).1).em; omega
  generalize htg : qfq (qen f) (em (qu (qc c).1) + 1) (qu (qc c).1) [] = tg
  have hmt : Mon (qu (qc c).1) tg.1 := htg ▸ qmd hm _ _ _
  have g3 : tg.1.good := hmt.1 g2
  repeat' (first | refine vs_ ?_ | ((first | refine vr_ ?_ | fail) <;> (try simp only [hk, go_sem, ↓reduceIte])) | ((first | (refine cs_ ?_ ?_ <;> intro hc) | refine cj_ ?_ | fail | refine qa (ql _) fun _ => ?_ | refine qa (qcp c) fun _ => ?_ | refine qa (qc3 _) fun _ => ?_ | refine qb (ql _) ?_ | refine qb (qcp c) ?_ | refine qb (qc3 _) ?_) <;> (try refine ev_ ?_)) | with_reducible exact ti_)
  refine qbm (S := Nat × K × List N) (fun x => x.2.1.good ∧ em x.2.1 ≤ f ∧ qfq (qen f) x.1 x.2.1 x.2.2 = tg ∧ em x.2.1 < x.1 ∧ x.2.2.length + em x.2.1 ≤ 1048578)
   (qba2 (qq (qc c).1).pos (qq (qc c).1).text) (fun x => em x.2.1) ?_ ?_
  ·refine q8 (em (qu (qc c).1) + 1, qu (qc c).1, []) [0, 1, 2, 4] ⟨g2, hr2, htg, by simp only; omega, ?_⟩ rfl (by simp) ?_ ?_ ?_
   ·have h9 := g2.rest
    have h8 := qgo (qu (qc c).1)
    unfold rest at h8
    simp only [List.length_nil]
    omega
   all_goals simp only [qba2, encs, qr, qt]
   all_goals (refine ev_ ?_; (try with_reducible exact ti_))
  ·rintro ⟨fu, d, acc⟩ ⟨i1, i2, i3, i4, i5⟩
   simp only at i1 i2 i3 i4 i5
   unfold qba2
   obtain ⟨fu, rfl⟩ : ∃ k, fu = k + 1 := ⟨fu - 1, by omega⟩
   rw [qfq] at i3
   have hcap : qdq (acc.length + 1) 64 := capN (by omega)
   have j1 : (qdf (qen f) d).1.good := (qhw hm d).1 i1
   have j2 : em (qdf (qen f) d).1 ≤ em d := (qhw hm d).em
   by_cases h0 : acc = []
   ·subst h0
    simp only [encs, qr, qt]
    repeat' (first | refine vs_ ?_ | ((first | refine vr_ ?_ | refine qa (qf3 _) fun _ => ?_ | refine qa (qht hm ih _ i1 i2) fun _ => ?_ | refine qa (qb4 _ i1.2.2) fun _ => ?_ | refine qb (qf3 _) ?_ | refine qb (qht hm ih _ i1 i2) ?_ | refine qb (qb4 _ i1.2.2) ?_ | (refine cs_ ?_ ?_ <;> intro hc) | refine cj_ ?_ | fail) <;> (try refine ev_ ?_)) | with_reducible exact ti_)
    ·have hb : begP d = true := by assumption
     rw [if_pos hb] at i3
     have hlt := qko hm hb
     refine q8 (fu, (qdf (qen f) d).1, [] ++ [(qdf (qen f) d).2]) [0, 1, 2, 3, 6] ⟨⟨j1, by simp only; omega, i3, by simp only; omega, ?_⟩, by simp only; omega⟩ rfl (by simp) ?_ ?_ ?_
     ·simp only [List.length_append, List.length_cons, List.length_nil]; omega
     all_goals simp only [qba2, ← qe, qbs, qbr, List.nil_append, encs, qby, qbx]
     all_goals (refine ev_ ?_; (try with_reducible exact ti_))
    ·have hb : begP d = false := by assumption
     rw [if_neg (by rw [hb]; simp)] at i3
     subst i3
     rfl
   ·have hne := q9 h0
    simp only [qbd hne, qbc hne, qx]
    repeat' (first | refine vs_ ?_ | ((first | refine vr_ ?_ | refine qa (qf3 _) fun _ => ?_ | refine qa (qht hm ih _ i1 i2) fun _ => ?_ | refine qa (qb4 _ i1.2.2) fun _ => ?_ | refine qb (qf3 _) ?_ | refine qb (qht hm ih _ i1 i2) ?_ | refine qb (qb4 _ i1.2.2) ?_ | (refine cs_ ?_ ?_ <;> intro hc) | refine cj_ ?_ | fail) <;> (try refine ev_ ?_)) | with_reducible exact ti_)
    ·have hb : begP d = true := by assumption
     rw [if_pos hb] at i3
     have hlt := qko hm hb
     refine q8 (fu, (qdf (qen f) d).1, acc ++ [(qdf (qen f) d).2]) [0, 1, 2, 3, 7] ⟨⟨j1, by simp only; omega, i3, by simp only; omega, ?_⟩, by simp only; omega⟩ rfl (by simp) ?_ ?_ ?_
     ·simp only [List.length_append, List.length_cons, List.length_nil]; omega
     all_goals simp only [qba2, ← qe, qbs, qbr, List.nil_append, encs, qby, qbx]
     all_goals (refine ev_ ?_; (try with_reducible exact ti_))
     rw [qe, qo, qbb]; exact ⟨rfl, rfl⟩
    ·have hb : begP d = false := by assumption
     rw [if_neg (by rw [hb]; simp)] at i3
     subst i3
     rfl
 ·have hpa : qen (f + 1) c = (qcj (qdf (qen f) (qc c).1).1, (qdf (qen f) (qc c).1).2) := by rw [qen, if_neg hk]
  rw [hpa]
  have j1 : (qdf (qen f) (qc c).1).1.good := (qhw hm _).1 g1
  repeat' (first | refine vs_ ?_ | ((first | refine vr_ ?_ | fail) <;> (try simp only [hk, go_sem, ↓reduceIte])) | ((first | (refine cs_ ?_ ?_ <;> intro hc) | refine cj_ ?_ | fail | refine qa (ql _) fun _ => ?_ | refine qa (qcp c) fun _ => ?_ | refine qa (qht hm ih _ g1 hr1) fun _ => ?_ | refine qa (qb4 _ j1.2.2) fun _ => ?_ | refine qb (ql _) ?_ | refine qb (qcp c) ?_ | refine qb (qht hm ih _ g1 hr1) ?_ | refine qb (qb4 _ j1.2.2) ?_) <;> (try refine ev_ ?_)) | with_reducible exact ti_)
theorem qblj (f : Nat) : ∀ c : K, c.good → em c < f → qz Tryz.prog 156 [refC c] (.tup [refC (qen f c).1, enc (qen f c).2]) := by
 induction f with
 | zero => exact fun c _ h => absurd h (by omega)
 | succ f ih => exact qw1 ih

/-! What both read. -/
theorem qqm {rec : K → K × N} {c : K} (h : c.err ≠ 0) : qdf rec c = (c, N0) := by
 rw [qdf, if_neg (by rw [qv7 h]; simp), qfd h]
theorem q1h {rec : K → K × N} {c : K} (h : c.err ≠ 0) (f : Nat) (acc : List N) : qfq rec f c acc = (c, acc) := by
 cases f with
 | zero => rfl
 | succ f => rw [qfq, if_neg (by rw [qv7 h]; simp)]
theorem qzw (f : Nat) {c : K} (h : c.err ≠ 0) : qen f c = (c, N0) := by
 cases f with
 | zero => rfl
 | succ f => rw [qen, qi6 h, qgd h, if_neg (by decide), qqm h, qcn h]
section
variable {rp : K → K × Option N} {rr : K → K × N} {b : Nat} (hx : ∀ c : K, c.err ≠ 0 → (rr c).1 = c) (ih : ∀ c, em c < b → qd6 (rp c) (rr c))
include hx ih
theorem qt6 {c : K} (hr : em c ≤ b) : qd6 (qb0 rp c) (qdf rr c) := by
 unfold qb0 qdf
 by_cases hl : (qkg c).isSome = true
 ·have hk : ¬ isK c [40] = true := by
   intro h
   obtain ⟨n, hn⟩ := Option.isSome_iff_exists.1 hl
   simp only [isK, qka, Bool.and_eq_true, Bool.or_eq_true, decide_eq_true_eq] at h
   unfold qkg at hn
   rw [if_neg (by omega), if_neg (by omega), if_neg (by omega), if_neg (by simp [isK, qka, h.2.2])] at hn
   cases hn
  rw [if_pos hl, if_pos (show begP c = true by simp [begP, hl]), if_neg hk]
  exact ⟨rfl, fun n h => by simp only at h ⊢; rw [h]; rfl, fun h => by simp only at h; rw [h] at hl; cases hl⟩
 ·rw [if_neg hl]
  by_cases hk : isK c [40] = true
  ·rw [if_pos hk, if_pos (show begP c = true by simp [begP, hk]), if_pos hk]
   have hem := qfn hk
   by_cases he : (qc c).2 = true
   ·rw [if_pos he]
    have hk' : isK (qc c).1 [40] = true := by rw [qpx he]; exact hk
    rw [qqe hk'] at hem ⊢
    simp only at hem ⊢
    obtain ⟨a1, a2, a3⟩ := ih (qu (qc c).1) (by omega)
    rw [← a1]
    generalize rp (qu (qc c).1) = r at *
    obtain ⟨d, o⟩ := r
    simp only at a1 a2 a3 ⊢
    cases o with
    | none =>
      have h3 := a3 rfl
      rw [if_neg (by simp), qbu h3, qcn h3]
      exact ⟨rfl, (fun n h => by cases h), fun _ => h3⟩
    | some n =>
      rw [if_pos (by rfl)]
      by_cases hw : (qi d [41]).2 = true
      ·rw [if_pos hw]
       exact ⟨rfl, fun m h => a2 m h, (fun h => by cases h)⟩
      ·rw [if_neg hw]
       have h3 := qdp (by simpa using hw)
       exact ⟨(qcn h3).symm, (fun n h => by cases h), fun _ => h3⟩
   ·have he' : (qc c).2 = false := by simpa using he
    have h1 := qg5 he'
    rw [if_neg he]
    rw [qbu h1] at hem ⊢
    simp only at hem ⊢
    rw [hx _ h1, qbu h1, qcn h1]
    exact ⟨rfl, (fun n h => by cases h), fun _ => h1⟩
  ·rw [if_neg hk, if_neg (show ¬ begP c = true by simp [begP, hl, hk])]
   exact ⟨rfl, (fun n h => by cases h), fun _ => qg1 c⟩
theorem qtw (hp : ∀ c, Mon c (rp c).1) (hm : ∀ c, Mon c (rr c).1) : ∀ (f g : Nat) (c : K) (acc : List N), rest c < f → em c < g → em c ≤ b →
 (qif rp f c acc).1 = (qfq rr g c acc).1 ∧ (∀ l, (qif rp f c acc).2 = some l → l = (qfq rr g c acc).2) ∧ ((qif rp f c acc).2 = none → (qif rp f c acc).1.err ≠ 0)
 | 0, _, _, _ => fun h _ _ => by omega
 | _, 0, _, _ => fun _ h _ => by omega
 | f + 1, g + 1, c, acc => fun hf hg hb => by
   rw [qif, qfq]
   by_cases hk : begP c = true
   ·rw [if_pos hk, if_pos hk]
    obtain ⟨a1, a2, a3⟩ := qt6 hx ih hb
    have hl := qko hm hk
    rw [← a1] at hl ⊢
    cases ho : (qb0 rp c).2 with
    | none =>
      have h3 := a3 ho
      rw [if_neg (by simp), q1h h3]
      exact ⟨rfl, (fun n h => by cases h), fun _ => h3⟩
    | some n =>
      rw [if_pos (by rfl), ← a2 n ho]
      exact qtw hp hm f g _ _ (by have := qrk hp (c := c) (by rw [ho]; rfl); omega) (by omega) (by omega)
   ·rw [if_neg hk, if_neg hk]
    exact ⟨rfl, (fun l h => by cases h; rfl), (fun h => by cases h)⟩
end
theorem q2d : ∀ (f : Nat) (c : K), em c < f → qd6 (qcz f c) (qen f c)
 | 0, _ => fun h => by omega
 | f + 1, c => fun hf => by
   have ih := q2d f
   have hx : ∀ c : K, c.err ≠ 0 → (qen f c).1 = c := fun c h => by rw [qzw f h]
   by_cases he : (qc c).2 = true
   ·have h1 := (qm c).em
    rw [qcz, qen, if_pos he]
    by_cases hk : (qq (qc c).1).kind = 2
    ·rw [if_pos hk, if_pos hk]
     have hr := qbk (c := (qc c).1) (by omega)
     obtain ⟨a1, a2, a3⟩ := qtw hx ih (qe0 f) (qhy f) (rest (qc c).1 + 1) (em (qu (qc c).1) + 1) (qu (qc c).1) [] (by omega) (by omega) (by have := (qbo (qc c).1).em; omega)
     rw [← a1]
     generalize qif (qcz f) (rest (qc c).1 + 1) (qu (qc c).1) [] = r at *
     obtain ⟨d, o⟩ := r
     cases o with
     | none =>
       have h3 := a3 rfl
       simp only at h3
       refine ⟨rfl, (fun n h => by cases h), fun _ => ?_⟩
       simp only
       rwa [qcn h3]
     | some l => exact ⟨rfl, (fun n h => by cases h; rw [a2 l rfl]), (fun h => by cases h)⟩
    ·rw [if_neg hk, if_neg hk]
     obtain ⟨a1, a2, a3⟩ := qt6 hx ih (c := (qc c).1) (by omega)
     rw [← a1]
     exact ⟨rfl, a2, fun h => by simp only at h ⊢; rw [qcn (a3 h)]; exact a3 h⟩
   ·have he' : (qc c).2 = false := by simpa using he
    have h1 := qg5 he'
    rw [qcz, if_neg he, qen, qgd h1, if_neg (by decide), qqm h1]
    exact ⟨(qcn h1).symm, (fun n h => by cases h), fun _ => h1⟩
end Go.Proofs.YtfjbmjplnmaclaaGreat
