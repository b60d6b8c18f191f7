/- Texts of this proof, joined. -/
import Derived.Test.YtfjbmjplnmaclaaGreatPba

/- types: the reference -/
set_option maxRecDepth 4000
namespace Go.Proofs.YtfjbmjplnmaclaaGreat
open Go Go.RowKit Go.V
set_option linter.unusedVariables false
set_option linter.unusedSimpArgs false

theorem qkv {c : K} (h : (qq c).kind ≠ 0) : em (qu c) < em c := by
 have h1 := qbk h
 rw [qbrf (qe7 h).1]
 have := qgm (qu c)
 omega
theorem qdw {c : K} {x : List UInt8} (h : (qf c x).2 = true) : em (qf c x).1 < em c := by
 unfold qf at h ⊢
 split at h
 ·rename_i h1
  rw [if_pos h1]
  exact qkv (qdt h1)
 ·cases h
theorem qfl {c : K} (h : isK c [40] = true) : em (qi (qc c).1 [40]).1 < em c := by
 rw [qbrf (qz3 h)]
 cases he : (qc c).2 with
 | false => rw [qbu (qg2 he), qcj2 (qg2 he)]; omega
 | true =>
   have h1 : isK (qc c).1 [40] = true := by rw [qpv he]; exact h
   have h2 := qbk (qdt h1)
   have h3 := (qm c).2.1
   have h4 := qgm (qu (qc c).1)
   rw [qp4 h1]
   simp only; omega
def qcq (rec : K → K × N) (c : K) : K × N :=
 if c.err = 0 then
  if (qq c).kind = 1 then (qu c, qid c 1 [])
  else if (qq c).kind = 2 then (qu c, qid c 2 [])
  else if isK c [40] = true then (qcj (qi (rec (qi (qc c).1 [40]).1).1 [41]).1, (rec (qi (qc c).1 [40]).1).2)
  else (qdg c 5, N0)
 else (c, N0)
def qer (rec : K → K × N) : Nat → K → List N → K × List N
 | 0, c, acc => (c, acc)
 | f + 1, c, acc => if begT c = true then qer rec f (qcq rec c).1 (acc ++ [(qcq rec c).2]) else (c, acc)
def qdf (rec : K → K × N) (c : K) : K × N :=
 if (qq c).kind = 2 then ((qer rec (em (qu c) + 1) (qu c) []).1, qid c 2 (qer rec (em (qu c) + 1) (qu c) []).2) else qcq rec c
def qcg : Nat → K → K × N
 | 0, c => (c, N0)
 | f + 1, c =>
   if (qf (qdf (qcg f) (qc c).1).1 [45, 62]).2 = true then
    (qcj (qcg f (qf (qdf (qcg f) (qc c).1).1 [45, 62]).1).1, qi7 (qdf (qcg f) (qc c).1).2 (qcg f (qf (qdf (qcg f) (qc c).1).1 [45, 62]).1).2)
   else (qcj (qdf (qcg f) (qc c).1).1, (qdf (qcg f) (qc c).1).2)
section
variable {rec : K → K × N} (hm : ∀ c, Mon c (rec c).1)
include hm
theorem qpy (c : K) : Mon (qi (qc c).1 [40]).1 (qcj (qi (rec (qi (qc c).1 [40]).1).1 [41]).1) := ((hm _).trans (qd _ _)).trans (qbv _)
theorem qf3 (c : K) : Mon c (qcq rec c).1 := by
 unfold qcq
 split
 ·split
  ·exact qbp c
  ·split
   ·exact qbp c
   ·split
    ·exact ((qm c).trans (qd _ _)).trans (qpy hm c)
    ·exact qef c 5
 ·exact Mon.refl c
theorem qhh {c : K} (h : begT c = true) : em (qcq rec c).1 < em c := by
 unfold qcq
 rw [if_pos (q75 h)]
 split
 ·exact qkv (by omega)
 ·split
  ·exact qkv (by omega)
  ·rename_i h1 h2
   have hk : isK c [40] = true := by simpa only [begT, decide_eq_false h1, decide_eq_false h2, Bool.false_or] using h
   rw [if_pos hk]
   have h3 := qfl hk
   have h4 := (qpy hm c).em
   simp only; omega
theorem qo6 : ∀ (f : Nat) (c : K) (acc : List N), Mon c (qer rec f c acc).1
 | 0, c, acc => Mon.refl c
 | f + 1, c, acc => by
   rw [qer]
   split
   ·exact (qf3 hm c).trans (qo6 f _ _)
   ·exact Mon.refl c
theorem qmi (c : K) : Mon c (qdf rec c).1 := by
 unfold qdf
 split
 ·exact (qbp c).trans (qo6 hm _ _ _)
 ·exact qf3 hm c
end
theorem qcm : ∀ (f : Nat) (c : K), Mon c (qcg f c).1
 | 0, c => Mon.refl c
 | f + 1, c => by
   have hr := (qm c).trans (qmi (qcm f) (qc c).1)
   rw [qcg]
   split
   ·exact ((hr.trans (qk _ _)).trans (qcm f _)).trans (qbv _)
   ·exact hr.trans (qbv _)

/-! The program. -/
theorem qii (c : K) : qz Tryz.prog 154 [refC c] (.bool (begT c)) := by
 refine qj c0ga (by simp) (by simp only [go_sem]) rfl fun hw => ?_
 repeat' (first | refine vs_ ?_ | ((first | refine vr_ ?_ | refine qa (ql c) fun _ => ?_ | refine qa (qcw c _) fun _ => ?_ | (refine cs_ ?_ ?_ <;> intro hc) | refine cj_ ?_ | fail) <;> (try refine ev_ ?_)) | with_reducible exact ti_)
 all_goals (have := @qvm c; unfold begT at *; simp_all)
def qx2 (p : Int) (t : List UInt8) (c : K) (acc : List N) : AF × List Ent :=
 (⟨[(1, .ptr 0 0), (2, .ptr 1 0), (3, .ptr 2 0), (5, .ptr 3 0)], []⟩,
   .blk (refC c).cells :: .blk [.nils, .int .i64 0, .int .i64 0, .int .i64 0, .str [], .int .i64 0, .int .i64 0, .int .i64 0] :: .blk [.int .i64 0, .int .i64 0, .int .i64 0, .str [], .nils] :: .blk [.int .i64 2, .int .i64 p, .int .i64 0, .str t, accV 4 (encs acc)] :: accE 5 (encs acc))
section
variable {rec : K → K × N} {b : Nat} (hm : ∀ c, Mon c (rec c).1) (ih : ∀ c, c.good → em c < b → qz Tryz.prog 119 [refC c] (.tup [refC (rec c).1, enc (rec c).2]))
include hm ih
theorem qe3 (c : K) (hg : c.good) (hr : em c ≤ b) : qz Tryz.prog 81 [refC c] (.tup [refC (qcq rec c).1, enc (qcq rec c).2]) := by
 have g1 : (qi (qc c).1 [40]).1.good := ((qm c).trans (qd _ _)).1 hg
 have g2 : (qi (rec (qi (qc c).1 [40]).1).1 [41]).1.good := ((hm _).trans (qd _ _)).1 g1
 refine qj c0gb (by simp) (by simp only [go_sem]) (by simp only [go_sem]) fun hw => ?_
 repeat' (first | refine vs_ ?_ | ((first | refine vr_ ?_ | refine qa (ql c) fun _ => ?_ | refine qa (qcw c _) fun _ => ?_ | refine qa (qcr c _) fun _ => ?_ | refine qa (qcp c) fun _ => ?_ | refine qa (qba _ _) fun _ => ?_ | refine qa (ih _ g1 (Nat.lt_of_lt_of_le (qfl (by assumption)) hr)) fun _ => ?_ | refine qa (qb4 _ g2.2.2) fun _ => ?_ | refine qa (qc3 c) fun _ => ?_ | refine qb (ql c) ?_ | refine qb (qcw c _) ?_ | refine qb (qcr c _) ?_ | refine qb (qcp c) ?_ | refine qb (qba _ _) ?_ | refine qb (ih _ g1 (Nat.lt_of_lt_of_le (qfl (by assumption)) hr)) ?_ | refine qb (qb4 _ g2.2.2) ?_ | refine qb (qc3 c) ?_ | (refine cs_ ?_ ?_ <;> intro hc) | refine cj_ ?_ | fail) <;> (try refine ev_ ?_)) | with_reducible exact ti_)
 all_goals (unfold qcq qid; simp only [*, qds, Int.reduceEq, if_true, if_false, reduceIte, Bool.false_eq_true, Option.getD_none, Option.getD_some, Option.isSome_none, Option.isSome_some, and_self, true_and, and_true]; try rfl)
theorem qbb1 (c : K) (hg : c.good) (hr : em c ≤ b) : qz Tryz.prog 140 [refC c] (.tup [refC (qdf rec c).1, enc (qdf rec c).2]) := by
 refine qj c0gc (by simp) (by simp only [go_sem]) (by simp only [go_sem]) fun hw => ?_
 by_cases hk : (qq c).kind = 2
 ·have hpa : qdf rec c = ((qer rec (em (qu c) + 1) (qu c) []).1, qid c 2 (qer rec (em (qu c) + 1) (qu c) []).2) := by rw [qdf, if_pos hk]
  rw [hpa]
  clear hpa
  have g1 : (qu c).good := (qbp _).1 hg
  have hr1 : em (qu c) ≤ b := by have := (qbp c).em; omega
  generalize htg : qer rec (em (qu c) + 1) (qu c) [] = tg
  repeat' (first | refine vs_ ?_ | ((first | refine vr_ ?_ | fail) <;> (try simp only [hk, Int.reduceEq, go_sem, ↓reduceIte])) | ((first | (refine cs_ ?_ ?_ <;> intro hc) | refine cj_ ?_ | fail | refine qa (ql _) fun _ => ?_ | refine qa (qc3 _) fun _ => ?_ | refine qb (ql _) ?_ | refine qb (qc3 _) ?_) <;> (try refine ev_ ?_)) | with_reducible exact ti_)
  refine qbm (S := Nat × K × List N) (fun x => x.2.1.good ∧ em x.2.1 ≤ b ∧ qer rec x.1 x.2.1 x.2.2 = tg ∧ em x.2.1 < x.1 ∧ x.2.2.length + em x.2.1 ≤ 1048578)
   (fun x => qx2 (qq c).pos (qq c).text x.2.1 x.2.2) (fun x => em x.2.1) ?_ ?_
  ·refine q8 (em (qu c) + 1, qu c, []) [0, 1, 2, 4] ⟨g1, hr1, htg, by simp only; omega, ?_⟩ rfl (by simp) ?_ ?_ ?_
   ·have h9 := g1.rest
    have h8 := qgm (qu c)
    unfold rest at h8
    simp only [List.length_nil]
    omega
   all_goals simp only [qx2, encs, qr, qt]
   all_goals (refine ev_ ?_; (try with_reducible exact ti_))
  ·rintro ⟨fu, d, acc⟩ ⟨i1, i2, i3, i4, i5⟩
   simp only at i1 i2 i3 i4 i5
   unfold qx2
   obtain ⟨fu, rfl⟩ : ∃ k, fu = k + 1 := ⟨fu - 1, by omega⟩
   rw [qer] at i3
   have hcap : qdp (acc.length + 1) 64 := capN (by omega)
   have j1 : (qcq rec d).1.good := (qf3 hm d).1 i1
   have j2 : em (qcq rec d).1 ≤ em d := (qf3 hm d).em
   by_cases h0 : acc = []
   ·subst h0
    simp only [encs, qr, qt]
    repeat' (first | refine vs_ ?_ | ((first | refine vr_ ?_ | refine qa (qii _) fun _ => ?_ | refine qa (qe3 hm ih _ i1 i2) fun _ => ?_ | refine qb (qii _) ?_ | refine qb (qe3 hm ih _ i1 i2) ?_ | (refine cs_ ?_ ?_ <;> intro hc) | refine cj_ ?_ | fail) <;> (try refine ev_ ?_)) | with_reducible exact ti_)
    ·have hb : begT d = true := by assumption
     rw [if_pos hb] at i3
     have hlt := qhh hm hb
     refine q8 (fu, (qcq rec d).1, [] ++ [(qcq rec d).2]) [0, 1, 2, 3, 6] ⟨⟨j1, by simp only; omega, i3, by simp only; omega, ?_⟩, by simp only; omega⟩ rfl (by simp) ?_ ?_ ?_
     ·simp only [List.length_append, List.length_cons, List.length_nil]; omega
     all_goals simp only [qx2, ← qe, qbr, qbs, List.nil_append, encs, qbx, qby]
     all_goals (refine ev_ ?_; (try with_reducible exact ti_))
    ·have hb : begT d = false := by assumption
     rw [if_neg (by rw [hb]; simp)] at i3
     subst i3
     rfl
   ·have hne := q9 h0
    simp only [qbc hne, qbd hne, qx]
    repeat' (first | refine vs_ ?_ | ((first | refine vr_ ?_ | refine qa (qii _) fun _ => ?_ | refine qa (qe3 hm ih _ i1 i2) fun _ => ?_ | refine qb (qii _) ?_ | refine qb (qe3 hm ih _ i1 i2) ?_ | (refine cs_ ?_ ?_ <;> intro hc) | refine cj_ ?_ | fail) <;> (try refine ev_ ?_)) | with_reducible exact ti_)
    ·have hb : begT d = true := by assumption
     rw [if_pos hb] at i3
     have hlt := qhh hm hb
     refine q8 (fu, (qcq rec d).1, acc ++ [(qcq rec d).2]) [0, 1, 2, 3, 7] ⟨⟨j1, by simp only; omega, i3, by simp only; omega, ?_⟩, by simp only; omega⟩ rfl (by simp) ?_ ?_ ?_
     ·simp only [List.length_append, List.length_cons, List.length_nil]; omega
     all_goals simp only [qx2, ← qe, qbr, qbs, List.nil_append, encs, qbx, qby]
     all_goals (refine ev_ ?_; (try with_reducible exact ti_))
     rw [qe, qo, qbb]; exact ⟨rfl, rfl⟩
    ·have hb : begT d = false := by assumption
     rw [if_neg (by rw [hb]; simp)] at i3
     subst i3
     rfl
 ·repeat' (first | refine vs_ ?_ | ((first | refine vr_ ?_ | fail) <;> (try simp only [hk, go_sem, ↓reduceIte])) | ((first | (refine cs_ ?_ ?_ <;> intro hc) | refine cj_ ?_ | fail | refine qa (ql _) fun _ => ?_ | refine qa (qe3 hm ih c hg hr) fun _ => ?_ | refine qb (ql _) ?_ | refine qb (qe3 hm ih c hg hr) ?_) <;> (try refine ev_ ?_)) | with_reducible exact ti_)
  rw [qdf, if_neg hk]
end
theorem qu1 {f : Nat} (ih : ∀ c, c.good → em c < f → qz Tryz.prog 119 [refC c] (.tup [refC (qcg f c).1, enc (qcg f c).2])) (c : K) (hg : c.good) (hr : em c < f + 1) :
 qz Tryz.prog 119 [refC c] (.tup [refC (qcg (f + 1) c).1, enc (qcg (f + 1) c).2]) := by
 have hm := qcm f
 have g1 : (qc c).1.good := (qm c).1 hg
 have hr1 : em (qc c).1 ≤ f := by have := (qm c).em; omega
 have hrow := qbb1 hm ih _ g1 hr1
 have mrow := qmi hm (qc c).1
 have hpa : qcg (f + 1) c = if (qf (qdf (qcg f) (qc c).1).1 [45, 62]).2 = true then
  (qcj (qcg f (qf (qdf (qcg f) (qc c).1).1 [45, 62]).1).1, qi7 (qdf (qcg f) (qc c).1).2 (qcg f (qf (qdf (qcg f) (qc c).1).1 [45, 62]).1).2)
  else (qcj (qdf (qcg f) (qc c).1).1, (qdf (qcg f) (qc c).1).2) := by rw [qcg]
 rw [hpa]
 clear hpa
 generalize qdf (qcg f) (qc c).1 = r at *
 have g2 : r.1.good := mrow.1 g1
 have g3 : (qf r.1 [45, 62]).1.good := (qk _ _).1 g2
 have g4 : (qcg f (qf r.1 [45, 62]).1).1.good := (hm _).1 g3
 have hlt : (qf r.1 [45, 62]).2 = true → em (qf r.1 [45, 62]).1 < f := fun h => by
  have := qdw h
  have := mrow.em
  omega
 refine qj c0gd (by simp) (by simp only [go_sem]) (by simp only [go_sem]) fun hw => ?_
 repeat' (first | refine vs_ ?_ | ((first | refine vr_ ?_ | refine qa (qcp c) fun _ => ?_ | refine qa hrow fun _ => ?_ | refine qa (qw _ _) fun _ => ?_ | refine qa (ih _ g3 (hlt (by assumption))) fun _ => ?_ | refine qa (qb4 _ g4.2.2) fun _ => ?_ | refine qa (qb4 _ g3.2.2) fun _ => ?_ | refine qb (qcp c) ?_ | refine qb hrow ?_ | refine qb (qw _ _) ?_ | refine qb (ih _ g3 (hlt (by assumption))) ?_ | refine qb (qb4 _ g4.2.2) ?_ | refine qb (qb4 _ g3.2.2) ?_ | (refine cs_ ?_ ?_ <;> intro hc) | refine cj_ ?_ | fail) <;> (try refine ev_ ?_)) | with_reducible exact ti_)
 ·simp only [qi7, enc, encs]
 ·rw [qc2 (by assumption)]
theorem qp3 (f : Nat) : ∀ c : K, c.good → em c < f → qz Tryz.prog 119 [refC c] (.tup [refC (qcg f c).1, enc (qcg f c).2]) := by
 induction f with
 | zero => exact fun c _ h => absurd h (by omega)
 | succ f ih => exact qu1 ih
set_option maxRecDepth 4000

def qb8 (rec : K → K × N) (c : K) : K × N := ((qcq rec (qn c 2).1).1, qsv (qev c 2) (qcq rec (qn c 2).1).2)
def qej (rec : K → K × N) : Nat → K → List N → K × List N
 | 0, c, acc => (c, acc)
 | f + 1, c, acc =>
   if (qf (qb8 rec c).1 [44]).2 = true then qej rec f (qf (qb8 rec c).1 [44]).1 (acc ++ [(qb8 rec c).2])
   else ((qb8 rec c).1, acc ++ [(qb8 rec c).2])
def qf5 (rec : K → K × N) (c : K) : K × List N :=
 if isK c [41] = true then (c, []) else qej rec (em c + 2) c []
def qdy (rec : K → K × N) (c : K) : K × List N :=
 if qka c [61, 62] = true then
  if (qf c [40]).2 = true then ((qi (qi (qf5 rec (qf c [40]).1).1 [41]).1 [61, 62]).1, (qf5 rec (qf c [40]).1).2)
  else ((qi (qb8 rec c).1 [61, 62]).1, [(qb8 rec c).2])
 else (c, [])
section
variable {rec : K → K × N} (hm : ∀ c, Mon c (rec c).1)
include hm
theorem qfu (c : K) : Mon c (qb8 rec c).1 := (qbf c 2).trans (qf3 hm _)
theorem qnq : ∀ (f : Nat) (c : K) (acc : List N), Mon c (qej rec f c acc).1
 | 0, c, acc => Mon.refl c
 | f + 1, c, acc => by
   rw [qej]
   split
   ·exact ((qfu hm c).trans (qk _ _)).trans (qnq f _ _)
   ·exact qfu hm c
theorem qmz (c : K) : Mon c (qf5 rec c).1 := by
 unfold qf5
 split
 ·exact Mon.refl c
 ·exact qnq hm _ _ _
theorem qhb (c : K) : Mon c (qdy rec c).1 := by
 unfold qdy
 split
 ·split
  ·exact (((qk c _).trans (qmz hm _)).trans (qd _ _)).trans (qd _ _)
  ·exact (qfu hm c).trans (qd _ _)
 ·exact Mon.refl c
end
def qyj (x : Bool × Nat × K × List N) : AF × List Ent :=
 (⟨[(2, .ptr 0 0), (4, accV 2 (encs x.2.2.2)), (5, .ptr 1 0), (9, .bool x.1)], []⟩,
   .blk [.nils, .int .i64 0, .int .i64 0, .int .i64 0, .str [], .int .i64 0, .int .i64 0, .int .i64 0] :: .blk (refC x.2.2.1).cells :: accE 5 (encs x.2.2.2))
section
variable {rec : K → K × N} {b : Nat} (hm : ∀ c, Mon c (rec c).1) (ih : ∀ c, c.good → em c < b → qz Tryz.prog 119 [refC c] (.tup [refC (rec c).1, enc (rec c).2]))
include hm ih
theorem qht (c : K) (hg : c.good) (hr : em c ≤ b) : qz Tryz.prog 123 [refC c] (.tup [refC (qb8 rec c).1, enc (qb8 rec c).2]) := by
 have g1 : (qn c 2).1.good := (qbf c 2).1 hg
 have hr1 : em (qn c 2).1 ≤ b := by have := (qbf c 2).em; omega
 refine qj c0fx (by simp) (by simp only [go_sem]) (by simp only [go_sem]) fun hw => ?_
 repeat' (first | refine vs_ ?_ | ((first | refine vr_ ?_ | refine qa (qbe c 2) fun _ => ?_ | refine qa (qe3 hm ih _ g1 hr1) fun _ => ?_ | refine qb (qbe c 2) ?_ | refine qb (qe3 hm ih _ g1 hr1) ?_ | (refine cs_ ?_ ?_ <;> intro hc) | refine cj_ ?_ | fail) <;> (try refine ev_ ?_)) | with_reducible exact ti_)
 all_goals (simp only [qb8, qsv, enc, encs])
theorem qrt (c : K) (hg : c.good) (hr : em c ≤ b) : qz Tryz.prog 84 [refC c] (.tup [refC (qdy rec c).1, .sl 5 (encs (qdy rec c).2)]) := by
 refine qj c0fy (by simp) (by simp only [go_sem]) (by simp only [go_sem]) fun hw => ?_
 have g1 : (qf c [40]).1.good := (qk c _).1 hg
 have hr1 : em (qf c [40]).1 ≤ b := by have := (qk c [40]).em; omega
 unfold qdy
 by_cases ha : qka c [61, 62] = true
 ·rw [if_pos ha]
  by_cases ht : (qf c [40]).2 = true
  ·rw [if_pos ht]
   generalize htg : qf5 rec (qf c [40]).1 = tg
   have gt : tg.1.good := htg ▸ (qmz hm _).1 g1
   unfold qf5 at htg
   by_cases hi : isK (qf c [40]).1 [41] = true
   ·rw [if_pos hi] at htg
    subst htg
    repeat' (first | refine vs_ ?_ | ((first | refine vr_ ?_ | fail) <;> (try simp only [ha, ht, hi, go_sem, ↓reduceIte])) | ((first | (refine cs_ ?_ ?_ <;> intro hc) | refine cj_ ?_ | fail | refine qa (qez c hg.2.1 _) fun _ => ?_ | refine qa (qw c _) fun _ => ?_ | refine qa (qcw _ _) fun _ => ?_ | refine qa (qba _ _) fun _ => ?_ | refine qb (qez c hg.2.1 _) ?_ | refine qb (qw c _) ?_ | refine qb (qcw _ _) ?_ | refine qb (qba _ _) ?_) <;> (try refine ev_ ?_)) | with_reducible exact ti_)
    rfl
   ·rw [if_neg hi] at htg
    repeat' (first | refine vs_ ?_ | ((first | refine vr_ ?_ | fail) <;> (try simp only [ha, ht, hi, go_sem, ↓reduceIte])) | ((first | (refine cs_ ?_ ?_ <;> intro hc) | refine cj_ ?_ | fail | refine qa (qez c hg.2.1 _) fun _ => ?_ | refine qa (qw c _) fun _ => ?_ | refine qa (qcw _ _) fun _ => ?_ | refine qa (qba _ _) fun _ => ?_ | refine qb (qez c hg.2.1 _) ?_ | refine qb (qw c _) ?_ | refine qb (qcw _ _) ?_ | refine qb (qba _ _) ?_) <;> (try refine ev_ ?_)) | with_reducible exact ti_)
    refine qbm (S := Bool × Nat × K × List N) (fun x => x.2.2.1.good ∧ em x.2.2.1 ≤ b ∧ (x.1 = true → qej rec x.2.1 x.2.2.1 x.2.2.2 = tg ∧ em x.2.2.1 < x.2.1 ∧ x.2.2.2.length + em x.2.2.1 ≤ 1048578) ∧ (x.1 = false → tg = (x.2.2.1, x.2.2.2)))
     qyj (fun x => if x.1 = true then em x.2.2.1 + 1 else 0) ?_ ?_
    ·refine q8 (true, em (qf c [40]).1 + 2, (qf c [40]).1, []) [1, 2] ⟨g1, hr1, fun _ => ⟨htg, by simp only; omega, ?_⟩, (by intro h; cases h)⟩ rfl (by simp) ?_ ?_ ?_
     ·have h9 := g1.rest
      have h8 := qgm (qf c [40]).1
      unfold rest at h8
      simp only [List.length_nil]
      omega
     all_goals simp only [qyj, encs, qr, qt]
     all_goals (refine ev_ ?_; (try with_reducible exact ti_))
    ·rintro ⟨more, fu, d, acc⟩ ⟨i1, i2, i3, i4⟩
     simp only at i1 i2 i3 i4
     unfold qyj
     cases more with
     | false =>
       have i4 := i4 rfl
       subst i4
       clear i3
       by_cases h0 : acc = []
       ·subst h0
        simp only [encs, qr, qt]
        repeat' (first | refine vs_ ?_ | ((first | refine vr_ ?_ | refine qa (qba _ _) fun _ => ?_ | refine qb (qba _ _) ?_ | (refine cs_ ?_ ?_ <;> intro hc) | refine cj_ ?_ | fail) <;> (try refine ev_ ?_)) | with_reducible exact ti_)
       ·have hne := q9 h0
        simp only [qbc hne, qbd hne, qx]
        repeat' (first | refine vs_ ?_ | ((first | refine vr_ ?_ | refine qa (qba _ _) fun _ => ?_ | refine qb (qba _ _) ?_ | (refine cs_ ?_ ?_ <;> intro hc) | refine cj_ ?_ | fail) <;> (try refine ev_ ?_)) | with_reducible exact ti_)
     | true =>
       obtain ⟨i3, i5, i6⟩ := i3 rfl
       clear i4
       obtain ⟨fu, rfl⟩ : ∃ k, fu = k + 1 := ⟨fu - 1, by omega⟩
       rw [qej] at i3
       have hcap : qdp (acc.length + 1) 64 := capN (by omega)
       have j1 : (qb8 rec d).1.good := (qfu hm d).1 i1
       have j2 := (qfu hm d).em
       have j3 : (qf (qb8 rec d).1 [44]).1.good := (qk _ _).1 j1
       have j4 := (qk (qb8 rec d).1 [44]).em
       have k3 : (qf (qb8 rec d).1 [44]).2 = true → qej rec fu (qf (qb8 rec d).1 [44]).1 (acc ++ [(qb8 rec d).2]) = tg ∧ em (qf (qb8 rec d).1 [44]).1 < fu ∧ (acc ++ [(qb8 rec d).2]).length + em (qf (qb8 rec d).1 [44]).1 ≤ 1048578 := fun h => by
        rw [if_pos h] at i3
        have := qdw h
        refine ⟨i3, by omega, ?_⟩
        simp only [List.length_append, List.length_cons, List.length_nil]; omega
       have k4 : (qf (qb8 rec d).1 [44]).2 = false → tg = ((qf (qb8 rec d).1 [44]).1, acc ++ [(qb8 rec d).2]) := fun h => by
        rw [if_neg (by rw [h]; simp)] at i3
        rw [qc2 h, ← i3]
       have k5 : (if (qf (qb8 rec d).1 [44]).2 = true then em (qf (qb8 rec d).1 [44]).1 + 1 else 0) < em d + 1 := by
        split
        ·rename_i h
         have := qdw h
         omega
        ·omega
       by_cases h0 : acc = []
       ·subst h0
        simp only [encs, qr, qt]
        repeat' (first | refine vs_ ?_ | ((first | refine vr_ ?_ | refine qa (qht hm ih d i1 i2) fun _ => ?_ | refine qa (qw _ _) fun _ => ?_ | refine qb (qht hm ih d i1 i2) ?_ | refine qb (qw _ _) ?_ | (refine cs_ ?_ ?_ <;> intro hc) | refine cj_ ?_ | fail) <;> (try refine ev_ ?_)) | with_reducible exact ti_)
        refine q8 ((qf (qb8 rec d).1 [44]).2, fu, (qf (qb8 rec d).1 [44]).1, [] ++ [(qb8 rec d).2]) [0, 1, 4] ⟨⟨j3, by simp only; omega, k3, k4⟩, k5⟩ rfl (by simp) ?_ ?_ ?_
        all_goals simp only [qyj, ← qe, qbr, qbs, List.nil_append, encs, qbx, qby]
        all_goals (refine ev_ ?_; (try with_reducible exact ti_))
       ·have hne := q9 h0
        simp only [qbc hne, qbd hne, qx]
        repeat' (first | refine vs_ ?_ | ((first | refine vr_ ?_ | refine qa (qht hm ih d i1 i2) fun _ => ?_ | refine qa (qw _ _) fun _ => ?_ | refine qb (qht hm ih d i1 i2) ?_ | refine qb (qw _ _) ?_ | (refine cs_ ?_ ?_ <;> intro hc) | refine cj_ ?_ | fail) <;> (try refine ev_ ?_)) | with_reducible exact ti_)
        refine q8 ((qf (qb8 rec d).1 [44]).2, fu, (qf (qb8 rec d).1 [44]).1, acc ++ [(qb8 rec d).2]) [0, 1, 5] ⟨⟨j3, by simp only; omega, k3, k4⟩, k5⟩ rfl (by simp) ?_ ?_ ?_
        all_goals simp only [qyj, ← qe, qbr, qbs, List.nil_append, encs, qbx, qby]
        all_goals (refine ev_ ?_; (try with_reducible exact ti_))
        rw [qe, qo, qbb]; exact ⟨rfl, rfl⟩
  ·rw [if_neg ht]
   repeat' (first | refine vs_ ?_ | ((first | refine vr_ ?_ | fail) <;> (try simp only [ha, ht, go_sem, ↓reduceIte])) | ((first | (refine cs_ ?_ ?_ <;> intro hc) | refine cj_ ?_ | fail | refine qa (qez c hg.2.1 _) fun _ => ?_ | refine qa (qw c _) fun _ => ?_ | refine qa (qba _ _) fun _ => ?_ | refine qa (qht hm ih c hg hr) fun _ => ?_ | refine qb (qez c hg.2.1 _) ?_ | refine qb (qw c _) ?_ | refine qb (qba _ _) ?_ | refine qb (qht hm ih c hg hr) ?_) <;> (try refine ev_ ?_)) | with_reducible exact ti_)
   rfl
 ·rw [if_neg ha]
  repeat' (first | refine vs_ ?_ | ((first | refine vr_ ?_ | fail) <;> (try simp only [ha, go_sem, ↓reduceIte])) | ((first | (refine cs_ ?_ ?_ <;> intro hc) | refine cj_ ?_ | fail | refine qa (qez c hg.2.1 _) fun _ => ?_ | refine qb (qez c hg.2.1 _) ?_) <;> (try refine ev_ ?_)) | with_reducible exact ti_)
  rfl
end
def qk3 (f : Nat) (c : K) : K × N := ((qcg f (qdy (qcg f) c).1).1, qoe (qq c).pos (qdy (qcg f) c).2 (qcg f (qdy (qcg f) c).1).2)
theorem qnu {rec : K → K × N} (hm : ∀ c, Mon c (rec c).1) : ∀ (f : Nat) (c : K) (acc : List N), (qej rec f c acc).2.length ≤ acc.length + em c + 1
 | 0, c, acc => by simp only [qej]; omega
 | f + 1, c, acc => by
   rw [qej]
   split
   ·rename_i h
    have h1 := qnu hm f (qf (qb8 rec c).1 [44]).1 (acc ++ [(qb8 rec c).2])
    have h2 := qdw h
    have h3 := (qfu hm c).em
    simp only [List.length_append, List.length_cons, List.length_nil] at h1
    omega
   ·simp only [List.length_append, List.length_cons, List.length_nil]; omega
theorem qo7 {rec : K → K × N} (hm : ∀ c, Mon c (rec c).1) (c : K) : (qdy rec c).2.length ≤ em c + 1 := by
 unfold qdy
 split
 ·split
  ·rename_i h
   have h2 := qdw h
   unfold qf5
   split
   ·simp
   ·have := qnu hm (em (qf c [40]).1 + 2) (qf c [40]).1 []
    simp only [List.length_nil] at this
    simp only; omega
  ·simp
 ·simp
theorem q47 (f : Nat) (c : K) (hg : c.good) (hr : em c < f) : qz Tryz.prog 86 [refC c] (.tup [refC (qk3 f c).1, enc (qk3 f c).2]) := by
 have hm := qcm f
 have g1 : (qdy (qcg f) c).1.good := (qhb hm c).1 hg
 have hr1 : em (qdy (qcg f) c).1 < f := by have := (qhb hm c).em; omega
 have hP := qrt hm (qp3 f) c hg (by omega)
 have hA := qp3 f _ g1 hr1
 have hln := qo7 hm c
 have hem := qgm c
 have hrs := hg.rest
 unfold rest at hem
 unfold qk3
 refine qj c0fz (by simp) (by simp only [go_sem]) (by simp only [go_sem]) fun hw => ?_
 generalize hp : qdy (qcg f) c = p at *
 by_cases h0 : p.2 = []
 ·rw [h0] at hP ⊢
  repeat' (first | refine vs_ ?_ | ((first | refine vr_ ?_ | fail) <;> (try simp only [List.length_nil, go_sem, ↓reduceIte])) | ((first | (refine cs_ ?_ ?_ <;> intro hc) | refine cj_ ?_ | fail | refine qa (ql c) fun _ => ?_ | refine qa hP fun _ => ?_ | refine qa hA fun _ => ?_ | refine qb (ql c) ?_ | refine qb hP ?_ | refine qb hA ?_) <;> (try refine ev_ ?_)) | with_reducible exact ti_)
  simp only [qoe, enc, encs, List.nil_append]
 ·have hne := q9 h0
  have hnl : ¬ p.2.length = 0 := fun h => h0 (List.length_eq_zero_iff.1 h)
  have hc1 : qdp p.2.length 64 := capN (by omega)
  have hc2 : qdp (p.2.length + 1) 64 := capN (by omega)
  repeat' (first | refine vs_ ?_ | ((first | refine vr_ ?_ | fail) <;> (try simp only [hnl, hc1, hc2, go_sem, ↓reduceIte])) | ((first | (refine cs_ ?_ ?_ <;> intro hc) | refine cj_ ?_ | fail | refine qa (ql c) fun _ => ?_ | refine qa hP fun _ => ?_ | refine qa hA fun _ => ?_ | refine qb (ql c) ?_ | refine qb hP ?_ | refine qb hA ?_) <;> (try refine ev_ ?_)) | with_reducible exact ti_)
  simp only [qoe, enc, qe, qo, and_self]

def qd6 {α : Type} (p : K × Option α) (r : K × α) : Prop := p.1 = r.1 ∧ (∀ n, p.2 = some n → n = r.2) ∧ (p.2 = none → p.1.err ≠ 0)
theorem qk9 {rec : K → K × N} {c : K} (h : c.err ≠ 0) : qcq rec c = (c, N0) := if_neg h
theorem qw5 {rec : K → K × N} {c : K} (h : c.err ≠ 0) (f : Nat) (acc : List N) : qer rec f c acc = (c, acc) := by
 cases f with
 | zero => rfl
 | succ f => rw [qer, if_neg (by rw [qvm h]; simp)]
theorem qqq {rec : K → K × N} {c : K} (h : c.err ≠ 0) : qdf rec c = (c, N0) := by
 rw [qdf, qga h, if_neg (by decide), qk9 h]
theorem qi1 (f : Nat) {c : K} (h : c.err ≠ 0) : qcg f c = (c, N0) := by
 cases f with
 | zero => rfl
 | succ f => rw [qcg, qi9 h, qqq h, qe2 h, if_neg (by simp), qco h]
section
variable {rp : K → K × Option N} {rr : K → K × N} {b : Nat} (hx : ∀ c : K, c.err ≠ 0 → (rr c).1 = c) (ih : ∀ c, em c < b → qd6 (rp c) (rr c))
include hx ih
theorem qj1 {c : K} (hr : em c ≤ b) : qd6 (qbz rp c) (qcq rr c) := by
 by_cases h0 : c.err = 0
 ·unfold qbz qcq
  rw [if_pos h0]
  by_cases h1 : (qq c).kind = 1
  ·rw [if_pos h1, if_pos h1]; exact ⟨rfl, (fun n h => by cases h; rfl), (fun h => by cases h)⟩
  ·rw [if_neg h1, if_neg h1]
   by_cases h2 : (qq c).kind = 2
   ·rw [if_pos h2, if_pos h2]; exact ⟨rfl, (fun n h => by cases h; rfl), (fun h => by cases h)⟩
   ·rw [if_neg h2, if_neg h2]
    by_cases hk : isK c [40] = true
    ·rw [if_pos hk, if_pos hk]
     have hem := qfl hk
     by_cases he : (qc c).2 = true
     ·rw [if_pos he]
      have hk' : isK (qc c).1 [40] = true := by rw [qpv he]; exact hk
      rw [qp4 hk'] at hem ⊢
      simp only at hem ⊢
      obtain ⟨a1, a2, a3⟩ := ih (qu (qc c).1) (by omega)
      rw [← a1]
      generalize rp (qu (qc c).1) = r at *
      obtain ⟨d, o⟩ := r
      simp only at a1 a2 a3 ⊢
      cases o with
      | none =>
        have h3 := a3 rfl
        rw [if_neg (by simp), qbu h3, qco h3]
        exact ⟨rfl, (fun n h => by cases h), fun _ => h3⟩
      | some n =>
        rw [if_pos (by rfl)]
        by_cases hw : (qi d [41]).2 = true
        ·rw [if_pos hw]
         exact ⟨rfl, fun m h => a2 m h, (fun h => by cases h)⟩
        ·rw [if_neg hw]
         have h3 := qdn (by simpa using hw)
         exact ⟨rfl, (fun n h => by cases h), fun _ => by simp only; rw [qco h3]; exact h3⟩
     ·have he' : (qc c).2 = false := by simpa using he
      have h1 := qg2 he'
      rw [if_neg he]
      rw [qbu h1] at hem ⊢
      simp only at hem ⊢
      rw [hx _ h1, qbu h1, qco h1]
      exact ⟨rfl, (fun n h => by cases h), fun _ => h1⟩
    ·rw [if_neg hk, if_neg hk]
     exact ⟨rfl, (fun n h => by cases h), fun _ => qgv c⟩
 ·rw [qk9 h0, qbz, qga h0, if_neg (by decide), if_neg (by decide), if_neg (by rw [q1d h0]; simp), qfj h0]
  exact ⟨rfl, (fun n h => by cases h), fun _ => h0⟩
theorem qsj (hp : ∀ c, Mon c (rp c).1) (hm : ∀ c, Mon c (rr c).1) : ∀ (f g : Nat) (c : K) (acc : List N), rest c < f → em c < g → em c ≤ b → qd6 (qec rp f c acc) (qer rr g c acc)
 | 0, _, _, _ => fun h _ _ => by omega
 | _, 0, _, _ => fun _ h _ => by omega
 | f + 1, g + 1, c, acc => fun hf hg hb => by
   rw [qec, qer]
   by_cases hk : begT c = true
   ·rw [if_pos hk, if_pos hk]
    obtain ⟨a1, a2, a3⟩ := qj1 hx ih hb
    have hl := qhh hm hk
    rw [← a1] at hl ⊢
    cases ho : (qbz rp c).2 with
    | none =>
      have h3 := a3 ho
      rw [if_neg (by simp), qw5 h3]
      exact ⟨rfl, (fun n h => by cases h), fun _ => h3⟩
    | some n =>
      rw [if_pos (by rfl), ← a2 n ho]
      exact qsj hp hm f g _ _ (by have := qea hp (c := c) (by rw [ho]; rfl); omega) (by omega) (by omega)
   ·rw [if_neg hk, if_neg hk]
    exact ⟨rfl, (fun l h => by cases h; rfl), (fun h => by cases h)⟩
theorem q4z (hp : ∀ c, Mon c (rp c).1) (hm : ∀ c, Mon c (rr c).1) {c : K} (hr : em c ≤ b) : qd6 (qcf rp c) (qdf rr c) := by
 unfold qcf qdf
 by_cases hk : (qq c).kind = 2
 ·rw [if_pos hk, if_pos hk]
  have h1 := qbk (c := c) (by omega)
  have h2 := qkv (c := c) (by omega)
  obtain ⟨a1, a2, a3⟩ := qsj hx ih hp hm (rest c + 1) (em (qu c) + 1) (qu c) [] (by omega) (by omega) (by omega)
  refine ⟨a1, fun n h => ?_, fun h => a3 (by simpa using h)⟩
  obtain ⟨l, hl, rfl⟩ := Option.map_eq_some_iff.1 h
  rw [a2 l hl]
 ·rw [if_neg hk, if_neg hk]
  exact qj1 hx ih hr
theorem qtb {c : K} (hr : em c ≤ b) : qd6 (qbo rp c) (qb8 rr c) := by
 have h1 := (qbf c 2).em
 obtain ⟨a1, a2, a3⟩ := qj1 hx ih (c := (qn c 2).1) (by omega)
 unfold qbo qb8
 by_cases hk : (qn c 2).2 = true
 ·rw [if_pos hk]
  refine ⟨a1, fun n h => ?_, fun h => a3 (by simpa using h)⟩
  obtain ⟨m, hm, rfl⟩ := Option.map_eq_some_iff.1 h
  rw [a2 m hm]
 ·rw [if_neg hk]
  have h2 := qne (c := c) (k := 2) (by simpa using hk)
  rw [qk9 h2]
  exact ⟨rfl, (fun n h => by cases h), fun _ => h2⟩
end
theorem qla : ∀ (f : Nat) (c : K), em c < f → qd6 (qb3 f c) (qcg f c)
 | 0, _ => fun h => by omega
 | f + 1, c => fun hf => by
   have ih := qla f
   have hx : ∀ c : K, c.err ≠ 0 → (qcg f c).1 = c := fun c h => by rw [qi1 f h]
   rw [qb3, qcg]
   by_cases he : (qc c).2 = true
   ·have h1 := (qm c).em
    rw [if_pos he]
    obtain ⟨a1, a2, a3⟩ := q4z hx ih (qcy f) (qcm f) (c := (qc c).1) (by omega)
    have hl := (qmi (qcm f) (qc c).1).em
    rw [← a1] at hl ⊢
    cases ho : (qcf (qb3 f) (qc c).1).2 with
    | none =>
      have h3 := a3 ho
      rw [if_neg (by simp), qe2 h3, if_neg (by simp)]
      exact ⟨rfl, (fun n h => by cases h), fun _ => by simp only; rw [qco h3]; exact h3⟩
    | some n =>
      rw [if_pos (by rfl), ← a2 n ho]
      by_cases ht : (qf (qcf (qb3 f) (qc c).1).1 [45, 62]).2 = true
      ·rw [if_pos ht, if_pos ht]
       have h5 := qdw ht
       obtain ⟨b1, b2, b3⟩ := ih (qf (qcf (qb3 f) (qc c).1).1 [45, 62]).1 (by omega)
       refine ⟨by simp only; rw [b1], fun m h => ?_, fun h => ?_⟩
       ·obtain ⟨q, hq, rfl⟩ := Option.map_eq_some_iff.1 h
        rw [b2 q hq]; rfl
       ·have h6 := b3 (by simpa using h)
        simp only
        rw [qco h6]; exact h6
      ·rw [if_neg ht, if_neg ht]
       exact ⟨rfl, (fun m h => by cases h; rfl), (fun h => by cases h)⟩
   ·have he' : (qc c).2 = false := by simpa using he
    have h1 := qg2 he'
    rw [if_neg he, qqq h1, qe2 h1, if_neg (by simp), qco h1]
    exact ⟨rfl, (fun n h => by cases h), fun _ => h1⟩
section
variable {rp : K → K × Option N} {rr : K → K × N} {b : Nat} (hx : ∀ c : K, c.err ≠ 0 → (rr c).1 = c) (ih : ∀ c, em c < b → qd6 (rp c) (rr c)) (hp : ∀ c, Mon c (rp c).1) (hm : ∀ c, Mon c (rr c).1)
include hx ih hp hm
theorem qo9 : ∀ (f g : Nat) (c : K) (acc : List N), rest c < f → em c < g → em c ≤ b → qd6 (qe0 rp true f c acc) (qej rr g c acc)
 | 0, _, _, _ => fun h _ _ => by omega
 | _, 0, _, _ => fun _ h _ => by omega
 | f + 1, g + 1, c, acc => fun hf hg hb => by
   rw [qe0, qej]
   obtain ⟨a1, a2, a3⟩ := qtb hx ih hb
   have hl := (qfu hm c).em
   rw [← a1] at hl ⊢
   cases ho : (qbo rp c).2 with
   | none =>
     have h3 := a3 ho
     rw [if_neg (by simp), qe2 h3, if_neg (by simp)]
     exact ⟨rfl, (fun n h => by cases h), fun _ => h3⟩
   | some n =>
     rw [if_pos (by rfl), Bool.true_and, ← a2 n ho]
     by_cases ht : (qf (qbo rp c).1 [44]).2 = true
     ·rw [if_pos ht, if_pos ht]
      have h5 := qdw ht
      have h6 := qk2 hp (c := c) (by rw [ho]; rfl)
      have h7 := (qk (qbo rp c).1 [44]).2.1
      exact qo9 f g _ _ (by omega) (by omega) (by omega)
     ·rw [if_neg ht, if_neg ht]
      exact ⟨rfl, (fun l h => by cases h; rfl), (fun h => by cases h)⟩
theorem qsg {c : K} (hg : ∀ t ∈ c.l, t.kind ≠ 0) (hr : em c ≤ b) : qd6 (qbj rp c) (qdy rr c) := by
 unfold qbj qdy
 by_cases ha : qka c [61, 62] = true
 ·rw [if_pos ha, if_pos ha]
  unfold qg4
  by_cases ht : (qf c [40]).2 = true
  ·rw [if_pos ht, ht, Bool.true_and]
   have h5 := qdw ht
   have hB : qd6 (if isK (qf c [40]).1 [41] = true then ((qf c [40]).1, some []) else qe0 rp true (rest (qf c [40]).1 + 1) (qf c [40]).1 []) (qf5 rr (qf c [40]).1) := by
    unfold qf5
    split
    ·exact ⟨rfl, (fun l h => by cases h; rfl), (fun h => by cases h)⟩
    ·exact qo9 hx ih hp hm _ _ _ _ (by omega) (by omega) (by omega)
   obtain ⟨a1, a2, a3⟩ := hB
   generalize (if isK (qf c [40]).1 [41] = true then ((qf c [40]).1, some []) else qe0 rp true (rest (qf c [40]).1 + 1) (qf c [40]).1 []) = p at *
   rw [← a1]
   unfold qgi
   cases ho : p.2 with
   | none =>
     have h3 := a3 ho
     rw [if_neg (by simp), qbu h3, qbu h3]
     exact ⟨rfl, (fun n h => by cases h), fun _ => h3⟩
   | some l =>
     rw [if_pos (by rfl), if_pos rfl, ← a2 l ho]
     by_cases hw : (qi p.1 [41]).2 = true
     ·rw [if_pos hw]
      by_cases hw2 : (qi (qi p.1 [41]).1 [61, 62]).2 = true
      ·rw [if_pos hw2]; exact ⟨rfl, (fun m h => by cases h; rfl), (fun h => by cases h)⟩
      ·rw [if_neg hw2]
       exact ⟨rfl, (fun n h => by cases h), fun _ => qdn (by simpa using hw2)⟩
     ·rw [if_neg hw]
      have h3 := qdn (c := p.1) (x := [41]) (by simpa using hw)
      rw [qbu h3]
      exact ⟨rfl, (fun n h => by cases h), fun _ => h3⟩
  ·have ht' : (qf c [40]).2 = false := by simpa using ht
   have hsm := qc2 ht'
   rw [if_neg ht, ht', hsm, Bool.false_and, if_neg (by simp)]
   unfold qgi
   obtain ⟨a1, a2, a3⟩ := qtb hx ih hr
   rw [qe0, ← a1]
   cases ho : (qbo rp c).2 with
   | none =>
     have h3 := a3 ho
     rw [if_neg (by simp), if_neg (by simp), qbu h3]
     exact ⟨rfl, (fun n h => by cases h), fun _ => h3⟩
   | some n =>
     rw [if_pos (by rfl), Bool.false_and, if_neg (by simp), if_pos (by rfl), if_neg (by simp), ← a2 n ho]
     simp only [Option.getD_some, List.nil_append]
     by_cases hw : (qi (qbo rp c).1 [61, 62]).2 = true
     ·rw [if_pos hw]; exact ⟨rfl, (fun m h => by cases h; rfl), (fun h => by cases h)⟩
     ·rw [if_neg hw]
      exact ⟨rfl, (fun n h => by cases h), fun _ => qdn (by simpa using hw)⟩
 ·rw [if_neg ha, if_neg ha]
  by_cases he : c.err = 0
  ·have hf : qsw c = false := by
    unfold qsw
    by_cases hl : c.at' < c.l.length
    ·have hk : (qq c).kind ≠ 0 := by rw [qny he (by omega)]; exact hg _ (q17 hl)
     rw [qwk he (by omega), decide_eq_false hk]; rfl
    ·rw [qql he (by omega)]; rfl
   rw [hf]
   exact ⟨rfl, (fun m h => by cases h; rfl), (fun h => by cases h)⟩
  ·have hf : qsw c = true := by
    unfold qsw
    rw [qnl he, qga he]
    simp [he, T0]
   rw [hf]
   exact ⟨rfl, (fun m h => by cases h), fun _ => he⟩
end
theorem q32 (f : Nat) (c : K) (hg : ∀ t ∈ c.l, t.kind ≠ 0) (hr : em c < f) : qd6 (qfw f c) (qk3 f c) := by
 have hx : ∀ c : K, c.err ≠ 0 → (qcg f c).1 = c := fun c h => by rw [qi1 f h]
 obtain ⟨a1, a2, a3⟩ := qsg hx (qla f) (qcy f) (qcm f) hg (b := f) (by omega)
 have hl := (qhb (qcm f) c).em
 unfold qfw qk3
 rw [← a1] at hl ⊢
 cases ho : (qbj (qb3 f) c).2 with
 | none =>
   have h3 := a3 ho
   rw [if_neg (by simp), qi1 f h3]
   exact ⟨rfl, (fun n h => by cases h), fun _ => h3⟩
 | some l =>
   rw [if_pos (by rfl), ← a2 l ho]
   obtain ⟨b1, b2, b3⟩ := qla f (qbj (qb3 f) c).1 (by omega)
   refine ⟨b1, fun m h => ?_, fun h => b3 (by simpa using h)⟩
   obtain ⟨q, hq, rfl⟩ := Option.map_eq_some_iff.1 h
   rw [b2 q hq]; rfl
theorem qmg : ∀ {l : List T} {t : T}, t ∈ qhg l → t.kind ≠ 0
 | [], t, h => by simp [qhg] at h
 | u :: r, t, h => by
   rw [qhg] at h
   split at h
   ·simp at h
   ·rename_i hk
    rcases List.mem_cons.1 h with rfl | h
    ·exact hk
    ·exact qmg h
end Go.Proofs.YtfjbmjplnmaclaaGreat
