/- Texts of this proof, joined. -/
import Derived.Test.YtfjbmjplnmaclaaGreatQba

/- types: the reference -/
set_option maxRecDepth 4000
namespace Go.Proofs.YtfjbmjplnmaclaaGreat
open Go Go.RowKit Go.V
set_option linter.unusedVariables false
set_option linter.unusedSimpArgs false

theorem qku {c : K} (h : (qq c).kind ≠ 0) : em (qu c) < em c := by
 have h1 := qbk h
 rw [qbtu (qe5 h).1]
 have := qgo (qu c)
 omega
theorem qdx {c : K} {x : List UInt8} (h : (qf c x).2 = true) : em (qf c x).1 < em c := by
 unfold qf at h ⊢
 split at h
 ·rename_i h1
  rw [if_pos h1]
  exact qku (qdu h1)
 ·cases h
theorem qfn {c : K} (h : isK c [40] = true) : em (qi (qc c).1 [40]).1 < em c := by
 rw [qbtu (q0h h)]
 cases he : (qc c).2 with
 | false => rw [qbu (qg5 he), qchj (qg5 he)]; omega
 | true =>
   have h1 : isK (qc c).1 [40] = true := by rw [qpx he]; exact h
   have h2 := qbk (qdu h1)
   have h3 := (qm c).2.1
   have h4 := qgo (qu (qc c).1)
   rw [qqe h1]
   simp only; omega
def qcq (rec : K → K × N) (c : K) : K × N :=
 if c.err = 0 then
  if (qq c).kind = 1 then (qu c, qie c 1 [])
  else if (qq c).kind = 2 then (qu c, qie c 2 [])
  else if isK c [40] = true then (qcj (qi (rec (qi (qc c).1 [40]).1).1 [41]).1, (rec (qi (qc c).1 [40]).1).2)
  else (qdh c 5, N0)
 else (c, N0)
def qep (rec : K → K × N) : Nat → K → List N → K × List N
 | 0, c, acc => (c, acc)
 | f + 1, c, acc => if begT c = true then qep rec f (qcq rec c).1 (acc ++ [(qcq rec c).2]) else (c, acc)
def qdg (rec : K → K × N) (c : K) : K × N :=
 if (qq c).kind = 2 then ((qep rec (em (qu c) + 1) (qu c) []).1, qie c 2 (qep rec (em (qu c) + 1) (qu c) []).2) else qcq rec c
def qcg : Nat → K → K × N
 | 0, c => (c, N0)
 | f + 1, c =>
   if (qf (qdg (qcg f) (qc c).1).1 [45, 62]).2 = true then
    (qcj (qcg f (qf (qdg (qcg f) (qc c).1).1 [45, 62]).1).1, qi2 (qdg (qcg f) (qc c).1).2 (qcg f (qf (qdg (qcg f) (qc c).1).1 [45, 62]).1).2)
   else (qcj (qdg (qcg f) (qc c).1).1, (qdg (qcg f) (qc c).1).2)
section
variable {rec : K → K × N} (hm : ∀ c, Mon c (rec c).1)
include hm
theorem qpv (c : K) : Mon (qi (qc c).1 [40]).1 (qcj (qi (rec (qi (qc c).1 [40]).1).1 [41]).1) := ((hm _).trans (qd _ _)).trans (qbv _)
theorem qf1 (c : K) : Mon c (qcq rec c).1 := by
 unfold qcq
 split
 ·split
  ·exact qbo c
  ·split
   ·exact qbo c
   ·split
    ·exact ((qm c).trans (qd _ _)).trans (qpv hm c)
    ·exact qeg c 5
 ·exact Mon.refl c
theorem qhq {c : K} (h : begT c = true) : em (qcq rec c).1 < em c := by
 unfold qcq
 rw [if_pos (qbae h)]
 split
 ·exact qku (by omega)
 ·split
  ·exact qku (by omega)
  ·rename_i h1 h2
   have hk : isK c [40] = true := by simpa only [begT, decide_eq_false h1, decide_eq_false h2, Bool.false_or] using h
   rw [if_pos hk]
   have h3 := qfn hk
   have h4 := (qpv hm c).em
   simp only; omega
theorem qov : ∀ (f : Nat) (c : K) (acc : List N), Mon c (qep rec f c acc).1
 | 0, c, acc => Mon.refl c
 | f + 1, c, acc => by
   rw [qep]
   split
   ·exact (qf1 hm c).trans (qov f _ _)
   ·exact Mon.refl c
theorem qmm (c : K) : Mon c (qdg rec c).1 := by
 unfold qdg
 split
 ·exact (qbo c).trans (qov hm _ _ _)
 ·exact qf1 hm c
end
theorem qcl : ∀ (f : Nat) (c : K), Mon c (qcg f c).1
 | 0, c => Mon.refl c
 | f + 1, c => by
   have hr := (qm c).trans (qmm (qcl f) (qc c).1)
   rw [qcg]
   split
   ·exact ((hr.trans (qk _ _)).trans (qcl f _)).trans (qbv _)
   ·exact hr.trans (qbv _)

/-! The program. -/
theorem qin (c : K) : qz Tryz.prog 154 [refC c] (.bool (begT c)) := by
 refine qj c0gc (by simp) (by simp only [go_sem]) rfl fun hw => ?_
 repeat' (first | refine vs_ ?_ | ((first | refine vr_ ?_ | refine qa (ql c) fun _ => ?_ | refine qa (qcw c _) fun _ => ?_ | (refine cs_ ?_ ?_ <;> intro hc) | refine cj_ ?_ | fail) <;> (try refine ev_ ?_)) | with_reducible exact ti_)
 all_goals (have := @qwd c; unfold begT at *; simp_all)
def qxk (p : Int) (t : List UInt8) (c : K) (acc : List N) : AF × List Ent :=
 (⟨[(1, .ptr 0 0), (2, .ptr 1 0), (3, .ptr 2 0), (5, .ptr 3 0)], []⟩,
   .blk (refC c).cells :: .blk [.nils, .int .i64 0, .int .i64 0, .int .i64 0, .str [], .int .i64 0, .int .i64 0, .int .i64 0] :: .blk [.int .i64 0, .int .i64 0, .int .i64 0, .str [], .nils] :: .blk [.int .i64 2, .int .i64 p, .int .i64 0, .str t, accV 4 (encs acc)] :: accE 5 (encs acc))
section
variable {rec : K → K × N} {b : Nat} (hm : ∀ c, Mon c (rec c).1) (ih : ∀ c, c.good → em c < b → qz Tryz.prog 119 [refC c] (.tup [refC (rec c).1, enc (rec c).2]))
include hm ih
theorem qe6 (c : K) (hg : c.good) (hr : em c ≤ b) : qz Tryz.prog 81 [refC c] (.tup [refC (qcq rec c).1, enc (qcq rec c).2]) := by
 have g1 : (qi (qc c).1 [40]).1.good := ((qm c).trans (qd _ _)).1 hg
 have g2 : (qi (rec (qi (qc c).1 [40]).1).1 [41]).1.good := ((hm _).trans (qd _ _)).1 g1
 refine qj c0gd (by simp) (by simp only [go_sem]) (by simp only [go_sem]) fun hw => ?_
 repeat' (first | refine vs_ ?_ | ((first | refine vr_ ?_ | refine qa (ql c) fun _ => ?_ | refine qa (qcw c _) fun _ => ?_ | refine qa (qcr c _) fun _ => ?_ | refine qa (qcp c) fun _ => ?_ | refine qa (qba _ _) fun _ => ?_ | refine qa (ih _ g1 (Nat.lt_of_lt_of_le (qfn (by assumption)) hr)) fun _ => ?_ | refine qa (qb4 _ g2.2.2) fun _ => ?_ | refine qa (qc3 c) fun _ => ?_ | refine qb (ql c) ?_ | refine qb (qcw c _) ?_ | refine qb (qcr c _) ?_ | refine qb (qcp c) ?_ | refine qb (qba _ _) ?_ | refine qb (ih _ g1 (Nat.lt_of_lt_of_le (qfn (by assumption)) hr)) ?_ | refine qb (qb4 _ g2.2.2) ?_ | refine qb (qc3 c) ?_ | (refine cs_ ?_ ?_ <;> intro hc) | refine cj_ ?_ | fail) <;> (try refine ev_ ?_)) | with_reducible exact ti_)
 all_goals (unfold qcq qie; simp only [*, qdt, Int.reduceEq, if_true, if_false, reduceIte, Bool.false_eq_true, Option.getD_none, Option.getD_some, Option.isSome_none, Option.isSome_some, and_self, true_and, and_true]; try rfl)
theorem qbbk (c : K) (hg : c.good) (hr : em c ≤ b) : qz Tryz.prog 140 [refC c] (.tup [refC (qdg rec c).1, enc (qdg rec c).2]) := by
 refine qj c0ge (by simp) (by simp only [go_sem]) (by simp only [go_sem]) fun hw => ?_
 by_cases hk : (qq c).kind = 2
 ·have hpa : qdg rec c = ((qep rec (em (qu c) + 1) (qu c) []).1, qie c 2 (qep rec (em (qu c) + 1) (qu c) []).2) := by rw [qdg, if_pos hk]
  rw [hpa]
  clear hpa
  have g1 : (qu c).good := (qbo _).1 hg
  have hr1 : em (qu c) ≤ b := by have := (qbo c).em; omega
  generalize htg : qep rec (em (qu c) + 1) (qu c) [] = tg
  repeat' (first | refine vs_ ?_ | ((first | refine vr_ ?_ | fail) <;> (try simp only [hk, Int.reduceEq, go_sem, ↓reduceIte])) | ((first | (refine cs_ ?_ ?_ <;> intro hc) | refine cj_ ?_ | fail | refine qa (ql _) fun _ => ?_ | refine qa (qc3 _) fun _ => ?_ | refine qb (ql _) ?_ | refine qb (qc3 _) ?_) <;> (try refine ev_ ?_)) | with_reducible exact ti_)
  refine qbm (S := Nat × K × List N) (fun x => x.2.1.good ∧ em x.2.1 ≤ b ∧ qep rec x.1 x.2.1 x.2.2 = tg ∧ em x.2.1 < x.1 ∧ x.2.2.length + em x.2.1 ≤ 1048578)
   (fun x => qxk (qq c).pos (qq c).text x.2.1 x.2.2) (fun x => em x.2.1) ?_ ?_
  ·refine q8 (em (qu c) + 1, qu c, []) [0, 1, 2, 4] ⟨g1, hr1, htg, by simp only; omega, ?_⟩ rfl (by simp) ?_ ?_ ?_
   ·have h9 := g1.rest
    have h8 := qgo (qu c)
    unfold rest at h8
    simp only [List.length_nil]
    omega
   all_goals simp only [qxk, encs, qr, qt]
   all_goals (refine ev_ ?_; (try with_reducible exact ti_))
  ·rintro ⟨fu, d, acc⟩ ⟨i1, i2, i3, i4, i5⟩
   simp only at i1 i2 i3 i4 i5
   unfold qxk
   obtain ⟨fu, rfl⟩ : ∃ k, fu = k + 1 := ⟨fu - 1, by omega⟩
   rw [qep] at i3
   have hcap : qdq (acc.length + 1) 64 := capN (by omega)
   have j1 : (qcq rec d).1.good := (qf1 hm d).1 i1
   have j2 : em (qcq rec d).1 ≤ em d := (qf1 hm d).em
   by_cases h0 : acc = []
   ·subst h0
    simp only [encs, qr, qt]
    repeat' (first | refine vs_ ?_ | ((first | refine vr_ ?_ | refine qa (qin _) fun _ => ?_ | refine qa (qe6 hm ih _ i1 i2) fun _ => ?_ | refine qb (qin _) ?_ | refine qb (qe6 hm ih _ i1 i2) ?_ | (refine cs_ ?_ ?_ <;> intro hc) | refine cj_ ?_ | fail) <;> (try refine ev_ ?_)) | with_reducible exact ti_)
    ·have hb : begT d = true := by assumption
     rw [if_pos hb] at i3
     have hlt := qhq hm hb
     refine q8 (fu, (qcq rec d).1, [] ++ [(qcq rec d).2]) [0, 1, 2, 3, 6] ⟨⟨j1, by simp only; omega, i3, by simp only; omega, ?_⟩, by simp only; omega⟩ rfl (by simp) ?_ ?_ ?_
     ·simp only [List.length_append, List.length_cons, List.length_nil]; omega
     all_goals simp only [qxk, ← qe, qbs, qbr, List.nil_append, encs, qby, qbx]
     all_goals (refine ev_ ?_; (try with_reducible exact ti_))
    ·have hb : begT d = false := by assumption
     rw [if_neg (by rw [hb]; simp)] at i3
     subst i3
     rfl
   ·have hne := q9 h0
    simp only [qbd hne, qbc hne, qx]
    repeat' (first | refine vs_ ?_ | ((first | refine vr_ ?_ | refine qa (qin _) fun _ => ?_ | refine qa (qe6 hm ih _ i1 i2) fun _ => ?_ | refine qb (qin _) ?_ | refine qb (qe6 hm ih _ i1 i2) ?_ | (refine cs_ ?_ ?_ <;> intro hc) | refine cj_ ?_ | fail) <;> (try refine ev_ ?_)) | with_reducible exact ti_)
    ·have hb : begT d = true := by assumption
     rw [if_pos hb] at i3
     have hlt := qhq hm hb
     refine q8 (fu, (qcq rec d).1, acc ++ [(qcq rec d).2]) [0, 1, 2, 3, 7] ⟨⟨j1, by simp only; omega, i3, by simp only; omega, ?_⟩, by simp only; omega⟩ rfl (by simp) ?_ ?_ ?_
     ·simp only [List.length_append, List.length_cons, List.length_nil]; omega
     all_goals simp only [qxk, ← qe, qbs, qbr, List.nil_append, encs, qby, qbx]
     all_goals (refine ev_ ?_; (try with_reducible exact ti_))
     rw [qe, qo, qbb]; exact ⟨rfl, rfl⟩
    ·have hb : begT d = false := by assumption
     rw [if_neg (by rw [hb]; simp)] at i3
     subst i3
     rfl
 ·repeat' (first | refine vs_ ?_ | ((first | refine vr_ ?_ | fail) <;> (try simp only [hk, go_sem, ↓reduceIte])) | ((first | (refine cs_ ?_ ?_ <;> intro hc) | refine cj_ ?_ | fail | refine qa (ql _) fun _ => ?_ | refine qa (qe6 hm ih c hg hr) fun _ => ?_ | refine qb (ql _) ?_ | refine qb (qe6 hm ih c hg hr) ?_) <;> (try refine ev_ ?_)) | with_reducible exact ti_)
  rw [qdg, if_neg hk]
end
theorem qvb {f : Nat} (ih : ∀ c, c.good → em c < f → qz Tryz.prog 119 [refC c] (.tup [refC (qcg f c).1, enc (qcg f c).2])) (c : K) (hg : c.good) (hr : em c < f + 1) :
 qz Tryz.prog 119 [refC c] (.tup [refC (qcg (f + 1) c).1, enc (qcg (f + 1) c).2]) := by
 have hm := qcl f
 have g1 : (qc c).1.good := (qm c).1 hg
 have hr1 : em (qc c).1 ≤ f := by have := (qm c).em; omega
 have hrow := qbbk hm ih _ g1 hr1
 have mrow := qmm hm (qc c).1
 have hpa : qcg (f + 1) c = if (qf (qdg (qcg f) (qc c).1).1 [45, 62]).2 = true then
  (qcj (qcg f (qf (qdg (qcg f) (qc c).1).1 [45, 62]).1).1, qi2 (qdg (qcg f) (qc c).1).2 (qcg f (qf (qdg (qcg f) (qc c).1).1 [45, 62]).1).2)
  else (qcj (qdg (qcg f) (qc c).1).1, (qdg (qcg f) (qc c).1).2) := by rw [qcg]
 rw [hpa]
 clear hpa
 generalize qdg (qcg f) (qc c).1 = r at *
 have g2 : r.1.good := mrow.1 g1
 have g3 : (qf r.1 [45, 62]).1.good := (qk _ _).1 g2
 have g4 : (qcg f (qf r.1 [45, 62]).1).1.good := (hm _).1 g3
 have hlt : (qf r.1 [45, 62]).2 = true → em (qf r.1 [45, 62]).1 < f := fun h => by
  have := qdx h
  have := mrow.em
  omega
 refine qj c0gf (by simp) (by simp only [go_sem]) (by simp only [go_sem]) fun hw => ?_
 repeat' (first | refine vs_ ?_ | ((first | refine vr_ ?_ | refine qa (qcp c) fun _ => ?_ | refine qa hrow fun _ => ?_ | refine qa (qv _ _) fun _ => ?_ | refine qa (ih _ g3 (hlt (by assumption))) fun _ => ?_ | refine qa (qb4 _ g4.2.2) fun _ => ?_ | refine qa (qb4 _ g3.2.2) fun _ => ?_ | refine qb (qcp c) ?_ | refine qb hrow ?_ | refine qb (qv _ _) ?_ | refine qb (ih _ g3 (hlt (by assumption))) ?_ | refine qb (qb4 _ g4.2.2) ?_ | refine qb (qb4 _ g3.2.2) ?_ | (refine cs_ ?_ ?_ <;> intro hc) | refine cj_ ?_ | fail) <;> (try refine ev_ ?_)) | with_reducible exact ti_)
 ·simp only [qi2, enc, encs]
 ·rw [qc2 (by assumption)]
theorem qp5 (f : Nat) : ∀ c : K, c.good → em c < f → qz Tryz.prog 119 [refC c] (.tup [refC (qcg f c).1, enc (qcg f c).2]) := by
 induction f with
 | zero => exact fun c _ h => absurd h (by omega)
 | succ f ih => exact qvb ih
set_option maxRecDepth 4000

def qca (rec : K → K × N) (c : K) : K × N := ((qcq rec (qn c 2).1).1, qr6 (qev c 2) (qcq rec (qn c 2).1).2)
def qeh (rec : K → K × N) : Nat → K → List N → K × List N
 | 0, c, acc => (c, acc)
 | f + 1, c, acc =>
   if (qf (qca rec c).1 [44]).2 = true then qeh rec f (qf (qca rec c).1 [44]).1 (acc ++ [(qca rec c).2])
   else ((qca rec c).1, acc ++ [(qca rec c).2])
def qge (rec : K → K × N) (c : K) : K × List N :=
 if isK c [41] = true then (c, []) else qeh rec (em c + 2) c []
def qdy (rec : K → K × N) (c : K) : K × List N :=
 if qkf c [61, 62] = true then
  if (qf c [40]).2 = true then ((qi (qi (qge rec (qf c [40]).1).1 [41]).1 [61, 62]).1, (qge rec (qf c [40]).1).2)
  else ((qi (qca rec c).1 [61, 62]).1, [(qca rec c).2])
 else (c, [])
section
variable {rec : K → K × N} (hm : ∀ c, Mon c (rec c).1)
include hm
theorem qft (c : K) : Mon c (qca rec c).1 := (qbf c 2).trans (qf1 hm _)
theorem qm6 : ∀ (f : Nat) (c : K) (acc : List N), Mon c (qeh rec f c acc).1
 | 0, c, acc => Mon.refl c
 | f + 1, c, acc => by
   rw [qeh]
   split
   ·exact ((qft hm c).trans (qk _ _)).trans (qm6 f _ _)
   ·exact qft hm c
theorem qm8 (c : K) : Mon c (qge rec c).1 := by
 unfold qge
 split
 ·exact Mon.refl c
 ·exact qm6 hm _ _ _
theorem qg7 (c : K) : Mon c (qdy rec c).1 := by
 unfold qdy
 split
 ·split
  ·exact (((qk c _).trans (qm8 hm _)).trans (qd _ _)).trans (qd _ _)
  ·exact (qft hm c).trans (qd _ _)
 ·exact Mon.refl c
end
def qy0 (x : Bool × Nat × K × List N) : AF × List Ent :=
 (⟨[(2, .ptr 0 0), (4, accV 2 (encs x.2.2.2)), (5, .ptr 1 0), (9, .bool x.1)], []⟩,
   .blk [.nils, .int .i64 0, .int .i64 0, .int .i64 0, .str [], .int .i64 0, .int .i64 0, .int .i64 0] :: .blk (refC x.2.2.1).cells :: accE 5 (encs x.2.2.2))
section
variable {rec : K → K × N} {b : Nat} (hm : ∀ c, Mon c (rec c).1) (ih : ∀ c, c.good → em c < b → qz Tryz.prog 119 [refC c] (.tup [refC (rec c).1, enc (rec c).2]))
include hm ih
theorem qhv (c : K) (hg : c.good) (hr : em c ≤ b) : qz Tryz.prog 123 [refC c] (.tup [refC (qca rec c).1, enc (qca rec c).2]) := by
 have g1 : (qn c 2).1.good := (qbf c 2).1 hg
 have hr1 : em (qn c 2).1 ≤ b := by have := (qbf c 2).em; omega
 refine qj c0fz (by simp) (by simp only [go_sem]) (by simp only [go_sem]) fun hw => ?_
 repeat' (first | refine vs_ ?_ | ((first | refine vr_ ?_ | refine qa (qbe c 2) fun _ => ?_ | refine qa (qe6 hm ih _ g1 hr1) fun _ => ?_ | refine qb (qbe c 2) ?_ | refine qb (qe6 hm ih _ g1 hr1) ?_ | (refine cs_ ?_ ?_ <;> intro hc) | refine cj_ ?_ | fail) <;> (try refine ev_ ?_)) | with_reducible exact ti_)
 all_goals (simp only [qca, qr6, enc, encs])
theorem qqr (c : K) (hg : c.good) (hr : em c ≤ b) : qz Tryz.prog 84 [refC c] (.tup [refC (qdy rec c).1, .sl 5 (encs (qdy rec c).2)]) := by
 refine qj c0ga (by simp) (by simp only [go_sem]) (by simp only [go_sem]) fun hw => ?_
 have g1 : (qf c [40]).1.good := (qk c _).1 hg
 have hr1 : em (qf c [40]).1 ≤ b := by have := (qk c [40]).em; omega
 unfold qdy
 by_cases ha : qkf c [61, 62] = true
 ·rw [if_pos ha]
  by_cases ht : (qf c [40]).2 = true
  ·rw [if_pos ht]
   generalize htg : qge rec (qf c [40]).1 = tg
   have gt : tg.1.good := htg ▸ (qm8 hm _).1 g1
   unfold qge at htg
   by_cases hi : isK (qf c [40]).1 [41] = true
   ·rw [if_pos hi] at htg
    subst htg
    repeat' (first | refine vs_ ?_ | ((first | refine vr_ ?_ | fail) <;> (try simp only [ha, ht, hi, go_sem, ↓reduceIte])) | ((first | (refine cs_ ?_ ?_ <;> intro hc) | refine cj_ ?_ | fail | refine qa (qez c hg.2.1 _) fun _ => ?_ | refine qa (qv c _) fun _ => ?_ | refine qa (qcw _ _) fun _ => ?_ | refine qa (qba _ _) fun _ => ?_ | refine qb (qez c hg.2.1 _) ?_ | refine qb (qv c _) ?_ | refine qb (qcw _ _) ?_ | refine qb (qba _ _) ?_) <;> (try refine ev_ ?_)) | with_reducible exact ti_)
    rfl
   ·rw [if_neg hi] at htg
    repeat' (first | refine vs_ ?_ | ((first | refine vr_ ?_ | fail) <;> (try simp only [ha, ht, hi, go_sem, ↓reduceIte])) | ((first | (refine cs_ ?_ ?_ <;> intro hc) | refine cj_ ?_ | fail | refine qa (qez c hg.2.1 _) fun _ => ?_ | refine qa (qv c _) fun _ => ?_ | refine qa (qcw _ _) fun _ => ?_ | refine qa (qba _ _) fun _ => ?_ | refine qb (qez c hg.2.1 _) ?_ | refine qb (qv c _) ?_ | refine qb (qcw _ _) ?_ | refine qb (qba _ _) ?_) <;> (try refine ev_ ?_)) | with_reducible exact ti_)
    refine qbm (S := Bool × Nat × K × List N) (fun x => x.2.2.1.good ∧ em x.2.2.1 ≤ b ∧ (x.1 = true → qeh rec x.2.1 x.2.2.1 x.2.2.2 = tg ∧ em x.2.2.1 < x.2.1 ∧ x.2.2.2.length + em x.2.2.1 ≤ 1048578) ∧ (x.1 = false → tg = (x.2.2.1, x.2.2.2)))
     qy0 (fun x => if x.1 = true then em x.2.2.1 + 1 else 0) ?_ ?_
    ·refine q8 (true, em (qf c [40]).1 + 2, (qf c [40]).1, []) [1, 2] ⟨g1, hr1, fun _ => ⟨htg, by simp only; omega, ?_⟩, (by intro h; cases h)⟩ rfl (by simp) ?_ ?_ ?_
     ·have h9 := g1.rest
      have h8 := qgo (qf c [40]).1
      unfold rest at h8
      simp only [List.length_nil]
      omega
     all_goals simp only [qy0, encs, qr, qt]
     all_goals (refine ev_ ?_; (try with_reducible exact ti_))
    ·rintro ⟨more, fu, d, acc⟩ ⟨i1, i2, i3, i4⟩
     simp only at i1 i2 i3 i4
     unfold qy0
     cases more with
     | false =>
       have i4 := i4 rfl
       subst i4
       clear i3
       by_cases h0 : acc = []
       ·subst h0
        simp only [encs, qr, qt]
        repeat' (first | refine vs_ ?_ | ((first | refine vr_ ?_ | refine qa (qba _ _) fun _ => ?_ | refine qb (qba _ _) ?_ | (refine cs_ ?_ ?_ <;> intro hc) | refine cj_ ?_ | fail) <;> (try refine ev_ ?_)) | with_reducible exact ti_)
       ·have hne := q9 h0
        simp only [qbd hne, qbc hne, qx]
        repeat' (first | refine vs_ ?_ | ((first | refine vr_ ?_ | refine qa (qba _ _) fun _ => ?_ | refine qb (qba _ _) ?_ | (refine cs_ ?_ ?_ <;> intro hc) | refine cj_ ?_ | fail) <;> (try refine ev_ ?_)) | with_reducible exact ti_)
     | true =>
       obtain ⟨i3, i5, i6⟩ := i3 rfl
       clear i4
       obtain ⟨fu, rfl⟩ : ∃ k, fu = k + 1 := ⟨fu - 1, by omega⟩
       rw [qeh] at i3
       have hcap : qdq (acc.length + 1) 64 := capN (by omega)
       have j1 : (qca rec d).1.good := (qft hm d).1 i1
       have j2 := (qft hm d).em
       have j3 : (qf (qca rec d).1 [44]).1.good := (qk _ _).1 j1
       have j4 := (qk (qca rec d).1 [44]).em
       have k3 : (qf (qca rec d).1 [44]).2 = true → qeh rec fu (qf (qca rec d).1 [44]).1 (acc ++ [(qca rec d).2]) = tg ∧ em (qf (qca rec d).1 [44]).1 < fu ∧ (acc ++ [(qca rec d).2]).length + em (qf (qca rec d).1 [44]).1 ≤ 1048578 := fun h => by
        rw [if_pos h] at i3
        have := qdx h
        refine ⟨i3, by omega, ?_⟩
        simp only [List.length_append, List.length_cons, List.length_nil]; omega
       have k4 : (qf (qca rec d).1 [44]).2 = false → tg = ((qf (qca rec d).1 [44]).1, acc ++ [(qca rec d).2]) := fun h => by
        rw [if_neg (by rw [h]; simp)] at i3
        rw [qc2 h, ← i3]
       have k5 : (if (qf (qca rec d).1 [44]).2 = true then em (qf (qca rec d).1 [44]).1 + 1 else 0) < em d + 1 := by
        split
        ·rename_i h
         have := qdx h
         omega
        ·omega
       by_cases h0 : acc = []
       ·subst h0
        simp only [encs, qr, qt]
        repeat' (first | refine vs_ ?_ | ((first | refine vr_ ?_ | refine qa (qhv hm ih d i1 i2) fun _ => ?_ | refine qa (qv _ _) fun _ => ?_ | refine qb (qhv hm ih d i1 i2) ?_ | refine qb (qv _ _) ?_ | (refine cs_ ?_ ?_ <;> intro hc) | refine cj_ ?_ | fail) <;> (try refine ev_ ?_)) | with_reducible exact ti_)
        refine q8 ((qf (qca rec d).1 [44]).2, fu, (qf (qca rec d).1 [44]).1, [] ++ [(qca rec d).2]) [0, 1, 4] ⟨⟨j3, by simp only; omega, k3, k4⟩, k5⟩ rfl (by simp) ?_ ?_ ?_
        all_goals simp only [qy0, ← qe, qbs, qbr, List.nil_append, encs, qby, qbx]
        all_goals (refine ev_ ?_; (try with_reducible exact ti_))
       ·have hne := q9 h0
        simp only [qbd hne, qbc hne, qx]
        repeat' (first | refine vs_ ?_ | ((first | refine vr_ ?_ | refine qa (qhv hm ih d i1 i2) fun _ => ?_ | refine qa (qv _ _) fun _ => ?_ | refine qb (qhv hm ih d i1 i2) ?_ | refine qb (qv _ _) ?_ | (refine cs_ ?_ ?_ <;> intro hc) | refine cj_ ?_ | fail) <;> (try refine ev_ ?_)) | with_reducible exact ti_)
        refine q8 ((qf (qca rec d).1 [44]).2, fu, (qf (qca rec d).1 [44]).1, acc ++ [(qca rec d).2]) [0, 1, 5] ⟨⟨j3, by simp only; omega, k3, k4⟩, k5⟩ rfl (by simp) ?_ ?_ ?_
        all_goals simp only [qy0, ← qe, qbs, qbr, List.nil_append, encs, qby, qbx]
        all_goals (refine ev_ ?_; (try with_reducible exact ti_))
        rw [qe, qo, qbb]; exact ⟨rfl, rfl⟩
  ·rw [if_neg ht]
   repeat' (first | refine vs_ ?_ | ((first | refine vr_ ?_ | fail) <;> (try simp only [ha, ht, go_sem, ↓reduceIte])) | ((first | (refine cs_ ?_ ?_ <;> intro hc) | refine cj_ ?_ | fail | refine qa (qez c hg.2.1 _) fun _ => ?_ | refine qa (qv c _) fun _ => ?_ | refine qa (qba _ _) fun _ => ?_ | refine qa (qhv hm ih c hg hr) fun _ => ?_ | refine qb (qez c hg.2.1 _) ?_ | refine qb (qv c _) ?_ | refine qb (qba _ _) ?_ | refine qb (qhv hm ih c hg hr) ?_) <;> (try refine ev_ ?_)) | with_reducible exact ti_)
   rfl
 ·rw [if_neg ha]
  repeat' (first | refine vs_ ?_ | ((first | refine vr_ ?_ | fail) <;> (try simp only [ha, go_sem, ↓reduceIte])) | ((first | (refine cs_ ?_ ?_ <;> intro hc) | refine cj_ ?_ | fail | refine qa (qez c hg.2.1 _) fun _ => ?_ | refine qb (qez c hg.2.1 _) ?_) <;> (try refine ev_ ?_)) | with_reducible exact ti_)
  rfl
end
def qld (f : Nat) (c : K) : K × N := ((qcg f (qdy (qcg f) c).1).1, qoj (qq c).pos (qdy (qcg f) c).2 (qcg f (qdy (qcg f) c).1).2)
theorem qnw {rec : K → K × N} (hm : ∀ c, Mon c (rec c).1) : ∀ (f : Nat) (c : K) (acc : List N), (qeh rec f c acc).2.length ≤ acc.length + em c + 1
 | 0, c, acc => by simp only [qeh]; omega
 | f + 1, c, acc => by
   rw [qeh]
   split
   ·rename_i h
    have h1 := qnw hm f (qf (qca rec c).1 [44]).1 (acc ++ [(qca rec c).2])
    have h2 := qdx h
    have h3 := (qft hm c).em
    simp only [List.length_append, List.length_cons, List.length_nil] at h1
    omega
   ·simp only [List.length_append, List.length_cons, List.length_nil]; omega
theorem qpd {rec : K → K × N} (hm : ∀ c, Mon c (rec c).1) (c : K) : (qdy rec c).2.length ≤ em c + 1 := by
 unfold qdy
 split
 ·split
  ·rename_i h
   have h2 := qdx h
   unfold qge
   split
   ·simp
   ·have := qnw hm (em (qf c [40]).1 + 2) (qf c [40]).1 []
    simp only [List.length_nil] at this
    simp only; omega
  ·simp
 ·simp
theorem q4h (f : Nat) (c : K) (hg : c.good) (hr : em c < f) : qz Tryz.prog 86 [refC c] (.tup [refC (qld f c).1, enc (qld f c).2]) := by
 have hm := qcl f
 have g1 : (qdy (qcg f) c).1.good := (qg7 hm c).1 hg
 have hr1 : em (qdy (qcg f) c).1 < f := by have := (qg7 hm c).em; omega
 have hP := qqr hm (qp5 f) c hg (by omega)
 have hA := qp5 f _ g1 hr1
 have hln := qpd hm c
 have hem := qgo c
 have hrs := hg.rest
 unfold rest at hem
 unfold qld
 refine qj c0gb (by simp) (by simp only [go_sem]) (by simp only [go_sem]) fun hw => ?_
 generalize hp : qdy (qcg f) c = p at *
 by_cases h0 : p.2 = []
 ·rw [h0] at hP ⊢
  repeat' (first | refine vs_ ?_ | ((first | refine vr_ ?_ | fail) <;> (try simp only [List.length_nil, go_sem, ↓reduceIte])) | ((first | (refine cs_ ?_ ?_ <;> intro hc) | refine cj_ ?_ | fail | refine qa (ql c) fun _ => ?_ | refine qa hP fun _ => ?_ | refine qa hA fun _ => ?_ | refine qb (ql c) ?_ | refine qb hP ?_ | refine qb hA ?_) <;> (try refine ev_ ?_)) | with_reducible exact ti_)
  simp only [qoj, enc, encs, List.nil_append]
 ·have hne := q9 h0
  have hnl : ¬ p.2.length = 0 := fun h => h0 (List.length_eq_zero_iff.1 h)
  have hc1 : qdq p.2.length 64 := capN (by omega)
  have hc2 : qdq (p.2.length + 1) 64 := capN (by omega)
  repeat' (first | refine vs_ ?_ | ((first | refine vr_ ?_ | fail) <;> (try simp only [hnl, hc1, hc2, go_sem, ↓reduceIte])) | ((first | (refine cs_ ?_ ?_ <;> intro hc) | refine cj_ ?_ | fail | refine qa (ql c) fun _ => ?_ | refine qa hP fun _ => ?_ | refine qa hA fun _ => ?_ | refine qb (ql c) ?_ | refine qb hP ?_ | refine qb hA ?_) <;> (try refine ev_ ?_)) | with_reducible exact ti_)
  simp only [qoj, enc, qe, qo, and_self]

def qd6 {α : Type} (p : K × Option α) (r : K × α) : Prop := p.1 = r.1 ∧ (∀ n, p.2 = some n → n = r.2) ∧ (p.2 = none → p.1.err ≠ 0)
theorem qkp {rec : K → K × N} {c : K} (h : c.err ≠ 0) : qcq rec c = (c, N0) := if_neg h
theorem qy7 {rec : K → K × N} {c : K} (h : c.err ≠ 0) (f : Nat) (acc : List N) : qep rec f c acc = (c, acc) := by
 cases f with
 | zero => rfl
 | succ f => rw [qep, if_neg (by rw [qwd h]; simp)]
theorem qr5 {rec : K → K × N} {c : K} (h : c.err ≠ 0) : qdg rec c = (c, N0) := by
 rw [qdg, qgd h, if_neg (by decide), qkp h]
theorem qjc (f : Nat) {c : K} (h : c.err ≠ 0) : qcg f c = (c, N0) := by
 cases f with
 | zero => rfl
 | succ f => rw [qcg, qi6 h, qr5 h, qe2 h, if_neg (by simp), qcn h]
section
variable {rp : K → K × Option N} {rr : K → K × N} {b : Nat} (hx : ∀ c : K, c.err ≠ 0 → (rr c).1 = c) (ih : ∀ c, em c < b → qd6 (rp c) (rr c))
include hx ih
theorem qjz {c : K} (hr : em c ≤ b) : qd6 (qbz rp c) (qcq rr c) := by
 by_cases h0 : c.err = 0
 ·unfold qbz qcq
  rw [if_pos h0]
  by_cases h1 : (qq c).kind = 1
  ·rw [if_pos h1, if_pos h1]; exact ⟨rfl, (fun n h => by cases h; rfl), (fun h => by cases h)⟩
  ·rw [if_neg h1, if_neg h1]
   by_cases h2 : (qq c).kind = 2
   ·rw [if_pos h2, if_pos h2]; exact ⟨rfl, (fun n h => by cases h; rfl), (fun h => by cases h)⟩
   ·rw [if_neg h2, if_neg h2]
    by_cases hk : isK c [40] = true
    ·rw [if_pos hk, if_pos hk]
     have hem := qfn hk
     by_cases he : (qc c).2 = true
     ·rw [if_pos he]
      have hk' : isK (qc c).1 [40] = true := by rw [qpx he]; exact hk
      rw [qqe hk'] at hem ⊢
      simp only at hem ⊢
      obtain ⟨a1, a2, a3⟩ := ih (qu (qc c).1) (by omega)
      rw [← a1]
      generalize rp (qu (qc c).1) = r at *
      obtain ⟨d, o⟩ := r
      simp only at a1 a2 a3 ⊢
      cases o with
      | none =>
        have h3 := a3 rfl
        rw [if_neg (by simp), qbu h3, qcn h3]
        exact ⟨rfl, (fun n h => by cases h), fun _ => h3⟩
      | some n =>
        rw [if_pos (by rfl)]
        by_cases hw : (qi d [41]).2 = true
        ·rw [if_pos hw]
         exact ⟨rfl, fun m h => a2 m h, (fun h => by cases h)⟩
        ·rw [if_neg hw]
         have h3 := qdp (by simpa using hw)
         exact ⟨rfl, (fun n h => by cases h), fun _ => by simp only; rw [qcn h3]; exact h3⟩
     ·have he' : (qc c).2 = false := by simpa using he
      have h1 := qg5 he'
      rw [if_neg he]
      rw [qbu h1] at hem ⊢
      simp only at hem ⊢
      rw [hx _ h1, qbu h1, qcn h1]
      exact ⟨rfl, (fun n h => by cases h), fun _ => h1⟩
    ·rw [if_neg hk, if_neg hk]
     exact ⟨rfl, (fun n h => by cases h), fun _ => qg1 c⟩
 ·rw [qkp h0, qbz, qgd h0, if_neg (by decide), if_neg (by decide), if_neg (by rw [q1q h0]; simp), qfd h0]
  exact ⟨rfl, (fun n h => by cases h), fun _ => h0⟩
theorem qrw (hp : ∀ c, Mon c (rp c).1) (hm : ∀ c, Mon c (rr c).1) : ∀ (f g : Nat) (c : K) (acc : List N), rest c < f → em c < g → em c ≤ b → qd6 (qef rp f c acc) (qep rr g c acc)
 | 0, _, _, _ => fun h _ _ => by omega
 | _, 0, _, _ => fun _ h _ => by omega
 | f + 1, g + 1, c, acc => fun hf hg hb => by
   rw [qef, qep]
   by_cases hk : begT c = true
   ·rw [if_pos hk, if_pos hk]
    obtain ⟨a1, a2, a3⟩ := qjz hx ih hb
    have hl := qhq hm hk
    rw [← a1] at hl ⊢
    cases ho : (qbz rp c).2 with
    | none =>
      have h3 := a3 ho
      rw [if_neg (by simp), qy7 h3]
      exact ⟨rfl, (fun n h => by cases h), fun _ => h3⟩
    | some n =>
      rw [if_pos (by rfl), ← a2 n ho]
      exact qrw hp hm f g _ _ (by have := qd9 hp (c := c) (by rw [ho]; rfl); omega) (by omega) (by omega)
   ·rw [if_neg hk, if_neg hk]
    exact ⟨rfl, (fun l h => by cases h; rfl), (fun h => by cases h)⟩
theorem q49 (hp : ∀ c, Mon c (rp c).1) (hm : ∀ c, Mon c (rr c).1) {c : K} (hr : em c ≤ b) : qd6 (qch rp c) (qdg rr c) := by
 unfold qch qdg
 by_cases hk : (qq c).kind = 2
 ·rw [if_pos hk, if_pos hk]
  have h1 := qbk (c := c) (by omega)
  have h2 := qku (c := c) (by omega)
  obtain ⟨a1, a2, a3⟩ := qrw hx ih hp hm (rest c + 1) (em (qu c) + 1) (qu c) [] (by omega) (by omega) (by omega)
  refine ⟨a1, fun n h => ?_, fun h => a3 (by simpa using h)⟩
  obtain ⟨l, hl, rfl⟩ := Option.map_eq_some_iff.1 h
  rw [a2 l hl]
 ·rw [if_neg hk, if_neg hk]
  exact qjz hx ih hr
theorem quy {c : K} (hr : em c ≤ b) : qd6 (qbq rp c) (qca rr c) := by
 have h1 := (qbf c 2).em
 obtain ⟨a1, a2, a3⟩ := qjz hx ih (c := (qn c 2).1) (by omega)
 unfold qbq qca
 by_cases hk : (qn c 2).2 = true
 ·rw [if_pos hk]
  refine ⟨a1, fun n h => ?_, fun h => a3 (by simpa using h)⟩
  obtain ⟨m, hm, rfl⟩ := Option.map_eq_some_iff.1 h
  rw [a2 m hm]
 ·rw [if_neg hk]
  have h2 := qnc (c := c) (k := 2) (by simpa using hk)
  rw [qkp h2]
  exact ⟨rfl, (fun n h => by cases h), fun _ => h2⟩
end
theorem qkr : ∀ (f : Nat) (c : K), em c < f → qd6 (qb3 f c) (qcg f c)
 | 0, _ => fun h => by omega
 | f + 1, c => fun hf => by
   have ih := qkr f
   have hx : ∀ c : K, c.err ≠ 0 → (qcg f c).1 = c := fun c h => by rw [qjc f h]
   rw [qb3, qcg]
   by_cases he : (qc c).2 = true
   ·have h1 := (qm c).em
    rw [if_pos he]
    obtain ⟨a1, a2, a3⟩ := q49 hx ih (qcy f) (qcl f) (c := (qc c).1) (by omega)
    have hl := (qmm (qcl f) (qc c).1).em
    rw [← a1] at hl ⊢
    cases ho : (qch (qb3 f) (qc c).1).2 with
    | none =>
      have h3 := a3 ho
      rw [if_neg (by simp), qe2 h3, if_neg (by simp)]
      exact ⟨rfl, (fun n h => by cases h), fun _ => by simp only; rw [qcn h3]; exact h3⟩
    | some n =>
      rw [if_pos (by rfl), ← a2 n ho]
      by_cases ht : (qf (qch (qb3 f) (qc c).1).1 [45, 62]).2 = true
      ·rw [if_pos ht, if_pos ht]
       have h5 := qdx ht
       obtain ⟨b1, b2, b3⟩ := ih (qf (qch (qb3 f) (qc c).1).1 [45, 62]).1 (by omega)
       refine ⟨by simp only; rw [b1], fun m h => ?_, fun h => ?_⟩
       ·obtain ⟨q, hq, rfl⟩ := Option.map_eq_some_iff.1 h
        rw [b2 q hq]; rfl
       ·have h6 := b3 (by simpa using h)
        simp only
        rw [qcn h6]; exact h6
      ·rw [if_neg ht, if_neg ht]
       exact ⟨rfl, (fun m h => by cases h; rfl), (fun h => by cases h)⟩
   ·have he' : (qc c).2 = false := by simpa using he
    have h1 := qg5 he'
    rw [if_neg he, qr5 h1, qe2 h1, if_neg (by simp), qcn h1]
    exact ⟨rfl, (fun n h => by cases h), fun _ => h1⟩
section
variable {rp : K → K × Option N} {rr : K → K × N} {b : Nat} (hx : ∀ c : K, c.err ≠ 0 → (rr c).1 = c) (ih : ∀ c, em c < b → qd6 (rp c) (rr c)) (hp : ∀ c, Mon c (rp c).1) (hm : ∀ c, Mon c (rr c).1)
include hx ih hp hm
theorem qpf : ∀ (f g : Nat) (c : K) (acc : List N), rest c < f → em c < g → em c ≤ b → qd6 (qew rp true f c acc) (qeh rr g c acc)
 | 0, _, _, _ => fun h _ _ => by omega
 | _, 0, _, _ => fun _ h _ => by omega
 | f + 1, g + 1, c, acc => fun hf hg hb => by
   rw [qew, qeh]
   obtain ⟨a1, a2, a3⟩ := quy hx ih hb
   have hl := (qft hm c).em
   rw [← a1] at hl ⊢
   cases ho : (qbq rp c).2 with
   | none =>
     have h3 := a3 ho
     rw [if_neg (by simp), qe2 h3, if_neg (by simp)]
     exact ⟨rfl, (fun n h => by cases h), fun _ => h3⟩
   | some n =>
     rw [if_pos (by rfl), Bool.true_and, ← a2 n ho]
     by_cases ht : (qf (qbq rp c).1 [44]).2 = true
     ·rw [if_pos ht, if_pos ht]
      have h5 := qdx ht
      have h6 := qk9 hp (c := c) (by rw [ho]; rfl)
      have h7 := (qk (qbq rp c).1 [44]).2.1
      exact qpf f g _ _ (by omega) (by omega) (by omega)
     ·rw [if_neg ht, if_neg ht]
      exact ⟨rfl, (fun l h => by cases h; rfl), (fun h => by cases h)⟩
theorem qq1 {c : K} (hg : ∀ t ∈ c.l, t.kind ≠ 0) (hr : em c ≤ b) : qd6 (qbj rp c) (qdy rr c) := by
 unfold qbj qdy
 by_cases ha : qkf c [61, 62] = true
 ·rw [if_pos ha, if_pos ha]
  unfold qg2
  by_cases ht : (qf c [40]).2 = true
  ·rw [if_pos ht, ht, Bool.true_and]
   have h5 := qdx ht
   have hB : qd6 (if isK (qf c [40]).1 [41] = true then ((qf c [40]).1, some []) else qew rp true (rest (qf c [40]).1 + 1) (qf c [40]).1 []) (qge rr (qf c [40]).1) := by
    unfold qge
    split
    ·exact ⟨rfl, (fun l h => by cases h; rfl), (fun h => by cases h)⟩
    ·exact qpf hx ih hp hm _ _ _ _ (by omega) (by omega) (by omega)
   obtain ⟨a1, a2, a3⟩ := hB
   generalize (if isK (qf c [40]).1 [41] = true then ((qf c [40]).1, some []) else qew rp true (rest (qf c [40]).1 + 1) (qf c [40]).1 []) = p at *
   rw [← a1]
   unfold qgi
   cases ho : p.2 with
   | none =>
     have h3 := a3 ho
     rw [if_neg (by simp), qbu h3, qbu h3]
     exact ⟨rfl, (fun n h => by cases h), fun _ => h3⟩
   | some l =>
     rw [if_pos (by rfl), if_pos rfl, ← a2 l ho]
     by_cases hw : (qi p.1 [41]).2 = true
     ·rw [if_pos hw]
      by_cases hw2 : (qi (qi p.1 [41]).1 [61, 62]).2 = true
      ·rw [if_pos hw2]; exact ⟨rfl, (fun m h => by cases h; rfl), (fun h => by cases h)⟩
      ·rw [if_neg hw2]
       exact ⟨rfl, (fun n h => by cases h), fun _ => qdp (by simpa using hw2)⟩
     ·rw [if_neg hw]
      have h3 := qdp (c := p.1) (x := [41]) (by simpa using hw)
      rw [qbu h3]
      exact ⟨rfl, (fun n h => by cases h), fun _ => h3⟩
  ·have ht' : (qf c [40]).2 = false := by simpa using ht
   have hsm := qc2 ht'
   rw [if_neg ht, ht', hsm, Bool.false_and, if_neg (by simp)]
   unfold qgi
   obtain ⟨a1, a2, a3⟩ := quy hx ih hr
   rw [qew, ← a1]
   cases ho : (qbq rp c).2 with
   | none =>
     have h3 := a3 ho
     rw [if_neg (by simp), if_neg (by simp), qbu h3]
     exact ⟨rfl, (fun n h => by cases h), fun _ => h3⟩
   | some n =>
     rw [if_pos (by rfl), Bool.false_and, if_neg (by simp), if_pos (by rfl), if_neg (by simp), ← a2 n ho]
     simp only [Option.getD_some, List.nil_append]
     by_cases hw : (qi (qbq rp c).1 [61, 62]).2 = true
     ·rw [if_pos hw]; exact ⟨rfl, (fun m h => by cases h; rfl), (fun h => by cases h)⟩
     ·rw [if_neg hw]
      exact ⟨rfl, (fun n h => by cases h), fun _ => qdp (by simpa using hw)⟩
 ·rw [if_neg ha, if_neg ha]
  by_cases he : c.err = 0
  ·have hf : qs7 c = false := by
    unfold qs7
    by_cases hl : c.at' < c.l.length
    ·have hk : (qq c).kind ≠ 0 := by rw [qm0 he (by omega)]; exact hg _ (q3a hl)
     rw [qwc he (by omega), decide_eq_false hk]; rfl
    ·rw [qsf he (by omega)]; rfl
   rw [hf]
   exact ⟨rfl, (fun m h => by cases h; rfl), (fun h => by cases h)⟩
  ·have hf : qs7 c = true := by
    unfold qs7
    rw [qns he, qgd he]
    simp [he, T0]
   rw [hf]
   exact ⟨rfl, (fun m h => by cases h), fun _ => he⟩
end
theorem q4q (f : Nat) (c : K) (hg : ∀ t ∈ c.l, t.kind ≠ 0) (hr : em c < f) : qd6 (qfu f c) (qld f c) := by
 have hx : ∀ c : K, c.err ≠ 0 → (qcg f c).1 = c := fun c h => by rw [qjc f h]
 obtain ⟨a1, a2, a3⟩ := qq1 hx (qkr f) (qcy f) (qcl f) hg (b := f) (by omega)
 have hl := (qg7 (qcl f) c).em
 unfold qfu qld
 rw [← a1] at hl ⊢
 cases ho : (qbj (qb3 f) c).2 with
 | none =>
   have h3 := a3 ho
   rw [if_neg (by simp), qjc f h3]
   exact ⟨rfl, (fun n h => by cases h), fun _ => h3⟩
 | some l =>
   rw [if_pos (by rfl), ← a2 l ho]
   obtain ⟨b1, b2, b3⟩ := qkr f (qbj (qb3 f) c).1 (by omega)
   refine ⟨b1, fun m h => ?_, fun h => b3 (by simpa using h)⟩
   obtain ⟨q, hq, rfl⟩ := Option.map_eq_some_iff.1 h
   rw [b2 q hq]; rfl
theorem qh0 : ∀ {l : List T} {t : T}, t ∈ qhh l → t.kind ≠ 0
 | [], t, h => by simp [qhh] at h
 | u :: r, t, h => by
   rw [qhh] at h
   split at h
   ·simp at h
   ·rename_i hk
    rcases List.mem_cons.1 h with rfl | h
    ·exact hk
    ·exact qh0 h
end Go.Proofs.YtfjbmjplnmaclaaGreat
