/- A text of this proof. -/
import Derived.Test.YtfjbmjplnmaclaaGreatQbj
import Derived.Test.YtfjbmjplnmaclaaGreatQbk

/- declarations: the reference: heads, declarations, of a text -/
set_option maxRecDepth 4000
namespace Go.Proofs.YtfjbmjplnmaclaaGreat
open Go Go.RowKit Go.V
set_option linter.unusedVariables false
set_option linter.unusedSimpArgs false

theorem qbei (a b : List N) : encs a ++ encs b = encs (a ++ b) := by rw [qer, qer, qer, List.map_append]
theorem qvg (p : Int) (t : List UInt8) : AV.agg [.int .i64 1, .int .i64 p, .int .i64 0, .str t, .sl 5 []] = enc (.mk 1 p 0 t []) := by simp only [enc, encs]
theorem qqh (v bl : List N) (n : N) : encs v ++ enc n :: encs bl = encs (v ++ n :: bl) := by
 rw [← qbei]; simp only [encs]
theorem qm4 (bl : List N) (n : N) : enc n :: encs bl = encs ([] ++ [n] ++ bl) := by simp only [encs, List.cons_append, List.nil_append]
set_option maxHeartbeats 2000000 in
theorem qup (k p : Int) (c : K) (hg : c.good) : qz Tryz.prog 44 [refC c, .int .i64 k, .int .i64 p] (.tup [refC (qir k p c).1, enc (qir k p c).2]) := by
 refine qj c0d (by simp) (by simp only [go_sem]) (by simp only [go_sem]) fun hw => ?_
 have hP := q0i c hg
 have g1 := (qjx c).1 hg
 have hl := qu8 c
 have h8 := qgo c
 have h9 := hg.rest
 have h6 := (qjx c).em
 unfold qir qwv qv4
 generalize qfc c = r at *
 obtain ⟨d, v⟩ := r
 simp only at hP g1 hl h6 ⊢
 have g2 : (qn d 2).1.good := (qbf d 2).1 g1
 have e2 := (qbf d 2).em
 have hvl : v.length ≤ 1048580 := by unfold rest at h8; omega
 have hvm : v.length ≤ maxLen := by unfold maxLen; omega
 unfold qeu
 by_cases h35 : k = 35
 ·subst h35
  simp only [if_true]
  have g3 : (qn (qn d 2).1 1).1.good := (qbf _ 1).1 g2
  have e3 := (qbf (qn d 2).1 1).em
  have hB := qtt 32 _ g3
  have hbl := qo8 32 (qn (qn d 2).1 1).1
  generalize qe3 32 (qn (qn d 2).1 1).1 = b at *
  obtain ⟨e, bl⟩ := b
  simp only at hB hbl ⊢
  have hbl2 : bl.length ≤ 1048580 := by unfold rest at h8; omega
  clear hbl e3 e2 h6 hl h8 h9
  unfold k0d
  generalize h9 : qsq = R3
  by_cases h0 : v = []
  ·subst h0
   repeat' (first | refine vs_ ?_ | ((first | refine vr_ ?_ | refine qa hP fun _ => ?_ | refine qa (qbe _ _) fun _ => ?_ | refine qa hB fun _ => ?_ | refine qb hP ?_ | refine qb (qbe _ _) ?_ | refine qb hB ?_ | (refine cs_ ?_ ?_ <;> intro hc) | refine cj_ ?_ | fail) <;> (try refine ev_ ?_)) | with_reducible exact ti_)
   subst h9
   unfold qsq
   refine qvk 7 9 (by rfl) ?_ ?_
   ·simp only [qpj, Nat.zero_add, Nat.reduceAdd, Nat.reduceEqDiff, if_false, if_true, List.filter, decide_true, decide_false, ne_eq, not_true_eq_false, not_false_eq_true]
    (refine ev_ ?_; (try with_reducible exact ti_))
    repeat' (first | refine vs_ ?_ | ((first | refine vr_ ?_ | refine qa hP fun _ => ?_ | refine qa (qbe _ _) fun _ => ?_ | refine qa hB fun _ => ?_ | refine qb hP ?_ | refine qb (qbe _ _) ?_ | refine qb hB ?_ | (refine cs_ ?_ ?_ <;> intro hc) | refine cj_ ?_ | fail) <;> (try refine ev_ ?_)) | with_reducible exact ti_)
    all_goals (simp only [if_pos (show bl.length + 1 = 1 + bl.length by omega), qvg, qm4]; exact ⟨qo _ _, by rw [qg6]; rfl⟩)
   ·simp only [qli, qiv, posL, List.getElem?_cons_succ, List.getElem?_cons_zero, List.map_cons, List.map_nil, Nat.reduceAdd, Nat.reduceEqDiff, Nat.reduceLT, if_false, if_true, ne_eq, not_true_eq_false, not_false_eq_true, and_true, and_false, true_and, false_and]
    (refine ev_ ?_; (try with_reducible exact ti_))
    repeat' (first | refine vs_ ?_ | ((first | refine vr_ ?_ | refine qa hP fun _ => ?_ | refine qa (qbe _ _) fun _ => ?_ | refine qa hB fun _ => ?_ | refine qb hP ?_ | refine qb (qbe _ _) ?_ | refine qb hB ?_ | (refine cs_ ?_ ?_ <;> intro hc) | refine cj_ ?_ | fail) <;> (try refine ev_ ?_)) | with_reducible exact ti_)
    all_goals (simp only [if_pos (show bl.length + 1 = 1 + bl.length by omega), qvg, qm4]; exact ⟨qo _ _, by rw [qg6]; rfl⟩)
  ·have hvn : ¬ v.length = 0 := fun h => h0 (List.length_eq_zero_iff.1 h)
   repeat' (first | refine vs_ ?_ | ((first | refine vr_ ?_ | fail) <;> (try simp only [hvn, go_sem, ↓reduceIte])) | ((first | (refine cs_ ?_ ?_ <;> intro hc) | refine cj_ ?_ | fail | refine qa hP fun _ => ?_ | refine qa (qbe _ _) fun _ => ?_ | refine qa hB fun _ => ?_ | refine qb hP ?_ | refine qb (qbe _ _) ?_ | refine qb hB ?_) <;> (try refine ev_ ?_)) | with_reducible exact ti_)
   subst h9
   unfold qsq
   refine qvk 7 9 (by rfl) ?_ ?_
   ·simp only [qpj, Nat.zero_add, Nat.reduceAdd, Nat.reduceEqDiff, if_false, if_true, List.filter, decide_true, decide_false, ne_eq, not_true_eq_false, not_false_eq_true]
    (simp (disch := first | omega | (simp only [List.length_set, List.length_append, List.length_cons, List.length_nil]; done) | (simp only [List.length_set, List.length_append, List.length_cons, List.length_nil]; omega)) only [hvn, go_sem, ↓reduceIte])
    repeat' (first | refine vs_ ?_ | ((first | refine vr_ ?_ | fail) <;> (try simp only [hvn, go_sem, ↓reduceIte])) | ((first | (refine cs_ ?_ ?_ <;> intro hc) | refine cj_ ?_ | fail | refine qa hP fun _ => ?_ | refine qa (qbe _ _) fun _ => ?_ | refine qa hB fun _ => ?_ | refine qb hP ?_ | refine qb (qbe _ _) ?_ | refine qb hB ?_) <;> (try refine ev_ ?_)) | with_reducible exact ti_)
    all_goals (simp only [if_pos (show v.length + (bl.length + 1) = v.length + 1 + bl.length by omega), qvg, qqh]; exact ⟨qo _ _, by rw [qgf]⟩)
   ·simp only [qli, qiv, posL, List.getElem?_cons_succ, List.getElem?_cons_zero, List.map_cons, List.map_nil, Nat.reduceAdd, Nat.reduceEqDiff, Nat.reduceLT, if_false, if_true, ne_eq, not_true_eq_false, not_false_eq_true, and_true, and_false, true_and, false_and]
    (simp (disch := first | omega | (simp only [List.length_set, List.length_append, List.length_cons, List.length_nil]; done) | (simp only [List.length_set, List.length_append, List.length_cons, List.length_nil]; omega)) only [hvn, go_sem, ↓reduceIte])
    repeat' (first | refine vs_ ?_ | ((first | refine vr_ ?_ | fail) <;> (try simp only [hvn, go_sem, ↓reduceIte])) | ((first | (refine cs_ ?_ ?_ <;> intro hc) | refine cj_ ?_ | fail | refine qa hP fun _ => ?_ | refine qa (qbe _ _) fun _ => ?_ | refine qa hB fun _ => ?_ | refine qb hP ?_ | refine qb (qbe _ _) ?_ | refine qb hB ?_) <;> (try refine ev_ ?_)) | with_reducible exact ti_)
    all_goals (simp only [if_pos (show v.length + (bl.length + 1) = v.length + 1 + bl.length by omega), qvg, qqh]; exact ⟨qo _ _, by rw [qgf]⟩)
 ·simp only [if_neg h35]
  have hA := qe8 _ g2
  have g3 := (qea (qn d 2).1).1 g2
  have e3 := (qea (qn d 2).1).em
  have hB := qtt 31 _ g3
  have hbl := qo8 31 (qb7 (qn d 2).1).1
  generalize qb7 (qn d 2).1 = a at *
  obtain ⟨f, n⟩ := a
  simp only at hA g3 e3 hB hbl ⊢
  generalize qe3 31 f = b at *
  obtain ⟨e, bl⟩ := b
  simp only at hB hbl ⊢
  have hbl2 : bl.length ≤ 1048580 := by unfold rest at h8; omega
  clear hbl e3 e2 h6 hl h8 h9
  unfold k0d
  generalize h9 : qsq = R3
  by_cases h0 : v = []
  ·subst h0
   repeat' (first | refine vs_ ?_ | ((first | refine vr_ ?_ | refine qa hP fun _ => ?_ | refine qa (qbe _ _) fun _ => ?_ | refine qa hA fun _ => ?_ | refine qa hB fun _ => ?_ | refine qb hP ?_ | refine qb (qbe _ _) ?_ | refine qb hA ?_ | refine qb hB ?_ | (refine cs_ ?_ ?_ <;> intro hc) | refine cj_ ?_ | fail) <;> (try refine ev_ ?_)) | with_reducible exact ti_)
   subst h9
   unfold qsq
   refine qvk 7 9 (by rfl) ?_ ?_
   ·simp only [qpj, Nat.zero_add, Nat.reduceAdd, Nat.reduceEqDiff, if_false, if_true, List.filter, decide_true, decide_false, ne_eq, not_true_eq_false, not_false_eq_true]
    (refine ev_ ?_; (try with_reducible exact ti_))
    repeat' (first | refine vs_ ?_ | ((first | refine vr_ ?_ | refine qa hP fun _ => ?_ | refine qa (qbe _ _) fun _ => ?_ | refine qa hA fun _ => ?_ | refine qa hB fun _ => ?_ | refine qb hP ?_ | refine qb (qbe _ _) ?_ | refine qb hA ?_ | refine qb hB ?_ | (refine cs_ ?_ ?_ <;> intro hc) | refine cj_ ?_ | fail) <;> (try refine ev_ ?_)) | with_reducible exact ti_)
    all_goals first | exact absurd (by assumption) h35 | skip
    all_goals (simp only [if_pos (show bl.length + 1 = 1 + bl.length by omega), qm4]; exact ⟨qo _ _, by rw [qg6]; rfl⟩)
   ·simp only [qli, qiv, posL, List.getElem?_cons_succ, List.getElem?_cons_zero, List.map_cons, List.map_nil, Nat.reduceAdd, Nat.reduceEqDiff, Nat.reduceLT, if_false, if_true, ne_eq, not_true_eq_false, not_false_eq_true, and_true, and_false, true_and, false_and]
    (refine ev_ ?_; (try with_reducible exact ti_))
    repeat' (first | refine vs_ ?_ | ((first | refine vr_ ?_ | refine qa hP fun _ => ?_ | refine qa (qbe _ _) fun _ => ?_ | refine qa hA fun _ => ?_ | refine qa hB fun _ => ?_ | refine qb hP ?_ | refine qb (qbe _ _) ?_ | refine qb hA ?_ | refine qb hB ?_ | (refine cs_ ?_ ?_ <;> intro hc) | refine cj_ ?_ | fail) <;> (try refine ev_ ?_)) | with_reducible exact ti_)
    all_goals first | exact absurd (by assumption) h35 | skip
    all_goals (simp only [if_pos (show bl.length + 1 = 1 + bl.length by omega), qm4]; exact ⟨qo _ _, by rw [qg6]; rfl⟩)
  ·have hvn : ¬ v.length = 0 := fun h => h0 (List.length_eq_zero_iff.1 h)
   repeat' (first | refine vs_ ?_ | ((first | refine vr_ ?_ | fail) <;> (try simp only [hvn, go_sem, ↓reduceIte])) | ((first | (refine cs_ ?_ ?_ <;> intro hc) | refine cj_ ?_ | fail | refine qa hP fun _ => ?_ | refine qa (qbe _ _) fun _ => ?_ | refine qa hA fun _ => ?_ | refine qa hB fun _ => ?_ | refine qb hP ?_ | refine qb (qbe _ _) ?_ | refine qb hA ?_ | refine qb hB ?_) <;> (try refine ev_ ?_)) | with_reducible exact ti_)
   subst h9
   unfold qsq
   refine qvk 7 9 (by rfl) ?_ ?_
   ·simp only [qpj, Nat.zero_add, Nat.reduceAdd, Nat.reduceEqDiff, if_false, if_true, List.filter, decide_true, decide_false, ne_eq, not_true_eq_false, not_false_eq_true]
    (simp (disch := first | omega | (simp only [List.length_set, List.length_append, List.length_cons, List.length_nil]; done) | (simp only [List.length_set, List.length_append, List.length_cons, List.length_nil]; omega)) only [hvn, go_sem, ↓reduceIte])
    repeat' (first | refine vs_ ?_ | ((first | refine vr_ ?_ | fail) <;> (try simp only [hvn, go_sem, ↓reduceIte])) | ((first | (refine cs_ ?_ ?_ <;> intro hc) | refine cj_ ?_ | fail | refine qa hP fun _ => ?_ | refine qa (qbe _ _) fun _ => ?_ | refine qa hA fun _ => ?_ | refine qa hB fun _ => ?_ | refine qb hP ?_ | refine qb (qbe _ _) ?_ | refine qb hA ?_ | refine qb hB ?_) <;> (try refine ev_ ?_)) | with_reducible exact ti_)
    all_goals first | exact absurd (by assumption) h35 | skip
    all_goals (simp only [if_pos (show v.length + (bl.length + 1) = v.length + 1 + bl.length by omega), qqh]; exact ⟨qo _ _, by rw [qgf]⟩)
   ·simp only [qli, qiv, posL, List.getElem?_cons_succ, List.getElem?_cons_zero, List.map_cons, List.map_nil, Nat.reduceAdd, Nat.reduceEqDiff, Nat.reduceLT, if_false, if_true, ne_eq, not_true_eq_false, not_false_eq_true, and_true, and_false, true_and, false_and]
    (simp (disch := first | omega | (simp only [List.length_set, List.length_append, List.length_cons, List.length_nil]; done) | (simp only [List.length_set, List.length_append, List.length_cons, List.length_nil]; omega)) only [hvn, go_sem, ↓reduceIte])
    repeat' (first | refine vs_ ?_ | ((first | refine vr_ ?_ | fail) <;> (try simp only [hvn, go_sem, ↓reduceIte])) | ((first | (refine cs_ ?_ ?_ <;> intro hc) | refine cj_ ?_ | fail | refine qa hP fun _ => ?_ | refine qa (qbe _ _) fun _ => ?_ | refine qa hA fun _ => ?_ | refine qa hB fun _ => ?_ | refine qb hP ?_ | refine qb (qbe _ _) ?_ | refine qb hA ?_ | refine qb hB ?_) <;> (try refine ev_ ?_)) | with_reducible exact ti_)
    all_goals first | exact absurd (by assumption) h35 | skip
    all_goals (simp only [if_pos (show v.length + (bl.length + 1) = v.length + 1 + bl.length by omega), qqh]; exact ⟨qo _ _, by rw [qgf]⟩)
theorem qor (c : K) (hg : c.good) : qz Tryz.prog 22 [refC c] (.tup [refC (qet c).1, enc (qet c).2]) := by
 refine qj c0e (by simp) (by simp only [go_sem]) (by simp only [go_sem]) fun hw => ?_
 have g1 : (qf c qpk).1.good := (qk _ _).1 hg
 have g2 : (qf c qkb).1.good := (qk _ _).1 hg
 have g3 : (qf c qpi).1.good := (qk _ _).1 hg
 have h1 := q52 (qq c).pos _ g1
 have h2 := qup 35 (qq c).pos _ g2
 have h3 := qup 36 (qq c).pos _ g3
 have h4 := qtl c hg
 unfold qet
 unfold qpk qkb qpi at *
 by_cases t1 : (qf c [100, 97, 116, 97]).2 = true
 ·rw [if_pos t1]
  repeat' (first | refine vs_ ?_ | ((first | refine vr_ ?_ | fail) <;> (try simp only [t1, go_sem, ↓reduceIte])) | ((first | (refine cs_ ?_ ?_ <;> intro hc) | refine cj_ ?_ | fail | refine qa (ql c) fun _ => ?_ | refine qa (qv c _) fun _ => ?_ | refine qa h1 fun _ => ?_) <;> (try refine ev_ ?_)) | with_reducible exact ti_)
 ·have t1f : (qf c [100, 97, 116, 97]).2 = false := by simpa using t1
  rw [if_neg t1]
  by_cases t2 : (qf c [99, 108, 97, 115, 115]).2 = true
  ·rw [if_pos t2]
   repeat' (first | refine vs_ ?_ | ((first | refine vr_ ?_ | fail) <;> (try simp only [t1f, t2, go_sem, ↓reduceIte])) | ((first | (refine cs_ ?_ ?_ <;> intro hc) | refine cj_ ?_ | fail | refine qa (ql c) fun _ => ?_ | refine qa (qv c _) fun _ => ?_ | refine qa h2 fun _ => ?_) <;> (try refine ev_ ?_)) | with_reducible exact ti_)
  ·have t2f : (qf c [99, 108, 97, 115, 115]).2 = false := by simpa using t2
   rw [if_neg t2]
   by_cases t3 : (qf c [105, 110, 115, 116, 97, 110, 99, 101]).2 = true
   ·rw [if_pos t3]
    repeat' (first | refine vs_ ?_ | ((first | refine vr_ ?_ | fail) <;> (try simp only [t1f, t2f, t3, go_sem, ↓reduceIte])) | ((first | (refine cs_ ?_ ?_ <;> intro hc) | refine cj_ ?_ | fail | refine qa (ql c) fun _ => ?_ | refine qa (qv c _) fun _ => ?_ | refine qa h3 fun _ => ?_) <;> (try refine ev_ ?_)) | with_reducible exact ti_)
   ·have t3f : (qf c [105, 110, 115, 116, 97, 110, 99, 101]).2 = false := by simpa using t3
    rw [if_neg t3]
    repeat' (first | refine vs_ ?_ | ((first | refine vr_ ?_ | fail) <;> (try simp only [t1f, t2f, t3f, go_sem, ↓reduceIte])) | ((first | (refine cs_ ?_ ?_ <;> intro hc) | refine cj_ ?_ | fail | refine qa (ql c) fun _ => ?_ | refine qa (qv c _) fun _ => ?_ | refine qa h4 fun _ => ?_) <;> (try refine ev_ ?_)) | with_reducible exact ti_)
end Go.Proofs.YtfjbmjplnmaclaaGreat
