/- Texts of this proof, joined. -/
import Derived.Test.YtlahgbhhejkgbaaGreatAbo
import Derived.Test.YtlahgbhhejkgbaaGreatAbp

/- made one: the law of both answers -/
set_option maxRecDepth 4000
namespace Go.Proofs.YtlahgbhhejkgbaaGreat
open Go Go.RowKit Go.V
set_option linter.unusedVariables false
set_option linter.unusedSimpArgs false

theorem bSl (r : List Pr) : AV.bd 0 (.sl 4 (qt r)) = true := by simp only [AV.bd, qby]
set_option maxRecDepth 4000

theorem qbup {l m : List Ty} (hs : szYs l + szYs m ≤ 10000) {q : List Pr × Int} (h : AllQ l m q) : okS q.1 ∧ q.1.length ≤ 10000 ∧ (q.2 ≠ 0 → q.1 = []) := by
 rw [AllQ] at h
 split at h
 case isFalse => subst h; exact ⟨qck, by simp, fun _ => rfl⟩
 case isTrue hl =>
 split at h
 case isFalse => subst h; exact ⟨qck, by simp, fun _ => rfl⟩
 case isTrue hlen =>
 obtain ⟨n, hq⟩ := h
 have hI := qno hl.1 hl.2
 by_cases he : q.2 = 0
 ·obtain ⟨h1, _⟩ := qfp n [] _ q hI hq he
  have h2 := qdx l
  have h3 := qdx m
  exact ⟨h1.ok, Nat.le_trans h1.len (by rw [List.length_append]; omega), fun h => absurd he h⟩
 ·have h0 : q.1 = [] := by
   obtain ⟨k, r, _, h1, h2, h3⟩ := qfr n [] (l.zip m) [] q (by simpa using hq)
   by_cases hr : r.2 = 0
   ·exfalso
    obtain ⟨k, _, h4⟩ := h3 hr
    rw [qdf] at h4
    simp only [Option.some.injEq] at h4
    subst h4
    exact he rfl
   ·obtain ⟨h3, h4⟩ := h2 hr
    rw [h3, h4]
  exact ⟨by rw [h0]; exact qck, by rw [h0]; simp, fun _ => h0⟩
theorem q7a {l m : List Ty} (h : fewU (l ++ m) 0 = true) : (∀ x ∈ l, szY x ≤ 20000 ∧ dpY x ≤ 300) ∧ (∀ x ∈ m, szY x ≤ 20000 ∧ dpY x ≤ 300) ∧ szYs l + szYs m ≤ 600 := by
 obtain ⟨h1, h2⟩ := qt8 _ 0 h (by decide)
 refine ⟨fun x hx => h1 x (List.mem_append_left _ hx), fun x hx => h1 x (List.mem_append_right _ hx), ?_⟩
 rw [q4u] at h2
 omega
set_option maxHeartbeats 4000000 in
theorem qou (l m : List Ty) : ql Tryz.prog 4 [.sl 3 (qk l), .sl 3 (qk m)] (.bool true) := by
 refine qf c0a (by simp) (by simp only [AV.bds, AV.bd, qce]; rfl) rfl fun hw => ?_
 by_cases h10 : l.length > 10
 ·repeat' (first | refine vs_ ?_ | ((first | refine vr_ ?_ | refine qa qd3 fun _ => ?_ | refine qc qd3 ?_ | (refine cs_ ?_ ?_ <;> intro hc) | refine cj_ ?_ | simp (disch := omega) only [encs_getN, qb]) <;> (try refine ev_ ?_)) | with_reducible exact ti_)
  all_goals try (exfalso; omega)
 by_cases h11 : m.length > 10
 ·repeat' (first | refine vs_ ?_ | ((first | refine vr_ ?_ | refine qa qd3 fun _ => ?_ | refine qc qd3 ?_ | (refine cs_ ?_ ?_ <;> intro hc) | refine cj_ ?_ | simp (disch := omega) only [encs_getN, qb]) <;> (try refine ev_ ?_)) | with_reducible exact ti_)
  all_goals try (exfalso; omega)
 have hF := qbxx (l ++ m)
 rw [← qxv] at hF
 unfold k0a
 refine qb2 (qef ?_)
 (refine ev_ ?_; (try with_reducible exact ti_))
 refine qb2 ?_
 refine qcm (S := Unit) (fun _ => True) (fun _ => (⟨[(0, .sl 3 (qk l)), (1, .sl 3 (qk m)), (4, .bool false), (24, .bool (!fewU (l ++ m) 0))], []⟩, [])) ?_ fun _ _ => ?_
 ·have hl0 : l.length ≤ 10 := by omega
  have hm0 : m.length ≤ 10 := by omega
  cases l with
  | nil =>
    cases m with
    | nil =>
      repeat' (first | refine vs_ ?_ | ((first | refine vr_ ?_ | refine qa hF fun _ => ?_ | refine qc hF ?_ | (refine cs_ ?_ ?_ <;> intro hc) | refine cj_ ?_ | simp (disch := omega) only [encs_getN, qb]) <;> (try refine ev_ ?_)) | with_reducible exact ti_)
      all_goals try (exfalso; revert hc; simp; done)
      all_goals (refine qh () [] trivial rfl (by simp) ?_ ?_ ?_ <;> (try refine ev_ ?_) <;> (try with_reducible exact ti_) <;> (try simp (disch := omega) only [qb, and_true, true_and]))
    | cons y m =>
      have hlm : (qk (y :: m)).length = m.length + 1 := by rw [qbc]; rfl
      rw [qk, List.nil_append] at hF
      have hm1 : m.length + 1 ≤ 10 := hm0
      repeat' (first | refine vs_ ?_ | ((first | refine vr_ ?_ | fail) <;> (try simp only [hlm, go_sem, ↓reduceIte])) | ((first | (refine cs_ ?_ ?_ <;> intro hc) | refine cj_ ?_ | simp (disch := omega) only [encs_getN, qb] | refine qa hF fun _ => ?_ | refine qc hF ?_) <;> (try refine ev_ ?_)) | with_reducible exact ti_)
      all_goals try (exfalso; omega)
      all_goals (refine qh () [] trivial rfl (by simp) ?_ ?_ ?_ <;> (try refine ev_ ?_) <;> (try with_reducible exact ti_) <;> (try simp (disch := omega) only [qb, and_true, true_and]))
  | cons x l =>
    have hll : (qk (x :: l)).length = l.length + 1 := by rw [qbc]; rfl
    have hlm : (qk m).length = m.length := qbc m
    have hl1 : l.length + 1 ≤ 10 := hl0
    repeat' (first | refine vs_ ?_ | ((first | refine vr_ ?_ | fail) <;> (try simp only [hll, hlm, go_sem, ↓reduceIte])) | ((first | (refine cs_ ?_ ?_ <;> intro hc) | refine cj_ ?_ | simp (disch := omega) only [encs_getN, qb] | refine qa hF fun _ => ?_ | refine qc hF ?_) <;> (try refine ev_ ?_)) | with_reducible exact ti_)
    all_goals try (exfalso; omega)
    all_goals try (refine qh () [] trivial rfl (by simp) ?_ ?_ ?_ <;> (try refine ev_ ?_) <;> (try with_reducible exact ti_) <;> (try simp (disch := omega) only [qb, and_true, true_and]))
    all_goals try exact hcc
 ·cases hf : fewU (l ++ m) 0 with
  | false => repeat' (first | refine vs_ ?_ | ((first | refine vr_ ?_ | refine qa qd3 fun _ => ?_ | refine qc qd3 ?_ | (refine cs_ ?_ ?_ <;> intro hc) | refine cj_ ?_ | simp (disch := omega) only [encs_getN, qb]) <;> (try refine ev_ ?_)) | with_reducible exact ti_)
  | true =>
  obtain ⟨h1, h2, h3⟩ := q7a hf
  obtain ⟨q, hq⟩ := qbwc l m
  have hU := qqd h1 h2 (by omega) hq
  have hR := qyz h1 h2 (by omega) hq
  rw [qdr] at hR
  obtain ⟨o1, o2, o3⟩ := qbup (by omega) hq
  obtain ⟨r, e⟩ := q
  dsimp only at o1 o2 o3 hR
  have hb2 : AV.bds 0 [.sl 3 (qk l), .sl 3 (qk m)] = true := by simp only [AV.bds, AV.bd, qce]; rfl
  obtain ⟨c, hc0⟩ := qbqv (l.getD 0 Y0) (m.getD 0 Y0)
  by_cases he : e = 0
  case neg =>
   have hd : decide (e = 0) = false := decide_eq_false he
   have hr := o3 he
   subst hr
   dsimp only [Bool.not_true]
   refine qqz ?_
   (refine ev_ ?_; (try with_reducible exact ti_))
   refine qqs ?_
   (refine ev_ ?_; (try with_reducible exact ti_))
   refine qcm (S := Unit) (fun _ => True) (fun _ => (⟨[(0, .sl 3 (qk l)), (1, .sl 3 (qk m)), (5, .nilp), (6, .int .i64 e)], []⟩, [])) ?_ fun _ _ => ?_
   ·repeat' (first | refine vs_ ?_ | ((first | refine vr_ ?_ | refine qif hU hb2 rfl he ?_ | (refine cs_ ?_ ?_ <;> intro hc) | refine cj_ ?_ | simp (disch := omega) only [encs_getN, qb]) <;> (try refine ev_ ?_)) | with_reducible exact ti_)
    refine qh () [] trivial rfl (by simp) ?_ ?_ ?_ <;> (try refine ev_ ?_) <;> (try with_reducible exact ti_) <;> (try simp (disch := omega) only [qb, and_true, true_and])
   refine qcm (S := Unit) (fun _ => True) (fun _ => (⟨[(0, .sl 3 (qk l)), (1, .sl 3 (qk m)), (5, .nilp), (6, .int .i64 e), (7, .sl 4 (qt [])), (8, .int .i64 e)], []⟩, [])) ?_ fun _ _ => ?_
   ·repeat' (first | refine vs_ ?_ | ((first | refine vr_ ?_ | refine qa hR fun _ => ?_ | refine qc hR ?_ | (refine cs_ ?_ ?_ <;> intro hc) | refine cj_ ?_ | simp (disch := omega) only [encs_getN, qb]) <;> (try refine ev_ ?_)) | with_reducible exact ti_)
    refine qh () [] trivial rfl (by simp) ?_ ?_ ?_ <;> (try refine ev_ ?_) <;> (try with_reducible exact ti_) <;> (try simp (disch := omega) only [qb, and_true, true_and])
   refine qb2 ?_
   refine qcm (S := Unit) (fun _ => True) (fun _ => (⟨[(0, .sl 3 (qk l)), (1, .sl 3 (qk m)), (5, .nilp), (6, .int .i64 e), (7, .sl 4 (qt [])), (8, .int .i64 e), (62, .bool false)], []⟩, [])) ?_ fun _ _ => ?_
   ·by_cases hl0 : 0 < l.length
    ·by_cases hm0 : 0 < m.length
     ·have hg := qj hl0
      have hg' := qj hm0
      have hA := qen (h1 _ (qs hl0)).1 (h1 _ (qs hl0)).2 (h2 _ (qs hm0)).1 (h2 _ (qs hm0)).2 hc0
      have hB := qku (h1 _ (qs hl0)).1 (h1 _ (qs hl0)).2 (h2 _ (qs hm0)).1 (h2 _ (qs hm0)).2 hc0
      have hcc : (AV.bool !c == c) = AV.bool false := by cases c <;> rfl
      repeat' (first | refine vs_ ?_ | ((first | refine vr_ ?_ | fail) <;> (try simp only [hg, hg', go_sem, ↓reduceIte])) | ((first | simp (disch := omega) only [hg] | simp (disch := omega) only [hg'] | (refine cs_ ?_ ?_ <;> intro hc) | refine cj_ ?_ | simp (disch := omega) only [encs_getN, qb] | refine qa hA fun _ => ?_ | refine qa hB fun _ => ?_ | refine qc hA ?_ | refine qc hB ?_) <;> (try refine ev_ ?_)) | with_reducible exact ti_)
      all_goals try (exfalso; omega)
      all_goals try (refine qh () [] trivial rfl (by simp) ?_ ?_ ?_ <;> (try refine ev_ ?_) <;> (try with_reducible exact ti_) <;> (try simp (disch := omega) only [qb, and_true, true_and]))
      all_goals try exact hcc
     ·repeat' (first | refine vs_ ?_ | ((first | refine vr_ ?_ | (refine cs_ ?_ ?_ <;> intro hc) | refine cj_ ?_ | simp (disch := omega) only [encs_getN, qb]) <;> (try refine ev_ ?_)) | with_reducible exact ti_)
      all_goals try (exfalso; omega)
      all_goals try (refine qh () [] trivial rfl (by simp) ?_ ?_ ?_ <;> (try refine ev_ ?_) <;> (try with_reducible exact ti_) <;> (try simp (disch := omega) only [qb, and_true, true_and]))
      all_goals try exact hcc
    ·repeat' (first | refine vs_ ?_ | ((first | refine vr_ ?_ | (refine cs_ ?_ ?_ <;> intro hc) | refine cj_ ?_ | simp (disch := omega) only [encs_getN, qb]) <;> (try refine ev_ ?_)) | with_reducible exact ti_)
     all_goals try (exfalso; omega)
     all_goals try (refine qh () [] trivial rfl (by simp) ?_ ?_ ?_ <;> (try refine ev_ ?_) <;> (try with_reducible exact ti_) <;> (try simp (disch := omega) only [qb, and_true, true_and]))
     all_goals try exact hcc
   repeat' (first | refine vs_ ?_ | ((first | refine vr_ ?_ | fail) <;> (try simp only [hd, decide_false, go_sem, ↓reduceIte])) | ((first | (refine cs_ ?_ ?_ <;> intro hc) | refine cj_ ?_ | simp (disch := omega) only [encs_getN, qb] | refine qa ql5 fun _ => ?_ | refine qa (qhh []) fun _ => ?_ | refine qa qd3 fun _ => ?_ | refine qc ql5 ?_ | refine qc (qhh []) ?_ | refine qc qd3 ?_) <;> (try refine ev_ ?_)) | with_reducible exact ti_)
   all_goals try (exfalso; revert hc; simp; done)
  subst he
  have hP := qed (s := r) (by omega) (qgi o1)
  dsimp only [Bool.not_true]
  refine qqz ?_
  (refine ev_ ?_; (try with_reducible exact ti_))
  refine qqs ?_
  (refine ev_ ?_; (try with_reducible exact ti_))
  refine qcm (S := Unit) (fun _ => True) (fun _ => (⟨[(0, .sl 3 (qk l)), (1, .sl 3 (qk m)), (5, .ptr 0 0), (6, .int .i64 0)], []⟩, [subE r])) ?_ fun _ _ => ?_
  ·repeat' (first | refine vs_ ?_ | ((first | refine vr_ ?_ | refine qk8 hU hb2 rfl ?_ | (refine cs_ ?_ ?_ <;> intro hc) | refine cj_ ?_ | simp (disch := omega) only [encs_getN, qb]) <;> (try refine ev_ ?_)) | with_reducible exact ti_)
   refine qh () [0] trivial rfl (by simp) ?_ ?_ ?_ <;> (try refine ev_ ?_) <;> (try with_reducible exact ti_) <;> (try simp (disch := omega) only [qb, and_true, true_and])
  refine qcm (S := Unit) (fun _ => True) (fun _ => (⟨[(0, .sl 3 (qk l)), (1, .sl 3 (qk m)), (5, .ptr 0 0), (6, .int .i64 0), (7, .sl 4 (qt r)), (8, .int .i64 0)], []⟩, [subE r])) ?_ fun _ _ => ?_
  ·repeat' (first | refine vs_ ?_ | ((first | refine vr_ ?_ | refine qa hR fun _ => ?_ | refine qc hR ?_ | (refine cs_ ?_ ?_ <;> intro hc) | refine cj_ ?_ | simp (disch := omega) only [encs_getN, qb]) <;> (try refine ev_ ?_)) | with_reducible exact ti_)
   refine qh () [0] trivial rfl (by simp) ?_ ?_ ?_ <;> (try refine ev_ ?_) <;> (try with_reducible exact ti_) <;> (try simp (disch := omega) only [qb, and_true, true_and])
  refine qb2 ?_
  refine qcm (S := Unit) (fun _ => True) (fun _ => (⟨[(0, .sl 3 (qk l)), (1, .sl 3 (qk m)), (5, .ptr 0 0), (6, .int .i64 0), (7, .sl 4 (qt r)), (8, .int .i64 0), (62, .bool false)], []⟩, [subE r])) ?_ fun _ _ => ?_
  ·by_cases hl0 : 0 < l.length
   ·by_cases hm0 : 0 < m.length
    ·have hg := qj hl0
     have hg' := qj hm0
     have hA := qen (h1 _ (qs hl0)).1 (h1 _ (qs hl0)).2 (h2 _ (qs hm0)).1 (h2 _ (qs hm0)).2 hc0
     have hB := qku (h1 _ (qs hl0)).1 (h1 _ (qs hl0)).2 (h2 _ (qs hm0)).1 (h2 _ (qs hm0)).2 hc0
     have hcc : (AV.bool !c == c) = AV.bool false := by cases c <;> rfl
     repeat' (first | refine vs_ ?_ | ((first | refine vr_ ?_ | fail) <;> (try simp only [hg, hg', go_sem, ↓reduceIte])) | ((first | simp (disch := omega) only [hg] | simp (disch := omega) only [hg'] | (refine cs_ ?_ ?_ <;> intro hc) | refine cj_ ?_ | simp (disch := omega) only [encs_getN, qb] | refine qa hA fun _ => ?_ | refine qa hB fun _ => ?_ | refine qc hA ?_ | refine qc hB ?_) <;> (try refine ev_ ?_)) | with_reducible exact ti_)
     all_goals try (exfalso; omega)
     all_goals try (refine qh () [0] trivial rfl (by simp) ?_ ?_ ?_ <;> (try refine ev_ ?_) <;> (try with_reducible exact ti_) <;> (try simp (disch := omega) only [qb, and_true, true_and]))
     all_goals try exact hcc
    ·repeat' (first | refine vs_ ?_ | ((first | refine vr_ ?_ | (refine cs_ ?_ ?_ <;> intro hc) | refine cj_ ?_ | simp (disch := omega) only [encs_getN, qb]) <;> (try refine ev_ ?_)) | with_reducible exact ti_)
     all_goals try (exfalso; omega)
     all_goals try (refine qh () [0] trivial rfl (by simp) ?_ ?_ ?_ <;> (try refine ev_ ?_) <;> (try with_reducible exact ti_) <;> (try simp (disch := omega) only [qb, and_true, true_and]))
     all_goals try exact hcc
   ·repeat' (first | refine vs_ ?_ | ((first | refine vr_ ?_ | (refine cs_ ?_ ?_ <;> intro hc) | refine cj_ ?_ | simp (disch := omega) only [encs_getN, qb]) <;> (try refine ev_ ?_)) | with_reducible exact ti_)
    all_goals try (exfalso; omega)
    all_goals try (refine qh () [0] trivial rfl (by simp) ?_ ?_ ?_ <;> (try refine ev_ ?_) <;> (try with_reducible exact ti_) <;> (try simp (disch := omega) only [qb, and_true, true_and]))
    all_goals try exact hcc
  repeat' (first | refine vs_ ?_ | ((first | refine vr_ ?_ | refine qy 0 hP rfl (bSl _) ?_ | refine qa (qhh r) fun _ => ?_ | refine qa qd3 fun _ => ?_ | refine qc (qhh r) ?_ | refine qc qd3 ?_ | (refine cs_ ?_ ?_ <;> intro hc) | refine cj_ ?_ | simp (disch := omega) only [encs_getN, qb]) <;> (try refine ev_ ?_)) | with_reducible exact ti_)
end Go.Proofs.YtlahgbhhejkgbaaGreat
