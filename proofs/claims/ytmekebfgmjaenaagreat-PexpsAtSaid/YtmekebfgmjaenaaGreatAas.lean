/- A text of this proof. -/
import Derived.Test.YtmekebfgmjaenaaGreatAar
import Derived.Test.YtmekebfgmjaenaaGreatAan

/- the lexer's words: one word -/
set_option maxRecDepth 4000
namespace Go.Proofs.YtmekebfgmjaenaaGreat
open Go Go.RowKit Go.V
set_option linter.unusedVariables false
set_option linter.unusedSimpArgs false

theorem blank_iff {c : Int} : qdy c = true ↔ c = 9 ∨ c = 10 ∨ c = 13 ∨ c = 32 := by simp [qdy, or_assoc]
theorem line_iff {c : Int} : qh5 c = true ↔ c ≠ 10 := by simp [qh5]
theorem qzr (a : Nat) : (a : Int) + 1 = ((a + 1 : Nat) : Int) := rfl
theorem qbrg (l : List UInt8) (k : Nat) (hk : k ≤ l.length) : qbp Tryz.prog 67 [.str l, .int .i64 k] (.int .i64 ((k + qc4 (l.drop k) : Nat) : Int)) := by
  refine qba c0cz (by simp) (by simp only [go_sem]) rfl fun hw => ?_
  have hl : l.length ≤ maxLen := hw.1
  repeat' (first | refine ql ?_ | refine qk ?_ | ((first | refine qn ?_ | refine qm ?_ | refine qs ?_ | refine qj ?_ | refine qi ?_); simp only [go_sem, ↓reduceIte, Nat.reduceEqDiff, Nat.reduceAdd, Nat.reduceSub, Nat.reduceMul, Nat.reduceLT, Nat.reduceLeDiff, reduceCtorEq, Int.reduceToNat]) | ((first | refine qf ?_ ?_ | refine qd ?_ ?_) <;> intro hc <;> simp only [hc, go_sem, ↓reduceIte, Nat.reduceEqDiff, Nat.reduceAdd, Nat.reduceSub, Nat.reduceMul, Nat.reduceLT, Nat.reduceLeDiff, reduceCtorEq, Int.reduceToNat] <;> (try simp only [qb, qa, decide_eq_true_eq, decide_eq_false_iff_not, Bool.and_eq_true] at hc)) | refine And.intro (by first | assumption | omega | (have := qg (by assumption); omega) | (unfold qq; omega)) ?_ | ((first | simp (disch := omega) only [qv] | simp (disch := omega) only [qbe]); (try simp only [go_sem, ↓reduceIte, Nat.reduceEqDiff, Nat.reduceAdd, Nat.reduceSub, Nat.reduceMul, Nat.reduceLT, Nat.reduceLeDiff, reduceCtorEq, Int.reduceToNat])))
  refine qca (S := Nat) (fun n => n ≤ l.length ∧ k + qc4 (l.drop k) = n + qc4 (l.drop n)) (fun n => (⟨[(0, .str l), (1, .int .i64 n)], []⟩, [])) (fun n => l.length - n) ?_ fun n hn => ?_
  · refine qbq k [] ⟨hk, rfl⟩ rfl (by simp) ?_ ?_ ?_ <;> (try simp only [go_sem, ↓reduceIte, Nat.reduceEqDiff, Nat.reduceAdd, Nat.reduceSub, Nat.reduceMul, Nat.reduceLT, Nat.reduceLeDiff, reduceCtorEq, Int.reduceToNat]) <;> (try simp (disch := omega) only [qbe])
  · obtain ⟨hn, ha⟩ := hn
    have nxt : n < l.length → ¬ qdy (l.getD n 0).toNat = true → ¬ pfx [45, 45] (l.drop n) = true → VO.val (AV.int IntKind.i64 ↑n) = VO.val (AV.int IntKind.i64 ↑(k + qc4 (List.drop k l))) := by
      intro h1 h2 h3
      rw [ha, qoh (by simpa using h3)]
      · rfl
      · rw [qeq h1, if_neg h2]
    have hp : pfx [45, 45] (l.drop n) = true → n + 1 < l.length ∧ (l.getD n 0).toNat = 45 ∧ (l.getD (n + 1) 0).toNat = 45 := by
      intro h
      have h1 : n < l.length := by
        apply Decidable.byContradiction
        intro h2
        rw [List.drop_of_length_le (by omega)] at h
        simp [pfx] at h
      rw [qdx h1, pfx] at h
      have h2 : n + 1 < l.length := by
        apply Decidable.byContradiction
        intro h2
        rw [List.drop_of_length_le (i := n + 1) (by omega)] at h
        simp at h
      rw [qdx h2] at h
      generalize l.getD n 0 = x at h ⊢
      generalize l.getD (n + 1) 0 = y at h ⊢
      simp at h
      exact ⟨h2, by rw [h.1]; rfl, by rw [h.2]; rfl⟩
    have nxp : n < l.length → ¬ qdy (l.getD n 0).toNat = true → ¬ (n + 1 < l.length ∧ (l.getD n 0).toNat = 45 ∧ (l.getD (n + 1) 0).toNat = 45) → VO.val (AV.int IntKind.i64 ↑n) = VO.val (AV.int IntKind.i64 ↑(k + qc4 (List.drop k l))) := fun h1 h2 h3 => nxt h1 h2 fun h4 => h3 (hp h4)
    repeat' (first | refine ql ?_ | refine qk ?_ | ((first | refine qn ?_ | refine qm ?_ | refine qs ?_ | refine qj ?_ | refine qi ?_); simp (disch := first | omega | (simp only [List.length_set, List.length_append, List.length_cons, List.length_nil]; done) | (simp only [List.length_set, List.length_append, List.length_cons, List.length_nil]; omega)) only [qe6, go_sem, ↓reduceIte, Nat.reduceEqDiff, Nat.reduceAdd, Nat.reduceSub, Nat.reduceMul, Nat.reduceLT, Nat.reduceLeDiff, reduceCtorEq, Int.reduceToNat]) | ((first | simp (disch := omega) only [qe6] | simp (disch := omega) only [qbe] | simp (disch := omega) only [qzr] | simp (disch := omega) only [Int.toNat_natCast]); (try simp only [go_sem, ↓reduceIte, Nat.reduceEqDiff, Nat.reduceAdd, Nat.reduceSub, Nat.reduceMul, Nat.reduceLT, Nat.reduceLeDiff, reduceCtorEq, Int.reduceToNat])) | ((first | refine qf ?_ ?_ | refine qd ?_ ?_) <;> intro hc <;> simp only [hc, go_sem, ↓reduceIte, Nat.reduceEqDiff, Nat.reduceAdd, Nat.reduceSub, Nat.reduceMul, Nat.reduceLT, Nat.reduceLeDiff, reduceCtorEq, Int.reduceToNat] <;> (try simp only [qb, qa, decide_eq_true_eq, decide_eq_false_iff_not, Bool.and_eq_true] at hc)) | refine And.intro (by first | assumption | omega | (have := qg (by assumption); omega) | (unfold qq; omega)) ?_ | ((first | simp (disch := omega) only [qv] | simp (disch := omega) only [qbe]); (try simp only [go_sem, ↓reduceIte, Nat.reduceEqDiff, Nat.reduceAdd, Nat.reduceSub, Nat.reduceMul, Nat.reduceLT, Nat.reduceLeDiff, reduceCtorEq, Int.reduceToNat])))
    · refine qbq (n + 1) [] ⟨⟨by omega, ?_⟩, by omega⟩ rfl (by simp) ?_ ?_ ?_ <;> (try simp only [go_sem, ↓reduceIte, Nat.reduceEqDiff, Nat.reduceAdd, Nat.reduceSub, Nat.reduceMul, Nat.reduceLT, Nat.reduceLeDiff, reduceCtorEq, Int.reduceToNat]) <;> (try simp (disch := omega) only [qbe])
      rw [ha, qdx (i := n) (by omega), qhv (blank_iff.2 (by omega))]; omega
    · refine qbq (n + 1) [] ⟨⟨by omega, ?_⟩, by omega⟩ rfl (by simp) ?_ ?_ ?_ <;> (try simp only [go_sem, ↓reduceIte, Nat.reduceEqDiff, Nat.reduceAdd, Nat.reduceSub, Nat.reduceMul, Nat.reduceLT, Nat.reduceLeDiff, reduceCtorEq, Int.reduceToNat]) <;> (try simp (disch := omega) only [qbe])
      rw [ha, qdx (i := n) (by omega), qhv (blank_iff.2 (by omega))]; omega
    · refine qbq (n + 1) [] ⟨⟨by omega, ?_⟩, by omega⟩ rfl (by simp) ?_ ?_ ?_ <;> (try simp only [go_sem, ↓reduceIte, Nat.reduceEqDiff, Nat.reduceAdd, Nat.reduceSub, Nat.reduceMul, Nat.reduceLT, Nat.reduceLeDiff, reduceCtorEq, Int.reduceToNat]) <;> (try simp (disch := omega) only [qbe])
      rw [ha, qdx (i := n) (by omega), qhv (blank_iff.2 (by omega))]; omega
    · refine qbq (n + 1) [] ⟨⟨by omega, ?_⟩, by omega⟩ rfl (by simp) ?_ ?_ ?_ <;> (try simp only [go_sem, ↓reduceIte, Nat.reduceEqDiff, Nat.reduceAdd, Nat.reduceSub, Nat.reduceMul, Nat.reduceLT, Nat.reduceLeDiff, reduceCtorEq, Int.reduceToNat]) <;> (try simp (disch := omega) only [qbe])
      rw [ha, qdx (i := n) (by omega), qhv (blank_iff.2 (by omega))]; omega
    · rename_i q1 q2 q3 q4 q5 q6 q7
      have hpp : pfx [45, 45] (l.drop n) = true := by
        have e1 : l.getD n 0 = 45 := UInt8.toNat_inj.1 (by rw [show (45 : UInt8).toNat = 45 from rfl]; omega)
        have e2 : l.getD (n + 1) 0 = 45 := UInt8.toNat_inj.1 (by rw [show (45 : UInt8).toNat = 45 from rfl]; omega)
        rw [qdx (i := n) (by omega), qdx (i := n + 1) (by omega), e1, e2]
        simp [pfx]
      have hsl := qx3 hpp
      rw [List.drop_drop] at hsl
      have hpos : qce qh5 (l.drop n) ≠ 0 := by
        rw [qeq (by omega), show qh5 (l.getD n 0).toNat = true from line_iff.2 (by omega)]; simp
      refine qca (S := Nat) (fun m => n ≤ m ∧ m ≤ l.length ∧ n + qce qh5 (l.drop n) = m + qce qh5 (l.drop m)) (fun n => (⟨[(0, .str l), (1, .int .i64 n)], []⟩, [])) (fun n => l.length - n) ?_ fun m hm => ?_
      · refine qbq n [] ⟨Nat.le_refl _, by omega, rfl⟩ rfl (by simp) ?_ ?_ ?_ <;> (try simp only [go_sem, ↓reduceIte, Nat.reduceEqDiff, Nat.reduceAdd, Nat.reduceSub, Nat.reduceMul, Nat.reduceLT, Nat.reduceLeDiff, reduceCtorEq, Int.reduceToNat]) <;> (try simp (disch := omega) only [qbe])
      · obtain ⟨hm1, hm2, hm3⟩ := hm
        have hend : n + qce qh5 (l.drop n) = m → (m ≤ l.length ∧ k + qc4 (List.drop k l) = m + qc4 (List.drop m l)) ∧ l.length - m < l.length - n := by
          intro h
          refine ⟨⟨by omega, ?_⟩, by omega⟩
          rw [ha, hsl, h]; omega
        repeat' (first | refine ql ?_ | refine qk ?_ | ((first | refine qn ?_ | refine qm ?_ | refine qs ?_ | refine qj ?_ | refine qi ?_); simp (disch := first | omega | (simp only [List.length_set, List.length_append, List.length_cons, List.length_nil]; done) | (simp only [List.length_set, List.length_append, List.length_cons, List.length_nil]; omega)) only [qe6, go_sem, ↓reduceIte, Nat.reduceEqDiff, Nat.reduceAdd, Nat.reduceSub, Nat.reduceMul, Nat.reduceLT, Nat.reduceLeDiff, reduceCtorEq, Int.reduceToNat]) | ((first | simp (disch := omega) only [qe6] | simp (disch := omega) only [qbe] | simp (disch := omega) only [qzr] | simp (disch := omega) only [Int.toNat_natCast]); (try simp only [go_sem, ↓reduceIte, Nat.reduceEqDiff, Nat.reduceAdd, Nat.reduceSub, Nat.reduceMul, Nat.reduceLT, Nat.reduceLeDiff, reduceCtorEq, Int.reduceToNat])) | ((first | refine qf ?_ ?_ | refine qd ?_ ?_) <;> intro hc <;> simp only [hc, go_sem, ↓reduceIte, Nat.reduceEqDiff, Nat.reduceAdd, Nat.reduceSub, Nat.reduceMul, Nat.reduceLT, Nat.reduceLeDiff, reduceCtorEq, Int.reduceToNat] <;> (try simp only [qb, qa, decide_eq_true_eq, decide_eq_false_iff_not, Bool.and_eq_true] at hc)) | refine And.intro (by first | assumption | omega | (have := qg (by assumption); omega) | (unfold qq; omega)) ?_ | ((first | simp (disch := omega) only [qv] | simp (disch := omega) only [qbe]); (try simp only [go_sem, ↓reduceIte, Nat.reduceEqDiff, Nat.reduceAdd, Nat.reduceSub, Nat.reduceMul, Nat.reduceLT, Nat.reduceLeDiff, reduceCtorEq, Int.reduceToNat])))
        · refine qbq (m + 1) [] ⟨⟨by omega, by omega, ?_⟩, by omega⟩ rfl (by simp) ?_ ?_ ?_ <;> (try simp only [go_sem, ↓reduceIte, Nat.reduceEqDiff, Nat.reduceAdd, Nat.reduceSub, Nat.reduceMul, Nat.reduceLT, Nat.reduceLeDiff, reduceCtorEq, Int.reduceToNat]) <;> (try simp (disch := omega) only [qbe])
          rw [hm3, qeq (i := m) (by omega), if_pos (line_iff.2 (by omega))]; omega
        · refine qbq m [] (hend ?_) rfl (by simp) ?_ ?_ ?_ <;> (try simp only [go_sem, ↓reduceIte, Nat.reduceEqDiff, Nat.reduceAdd, Nat.reduceSub, Nat.reduceMul, Nat.reduceLT, Nat.reduceLeDiff, reduceCtorEq, Int.reduceToNat]) <;> (try simp (disch := omega) only [qbe])
          rw [hm3, qeq (i := m) (by omega), if_neg (mt line_iff.1 (by omega))]; rfl
        · refine qbq m [] (hend ?_) rfl (by simp) ?_ ?_ ?_ <;> (try simp only [go_sem, ↓reduceIte, Nat.reduceEqDiff, Nat.reduceAdd, Nat.reduceSub, Nat.reduceMul, Nat.reduceLT, Nat.reduceLeDiff, reduceCtorEq, Int.reduceToNat]) <;> (try simp (disch := omega) only [qbe])
          rw [hm3, List.drop_of_length_le (by omega)]; rfl
    · exact nxp (by omega) (mt blank_iff.1 (by omega)) (by omega)
    · exact nxp (by omega) (mt blank_iff.1 (by omega)) (by omega)
    · exact nxp (by omega) (mt blank_iff.1 (by omega)) (by omega)
    · rw [ha, List.drop_of_length_le (by omega)]
      have : qc4 [] = 0 := qoh rfl rfl
      rw [this]; rfl

def qby9 (l : List UInt8) : Int := if l = [95] then 5 else if resW l then 4 else if conW l then 2 else 1
def q2r (l : List UInt8) : T := ⟨qby9 l, 0, 0, l⟩
theorem qow (l : List UInt8) : qbp Tryz.prog 129 [.str l] (encT (q2r l)) := by
  refine qba c0da (by simp) (by simp only [go_sem]) rfl fun hw => ?_
  have hl : l.length ≤ maxLen := hw.1
  repeat' (first | refine ql ?_ | refine qk ?_ | ((first | refine qn ?_ | refine qm ?_ | refine qj ?_ | refine qi ?_ | refine qc (qjg _) fun _ => ?_ | refine qc (qrz _) fun _ => ?_ | refine qe  (qjg _) ?_ | refine qe  (qrz _) ?_); simp only [go_sem, ↓reduceIte, Nat.reduceEqDiff, Nat.reduceAdd, Nat.reduceSub, Nat.reduceMul, Nat.reduceLT, Nat.reduceLeDiff, reduceCtorEq, Int.reduceToNat]) | ((first | refine qf ?_ ?_ | refine qd ?_ ?_) <;> intro hc <;> simp only [hc, go_sem, ↓reduceIte, Nat.reduceEqDiff, Nat.reduceAdd, Nat.reduceSub, Nat.reduceMul, Nat.reduceLT, Nat.reduceLeDiff, reduceCtorEq, Int.reduceToNat] <;> (try simp only [qb, qa, decide_eq_true_eq, decide_eq_false_iff_not, Bool.and_eq_true] at hc)) | refine And.intro (by first | assumption | omega | (have := qg (by assumption); omega) | (unfold qq; omega)) ?_ | fail)
  all_goals simp_all [encT, q2r, qby9]

def marksW : List (List UInt8) := [[45, 62], [61, 62], [58, 58], [40], [41], [123], [125], [59], [44], [61], [124], [92]]
def quf (l : List UInt8) : List (List UInt8) → Nat
  | [] => 0
  | m :: r => if pfx m l then m.length else quf l r
def qzn (l : List UInt8) : Nat := quf l marksW
theorem q1o : (marksW.map AV.str).length = 12 := rfl
theorem q16 {i : Nat} (h : i < 12) : (marksW.map AV.str).getD i .junk = .str (marksW.getD i []) := by
  have h' : i < marksW.length := h
  rw [List.getD_eq_getElem?_getD, List.getElem?_map, List.getD_eq_getElem?_getD, List.getElem?_eq_getElem h']; rfl
theorem qou {i : Nat} (h : i < 12) : marksW.drop i = marksW.getD i [] :: marksW.drop (i + 1) := by
  have h' : i < marksW.length := h
  rw [List.drop_eq_getElem_cons h', List.getD_eq_getElem?_getD, List.getElem?_eq_getElem h']; rfl
theorem qox (l : List UInt8) : qbp Tryz.prog 130 [.str l] (.int .i64 (qzn l)) := by
  refine qba c0db (by simp) (by simp only [go_sem]) rfl fun hw => ?_
  repeat' (first | refine ql ?_ | refine qk ?_ | ((first | refine qn ?_ | refine qm ?_ | refine qs ?_ | refine qj ?_ | refine qi ?_); simp only [go_sem, ↓reduceIte, Nat.reduceEqDiff, Nat.reduceAdd, Nat.reduceSub, Nat.reduceMul, Nat.reduceLT, Nat.reduceLeDiff, reduceCtorEq, Int.reduceToNat]) | ((first | refine qf ?_ ?_ | refine qd ?_ ?_) <;> intro hc <;> simp only [hc, go_sem, ↓reduceIte, Nat.reduceEqDiff, Nat.reduceAdd, Nat.reduceSub, Nat.reduceMul, Nat.reduceLT, Nat.reduceLeDiff, reduceCtorEq, Int.reduceToNat] <;> (try simp only [qb, qa, decide_eq_true_eq, decide_eq_false_iff_not, Bool.and_eq_true] at hc)) | refine And.intro (by first | assumption | omega | (have := qg (by assumption); omega) | (unfold qq; omega)) ?_ | ((first | simp (disch := omega) only [qv] | simp (disch := omega) only [qbe]); (try simp only [go_sem, ↓reduceIte, Nat.reduceEqDiff, Nat.reduceAdd, Nat.reduceSub, Nat.reduceMul, Nat.reduceLT, Nat.reduceLeDiff, reduceCtorEq, Int.reduceToNat])))
  refine qca (S := Nat) (fun i => i ≤ 12 ∧ quf l (marksW.drop i) = qzn l) (fun i => (⟨[(0, .str l), (5, .agg (marksW.map AV.str)), (6, .int .i64 i)], []⟩, [])) (fun i => 12 - i) ?_ fun i hi => ?_
  · refine qbq 0 [] ⟨Nat.zero_le _, rfl⟩ rfl (by simp) ?_ ?_ ?_ <;> (try simp only [go_sem, ↓reduceIte, Nat.reduceEqDiff, Nat.reduceAdd, Nat.reduceSub, Nat.reduceMul, Nat.reduceLT, Nat.reduceLeDiff, reduceCtorEq, Int.reduceToNat]) <;> (try simp (disch := omega) only [qbe])
    exact ⟨rfl, rfl⟩
  · obtain ⟨hi, ha⟩ := hi
    repeat' (first | refine ql ?_ | refine qk ?_ | ((first | refine qn ?_ | refine qm ?_ | refine qs ?_ | refine qj ?_ | refine qi ?_ | refine qc (qc9 _ _) fun _ => ?_ | refine qe  (qc9 _ _) ?_); simp only [go_sem, ↓reduceIte, Nat.reduceEqDiff, Nat.reduceAdd, Nat.reduceSub, Nat.reduceMul, Nat.reduceLT, Nat.reduceLeDiff, reduceCtorEq, Int.reduceToNat]) | ((first | refine qf ?_ ?_ | refine qd ?_ ?_) <;> intro hc <;> simp only [hc, go_sem, ↓reduceIte, Nat.reduceEqDiff, Nat.reduceAdd, Nat.reduceSub, Nat.reduceMul, Nat.reduceLT, Nat.reduceLeDiff, reduceCtorEq, Int.reduceToNat] <;> (try simp only [qb, qa, decide_eq_true_eq, decide_eq_false_iff_not, Bool.and_eq_true] at hc)) | refine And.intro (by first | assumption | omega | (have := qg (by assumption); omega) | (unfold qq; omega)) ?_ | ((first | simp (disch := omega) only [qv] | simp (disch := omega) only [qbe]); (try simp only [go_sem, ↓reduceIte, Nat.reduceEqDiff, Nat.reduceAdd, Nat.reduceSub, Nat.reduceMul, Nat.reduceLT, Nat.reduceLeDiff, reduceCtorEq, Int.reduceToNat])))
    · simp (disch := omega) only [q1o, q16, Nat.mul_one]
      refine ⟨by omega, ?_⟩
      repeat' (first | refine ql ?_ | refine qk ?_ | ((first | refine qn ?_ | refine qm ?_ | refine qs ?_ | refine qj ?_ | refine qi ?_ | refine qc (qc9 _ _) fun _ => ?_ | refine qe  (qc9 _ _) ?_); simp only [go_sem, ↓reduceIte, Nat.reduceEqDiff, Nat.reduceAdd, Nat.reduceSub, Nat.reduceMul, Nat.reduceLT, Nat.reduceLeDiff, reduceCtorEq, Int.reduceToNat]) | ((first | refine qf ?_ ?_ | refine qd ?_ ?_) <;> intro hc <;> simp only [hc, go_sem, ↓reduceIte, Nat.reduceEqDiff, Nat.reduceAdd, Nat.reduceSub, Nat.reduceMul, Nat.reduceLT, Nat.reduceLeDiff, reduceCtorEq, Int.reduceToNat] <;> (try simp only [qb, qa, decide_eq_true_eq, decide_eq_false_iff_not, Bool.and_eq_true] at hc)) | refine And.intro (by first | assumption | omega | (have := qg (by assumption); omega) | (unfold qq; omega)) ?_ | ((first | simp (disch := omega) only [qv] | simp (disch := omega) only [qbe]); (try simp only [go_sem, ↓reduceIte, Nat.reduceEqDiff, Nat.reduceAdd, Nat.reduceSub, Nat.reduceMul, Nat.reduceLT, Nat.reduceLeDiff, reduceCtorEq, Int.reduceToNat])))
      · rw [← ha, qou (i := i) (by omega), quf, if_pos hc]
      · refine qbq (i + 1) [] ⟨⟨by omega, ?_⟩, by omega⟩ rfl (by simp) ?_ ?_ ?_ <;> (try simp only [go_sem, ↓reduceIte, Nat.reduceEqDiff, Nat.reduceAdd, Nat.reduceSub, Nat.reduceMul, Nat.reduceLT, Nat.reduceLeDiff, reduceCtorEq, Int.reduceToNat]) <;> (try simp (disch := omega) only [qbe])
        · rw [← ha, qou (i := i) (by omega), quf, hc]; rfl
        · have : i < maxLen := by unfold maxLen; omega
          rw [qbe this]
          exact ⟨⟨rfl, rfl⟩, rfl⟩
    · rw [← ha, show i = 12 by omega]; rfl
/-- The word that a text begins with, and the error. -/
def qd6 (l : List UInt8) : T × Int :=
  if qev (l.getD 0 0).toNat then (⟨3, 0, (qof (l.take (qce qev l))).1, l.take (qce qev l)⟩, (qof (l.take (qce qev l))).2)
  else if onW (l.getD 0 0).toNat && !decide (((l.getD 0 0).toNat : Int) = 39) then (q2r (l.take (qce onW l)), 0)
  else if qzn l = 0 then (T0, 3)
  else (⟨5, 0, 0, l.take (qzn l)⟩, 0)
def qbie (p : T × Int) : AV := .tup [encT p.1, .int .i64 p.2]
theorem qvm (l : List UInt8) : ∀ ms, quf l ms ≤ l.length
  | [] => Nat.zero_le _
  | m :: r => by
    rw [quf]
    split
    · rename_i h
      have := congrArg List.length (of_decide_eq_true h)
      rw [List.length_take] at this
      omega
    · exact qvm l r
theorem qv8 (l : List UInt8) : qzn l ≤ l.length := qvm l _
attribute [go_sem] qbil
theorem qpq (l : List UInt8) (hne : l ≠ []) : qbp Tryz.prog 98 [.str l] (qbie (qd6 l)) := by
  refine qba c0dc (by simp) (by simp only [go_sem]) rfl fun hw => ?_
  have hl : l.length ≤ maxLen := hw.1
  have h1 := qhj qev l
  have h2 := qhj onW l
  have h3 := qv8 l
  have h4 := List.length_pos_iff.2 hne
  repeat' (first | refine ql ?_ | refine qk ?_ | ((first | refine qn ?_ | refine qm ?_ | refine qj ?_ | refine qi ?_ | refine qc (qfl _) fun _ => ?_ | refine qc (qeb qfl _) fun _ => ?_ | refine qc (qrj _) fun _ => ?_ | refine qc (ql4 _) fun _ => ?_ | refine qc (qeb ql4 _) fun _ => ?_ | refine qc (qow _) fun _ => ?_ | refine qc (qox _) fun _ => ?_ | refine qe  (qfl _) ?_ | refine qe  (qeb qfl _) ?_ | refine qe  (qrj _) ?_ | refine qe  (ql4 _) ?_ | refine qe  (qeb ql4 _) ?_ | refine qe  (qow _) ?_ | refine qe  (qox _) ?_); simp only [go_sem, ↓reduceIte, Nat.reduceEqDiff, Nat.reduceAdd, Nat.reduceSub, Nat.reduceMul, Nat.reduceLT, Nat.reduceLeDiff, reduceCtorEq, Int.reduceToNat]) | ((first | refine qf ?_ ?_ | refine qd ?_ ?_) <;> intro hc <;> simp only [hc, go_sem, ↓reduceIte, Nat.reduceEqDiff, Nat.reduceAdd, Nat.reduceSub, Nat.reduceMul, Nat.reduceLT, Nat.reduceLeDiff, reduceCtorEq, Int.reduceToNat] <;> (try simp only [qb, qa, decide_eq_true_eq, decide_eq_false_iff_not, Bool.and_eq_true] at hc)) | refine And.intro (by first | assumption | omega | (have := qg (by assumption); omega) | (unfold qq; omega)) ?_ | ((first | simp (disch := omega) only [qv] | simp (disch := omega) only [qbe]); (try simp only [go_sem, ↓reduceIte, Nat.reduceEqDiff, Nat.reduceAdd, Nat.reduceSub, Nat.reduceMul, Nat.reduceLT, Nat.reduceLeDiff, reduceCtorEq, Int.reduceToNat])))
  all_goals (unfold qd6 qbie; simp_all only [↓reduceIte, Bool.false_eq_true, decide_true, decide_false, Bool.not_true, Bool.not_false, Bool.and_true, Bool.and_false, Bool.true_and, Bool.false_and, Int.natCast_eq_zero]; try rfl)
  all_goals trace_state
end Go.Proofs.YtmekebfgmjaenaaGreat
