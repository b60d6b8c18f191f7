/- A text of this proof. -/
import Derived.Test.YtmekebfgmjaenaaGreatAar
import Derived.Test.YtmekebfgmjaenaaGreatAan

/- the lexer's words: one word -/
set_option maxRecDepth 4000
namespace Go.Proofs.YtmekebfgmjaenaaGreat
open Go Go.RowKit Go.V
set_option linter.unusedVariables false
set_option linter.unusedSimpArgs false

theorem blank_iff {c : Int} : qd1 c = true ↔ c = 9 ∨ c = 10 ∨ c = 13 ∨ c = 32 := by simp [qd1, or_assoc]
theorem line_iff {c : Int} : qh3 c = true ↔ c ≠ 10 := by simp [qh3]
theorem qz3 (a : Nat) : (a : Int) + 1 = ((a + 1 : Nat) : Int) := rfl
theorem qbrn (l : List UInt8) (k : Nat) (hk : k ≤ l.length) : qbs Tryz.prog 67 [.str l, .int .i64 k] (.int .i64 ((k + qc5 (l.drop k) : Nat) : Int)) := by
  refine qbe c0cz (by simp) (by simp only [go_sem]) rfl fun hw => ?_
  have hl : l.length ≤ maxLen := hw.1
  repeat' (first | refine qs ?_ | refine qg ?_ | refine qi ?_ | ((first | refine qu ?_ | refine qq (by rfl) ?_ | refine ql ?_ | refine qj ?_ | refine qo ?_ | refine qt ?_ | refine qn ?_ | refine qm ?_ | refine qp ?_); simp only [go_sem, ↓reduceIte, Nat.reduceEqDiff, Nat.reduceAdd, Nat.reduceSub, Nat.reduceMul, Nat.reduceLT, Nat.reduceLeDiff, reduceCtorEq, Int.reduceToNat]) | ((first | refine qh ?_ ?_ | refine qe ?_ ?_) <;> intro hc <;> simp only [hc, go_sem, ↓reduceIte, Nat.reduceEqDiff, Nat.reduceAdd, Nat.reduceSub, Nat.reduceMul, Nat.reduceLT, Nat.reduceLeDiff, reduceCtorEq, Int.reduceToNat] <;> (try simp only [qb, qa, decide_eq_true_eq, decide_eq_false_iff_not, Bool.and_eq_true] at hc)) | refine And.intro (by first | assumption | omega | (have := qk (by assumption); omega) | (unfold qy; omega)) ?_ | ((first | simp (disch := omega) only [qd] | simp (disch := omega) only [qw]); (try simp only [go_sem, ↓reduceIte, Nat.reduceEqDiff, Nat.reduceAdd, Nat.reduceSub, Nat.reduceMul, Nat.reduceLT, Nat.reduceLeDiff, reduceCtorEq, Int.reduceToNat])))
  refine qca (S := Nat) (fun n => n ≤ l.length ∧ k + qc5 (l.drop k) = n + qc5 (l.drop n)) (fun n => (⟨[(0, .str l), (1, .int .i64 n)], []⟩, [])) (fun n => l.length - n) ?_ fun n hn => ?_
  · refine qbt k [] ⟨hk, rfl⟩ rfl (by simp) ?_ ?_ ?_ <;> (try simp only [go_sem, ↓reduceIte, Nat.reduceEqDiff, Nat.reduceAdd, Nat.reduceSub, Nat.reduceMul, Nat.reduceLT, Nat.reduceLeDiff, reduceCtorEq, Int.reduceToNat]) <;> (try simp (disch := omega) only [qw])
  · obtain ⟨hn, ha⟩ := hn
    have nxt : n < l.length → ¬ qd1 (l.getD n 0).toNat = true → ¬ pfx [45, 45] (l.drop n) = true → VO.val (AV.int IntKind.i64 ↑n) = VO.val (AV.int IntKind.i64 ↑(k + qc5 (List.drop k l))) := by
      intro h1 h2 h3
      rw [ha, qo0 (by simpa using h3)]
      · rfl
      · rw [qer h1, if_neg h2]
    have hp : pfx [45, 45] (l.drop n) = true → n + 1 < l.length ∧ (l.getD n 0).toNat = 45 ∧ (l.getD (n + 1) 0).toNat = 45 := by
      intro h
      have h1 : n < l.length := by
        apply Decidable.byContradiction
        intro h2
        rw [List.drop_of_length_le (by omega)] at h
        simp [pfx] at h
      rw [qdz h1, pfx] at h
      have h2 : n + 1 < l.length := by
        apply Decidable.byContradiction
        intro h2
        rw [List.drop_of_length_le (i := n + 1) (by omega)] at h
        simp at h
      rw [qdz h2] at h
      generalize l.getD n 0 = x at h ⊢
      generalize l.getD (n + 1) 0 = y at h ⊢
      simp at h
      exact ⟨h2, by rw [h.1]; rfl, by rw [h.2]; rfl⟩
    have nxp : n < l.length → ¬ qd1 (l.getD n 0).toNat = true → ¬ (n + 1 < l.length ∧ (l.getD n 0).toNat = 45 ∧ (l.getD (n + 1) 0).toNat = 45) → VO.val (AV.int IntKind.i64 ↑n) = VO.val (AV.int IntKind.i64 ↑(k + qc5 (List.drop k l))) := fun h1 h2 h3 => nxt h1 h2 fun h4 => h3 (hp h4)
    repeat' (first | refine qs ?_ | refine qg ?_ | refine qi ?_ | ((first | refine qu ?_ | refine qq (by rfl) ?_ | refine ql ?_ | refine qj ?_ | refine qo ?_ | refine qt ?_ | refine qn ?_ | refine qm ?_ | refine qp ?_); simp (disch := first | omega | (simp only [List.length_set, List.length_append, List.length_cons, List.length_nil]; done) | (simp only [List.length_set, List.length_append, List.length_cons, List.length_nil]; omega)) only [qe6, go_sem, ↓reduceIte, Nat.reduceEqDiff, Nat.reduceAdd, Nat.reduceSub, Nat.reduceMul, Nat.reduceLT, Nat.reduceLeDiff, reduceCtorEq, Int.reduceToNat]) | ((first | simp (disch := omega) only [qe6] | simp (disch := omega) only [qw] | simp (disch := omega) only [qz3] | simp (disch := omega) only [Int.toNat_natCast]); (try simp only [go_sem, ↓reduceIte, Nat.reduceEqDiff, Nat.reduceAdd, Nat.reduceSub, Nat.reduceMul, Nat.reduceLT, Nat.reduceLeDiff, reduceCtorEq, Int.reduceToNat])) | ((first | refine qh ?_ ?_ | refine qe ?_ ?_) <;> intro hc <;> simp only [hc, go_sem, ↓reduceIte, Nat.reduceEqDiff, Nat.reduceAdd, Nat.reduceSub, Nat.reduceMul, Nat.reduceLT, Nat.reduceLeDiff, reduceCtorEq, Int.reduceToNat] <;> (try simp only [qb, qa, decide_eq_true_eq, decide_eq_false_iff_not, Bool.and_eq_true] at hc)) | refine And.intro (by first | assumption | omega | (have := qk (by assumption); omega) | (unfold qy; omega)) ?_ | ((first | simp (disch := omega) only [qd] | simp (disch := omega) only [qw]); (try simp only [go_sem, ↓reduceIte, Nat.reduceEqDiff, Nat.reduceAdd, Nat.reduceSub, Nat.reduceMul, Nat.reduceLT, Nat.reduceLeDiff, reduceCtorEq, Int.reduceToNat])))
    · refine qbt (n + 1) [] ⟨⟨by omega, ?_⟩, by omega⟩ rfl (by simp) ?_ ?_ ?_ <;> (try simp only [go_sem, ↓reduceIte, Nat.reduceEqDiff, Nat.reduceAdd, Nat.reduceSub, Nat.reduceMul, Nat.reduceLT, Nat.reduceLeDiff, reduceCtorEq, Int.reduceToNat]) <;> (try simp (disch := omega) only [qw])
      rw [ha, qdz (i := n) (by omega), qhr (blank_iff.2 (by omega))]; omega
    · refine qbt (n + 1) [] ⟨⟨by omega, ?_⟩, by omega⟩ rfl (by simp) ?_ ?_ ?_ <;> (try simp only [go_sem, ↓reduceIte, Nat.reduceEqDiff, Nat.reduceAdd, Nat.reduceSub, Nat.reduceMul, Nat.reduceLT, Nat.reduceLeDiff, reduceCtorEq, Int.reduceToNat]) <;> (try simp (disch := omega) only [qw])
      rw [ha, qdz (i := n) (by omega), qhr (blank_iff.2 (by omega))]; omega
    · refine qbt (n + 1) [] ⟨⟨by omega, ?_⟩, by omega⟩ rfl (by simp) ?_ ?_ ?_ <;> (try simp only [go_sem, ↓reduceIte, Nat.reduceEqDiff, Nat.reduceAdd, Nat.reduceSub, Nat.reduceMul, Nat.reduceLT, Nat.reduceLeDiff, reduceCtorEq, Int.reduceToNat]) <;> (try simp (disch := omega) only [qw])
      rw [ha, qdz (i := n) (by omega), qhr (blank_iff.2 (by omega))]; omega
    · refine qbt (n + 1) [] ⟨⟨by omega, ?_⟩, by omega⟩ rfl (by simp) ?_ ?_ ?_ <;> (try simp only [go_sem, ↓reduceIte, Nat.reduceEqDiff, Nat.reduceAdd, Nat.reduceSub, Nat.reduceMul, Nat.reduceLT, Nat.reduceLeDiff, reduceCtorEq, Int.reduceToNat]) <;> (try simp (disch := omega) only [qw])
      rw [ha, qdz (i := n) (by omega), qhr (blank_iff.2 (by omega))]; omega
    · rename_i q1 q2 q3 q4 q5 q6 q7
      have hpp : pfx [45, 45] (l.drop n) = true := by
        have e1 : l.getD n 0 = 45 := UInt8.toNat_inj.1 (by rw [show (45 : UInt8).toNat = 45 from rfl]; omega)
        have e2 : l.getD (n + 1) 0 = 45 := UInt8.toNat_inj.1 (by rw [show (45 : UInt8).toNat = 45 from rfl]; omega)
        rw [qdz (i := n) (by omega), qdz (i := n + 1) (by omega), e1, e2]
        simp [pfx]
      have hsl := qxi hpp
      rw [List.drop_drop] at hsl
      have hpos : qcg qh3 (l.drop n) ≠ 0 := by
        rw [qer (by omega), show qh3 (l.getD n 0).toNat = true from line_iff.2 (by omega)]; simp
      refine qca (S := Nat) (fun m => n ≤ m ∧ m ≤ l.length ∧ n + qcg qh3 (l.drop n) = m + qcg qh3 (l.drop m)) (fun n => (⟨[(0, .str l), (1, .int .i64 n)], []⟩, [])) (fun n => l.length - n) ?_ fun m hm => ?_
      · refine qbt n [] ⟨Nat.le_refl _, by omega, rfl⟩ rfl (by simp) ?_ ?_ ?_ <;> (try simp only [go_sem, ↓reduceIte, Nat.reduceEqDiff, Nat.reduceAdd, Nat.reduceSub, Nat.reduceMul, Nat.reduceLT, Nat.reduceLeDiff, reduceCtorEq, Int.reduceToNat]) <;> (try simp (disch := omega) only [qw])
      · obtain ⟨hm1, hm2, hm3⟩ := hm
        have hend : n + qcg qh3 (l.drop n) = m → (m ≤ l.length ∧ k + qc5 (List.drop k l) = m + qc5 (List.drop m l)) ∧ l.length - m < l.length - n := by
          intro h
          refine ⟨⟨by omega, ?_⟩, by omega⟩
          rw [ha, hsl, h]; omega
        repeat' (first | refine qs ?_ | refine qg ?_ | refine qi ?_ | ((first | refine qu ?_ | refine qq (by rfl) ?_ | refine ql ?_ | refine qj ?_ | refine qo ?_ | refine qt ?_ | refine qn ?_ | refine qm ?_ | refine qp ?_); simp (disch := first | omega | (simp only [List.length_set, List.length_append, List.length_cons, List.length_nil]; done) | (simp only [List.length_set, List.length_append, List.length_cons, List.length_nil]; omega)) only [qe6, go_sem, ↓reduceIte, Nat.reduceEqDiff, Nat.reduceAdd, Nat.reduceSub, Nat.reduceMul, Nat.reduceLT, Nat.reduceLeDiff, reduceCtorEq, Int.reduceToNat]) | ((first | simp (disch := omega) only [qe6] | simp (disch := omega) only [qw] | simp (disch := omega) only [qz3] | simp (disch := omega) only [Int.toNat_natCast]); (try simp only [go_sem, ↓reduceIte, Nat.reduceEqDiff, Nat.reduceAdd, Nat.reduceSub, Nat.reduceMul, Nat.reduceLT, Nat.reduceLeDiff, reduceCtorEq, Int.reduceToNat])) | ((first | refine qh ?_ ?_ | refine qe ?_ ?_) <;> intro hc <;> simp only [hc, go_sem, ↓reduceIte, Nat.reduceEqDiff, Nat.reduceAdd, Nat.reduceSub, Nat.reduceMul, Nat.reduceLT, Nat.reduceLeDiff, reduceCtorEq, Int.reduceToNat] <;> (try simp only [qb, qa, decide_eq_true_eq, decide_eq_false_iff_not, Bool.and_eq_true] at hc)) | refine And.intro (by first | assumption | omega | (have := qk (by assumption); omega) | (unfold qy; omega)) ?_ | ((first | simp (disch := omega) only [qd] | simp (disch := omega) only [qw]); (try simp only [go_sem, ↓reduceIte, Nat.reduceEqDiff, Nat.reduceAdd, Nat.reduceSub, Nat.reduceMul, Nat.reduceLT, Nat.reduceLeDiff, reduceCtorEq, Int.reduceToNat])))
        · refine qbt (m + 1) [] ⟨⟨by omega, by omega, ?_⟩, by omega⟩ rfl (by simp) ?_ ?_ ?_ <;> (try simp only [go_sem, ↓reduceIte, Nat.reduceEqDiff, Nat.reduceAdd, Nat.reduceSub, Nat.reduceMul, Nat.reduceLT, Nat.reduceLeDiff, reduceCtorEq, Int.reduceToNat]) <;> (try simp (disch := omega) only [qw])
          rw [hm3, qer (i := m) (by omega), if_pos (line_iff.2 (by omega))]; omega
        · refine qbt m [] (hend ?_) rfl (by simp) ?_ ?_ ?_ <;> (try simp only [go_sem, ↓reduceIte, Nat.reduceEqDiff, Nat.reduceAdd, Nat.reduceSub, Nat.reduceMul, Nat.reduceLT, Nat.reduceLeDiff, reduceCtorEq, Int.reduceToNat]) <;> (try simp (disch := omega) only [qw])
          rw [hm3, qer (i := m) (by omega), if_neg (mt line_iff.1 (by omega))]; rfl
        · refine qbt m [] (hend ?_) rfl (by simp) ?_ ?_ ?_ <;> (try simp only [go_sem, ↓reduceIte, Nat.reduceEqDiff, Nat.reduceAdd, Nat.reduceSub, Nat.reduceMul, Nat.reduceLT, Nat.reduceLeDiff, reduceCtorEq, Int.reduceToNat]) <;> (try simp (disch := omega) only [qw])
          rw [hm3, List.drop_of_length_le (by omega)]; rfl
    · exact nxp (by omega) (mt blank_iff.1 (by omega)) (by omega)
    · exact nxp (by omega) (mt blank_iff.1 (by omega)) (by omega)
    · exact nxp (by omega) (mt blank_iff.1 (by omega)) (by omega)
    · rw [ha, List.drop_of_length_le (by omega)]
      have : qc5 [] = 0 := qo0 rfl rfl
      rw [this]; rfl

def qbsc (l : List UInt8) : Int := if l = [95] then 5 else if resW l then 4 else if conW l then 2 else 1
def q2n (l : List UInt8) : T := ⟨qbsc l, 0, 0, l⟩
theorem qok (l : List UInt8) : qbs Tryz.prog 129 [.str l] (encT (q2n l)) := by
  refine qbe c0da (by simp) (by simp only [go_sem]) rfl fun hw => ?_
  have hl : l.length ≤ maxLen := hw.1
  repeat' (first | refine qs ?_ | refine qg ?_ | refine qi ?_ | ((first | refine qu ?_ | refine qq (by rfl) ?_ | refine ql ?_ | refine qj ?_ | refine qo ?_ | refine qt ?_ | refine qn ?_ | refine qm ?_ | refine qp ?_ | refine qc (qje _) fun _ => ?_ | refine qc (qr7 _) fun _ => ?_ | refine qf  (qje _) ?_ | refine qf  (qr7 _) ?_); simp only [go_sem, ↓reduceIte, Nat.reduceEqDiff, Nat.reduceAdd, Nat.reduceSub, Nat.reduceMul, Nat.reduceLT, Nat.reduceLeDiff, reduceCtorEq, Int.reduceToNat]) | ((first | refine qh ?_ ?_ | refine qe ?_ ?_) <;> intro hc <;> simp only [hc, go_sem, ↓reduceIte, Nat.reduceEqDiff, Nat.reduceAdd, Nat.reduceSub, Nat.reduceMul, Nat.reduceLT, Nat.reduceLeDiff, reduceCtorEq, Int.reduceToNat] <;> (try simp only [qb, qa, decide_eq_true_eq, decide_eq_false_iff_not, Bool.and_eq_true] at hc)) | refine And.intro (by first | assumption | omega | (have := qk (by assumption); omega) | (unfold qy; omega)) ?_ | ((first | simp (disch := omega) only [qd] | simp (disch := omega) only [qw]); (try simp only [go_sem, ↓reduceIte, Nat.reduceEqDiff, Nat.reduceAdd, Nat.reduceSub, Nat.reduceMul, Nat.reduceLT, Nat.reduceLeDiff, reduceCtorEq, Int.reduceToNat])))
  all_goals simp_all [encT, q2n, qbsc]

def marksW : List (List UInt8) := [[45, 62], [61, 62], [58, 58], [40], [41], [123], [125], [59], [44], [61], [124], [92]]
def quq (l : List UInt8) : List (List UInt8) → Nat
  | [] => 0
  | m :: r => if pfx m l then m.length else quq l r
def q0y (l : List UInt8) : Nat := quq l marksW
theorem q2a : (marksW.map AV.str).length = 12 := rfl
theorem qy5 {i : Nat} (h : i < 12) : (marksW.map AV.str).getD i .junk = .str (marksW.getD i []) := by
  have h' : i < marksW.length := h
  rw [List.getD_eq_getElem?_getD, List.getElem?_map, List.getD_eq_getElem?_getD, List.getElem?_eq_getElem h']; rfl
theorem qpi {i : Nat} (h : i < 12) : marksW.drop i = marksW.getD i [] :: marksW.drop (i + 1) := by
  have h' : i < marksW.length := h
  rw [List.drop_eq_getElem_cons h', List.getD_eq_getElem?_getD, List.getElem?_eq_getElem h']; rfl
theorem qpa (l : List UInt8) : qbs Tryz.prog 130 [.str l] (.int .i64 (q0y l)) := by
  refine qbe c0db (by simp) (by simp only [go_sem]) rfl fun hw => ?_
  repeat' (first | refine qs ?_ | refine qg ?_ | refine qi ?_ | ((first | refine qu ?_ | refine qq (by rfl) ?_ | refine ql ?_ | refine qj ?_ | refine qo ?_ | refine qt ?_ | refine qn ?_ | refine qm ?_ | refine qp ?_); simp only [go_sem, ↓reduceIte, Nat.reduceEqDiff, Nat.reduceAdd, Nat.reduceSub, Nat.reduceMul, Nat.reduceLT, Nat.reduceLeDiff, reduceCtorEq, Int.reduceToNat]) | ((first | refine qh ?_ ?_ | refine qe ?_ ?_) <;> intro hc <;> simp only [hc, go_sem, ↓reduceIte, Nat.reduceEqDiff, Nat.reduceAdd, Nat.reduceSub, Nat.reduceMul, Nat.reduceLT, Nat.reduceLeDiff, reduceCtorEq, Int.reduceToNat] <;> (try simp only [qb, qa, decide_eq_true_eq, decide_eq_false_iff_not, Bool.and_eq_true] at hc)) | refine And.intro (by first | assumption | omega | (have := qk (by assumption); omega) | (unfold qy; omega)) ?_ | ((first | simp (disch := omega) only [qd] | simp (disch := omega) only [qw]); (try simp only [go_sem, ↓reduceIte, Nat.reduceEqDiff, Nat.reduceAdd, Nat.reduceSub, Nat.reduceMul, Nat.reduceLT, Nat.reduceLeDiff, reduceCtorEq, Int.reduceToNat])))
  refine qca (S := Nat) (fun i => i ≤ 12 ∧ quq l (marksW.drop i) = q0y l) (fun i => (⟨[(0, .str l), (5, .agg (marksW.map AV.str)), (6, .int .i64 i)], []⟩, [])) (fun i => 12 - i) ?_ fun i hi => ?_
  · refine qbt 0 [] ⟨Nat.zero_le _, rfl⟩ rfl (by simp) ?_ ?_ ?_ <;> (try simp only [go_sem, ↓reduceIte, Nat.reduceEqDiff, Nat.reduceAdd, Nat.reduceSub, Nat.reduceMul, Nat.reduceLT, Nat.reduceLeDiff, reduceCtorEq, Int.reduceToNat]) <;> (try simp (disch := omega) only [qw])
    exact ⟨rfl, rfl⟩
  · obtain ⟨hi, ha⟩ := hi
    repeat' (first | refine qs ?_ | refine qg ?_ | refine qi ?_ | ((first | refine qu ?_ | refine qq (by rfl) ?_ | refine ql ?_ | refine qj ?_ | refine qo ?_ | refine qt ?_ | refine qn ?_ | refine qm ?_ | refine qp ?_ | refine qc (qdc _ _) fun _ => ?_ | refine qf  (qdc _ _) ?_); simp only [go_sem, ↓reduceIte, Nat.reduceEqDiff, Nat.reduceAdd, Nat.reduceSub, Nat.reduceMul, Nat.reduceLT, Nat.reduceLeDiff, reduceCtorEq, Int.reduceToNat]) | ((first | refine qh ?_ ?_ | refine qe ?_ ?_) <;> intro hc <;> simp only [hc, go_sem, ↓reduceIte, Nat.reduceEqDiff, Nat.reduceAdd, Nat.reduceSub, Nat.reduceMul, Nat.reduceLT, Nat.reduceLeDiff, reduceCtorEq, Int.reduceToNat] <;> (try simp only [qb, qa, decide_eq_true_eq, decide_eq_false_iff_not, Bool.and_eq_true] at hc)) | refine And.intro (by first | assumption | omega | (have := qk (by assumption); omega) | (unfold qy; omega)) ?_ | ((first | simp (disch := omega) only [qd] | simp (disch := omega) only [qw]); (try simp only [go_sem, ↓reduceIte, Nat.reduceEqDiff, Nat.reduceAdd, Nat.reduceSub, Nat.reduceMul, Nat.reduceLT, Nat.reduceLeDiff, reduceCtorEq, Int.reduceToNat])))
    · simp (disch := omega) only [q2a, qy5, Nat.mul_one]
      refine ⟨by omega, ?_⟩
      repeat' (first | refine qs ?_ | refine qg ?_ | refine qi ?_ | ((first | refine qu ?_ | refine qq (by rfl) ?_ | refine ql ?_ | refine qj ?_ | refine qo ?_ | refine qt ?_ | refine qn ?_ | refine qm ?_ | refine qp ?_ | refine qc (qdc _ _) fun _ => ?_ | refine qf  (qdc _ _) ?_); simp only [go_sem, ↓reduceIte, Nat.reduceEqDiff, Nat.reduceAdd, Nat.reduceSub, Nat.reduceMul, Nat.reduceLT, Nat.reduceLeDiff, reduceCtorEq, Int.reduceToNat]) | ((first | refine qh ?_ ?_ | refine qe ?_ ?_) <;> intro hc <;> simp only [hc, go_sem, ↓reduceIte, Nat.reduceEqDiff, Nat.reduceAdd, Nat.reduceSub, Nat.reduceMul, Nat.reduceLT, Nat.reduceLeDiff, reduceCtorEq, Int.reduceToNat] <;> (try simp only [qb, qa, decide_eq_true_eq, decide_eq_false_iff_not, Bool.and_eq_true] at hc)) | refine And.intro (by first | assumption | omega | (have := qk (by assumption); omega) | (unfold qy; omega)) ?_ | ((first | simp (disch := omega) only [qd] | simp (disch := omega) only [qw]); (try simp only [go_sem, ↓reduceIte, Nat.reduceEqDiff, Nat.reduceAdd, Nat.reduceSub, Nat.reduceMul, Nat.reduceLT, Nat.reduceLeDiff, reduceCtorEq, Int.reduceToNat])))
      · rw [← ha, qpi (i := i) (by omega), quq, if_pos hc]
      · refine qbt (i + 1) [] ⟨⟨by omega, ?_⟩, by omega⟩ rfl (by simp) ?_ ?_ ?_ <;> (try simp only [go_sem, ↓reduceIte, Nat.reduceEqDiff, Nat.reduceAdd, Nat.reduceSub, Nat.reduceMul, Nat.reduceLT, Nat.reduceLeDiff, reduceCtorEq, Int.reduceToNat]) <;> (try simp (disch := omega) only [qw])
        · rw [← ha, qpi (i := i) (by omega), quq, hc]; rfl
        · have : i < maxLen := by unfold maxLen; omega
          rw [qw this]
          exact ⟨⟨rfl, rfl⟩, rfl⟩
    · rw [← ha, show i = 12 by omega]; rfl
/-- The word that a text begins with, and the error. -/
def qd9 (l : List UInt8) : T × Int :=
  if qe2 (l.getD 0 0).toNat then (⟨3, 0, (qn9 (l.take (qcg qe2 l))).1, l.take (qcg qe2 l)⟩, (qn9 (l.take (qcg qe2 l))).2)
  else if onW (l.getD 0 0).toNat && !decide (((l.getD 0 0).toNat : Int) = 39) then (q2n (l.take (qcg onW l)), 0)
  else if q0y l = 0 then (T0, 3)
  else (⟨5, 0, 0, l.take (q0y l)⟩, 0)
def qbpc (p : T × Int) : AV := .tup [encT p.1, .int .i64 p.2]
theorem qvj (l : List UInt8) : ∀ ms, quq l ms ≤ l.length
  | [] => Nat.zero_le _
  | m :: r => by
    rw [quq]
    split
    · rename_i h
      have := congrArg List.length (of_decide_eq_true h)
      rw [List.length_take] at this
      omega
    · exact qvj l r
theorem qwu (l : List UInt8) : q0y l ≤ l.length := qvj l _
attribute [go_sem] qbhp
theorem qox (l : List UInt8) (hne : l ≠ []) : qbs Tryz.prog 98 [.str l] (qbpc (qd9 l)) := by
  refine qbe c0dc (by simp) (by simp only [go_sem]) rfl fun hw => ?_
  have hl : l.length ≤ maxLen := hw.1
  have h1 := qhg qe2 l
  have h2 := qhg onW l
  have h3 := qwu l
  have h4 := List.length_pos_iff.2 hne
  repeat' (first | refine qs ?_ | refine qg ?_ | refine qi ?_ | ((first | refine qu ?_ | refine qq (by rfl) ?_ | refine ql ?_ | refine qj ?_ | refine qo ?_ | refine qt ?_ | refine qn ?_ | refine qm ?_ | refine qp ?_ | refine qc (qfq _) fun _ => ?_ | refine qc (qeh qfq _) fun _ => ?_ | refine qc (qru _) fun _ => ?_ | refine qc (qmb _) fun _ => ?_ | refine qc (qeh qmb _) fun _ => ?_ | refine qc (qok _) fun _ => ?_ | refine qc (qpa _) fun _ => ?_ | refine qf  (qfq _) ?_ | refine qf  (qeh qfq _) ?_ | refine qf  (qru _) ?_ | refine qf  (qmb _) ?_ | refine qf  (qeh qmb _) ?_ | refine qf  (qok _) ?_ | refine qf  (qpa _) ?_); simp only [go_sem, ↓reduceIte, Nat.reduceEqDiff, Nat.reduceAdd, Nat.reduceSub, Nat.reduceMul, Nat.reduceLT, Nat.reduceLeDiff, reduceCtorEq, Int.reduceToNat]) | ((first | refine qh ?_ ?_ | refine qe ?_ ?_) <;> intro hc <;> simp only [hc, go_sem, ↓reduceIte, Nat.reduceEqDiff, Nat.reduceAdd, Nat.reduceSub, Nat.reduceMul, Nat.reduceLT, Nat.reduceLeDiff, reduceCtorEq, Int.reduceToNat] <;> (try simp only [qb, qa, decide_eq_true_eq, decide_eq_false_iff_not, Bool.and_eq_true] at hc)) | refine And.intro (by first | assumption | omega | (have := qk (by assumption); omega) | (unfold qy; omega)) ?_ | ((first | simp (disch := omega) only [qd] | simp (disch := omega) only [qw]); (try simp only [go_sem, ↓reduceIte, Nat.reduceEqDiff, Nat.reduceAdd, Nat.reduceSub, Nat.reduceMul, Nat.reduceLT, Nat.reduceLeDiff, reduceCtorEq, Int.reduceToNat])))
  all_goals (unfold qd9 qbpc; simp_all only [↓reduceIte, Bool.false_eq_true, decide_true, decide_false, Bool.not_true, Bool.not_false, Bool.and_true, Bool.and_false, Bool.true_and, Bool.false_and, Int.natCast_eq_zero]; try rfl)
  all_goals trace_state
end Go.Proofs.YtmekebfgmjaenaaGreat
