/- A text of this proof. -/
import Derived.Test.YtfjbmjplnmaclaaWbf
import Derived.Test.YtfjbmjplnmaclaaWbg

/- declarations: where a program fails lies within its text -/
set_option maxRecDepth 4000
namespace Go.Proofs.Ytfjbmjplnmaclaa
open Go Go.RowKit Go.V
set_option linter.unusedVariables false
set_option linter.unusedSimpArgs false

theorem qp1 : ∀ (l : List UInt8) (k : Int), (qht k l).2 = 0 ∨ (qht k l).2 = 4
  | [], k => .inl rfl
  | c :: r, k => by
    rw [qht]
    split
    · exact .inr rfl
    · exact qp1 r _
theorem qzh (l : List UInt8) : (qc3 l).2 = 0 ∨ (qc3 l).2 = 3 ∨ (qc3 l).2 = 4 ∨ (qc3 l).2 = 5 := by
  unfold qc3 qns
  have := qp1 (l.take (qc2 qd0 l)) 0
  repeat' split
  all_goals first | (simp; done) | (simp only; omega) | (rcases this with h | h <;> simp [h]; done) | omega
theorem qng {s : List UInt8} : ∀ (f k : Nat), k ≤ s.length → (∀ t ∈ (lexF f s k).1, 0 ≤ t.pos ∧ t.pos ≤ s.length) ∧ 0 ≤ (lexF f s k).2.1 ∧ (lexF f s k).2.1 ≤ s.length ∧ ((lexF f s k).2.2 = 0 ∨ (lexF f s k).2.2 = 3 ∨ (lexF f s k).2.2 = 4 ∨ (lexF f s k).2.2 = 5) ∧ ((lexF f s k).2.2 ≠ 0 → (lexF f s k).1 = [])
  | 0, k, h => by simp [lexF]
  | f + 1, k, h => by
    rw [lexF]
    by_cases h1 : k < s.length
    · rw [if_pos h1]
      by_cases h2 : (qc3 (s.drop k)).2 = 0
      · rw [if_pos h2]
        obtain ⟨a1, a2, a3, a4, a5⟩ := qng f (lexK s k) (qqx h)
        unfold appR
        split
        · rename_i h3
          refine ⟨fun t ht => ?_, a2, a3, .inl h3, fun q => absurd h3 q⟩
          simp only [List.mem_append, List.mem_singleton] at ht
          rcases ht with rfl | ht
          · simp only [lexT]; omega
          · exact a1 t ht
        · exact ⟨a1, a2, a3, a4, a5⟩
      · rw [if_neg h2]
        refine ⟨fun t ht => by simp at ht, by simp only; omega, by simp only; omega, qzh _, fun _ => rfl⟩
    · rw [if_neg h1]
      simp
theorem qs1 : ∀ {l : List T} {t : T}, t ∈ qfs l → t ∈ l
  | [], _, h => by simp [qfs] at h
  | u :: r, t, h => by
    rw [qfs] at h
    split at h
    · simp at h
    · rcases List.mem_cons.1 h with rfl | h
      · simp
      · exact List.mem_cons_of_mem _ (qs1 h)
theorem qsc : ∀ {l : List T} {B : Int}, (∀ t ∈ l, 0 ≤ t.pos ∧ t.pos ≤ B) → 0 ≤ B → 0 ≤ endT l ∧ endT l ≤ B
  | [], B, _, h0 => by simp [endT]; exact h0
  | u :: r, B, h, h0 => by
    rw [endT]
    split
    · exact h u (by simp)
    · exact qsc (fun t ht => h t (by simp [ht])) h0
theorem qbni {s : List UInt8} (hs : s.length ≤ 1048576) (h : (lexV s).2.2 = 0) : Wi s.length (newK (lexV s).1) := by
  have hp : ∀ t ∈ (lexV s).1, 0 ≤ t.pos ∧ t.pos ≤ (s.length : Int) := by
    rw [qme hs] at h ⊢
    have hq := qng (s := s) (s.length - qb9 s) (qb9 s) (qjr s)
    split at h
    · rename_i h1
      rw [if_pos h1]
      intro t ht
      simp only [List.mem_append, List.mem_singleton] at ht
      rcases ht with ht | rfl
      · exact hq.1 t ht
      · simp only; omega
    · rename_i h1
      exact absurd h h1
  have he := qsc hp (by omega)
  exact ⟨fun t ht => hp t (qs1 ht), he.1, he.2, fun q => absurd rfl q⟩
/-- THE LAW: where a program fails. -/
theorem qti {s : List UInt8} (hs : s.length ≤ 3000) : 0 ≤ (qha s).2.1 ∧ (qha s).2.1 ≤ s.length ∧ ((qha s).2.2 = 0 ∨ (qha s).1 = N0) ∧ ((qha s).2.2 = 0 ∨ (qha s).2.2 = 2 ∨ (qha s).2.2 = 3 ∨ (qha s).2.2 = 4 ∨ (qha s).2.2 = 5) := by
  unfold qha qvz
  by_cases h : (lexV s).2.2 = 0
  · rw [if_pos h]
    have hw := (qlo (newK (lexV s).1)).2.2.2.2 _ (qbni (by omega) h)
    have hn : (qm5 (newK (lexV s).1)).2.getD N0 = quj (rowS qe8 qjh false (newK (lexV s).1) []).2.2.1 := rfl
    rw [hn]
    generalize rowS qe8 qjh false (newK (lexV s).1) [] = r at *
    generalize (qm5 (newK (lexV s).1)).1 = c at *
    have hd : 0 ≤ (qek c).1 ∧ (qek c).1 ≤ s.length ∧ ((qek c).2 = 0 ∨ (qek c).2 = 2 ∨ (qek c).2 = 5) := by
      unfold qek
      split
      · split
        · rename_i h0 hl
          have := hw.1 (c.l.getD c.at' T0) (by rw [List.getD_eq_getElem?_getD, List.getElem?_eq_getElem hl]; exact List.getElem_mem hl)
          exact ⟨this.1, this.2, .inr (.inr rfl)⟩
        · exact ⟨hw.2.1, hw.2.2.1, .inl rfl⟩
      · rename_i h0
        obtain ⟨a, b, e⟩ := hw.2.2.2 h0
        exact ⟨a, b, .inr e⟩
    unfold qzl
    split
    · split
      · refine ⟨Int.le_refl 0, ?_, .inr rfl, .inr (.inl rfl)⟩
        show (0 : Int) ≤ s.length
        omega
      · refine ⟨Int.le_refl 0, ?_, .inl rfl, .inl rfl⟩
        show (0 : Int) ≤ s.length
        omega
    · refine ⟨hd.1, hd.2.1, .inr rfl, ?_⟩
      show (qek c).2 = 0 ∨ (qek c).2 = 2 ∨ (qek c).2 = 3 ∨ (qek c).2 = 4 ∨ (qek c).2 = 5
      omega
  · rw [if_neg h]
    have hq := qng (s := s) (s.length - qb9 s) (qb9 s) (qjr s)
    have hl := qme (s := s) (by omega)
    have hne : ¬ (lexG s (qb9 s)).2.2 = 0 := by
      intro e
      rw [hl, if_pos e] at h; exact h rfl
    rw [if_neg hne] at hl
    rw [hl]
    have hq2 : 0 ≤ (lexG s (qb9 s)).2.1 ∧ (lexG s (qb9 s)).2.1 ≤ s.length ∧ ((lexG s (qb9 s)).2.2 = 0 ∨ (lexG s (qb9 s)).2.2 = 3 ∨ (lexG s (qb9 s)).2.2 = 4 ∨ (lexG s (qb9 s)).2.2 = 5) := ⟨hq.2.1, hq.2.2.1, hq.2.2.2.1⟩
    have hq3 := hq2.2.2
    refine ⟨hq2.1, hq2.2.1, .inr rfl, ?_⟩
    show (lexG s (qb9 s)).2.2 = 0 ∨ (lexG s (qb9 s)).2.2 = 2 ∨ (lexG s (qb9 s)).2.2 = 3 ∨ (lexG s (qb9 s)).2.2 = 4 ∨ (lexG s (qb9 s)).2.2 = 5
    omega
theorem qpt (s : List UInt8) : qc4 Try.prog 3 [.str s] (.bool true) := by
  refine qb3 c0a (by simp) (by simp only [go_sem]) (by simp only [go_sem]) fun hw => ?_
  have hsl : s.length ≤ maxLen := by simpa [go_sem] using hw.1
  by_cases hs : s.length ≤ 3000
  · have e1 := qds s (by omega)
    obtain ⟨h1, h2, h3, h4⟩ := qti hs
    generalize qha s = r at *
    obtain ⟨n, p, e⟩ := r
    simp only at h1 h2 h3 h4
    by_cases he : e = 0
    · subst he
      repeat' (first | refine qi ?_ | ((first | refine qm ?_ | refine qj ?_ | refine qh ?_ | refine qg ?_ | refine qv qd2 fun _ => ?_ | refine qv e1 fun _ => ?_ | refine qy  qd2 ?_ | refine qy  e1 ?_ | ((first | refine qe ?_ ?_ | refine qc ?_ ?_) <;> intro hc <;> (try simp only [hc]) <;> (try simp only [qb, qa, decide_eq_true_eq, decide_eq_false_iff_not, Bool.and_eq_true] at hc)) | refine And.intro (by first | assumption | omega | (have := qf (by assumption); omega) | (unfold qo; omega)) ?_ | simp (disch := omega) only [qd] | simp (disch := omega) only [qn]) <;> (try simp only [go_sem, ↓reduceIte, Nat.reduceEqDiff, Nat.reduceAdd, Nat.reduceSub, Nat.reduceMul, Nat.reduceLT, Nat.reduceLeDiff, reduceCtorEq, Int.reduceToNat])))
      all_goals first | (exfalso; omega) | (simp_all; done) | trace_state
    · obtain rfl : n = N0 := h3.resolve_left he
      repeat' (first | refine qi ?_ | ((first | refine qm ?_ | refine qj ?_ | refine qh ?_ | refine qg ?_ | refine qv qd2 fun _ => ?_ | refine qv e1 fun _ => ?_ | refine qy  qd2 ?_ | refine qy  e1 ?_ | ((first | refine qe ?_ ?_ | refine qc ?_ ?_) <;> intro hc <;> (try simp only [hc]) <;> (try simp only [qb, qa, decide_eq_true_eq, decide_eq_false_iff_not, Bool.and_eq_true] at hc)) | refine And.intro (by first | assumption | omega | (have := qf (by assumption); omega) | (unfold qo; omega)) ?_ | simp (disch := omega) only [qd] | simp (disch := omega) only [qn]) <;> (try simp only [go_sem, ↓reduceIte, Nat.reduceEqDiff, Nat.reduceAdd, Nat.reduceSub, Nat.reduceMul, Nat.reduceLT, Nat.reduceLeDiff, reduceCtorEq, Int.reduceToNat])))
      all_goals first | (exfalso; omega) | exact absurd rfl (by assumption) | (simp_all; done) | trace_state
  · repeat' (first | refine qi ?_ | ((first | refine qm ?_ | refine qj ?_ | refine qh ?_ | refine qg ?_ | refine qv qd2 fun _ => ?_ | refine qy  qd2 ?_ | ((first | refine qe ?_ ?_ | refine qc ?_ ?_) <;> intro hc <;> (try simp only [hc]) <;> (try simp only [qb, qa, decide_eq_true_eq, decide_eq_false_iff_not, Bool.and_eq_true] at hc)) | refine And.intro (by first | assumption | omega | (have := qf (by assumption); omega) | (unfold qo; omega)) ?_ | simp (disch := omega) only [qd] | simp (disch := omega) only [qn]) <;> (try simp only [go_sem, ↓reduceIte, Nat.reduceEqDiff, Nat.reduceAdd, Nat.reduceSub, Nat.reduceMul, Nat.reduceLT, Nat.reduceLeDiff, reduceCtorEq, Int.reduceToNat])))
    all_goals (exfalso; omega)
end Go.Proofs.Ytfjbmjplnmaclaa
