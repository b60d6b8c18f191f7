/- A text of this proof. -/
import Derived.Test.YtmekebfgmjaenaaPar
import Derived.Test.YtmekebfgmjaenaaPan

/- the lexer's words: one word -/
set_option maxRecDepth 4000
namespace Go.Proofs.Ytmekebfgmjaenaa
open Go Go.RowKit Go.V
set_option linter.unusedVariables false
set_option linter.unusedSimpArgs false

def qba9 (l : List UInt8) : Int := if l = [95] then 5 else if resW l then 4 else if conW l then 2 else 1
def qld (l : List UInt8) : T := ⟨qba9 l, 0, 0, l⟩
theorem qoz (l : List UInt8) : qdb Try.prog 39 [.str l] (encT (qld l)) := by
  refine qb5 c0br (by simp) (by simp only [go_sem]) rfl fun hw => ?_
  have hl : l.length ≤ maxLen := hw.1
  repeat' (first | refine ql ?_ | refine qk ?_ | ((first | refine qn ?_ | refine qm ?_ | refine qj ?_ | refine qi ?_ | refine qy (qi1 _) fun _ => ?_ | refine qy (qtf _) fun _ => ?_ | refine qba  (qi1 _) ?_ | refine qba  (qtf _) ?_ | ((first | refine qf ?_ ?_ | refine qc ?_ ?_) <;> intro hc <;> (try simp only [hc]) <;> (try simp only [qb, qa, decide_eq_true_eq, decide_eq_false_iff_not, Bool.and_eq_true] at hc)) | refine And.intro (by first | assumption | omega | (have := qh (by assumption); omega) | (unfold qt; omega)) ?_ | simp (disch := omega) only [qd] | simp (disch := omega) only [qq]) <;> (try simp only [go_sem, ↓reduceIte, Nat.reduceEqDiff, Nat.reduceAdd, Nat.reduceSub, Nat.reduceMul, Nat.reduceLT, Nat.reduceLeDiff, reduceCtorEq, Int.reduceToNat])))
  all_goals simp_all [encT, qld, qba9]

def marksW : List (List UInt8) := [[45, 62], [61, 62], [58, 58], [40], [41], [123], [125], [59], [44], [61], [124], [92]]
def ql1 (l : List UInt8) : List (List UInt8) → Nat
  | [] => 0
  | m :: r => if pfx m l then m.length else ql1 l r
def qkd (l : List UInt8) : Nat := ql1 l marksW
theorem q2w : (marksW.map AV.str).length = 12 := rfl
theorem qzf {i : Nat} (h : i < 12) : (marksW.map AV.str).getD i .junk = .str (marksW.getD i []) := by
  have h' : i < marksW.length := h
  rw [List.getD_eq_getElem?_getD, List.getElem?_map, List.getD_eq_getElem?_getD, List.getElem?_eq_getElem h']; rfl
theorem qo4 {i : Nat} (h : i < 12) : marksW.drop i = marksW.getD i [] :: marksW.drop (i + 1) := by
  have h' : i < marksW.length := h
  rw [List.drop_eq_getElem_cons h', List.getD_eq_getElem?_getD, List.getElem?_eq_getElem h']; rfl
theorem qo7 (l : List UInt8) : qdb Try.prog 40 [.str l] (.int .i64 (qkd l)) := by
  refine qb5 c0bs (by simp) (by simp only [go_sem]) rfl fun hw => ?_
  repeat' (first | refine ql ?_ | refine qk ?_ | ((first | refine qn ?_ | refine qm ?_ | refine qz ?_ | refine qj ?_ | refine qi ?_ | ((first | refine qf ?_ ?_ | refine qc ?_ ?_) <;> intro hc <;> (try simp only [hc]) <;> (try simp only [qb, qa, decide_eq_true_eq, decide_eq_false_iff_not, Bool.and_eq_true] at hc)) | refine And.intro (by first | assumption | omega | (have := qh (by assumption); omega) | (unfold qt; omega)) ?_ | simp (disch := omega) only [qd] | simp (disch := omega) only [qq]) <;> (try simp only [go_sem, ↓reduceIte, Nat.reduceEqDiff, Nat.reduceAdd, Nat.reduceSub, Nat.reduceMul, Nat.reduceLT, Nat.reduceLeDiff, reduceCtorEq, Int.reduceToNat])))
  refine qc5 (S := Nat) (fun i => i ≤ 12 ∧ ql1 l (marksW.drop i) = qkd l) (fun i => (⟨[(0, .str l), (5, .agg (marksW.map AV.str)), (6, .int .i64 i)], []⟩, [])) (fun i => 12 - i) ?_ fun i hi => ?_
  · refine qcq 0 [] ⟨Nat.zero_le _, rfl⟩ rfl (by simp) ?_ ?_ ?_ <;> (try simp only [go_sem, ↓reduceIte, Nat.reduceEqDiff, Nat.reduceAdd, Nat.reduceSub, Nat.reduceMul, Nat.reduceLT, Nat.reduceLeDiff, reduceCtorEq, Int.reduceToNat]) <;> (try simp (disch := omega) only [qq])
    exact ⟨rfl, rfl⟩
  · obtain ⟨hi, ha⟩ := hi
    repeat' (first | refine ql ?_ | refine qk ?_ | ((first | refine qn ?_ | refine qm ?_ | refine qz ?_ | refine qj ?_ | refine qi ?_ | refine qy (qct _ _) fun _ => ?_ | refine qba  (qct _ _) ?_ | ((first | refine qf ?_ ?_ | refine qc ?_ ?_) <;> intro hc <;> (try simp only [hc]) <;> (try simp only [qb, qa, decide_eq_true_eq, decide_eq_false_iff_not, Bool.and_eq_true] at hc)) | refine And.intro (by first | assumption | omega | (have := qh (by assumption); omega) | (unfold qt; omega)) ?_ | simp (disch := omega) only [qd] | simp (disch := omega) only [qq]) <;> (try simp only [go_sem, ↓reduceIte, Nat.reduceEqDiff, Nat.reduceAdd, Nat.reduceSub, Nat.reduceMul, Nat.reduceLT, Nat.reduceLeDiff, reduceCtorEq, Int.reduceToNat])))
    · simp (disch := omega) only [q2w, qzf, Nat.mul_one]
      refine ⟨by omega, ?_⟩
      repeat' (first | refine ql ?_ | refine qk ?_ | ((first | refine qn ?_ | refine qm ?_ | refine qz ?_ | refine qj ?_ | refine qi ?_ | refine qy (qct _ _) fun _ => ?_ | refine qba  (qct _ _) ?_ | ((first | refine qf ?_ ?_ | refine qc ?_ ?_) <;> intro hc <;> (try simp only [hc]) <;> (try simp only [qb, qa, decide_eq_true_eq, decide_eq_false_iff_not, Bool.and_eq_true] at hc)) | refine And.intro (by first | assumption | omega | (have := qh (by assumption); omega) | (unfold qt; omega)) ?_ | simp (disch := omega) only [qd] | simp (disch := omega) only [qq]) <;> (try simp only [go_sem, ↓reduceIte, Nat.reduceEqDiff, Nat.reduceAdd, Nat.reduceSub, Nat.reduceMul, Nat.reduceLT, Nat.reduceLeDiff, reduceCtorEq, Int.reduceToNat])))
      · rw [← ha, qo4 (i := i) (by omega), ql1, if_pos hc]
      · refine qcq (i + 1) [] ⟨⟨by omega, ?_⟩, by omega⟩ rfl (by simp) ?_ ?_ ?_ <;> (try simp only [go_sem, ↓reduceIte, Nat.reduceEqDiff, Nat.reduceAdd, Nat.reduceSub, Nat.reduceMul, Nat.reduceLT, Nat.reduceLeDiff, reduceCtorEq, Int.reduceToNat]) <;> (try simp (disch := omega) only [qq])
        · rw [← ha, qo4 (i := i) (by omega), ql1, hc]; rfl
        · have : i < maxLen := by unfold maxLen; omega
          rw [qq this]
          exact ⟨⟨rfl, rfl⟩, rfl⟩
    · rw [← ha, show i = 12 by omega]; rfl
/-- The word that a text begins with, and the error. -/
def qb9 (l : List UInt8) : T × Int :=
  if qcg (l.getD 0 0).toNat then (⟨3, 0, (qog (l.take (qbq qcg l))).1, l.take (qbq qcg l)⟩, (qog (l.take (qbq qcg l))).2)
  else if onW (l.getD 0 0).toNat && !decide (((l.getD 0 0).toNat : Int) = 39) then (qld (l.take (qbq onW l)), 0)
  else if qkd l = 0 then (T0, 3)
  else (⟨5, 0, 0, l.take (qkd l)⟩, 0)
def qbh2 (p : T × Int) : AV := .tup [encT p.1, .int .i64 p.2]
theorem qwe (l : List UInt8) : ∀ ms, ql1 l ms ≤ l.length
  | [] => Nat.zero_le _
  | m :: r => by
    rw [ql1]
    split
    · rename_i h
      have := congrArg List.length (of_decide_eq_true h)
      rw [List.length_take] at this
      omega
    · exact qwe l r
theorem qqx (l : List UInt8) : qkd l ≤ l.length := qwe l _
attribute [go_sem] qbmv
theorem qpa (l : List UInt8) (hne : l ≠ []) : qdb Try.prog 20 [.str l] (qbh2 (qb9 l)) := by
  refine qb5 c0bt (by simp) (by simp only [go_sem]) rfl fun hw => ?_
  have hl : l.length ≤ maxLen := hw.1
  have h1 := qew qcg l
  have h2 := qew onW l
  have h3 := qqx l
  have h4 := List.length_pos_iff.2 hne
  repeat' (first | refine ql ?_ | refine qk ?_ | ((first | refine qn ?_ | refine qm ?_ | refine qj ?_ | refine qi ?_ | refine qy (qen _) fun _ => ?_ | refine qy (qdn qen _) fun _ => ?_ | refine qy (qrv _) fun _ => ?_ | refine qy (qlo _) fun _ => ?_ | refine qy (qdn qlo _) fun _ => ?_ | refine qy (qoz _) fun _ => ?_ | refine qy (qo7 _) fun _ => ?_ | refine qba  (qen _) ?_ | refine qba  (qdn qen _) ?_ | refine qba  (qrv _) ?_ | refine qba  (qlo _) ?_ | refine qba  (qdn qlo _) ?_ | refine qba  (qoz _) ?_ | refine qba  (qo7 _) ?_ | ((first | refine qf ?_ ?_ | refine qc ?_ ?_) <;> intro hc <;> (try simp only [hc]) <;> (try simp only [qb, qa, decide_eq_true_eq, decide_eq_false_iff_not, Bool.and_eq_true] at hc)) | refine And.intro (by first | assumption | omega | (have := qh (by assumption); omega) | (unfold qt; omega)) ?_ | simp (disch := omega) only [qd] | simp (disch := omega) only [qq]) <;> (try simp only [go_sem, ↓reduceIte, Nat.reduceEqDiff, Nat.reduceAdd, Nat.reduceSub, Nat.reduceMul, Nat.reduceLT, Nat.reduceLeDiff, reduceCtorEq, Int.reduceToNat])))
  all_goals (unfold qb9 qbh2; simp_all only [↓reduceIte, Bool.false_eq_true, decide_true, decide_false, Bool.not_true, Bool.not_false, Bool.and_true, Bool.and_false, Bool.true_and, Bool.false_and, Int.natCast_eq_zero]; try rfl)
  all_goals trace_state
end Go.Proofs.Ytmekebfgmjaenaa
