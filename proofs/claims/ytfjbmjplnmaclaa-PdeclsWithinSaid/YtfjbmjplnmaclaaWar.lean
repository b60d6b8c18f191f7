/- A text of this proof. -/
import Derived.Test.YtfjbmjplnmaclaaWap
import Derived.Test.YtfjbmjplnmaclaaWaq

/- the lexer's words: one word -/
set_option maxRecDepth 4000
namespace Go.Proofs.Ytfjbmjplnmaclaa
open Go Go.RowKit Go.V
set_option linter.unusedVariables false
set_option linter.unusedSimpArgs false

def qblu (l : List UInt8) : Int := if l = [95] then 5 else if resW l then 4 else if conW l then 2 else 1
def qve (l : List UInt8) : T := ⟨qblu l, 0, 0, l⟩
theorem qmr (l : List UInt8) : qc4 Try.prog 74 [.str l] (encT (qve l)) := by
  refine qb3 c0cp (by simp) (by simp only [go_sem]) rfl fun hw => ?_
  have hl : l.length ≤ maxLen := hw.1
  repeat' (first | refine qi ?_ | refine qk ?_ | ((first | refine qm ?_ | refine qj ?_ | refine qh ?_ | refine qg ?_ | refine qv (qhe _) fun _ => ?_ | refine qv (qpa _) fun _ => ?_ | refine qy  (qhe _) ?_ | refine qy  (qpa _) ?_ | ((first | refine qe ?_ ?_ | refine qc ?_ ?_) <;> intro hc <;> (try simp only [hc]) <;> (try simp only [qb, qa, decide_eq_true_eq, decide_eq_false_iff_not, Bool.and_eq_true] at hc)) | refine And.intro (by first | assumption | omega | (have := qf (by assumption); omega) | (unfold qo; omega)) ?_ | simp (disch := omega) only [qd] | simp (disch := omega) only [qn]) <;> (try simp only [go_sem, ↓reduceIte, Nat.reduceEqDiff, Nat.reduceAdd, Nat.reduceSub, Nat.reduceMul, Nat.reduceLT, Nat.reduceLeDiff, reduceCtorEq, Int.reduceToNat])))
  all_goals simp_all [encT, qve, qblu]

def marksW : List (List UInt8) := [[45, 62], [61, 62], [58, 58], [40], [41], [123], [125], [59], [44], [61], [124], [92]]
def qq6 (l : List UInt8) : List (List UInt8) → Nat
  | [] => 0
  | m :: r => if pfx m l then m.length else qq6 l r
def qva (l : List UInt8) : Nat := qq6 l marksW
theorem qza : (marksW.map AV.str).length = 12 := rfl
theorem qx4 {i : Nat} (h : i < 12) : (marksW.map AV.str).getD i .junk = .str (marksW.getD i []) := by
  have h' : i < marksW.length := h
  rw [List.getD_eq_getElem?_getD, List.getElem?_map, List.getD_eq_getElem?_getD, List.getElem?_eq_getElem h']; rfl
theorem qmy {i : Nat} (h : i < 12) : marksW.drop i = marksW.getD i [] :: marksW.drop (i + 1) := by
  have h' : i < marksW.length := h
  rw [List.drop_eq_getElem_cons h', List.getD_eq_getElem?_getD, List.getElem?_eq_getElem h']; rfl
theorem ql4 (l : List UInt8) : qc4 Try.prog 75 [.str l] (.int .i64 (qva l)) := by
  refine qb3 c0cq (by simp) (by simp only [go_sem]) rfl fun hw => ?_
  repeat' (first | refine qi ?_ | refine qk ?_ | ((first | refine qm ?_ | refine qj ?_ | refine qr ?_ | refine qh ?_ | refine qg ?_ | ((first | refine qe ?_ ?_ | refine qc ?_ ?_) <;> intro hc <;> (try simp only [hc]) <;> (try simp only [qb, qa, decide_eq_true_eq, decide_eq_false_iff_not, Bool.and_eq_true] at hc)) | refine And.intro (by first | assumption | omega | (have := qf (by assumption); omega) | (unfold qo; omega)) ?_ | simp (disch := omega) only [qd] | simp (disch := omega) only [qn]) <;> (try simp only [go_sem, ↓reduceIte, Nat.reduceEqDiff, Nat.reduceAdd, Nat.reduceSub, Nat.reduceMul, Nat.reduceLT, Nat.reduceLeDiff, reduceCtorEq, Int.reduceToNat])))
  refine qcx (S := Nat) (fun i => i ≤ 12 ∧ qq6 l (marksW.drop i) = qva l) (fun i => (⟨[(0, .str l), (5, .agg (marksW.map AV.str)), (6, .int .i64 i)], []⟩, [])) (fun i => 12 - i) ?_ fun i hi => ?_
  · refine qb5 0 [] ⟨Nat.zero_le _, rfl⟩ rfl (by simp) ?_ ?_ ?_ <;> (try simp only [go_sem, ↓reduceIte, Nat.reduceEqDiff, Nat.reduceAdd, Nat.reduceSub, Nat.reduceMul, Nat.reduceLT, Nat.reduceLeDiff, reduceCtorEq, Int.reduceToNat]) <;> (try simp (disch := omega) only [qn])
    exact ⟨rfl, rfl⟩
  · obtain ⟨hi, ha⟩ := hi
    repeat' (first | refine qi ?_ | refine qk ?_ | ((first | refine qm ?_ | refine qj ?_ | refine qr ?_ | refine qh ?_ | refine qg ?_ | refine qv (qct _ _) fun _ => ?_ | refine qy  (qct _ _) ?_ | ((first | refine qe ?_ ?_ | refine qc ?_ ?_) <;> intro hc <;> (try simp only [hc]) <;> (try simp only [qb, qa, decide_eq_true_eq, decide_eq_false_iff_not, Bool.and_eq_true] at hc)) | refine And.intro (by first | assumption | omega | (have := qf (by assumption); omega) | (unfold qo; omega)) ?_ | simp (disch := omega) only [qd] | simp (disch := omega) only [qn]) <;> (try simp only [go_sem, ↓reduceIte, Nat.reduceEqDiff, Nat.reduceAdd, Nat.reduceSub, Nat.reduceMul, Nat.reduceLT, Nat.reduceLeDiff, reduceCtorEq, Int.reduceToNat])))
    · simp (disch := omega) only [qza, qx4, Nat.mul_one]
      refine ⟨by omega, ?_⟩
      repeat' (first | refine qi ?_ | refine qk ?_ | ((first | refine qm ?_ | refine qj ?_ | refine qr ?_ | refine qh ?_ | refine qg ?_ | refine qv (qct _ _) fun _ => ?_ | refine qy  (qct _ _) ?_ | ((first | refine qe ?_ ?_ | refine qc ?_ ?_) <;> intro hc <;> (try simp only [hc]) <;> (try simp only [qb, qa, decide_eq_true_eq, decide_eq_false_iff_not, Bool.and_eq_true] at hc)) | refine And.intro (by first | assumption | omega | (have := qf (by assumption); omega) | (unfold qo; omega)) ?_ | simp (disch := omega) only [qd] | simp (disch := omega) only [qn]) <;> (try simp only [go_sem, ↓reduceIte, Nat.reduceEqDiff, Nat.reduceAdd, Nat.reduceSub, Nat.reduceMul, Nat.reduceLT, Nat.reduceLeDiff, reduceCtorEq, Int.reduceToNat])))
      · rw [← ha, qmy (i := i) (by omega), qq6, if_pos hc]
      · refine qb5 (i + 1) [] ⟨⟨by omega, ?_⟩, by omega⟩ rfl (by simp) ?_ ?_ ?_ <;> (try simp only [go_sem, ↓reduceIte, Nat.reduceEqDiff, Nat.reduceAdd, Nat.reduceSub, Nat.reduceMul, Nat.reduceLT, Nat.reduceLeDiff, reduceCtorEq, Int.reduceToNat]) <;> (try simp (disch := omega) only [qn])
        · rw [← ha, qmy (i := i) (by omega), qq6, hc]; rfl
        · have : i < maxLen := by unfold maxLen; omega
          rw [qn this]
          exact ⟨⟨rfl, rfl⟩, rfl⟩
    · rw [← ha, show i = 12 by omega]; rfl
/-- The word that a text begins with, and the error. -/
def qc3 (l : List UInt8) : T × Int :=
  if qd0 (l.getD 0 0).toNat then (⟨3, 0, (qns (l.take (qc2 qd0 l))).1, l.take (qc2 qd0 l)⟩, (qns (l.take (qc2 qd0 l))).2)
  else if onW (l.getD 0 0).toNat && !decide (((l.getD 0 0).toNat : Int) = 39) then (qve (l.take (qc2 onW l)), 0)
  else if qva l = 0 then (T0, 3)
  else (⟨5, 0, 0, l.take (qva l)⟩, 0)
def qbdg (p : T × Int) : AV := .tup [encT p.1, .int .i64 p.2]
theorem qs5 (l : List UInt8) : ∀ ms, qq6 l ms ≤ l.length
  | [] => Nat.zero_le _
  | m :: r => by
    rw [qq6]
    split
    · rename_i h
      have := congrArg List.length (of_decide_eq_true h)
      rw [List.length_take] at this
      omega
    · exact qs5 l r
theorem qr3 (l : List UInt8) : qva l ≤ l.length := qs5 l _
attribute [go_sem] qbnl
theorem qmb (l : List UInt8) (hne : l ≠ []) : qc4 Try.prog 49 [.str l] (qbdg (qc3 l)) := by
  refine qb3 c0cr (by simp) (by simp only [go_sem]) rfl fun hw => ?_
  have hl : l.length ≤ maxLen := hw.1
  have h1 := qfr qd0 l
  have h2 := qfr onW l
  have h3 := qr3 l
  have h4 := List.length_pos_iff.2 hne
  repeat' (first | refine qi ?_ | refine qk ?_ | ((first | refine qm ?_ | refine qj ?_ | refine qh ?_ | refine qg ?_ | refine qv (qd7 _) fun _ => ?_ | refine qv (qdl qd7 _) fun _ => ?_ | refine qv (qpn _) fun _ => ?_ | refine qv (qjt _) fun _ => ?_ | refine qv (qdl qjt _) fun _ => ?_ | refine qv (qmr _) fun _ => ?_ | refine qv (ql4 _) fun _ => ?_ | refine qy  (qd7 _) ?_ | refine qy  (qdl qd7 _) ?_ | refine qy  (qpn _) ?_ | refine qy  (qjt _) ?_ | refine qy  (qdl qjt _) ?_ | refine qy  (qmr _) ?_ | refine qy  (ql4 _) ?_ | ((first | refine qe ?_ ?_ | refine qc ?_ ?_) <;> intro hc <;> (try simp only [hc]) <;> (try simp only [qb, qa, decide_eq_true_eq, decide_eq_false_iff_not, Bool.and_eq_true] at hc)) | refine And.intro (by first | assumption | omega | (have := qf (by assumption); omega) | (unfold qo; omega)) ?_ | simp (disch := omega) only [qd] | simp (disch := omega) only [qn]) <;> (try simp only [go_sem, ↓reduceIte, Nat.reduceEqDiff, Nat.reduceAdd, Nat.reduceSub, Nat.reduceMul, Nat.reduceLT, Nat.reduceLeDiff, reduceCtorEq, Int.reduceToNat])))
  all_goals (unfold qc3 qbdg; simp_all only [↓reduceIte, Bool.false_eq_true, decide_true, decide_false, Bool.not_true, Bool.not_false, Bool.and_true, Bool.and_false, Bool.true_and, Bool.false_and, Int.natCast_eq_zero]; try rfl)
  all_goals trace_state
end Go.Proofs.Ytfjbmjplnmaclaa
