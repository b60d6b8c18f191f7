/- A text of this proof. -/
import Derived.Test.YtfjbmjplnmaclaaWav

/- the cursor: words of a kind; what stands ahead -/
set_option maxRecDepth 4000
namespace Go.Proofs.Ytfjbmjplnmaclaa
open Go Go.RowKit Go.V
set_option linter.unusedVariables false
set_option linter.unusedSimpArgs false

def qbe (c : K) (k : Int) : K × Bool := if (decide (c.err = 0) && decide ((qba c).kind = k)) = true then (qbg c, true) else (qea c 5, false)
def qhc (c : K) (k : Int) : T := if (qbe c k).2 = true then qba c else T0
theorem qrc {c : K} {k : Int} (h1 : c.err = 0) (h2 : (qba c).kind = k) : qbe c k = (qbg c, true) := by rw [qbe, decide_eq_true h1, decide_eq_true h2]; rfl
theorem qyn {c : K} {k : Int} (h2 : ¬ (qba c).kind = k) : qbe c k = (qea c 5, false) := by rw [qbe, decide_eq_false h2, Bool.and_false]; rfl
theorem qzm {c : K} {k : Int} (h1 : ¬ c.err = 0) : qbe c k = (qea c 5, false) := by rw [qbe, decide_eq_false h1]; rfl
theorem qvr {c : K} {k : Int} (h1 : c.err = 0) (h2 : (qba c).kind = k) : qhc c k = qba c := by rw [qhc, qrc h1 h2]; rfl
theorem qbef {c : K} {k : Int} (h2 : ¬ (qba c).kind = k) : qhc c k = T0 := by rw [qhc, qyn h2]; rfl
theorem q9i {c : K} {k : Int} (h1 : ¬ c.err = 0) : qhc c k = T0 := by rw [qhc, qzm h1]; rfl
theorem q0j (c : K) (hk : c.ok) (k : Int) : qbz Try.prog 35 (curE c) (curE (qbe c k).1) [.ptr 0 0, .int .i64 k] (.tup [encT (qhc c k), .bool (qbe c k).2]) := by
  refine qs c0dk 1 (by simp) (by simp) ?_
  repeat' (first | refine qi ?_ | ((first | refine qm ?_ | refine qj ?_ | refine qh ?_ | refine qg ?_ | refine qfd ?_ | refine qbu ?_ | refine qmx ?_ | refine qgq hk ?_ | ((first | refine qe ?_ ?_ | refine qc ?_ ?_) <;> intro hc <;> (try simp only [hc]) <;> (try simp only [qb, qa, decide_eq_true_eq, decide_eq_false_iff_not, Bool.and_eq_true] at hc)) | refine And.intro (by first | assumption | omega | (have := qf (by assumption); omega) | (unfold qo; omega)) ?_ | simp (disch := omega) only [qd] | simp (disch := omega) only [qn]) <;> (try simp only [go_sem, ↓reduceIte, Nat.reduceEqDiff, Nat.reduceAdd, Nat.reduceSub, Nat.reduceMul, Nat.reduceLT, Nat.reduceLeDiff, reduceCtorEq, Int.reduceToNat])))
  · rw [qzm (qfo (by assumption)), q9i (qfo (by assumption))]; exact ⟨rfl, rfl⟩
  · rw [qyn (by assumption), qbef (by assumption)]; exact ⟨rfl, rfl⟩
  · rw [qrc (qfk (by assumption)) (by assumption), qvr (qfk (by assumption)) (by assumption)]; exact ⟨rfl, rfl⟩
theorem qcr {c : K} {L : List Ent} {k : Int} {Q : List Ent → VO → Prop} (hk : c.ok) (h : Q (curE (qbe c k).1 :: L) (.val (.tup [encT (qhc c k), .bool (qbe c k).2]))) :
    VApp Try.prog (curE c :: L) (.fn 35 [] []) [.ptr 0 0, .int .i64 k] Q := qbv (q0j c hk k) (q7 _ _) (q7 _ _) rfl rfl fun _ => h
/-- Whether a word stands ahead at the same depth of brackets. -/
def qif (x : List UInt8) : List T → Int → Bool
  | [], _ => false
  | t :: r, d =>
    if qdc t [[40], [123]] = true then qif x r (d + 1)
    else if qdc t [[41], [125]] = true then (if d - 1 < 0 then false else qif x r (d - 1))
    else if 0 < d then qif x r d
    else if qlw t [59] = true then false
    else if qlw t x = true then true
    else qif x r d
def qmn (c : K) (x : List UInt8) : Bool := if c.err = 0 then qif x (c.l.drop c.at') 0 else false
theorem qxc (t : T) (x y : List UInt8) : qc4 Try.prog 52 [encT t, .sl 1 [.str x, .str y]] (.bool (qdc t [x, y])) := qy0 t [x, y]
theorem qbql {d : Int} (h0 : -1 ≤ d) (h1 : d ≤ 2000000) : IntKind.i64.wrap d = d := by
  simp [IntKind.wrap, IntKind.signed, IntKind.bits]
  omega
theorem qd4 {b : Bool} (h : b = false) : ¬ b = true := by rw [h]; simp
theorem qu8 (c : K) (hk : c.ok) (hl : c.l.length ≤ 1048577) (x : List UInt8) : qbz Try.prog 60 (curE c) (curE c) [.ptr 0 0, .str x] (.bool (qmn c x)) := by
  refine qs c0dl 1 (by simp) (by simp) ?_
  have hmx : (1048577 : Nat) ≤ maxLen := by unfold maxLen; omega
  have h1 := hk.1
  obtain ⟨l, hll⟩ : ∃ l, l = c.l.drop c.at' := ⟨_, rfl⟩
  have hln : l.length = c.l.length - c.at' := by rw [hll, List.length_drop]
  repeat' (first | refine qi ?_ | refine qk ?_ | ((first | refine qm ?_ | refine qcm (by rfl) ?_ | refine q9 ?_ | refine qj ?_ | refine qr ?_ | refine qh ?_ | refine qg ?_ | refine qfd ?_ | ((first | refine qe ?_ ?_ | refine qc ?_ ?_) <;> intro hc <;> (try simp only [hc]) <;> (try simp only [qb, qa, decide_eq_true_eq, decide_eq_false_iff_not, Bool.and_eq_true] at hc)) | refine And.intro (by first | assumption | omega | (have := qf (by assumption); omega) | (unfold qo; omega)) ?_ | simp (disch := omega) only [qd] | simp (disch := omega) only [qn]) <;> (try simp only [go_sem, ↓reduceIte, Nat.reduceEqDiff, Nat.reduceAdd, Nat.reduceSub, Nat.reduceMul, Nat.reduceLT, Nat.reduceLeDiff, reduceCtorEq, Int.reduceToNat])))
  · rw [qmn, if_neg (qfo (by assumption))]
  · rw [qmn, if_pos (qfk (by assumption)), ← hll]
    refine qcx (S := Nat × Int) (fun y => y.1 ≤ l.length ∧ 0 ≤ y.2 ∧ y.2 ≤ y.1 ∧ qif x l 0 = qif x (l.drop y.1) y.2)
      (fun y => (⟨[(1, .str x), (5, .int .i64 y.2), (18, .sl 4 (qde l)), (19, .int .i64 l.length), (20, .int .i64 y.1)], []⟩, [curE c])) (fun y => l.length - y.1) ?_ ?_
    · refine qb5 (0, 0) [0] ⟨Nat.zero_le _, Int.le_refl _, Int.le_refl _, rfl⟩ rfl (by simp) ?_ ?_ ?_ <;> (try simp only [go_sem, ↓reduceIte, Nat.reduceEqDiff, Nat.reduceAdd, Nat.reduceSub, Nat.reduceMul, Nat.reduceLT, Nat.reduceLeDiff, reduceCtorEq, Int.reduceToNat]) <;> (try simp (disch := omega) only [qn])
    · rintro ⟨i, d⟩ ⟨i1, i2, i3, i4⟩
      simp only at i1 i2 i3 i4
      by_cases hlt : i < l.length
      · have hil : (i : Int) < l.length := by omega
        rw [qbqn hlt, qif] at i4
        have hT : AV.agg [.int .i64 (l.getD i T0).kind, .int .i64 (l.getD i T0).pos, .int .i64 (l.getD i T0).num, .str (l.getD i T0).text] = encT (l.getD i T0) := rfl
        repeat' (first | refine qi ?_ | refine qk ?_ | ((first | refine qm ?_ | refine qcm (by rfl) ?_ | refine q9 ?_ | refine qj ?_ | refine qr ?_ | refine qh ?_ | refine qg ?_) <;> (try simp (disch := first | omega | (simp only [List.length_set, List.length_append, List.length_cons, List.length_nil]; done) | (simp only [List.length_set, List.length_append, List.length_cons, List.length_nil]; omega)) only [hil, qbql, go_sem, ↓reduceIte, Nat.reduceEqDiff, Nat.reduceAdd, Nat.reduceSub, Nat.reduceMul, Nat.reduceLT, Nat.reduceLeDiff, reduceCtorEq, Int.reduceToNat])) | ((first | simp (disch := omega) only [qev] | ((first | refine qe ?_ ?_ | refine qc ?_ ?_) <;> intro hc <;> (try simp only [hc]) <;> (try simp only [qb, qa, decide_eq_true_eq, decide_eq_false_iff_not, Bool.and_eq_true] at hc)) | refine And.intro (by first | assumption | omega | (have := qf (by assumption); omega) | (unfold qo; omega)) ?_ | simp (disch := omega) only [qd] | simp (disch := omega) only [qn] | refine qv (qxc (l.getD i T0) _ _) fun _ => ?_ | refine qv (qnj (l.getD i T0) _) fun _ => ?_ | refine qy  (qxc (l.getD i T0) _ _) ?_ | refine qy  (qnj (l.getD i T0) _) ?_) <;> (try simp only [go_sem, ↓reduceIte, Nat.reduceEqDiff, Nat.reduceAdd, Nat.reduceSub, Nat.reduceMul, Nat.reduceLT, Nat.reduceLeDiff, reduceCtorEq, Int.reduceToNat])))
        · have g : qdc (l.getD i T0) [[40], [123]] = true := by assumption
          rw [if_pos g] at i4
          refine qb5 (i + 1, d + 1) [0] ⟨⟨by simp only; omega, by simp only; omega, by simp only; omega, i4⟩, by simp only; omega⟩ rfl (by simp) ?_ ?_ ?_ <;> (try simp only [go_sem, ↓reduceIte, Nat.reduceEqDiff, Nat.reduceAdd, Nat.reduceSub, Nat.reduceMul, Nat.reduceLT, Nat.reduceLeDiff, reduceCtorEq, Int.reduceToNat]) <;> (try simp (disch := omega) only [qn]) <;> (try rfl)
        · have g : ¬ qdc (l.getD i T0) [[40], [123]] = true := qd4 (by assumption)
          have g2 : qdc (l.getD i T0) [[41], [125]] = true := by assumption
          rw [i4, if_neg g, if_pos g2, if_pos (by assumption)]
        · have g : ¬ qdc (l.getD i T0) [[40], [123]] = true := qd4 (by assumption)
          have g2 : qdc (l.getD i T0) [[41], [125]] = true := by assumption
          rw [if_neg g, if_pos g2, if_neg (by assumption)] at i4
          refine qb5 (i + 1, d - 1) [0] ⟨⟨by simp only; omega, by simp only; omega, by simp only; omega, i4⟩, by simp only; omega⟩ rfl (by simp) ?_ ?_ ?_ <;> (try simp only [go_sem, ↓reduceIte, Nat.reduceEqDiff, Nat.reduceAdd, Nat.reduceSub, Nat.reduceMul, Nat.reduceLT, Nat.reduceLeDiff, reduceCtorEq, Int.reduceToNat]) <;> (try simp (disch := omega) only [qn]) <;> (try rfl)
        · have g : ¬ qdc (l.getD i T0) [[40], [123]] = true := qd4 (by assumption)
          have g2 : ¬ qdc (l.getD i T0) [[41], [125]] = true := qd4 (by assumption)
          rw [if_neg g, if_neg g2, if_pos (by assumption)] at i4
          refine qb5 (i + 1, d) [0] ⟨⟨by simp only; omega, by simp only; omega, by simp only; omega, i4⟩, by simp only; omega⟩ rfl (by simp) ?_ ?_ ?_ <;> (try simp only [go_sem, ↓reduceIte, Nat.reduceEqDiff, Nat.reduceAdd, Nat.reduceSub, Nat.reduceMul, Nat.reduceLT, Nat.reduceLeDiff, reduceCtorEq, Int.reduceToNat]) <;> (try simp (disch := omega) only [qn]) <;> (try rfl)
        · have g : ¬ qdc (l.getD i T0) [[40], [123]] = true := qd4 (by assumption)
          have g2 : ¬ qdc (l.getD i T0) [[41], [125]] = true := qd4 (by assumption)
          rw [i4, if_neg g, if_neg g2, if_neg (by assumption), if_pos (by assumption)]
        · have g : ¬ qdc (l.getD i T0) [[40], [123]] = true := qd4 (by assumption)
          have g2 : ¬ qdc (l.getD i T0) [[41], [125]] = true := qd4 (by assumption)
          have g3 : ¬ qlw (l.getD i T0) [59] = true := qd4 (by assumption)
          rw [i4, if_neg g, if_neg g2, if_neg (by assumption), if_neg g3, if_pos (by assumption)]
        · have g : ¬ qdc (l.getD i T0) [[40], [123]] = true := qd4 (by assumption)
          have g2 : ¬ qdc (l.getD i T0) [[41], [125]] = true := qd4 (by assumption)
          have g3 : ¬ qlw (l.getD i T0) [59] = true := qd4 (by assumption)
          have g4 : ¬ qlw (l.getD i T0) x = true := qd4 (by assumption)
          rw [if_neg g, if_neg g2, if_neg (by assumption), if_neg g3, if_neg g4] at i4
          refine qb5 (i + 1, d) [0] ⟨⟨by simp only; omega, by simp only; omega, by simp only; omega, i4⟩, by simp only; omega⟩ rfl (by simp) ?_ ?_ ?_ <;> (try simp only [go_sem, ↓reduceIte, Nat.reduceEqDiff, Nat.reduceAdd, Nat.reduceSub, Nat.reduceMul, Nat.reduceLT, Nat.reduceLeDiff, reduceCtorEq, Int.reduceToNat]) <;> (try simp (disch := omega) only [qn]) <;> (try rfl)
      · have hil : ¬ (i : Int) < l.length := by omega
        rw [List.drop_of_length_le (by omega), qif] at i4
        repeat' (first | refine qi ?_ | refine qk ?_ | ((first | refine qm ?_ | refine qcm (by rfl) ?_ | refine q9 ?_ | refine qj ?_ | refine qr ?_ | refine qh ?_ | refine qg ?_) <;> (try simp (disch := first | omega | (simp only [List.length_set, List.length_append, List.length_cons, List.length_nil]; done) | (simp only [List.length_set, List.length_append, List.length_cons, List.length_nil]; omega)) only [hil, go_sem, ↓reduceIte, Nat.reduceEqDiff, Nat.reduceAdd, Nat.reduceSub, Nat.reduceMul, Nat.reduceLT, Nat.reduceLeDiff, reduceCtorEq, Int.reduceToNat])) | ((first | ((first | refine qe ?_ ?_ | refine qc ?_ ?_) <;> intro hc <;> (try simp only [hc]) <;> (try simp only [qb, qa, decide_eq_true_eq, decide_eq_false_iff_not, Bool.and_eq_true] at hc)) | refine And.intro (by first | assumption | omega | (have := qf (by assumption); omega) | (unfold qo; omega)) ?_ | simp (disch := omega) only [qd] | simp (disch := omega) only [qn]) <;> (try simp only [go_sem, ↓reduceIte, Nat.reduceEqDiff, Nat.reduceAdd, Nat.reduceSub, Nat.reduceMul, Nat.reduceLT, Nat.reduceLeDiff, reduceCtorEq, Int.reduceToNat])))
        rw [i4]
theorem qyz {c : K} {L : List Ent} {x : List UInt8} {Q : List Ent → VO → Prop} (hk : c.ok) (hl : c.l.length ≤ 1048577) (h : Q (curE c :: L) (.val (.bool (qmn c x)))) :
    VApp Try.prog (curE c :: L) (.fn 60 [] []) [.ptr 0 0, .str x] Q := qbv (qu8 c hk hl x) (q7 _ _) (q7 _ _) rfl rfl fun _ => h
end Go.Proofs.Ytfjbmjplnmaclaa
