/- A text of this proof. -/
import Derived.Test.YtfjbmjplnmaclaaOav

/- the cursor: words of a kind; what stands ahead -/
set_option maxRecDepth 4000
namespace Go.Proofs.Ytfjbmjplnmaclaa
open Go Go.RowKit Go.V
set_option linter.unusedVariables false
set_option linter.unusedSimpArgs false

def kindK (c : K) (k : Int) : K × Bool := if (decide (c.err = 0) && decide ((qw c).kind = k)) = true then (q7 c, true) else (qd3 c 5, false)
def qef (c : K) (k : Int) : T := if (kindK c k).2 = true then qw c else T0
theorem ql6 {c : K} {k : Int} (h1 : c.err = 0) (h2 : (qw c).kind = k) : kindK c k = (q7 c, true) := by rw [kindK, decide_eq_true h1, decide_eq_true h2]; rfl
theorem q75 {c : K} {k : Int} (h2 : ¬ (qw c).kind = k) : kindK c k = (qd3 c 5, false) := by rw [kindK, decide_eq_false h2, Bool.and_false]; rfl
theorem qxk {c : K} {k : Int} (h1 : ¬ c.err = 0) : kindK c k = (qd3 c 5, false) := by rw [kindK, decide_eq_false h1]; rfl
theorem qpx {c : K} {k : Int} (h1 : c.err = 0) (h2 : (qw c).kind = k) : qef c k = qw c := by rw [qef, ql6 h1 h2]; rfl
theorem qbpb {c : K} {k : Int} (h2 : ¬ (qw c).kind = k) : qef c k = T0 := by rw [qef, q75 h2]; rfl
theorem qbpu {c : K} {k : Int} (h1 : ¬ c.err = 0) : qef c k = T0 := by rw [qef, qxk h1]; rfl
theorem qbb4 (c : K) (hk : c.ok) (k : Int) : qcc Try.prog 35 (curE c) (curE (kindK c k).1) [.ptr 0 0, .int .i64 k] (.tup [encT (qef c k), .bool (kindK c k).2]) := by
  refine qx c0co 1 (by simp) (by simp) ?_
  repeat' (first | refine qj ?_ | ((first | refine qn ?_ | refine qk ?_ | refine qh ?_ | refine qg ?_ | refine qg6 ?_ | refine qb4 ?_ | refine qse ?_ | refine qjb hk ?_ | ((first | refine qe ?_ ?_ | refine qd ?_ ?_) <;> intro hc <;> (try simp only [hc]) <;> (try simp only [qb, qa, decide_eq_true_eq, decide_eq_false_iff_not, Bool.and_eq_true] at hc)) | refine And.intro (by first | assumption | omega | (have := qf (by assumption); omega) | (unfold qp; omega)) ?_ | simp (disch := omega) only [qc] | simp (disch := omega) only [qo]) <;> (try simp only [go_sem, ↓reduceIte, Nat.reduceEqDiff, Nat.reduceAdd, Nat.reduceSub, Nat.reduceMul, Nat.reduceLT, Nat.reduceLeDiff, reduceCtorEq, Int.reduceToNat])))
  · rw [qxk (qhf (by assumption)), qbpu (qhf (by assumption))]; exact ⟨rfl, rfl⟩
  · rw [q75 (by assumption), qbpb (by assumption)]; exact ⟨rfl, rfl⟩
  · rw [ql6 (qhc (by assumption)) (by assumption), qpx (qhc (by assumption)) (by assumption)]; exact ⟨rfl, rfl⟩
theorem qc5 {c : K} {L : List Ent} {k : Int} {Q : List Ent → VO → Prop} (hk : c.ok) (h : Q (curE (kindK c k).1 :: L) (.val (.tup [encT (qef c k), .bool (kindK c k).2]))) :
    VApp Try.prog (curE c :: L) (.fn 35 [] []) [.ptr 0 0, .int .i64 k] Q := qb9 (qbb4 c hk k) (qbe _ _) (qbe _ _) rfl rfl fun _ => h
/-- Whether a word stands ahead at the same depth of brackets. -/
def qex (x : List UInt8) : List T → Int → Bool
  | [], _ => false
  | t :: r, d =>
    if qdi t [[40], [123]] = true then qex x r (d + 1)
    else if qdi t [[41], [125]] = true then (if d - 1 < 0 then false else qex x r (d - 1))
    else if 0 < d then qex x r d
    else if qf0 t [59] = true then false
    else if qf0 t x = true then true
    else qex x r d
def qhl (c : K) (x : List UInt8) : Bool := if c.err = 0 then qex x (c.l.drop c.at') 0 else false
theorem q7r (t : T) (x y : List UInt8) : qde Try.prog 52 [encT t, .sl 1 [.str x, .str y]] (.bool (qdi t [x, y])) := q5b t [x, y]
theorem qbz5 {d : Int} (h0 : -1 ≤ d) (h1 : d ≤ 2000000) : IntKind.i64.wrap d = d := by
  simp [IntKind.wrap, IntKind.signed, IntKind.bits]
  omega
theorem qfh {b : Bool} (h : b = false) : ¬ b = true := by rw [h]; simp
theorem q4q (c : K) (hk : c.ok) (hl : c.l.length ≤ 1048577) (x : List UInt8) : qcc Try.prog 60 (curE c) (curE c) [.ptr 0 0, .str x] (.bool (qhl c x)) := by
  refine qx c0cp 1 (by simp) (by simp) ?_
  have hmx : (1048577 : Nat) ≤ maxLen := by unfold maxLen; omega
  have h1 := hk.1
  obtain ⟨l, hll⟩ : ∃ l, l = c.l.drop c.at' := ⟨_, rfl⟩
  have hln : l.length = c.l.length - c.at' := by rw [hll, List.length_drop]
  repeat' (first | refine qj ?_ | refine ql ?_ | ((first | refine qn ?_ | refine qcm (by rfl) ?_ | refine qba ?_ | refine qk ?_ | refine qu ?_ | refine qh ?_ | refine qg ?_ | refine qg6 ?_ | ((first | refine qe ?_ ?_ | refine qd ?_ ?_) <;> intro hc <;> (try simp only [hc]) <;> (try simp only [qb, qa, decide_eq_true_eq, decide_eq_false_iff_not, Bool.and_eq_true] at hc)) | refine And.intro (by first | assumption | omega | (have := qf (by assumption); omega) | (unfold qp; omega)) ?_ | simp (disch := omega) only [qc] | simp (disch := omega) only [qo]) <;> (try simp only [go_sem, ↓reduceIte, Nat.reduceEqDiff, Nat.reduceAdd, Nat.reduceSub, Nat.reduceMul, Nat.reduceLT, Nat.reduceLeDiff, reduceCtorEq, Int.reduceToNat])))
  · rw [qhl, if_neg (qhf (by assumption))]
  · rw [qhl, if_pos (qhc (by assumption)), ← hll]
    refine qcy (S := Nat × Int) (fun y => y.1 ≤ l.length ∧ 0 ≤ y.2 ∧ y.2 ≤ y.1 ∧ qex x l 0 = qex x (l.drop y.1) y.2)
      (fun y => (⟨[(1, .str x), (5, .int .i64 y.2), (18, .sl 4 (qd4 l)), (19, .int .i64 l.length), (20, .int .i64 y.1)], []⟩, [curE c])) (fun y => l.length - y.1) ?_ ?_
    · refine qcd (0, 0) [0] ⟨Nat.zero_le _, Int.le_refl _, Int.le_refl _, rfl⟩ rfl (by simp) ?_ ?_ ?_ <;> (try simp only [go_sem, ↓reduceIte, Nat.reduceEqDiff, Nat.reduceAdd, Nat.reduceSub, Nat.reduceMul, Nat.reduceLT, Nat.reduceLeDiff, reduceCtorEq, Int.reduceToNat]) <;> (try simp (disch := omega) only [qo])
    · rintro ⟨i, d⟩ ⟨i1, i2, i3, i4⟩
      simp only at i1 i2 i3 i4
      by_cases hlt : i < l.length
      · have hil : (i : Int) < l.length := by omega
        rw [qbla hlt, qex] at i4
        have hT : AV.agg [.int .i64 (l.getD i T0).kind, .int .i64 (l.getD i T0).pos, .int .i64 (l.getD i T0).num, .str (l.getD i T0).text] = encT (l.getD i T0) := rfl
        repeat' (first | refine qj ?_ | refine ql ?_ | ((first | refine qn ?_ | refine qcm (by rfl) ?_ | refine qba ?_ | refine qk ?_ | refine qu ?_ | refine qh ?_ | refine qg ?_) <;> (try simp (disch := first | omega | (simp only [List.length_set, List.length_append, List.length_cons, List.length_nil]; done) | (simp only [List.length_set, List.length_append, List.length_cons, List.length_nil]; omega)) only [hil, qbz5, go_sem, ↓reduceIte, Nat.reduceEqDiff, Nat.reduceAdd, Nat.reduceSub, Nat.reduceMul, Nat.reduceLT, Nat.reduceLeDiff, reduceCtorEq, Int.reduceToNat])) | ((first | simp (disch := omega) only [qgg] | ((first | refine qe ?_ ?_ | refine qd ?_ ?_) <;> intro hc <;> (try simp only [hc]) <;> (try simp only [qb, qa, decide_eq_true_eq, decide_eq_false_iff_not, Bool.and_eq_true] at hc)) | refine And.intro (by first | assumption | omega | (have := qf (by assumption); omega) | (unfold qp; omega)) ?_ | simp (disch := omega) only [qc] | simp (disch := omega) only [qo] | refine qv (q7r (l.getD i T0) _ _) fun _ => ?_ | refine qv (qs7 (l.getD i T0) _) fun _ => ?_ | refine qy  (q7r (l.getD i T0) _ _) ?_ | refine qy  (qs7 (l.getD i T0) _) ?_) <;> (try simp only [go_sem, ↓reduceIte, Nat.reduceEqDiff, Nat.reduceAdd, Nat.reduceSub, Nat.reduceMul, Nat.reduceLT, Nat.reduceLeDiff, reduceCtorEq, Int.reduceToNat])))
        · have g : qdi (l.getD i T0) [[40], [123]] = true := by assumption
          rw [if_pos g] at i4
          refine qcd (i + 1, d + 1) [0] ⟨⟨by simp only; omega, by simp only; omega, by simp only; omega, i4⟩, by simp only; omega⟩ rfl (by simp) ?_ ?_ ?_ <;> (try simp only [go_sem, ↓reduceIte, Nat.reduceEqDiff, Nat.reduceAdd, Nat.reduceSub, Nat.reduceMul, Nat.reduceLT, Nat.reduceLeDiff, reduceCtorEq, Int.reduceToNat]) <;> (try simp (disch := omega) only [qo]) <;> (try rfl)
        · have g : ¬ qdi (l.getD i T0) [[40], [123]] = true := qfh (by assumption)
          have g2 : qdi (l.getD i T0) [[41], [125]] = true := by assumption
          rw [i4, if_neg g, if_pos g2, if_pos (by assumption)]
        · have g : ¬ qdi (l.getD i T0) [[40], [123]] = true := qfh (by assumption)
          have g2 : qdi (l.getD i T0) [[41], [125]] = true := by assumption
          rw [if_neg g, if_pos g2, if_neg (by assumption)] at i4
          refine qcd (i + 1, d - 1) [0] ⟨⟨by simp only; omega, by simp only; omega, by simp only; omega, i4⟩, by simp only; omega⟩ rfl (by simp) ?_ ?_ ?_ <;> (try simp only [go_sem, ↓reduceIte, Nat.reduceEqDiff, Nat.reduceAdd, Nat.reduceSub, Nat.reduceMul, Nat.reduceLT, Nat.reduceLeDiff, reduceCtorEq, Int.reduceToNat]) <;> (try simp (disch := omega) only [qo]) <;> (try rfl)
        · have g : ¬ qdi (l.getD i T0) [[40], [123]] = true := qfh (by assumption)
          have g2 : ¬ qdi (l.getD i T0) [[41], [125]] = true := qfh (by assumption)
          rw [if_neg g, if_neg g2, if_pos (by assumption)] at i4
          refine qcd (i + 1, d) [0] ⟨⟨by simp only; omega, by simp only; omega, by simp only; omega, i4⟩, by simp only; omega⟩ rfl (by simp) ?_ ?_ ?_ <;> (try simp only [go_sem, ↓reduceIte, Nat.reduceEqDiff, Nat.reduceAdd, Nat.reduceSub, Nat.reduceMul, Nat.reduceLT, Nat.reduceLeDiff, reduceCtorEq, Int.reduceToNat]) <;> (try simp (disch := omega) only [qo]) <;> (try rfl)
        · have g : ¬ qdi (l.getD i T0) [[40], [123]] = true := qfh (by assumption)
          have g2 : ¬ qdi (l.getD i T0) [[41], [125]] = true := qfh (by assumption)
          rw [i4, if_neg g, if_neg g2, if_neg (by assumption), if_pos (by assumption)]
        · have g : ¬ qdi (l.getD i T0) [[40], [123]] = true := qfh (by assumption)
          have g2 : ¬ qdi (l.getD i T0) [[41], [125]] = true := qfh (by assumption)
          have g3 : ¬ qf0 (l.getD i T0) [59] = true := qfh (by assumption)
          rw [i4, if_neg g, if_neg g2, if_neg (by assumption), if_neg g3, if_pos (by assumption)]
        · have g : ¬ qdi (l.getD i T0) [[40], [123]] = true := qfh (by assumption)
          have g2 : ¬ qdi (l.getD i T0) [[41], [125]] = true := qfh (by assumption)
          have g3 : ¬ qf0 (l.getD i T0) [59] = true := qfh (by assumption)
          have g4 : ¬ qf0 (l.getD i T0) x = true := qfh (by assumption)
          rw [if_neg g, if_neg g2, if_neg (by assumption), if_neg g3, if_neg g4] at i4
          refine qcd (i + 1, d) [0] ⟨⟨by simp only; omega, by simp only; omega, by simp only; omega, i4⟩, by simp only; omega⟩ rfl (by simp) ?_ ?_ ?_ <;> (try simp only [go_sem, ↓reduceIte, Nat.reduceEqDiff, Nat.reduceAdd, Nat.reduceSub, Nat.reduceMul, Nat.reduceLT, Nat.reduceLeDiff, reduceCtorEq, Int.reduceToNat]) <;> (try simp (disch := omega) only [qo]) <;> (try rfl)
      · have hil : ¬ (i : Int) < l.length := by omega
        rw [List.drop_of_length_le (by omega), qex] at i4
        repeat' (first | refine qj ?_ | refine ql ?_ | ((first | refine qn ?_ | refine qcm (by rfl) ?_ | refine qba ?_ | refine qk ?_ | refine qu ?_ | refine qh ?_ | refine qg ?_) <;> (try simp (disch := first | omega | (simp only [List.length_set, List.length_append, List.length_cons, List.length_nil]; done) | (simp only [List.length_set, List.length_append, List.length_cons, List.length_nil]; omega)) only [hil, go_sem, ↓reduceIte, Nat.reduceEqDiff, Nat.reduceAdd, Nat.reduceSub, Nat.reduceMul, Nat.reduceLT, Nat.reduceLeDiff, reduceCtorEq, Int.reduceToNat])) | ((first | ((first | refine qe ?_ ?_ | refine qd ?_ ?_) <;> intro hc <;> (try simp only [hc]) <;> (try simp only [qb, qa, decide_eq_true_eq, decide_eq_false_iff_not, Bool.and_eq_true] at hc)) | refine And.intro (by first | assumption | omega | (have := qf (by assumption); omega) | (unfold qp; omega)) ?_ | simp (disch := omega) only [qc] | simp (disch := omega) only [qo]) <;> (try simp only [go_sem, ↓reduceIte, Nat.reduceEqDiff, Nat.reduceAdd, Nat.reduceSub, Nat.reduceMul, Nat.reduceLT, Nat.reduceLeDiff, reduceCtorEq, Int.reduceToNat])))
        rw [i4]
theorem q3c {c : K} {L : List Ent} {x : List UInt8} {Q : List Ent → VO → Prop} (hk : c.ok) (hl : c.l.length ≤ 1048577) (h : Q (curE c :: L) (.val (.bool (qhl c x)))) :
    VApp Try.prog (curE c :: L) (.fn 60 [] []) [.ptr 0 0, .str x] Q := qb9 (q4q c hk hl x) (qbe _ _) (qbe _ _) rfl rfl fun _ => h
end Go.Proofs.Ytfjbmjplnmaclaa
