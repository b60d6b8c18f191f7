/- A text of this proof. -/
import Derived.Test.YtmekebfgmjaenaaPaw

/- the cursor: words of a kind; what stands ahead -/
set_option maxRecDepth 4000
namespace Go.Proofs.Ytmekebfgmjaenaa
open Go Go.RowKit Go.V
set_option linter.unusedVariables false
set_option linter.unusedSimpArgs false

def kindK (c : K) (k : Int) : K × Bool := if (decide (c.err = 0) && decide ((qw c).kind = k)) = true then (qs c, true) else (qee c 5, false)
def qhh (c : K) (k : Int) : T := if (kindK c k).2 = true then qw c else T0
theorem qkl {c : K} {k : Int} (h1 : c.err = 0) (h2 : (qw c).kind = k) : kindK c k = (qs c, true) := by rw [kindK, decide_eq_true h1, decide_eq_true h2]; rfl
theorem qzr {c : K} {k : Int} (h2 : ¬ (qw c).kind = k) : kindK c k = (qee c 5, false) := by rw [kindK, decide_eq_false h2, Bool.and_false]; rfl
theorem qu7 {c : K} {k : Int} (h1 : ¬ c.err = 0) : kindK c k = (qee c 5, false) := by rw [kindK, decide_eq_false h1]; rfl
theorem qnx {c : K} {k : Int} (h1 : c.err = 0) (h2 : (qw c).kind = k) : qhh c k = qw c := by rw [qhh, qkl h1 h2]; rfl
theorem qbg7 {c : K} {k : Int} (h2 : ¬ (qw c).kind = k) : qhh c k = T0 := by rw [qhh, qzr h2]; rfl
theorem qbb7 {c : K} {k : Int} (h1 : ¬ c.err = 0) : qhh c k = T0 := by rw [qhh, qu7 h1]; rfl
theorem q60 (c : K) (hk : c.ok) (k : Int) : qca Try.prog 55 (curE c) (curE (kindK c k).1) [.ptr 0 0, .int .i64 k] (.tup [encT (qhh c k), .bool (kindK c k).2]) := by
  refine q9 c0cn 1 (by simp) (by simp) ?_
  repeat' (first | refine ql ?_ | ((first | refine qn ?_ | refine qm ?_ | refine qj ?_ | refine qi ?_ | refine qf2 ?_ | refine qc8 ?_ | refine qpr ?_ | refine qh9 hk ?_ | ((first | refine qf ?_ ?_ | refine qc ?_ ?_) <;> intro hc <;> (try simp only [hc]) <;> (try simp only [qb, qa, decide_eq_true_eq, decide_eq_false_iff_not, Bool.and_eq_true] at hc)) | refine And.intro (by first | assumption | omega | (have := qh (by assumption); omega) | (unfold qt; omega)) ?_ | simp (disch := omega) only [qd] | simp (disch := omega) only [qq]) <;> (try simp only [go_sem, ↓reduceIte, Nat.reduceEqDiff, Nat.reduceAdd, Nat.reduceSub, Nat.reduceMul, Nat.reduceLT, Nat.reduceLeDiff, reduceCtorEq, Int.reduceToNat])))
  · rw [qu7 (qgi (by assumption)), qbb7 (qgi (by assumption))]; exact ⟨rfl, rfl⟩
  · rw [qzr (by assumption), qbg7 (by assumption)]; exact ⟨rfl, rfl⟩
  · rw [qkl (qf9 (by assumption)) (by assumption), qnx (qf9 (by assumption)) (by assumption)]; exact ⟨rfl, rfl⟩
theorem qpk {c : K} {L : List Ent} {k : Int} {Q : List Ent → VO → Prop} (hk : c.ok) (h : Q (curE (kindK c k).1 :: L) (.val (.tup [encT (qhh c k), .bool (kindK c k).2]))) :
    VApp Try.prog (curE c :: L) (.fn 55 [] []) [.ptr 0 0, .int .i64 k] Q := qb0 (q60 c hk k) (qbk _ _) (qbk _ _) rfl rfl fun _ => h
/-- Whether a word stands ahead at the same depth of brackets. -/
def qd7 (x : List UInt8) : List T → Int → Bool
  | [], _ => false
  | t :: r, d =>
    if qc0 t [[40], [123]] = true then qd7 x r (d + 1)
    else if qc0 t [[41], [125]] = true then (if d - 1 < 0 then false else qd7 x r (d - 1))
    else if 0 < d then qd7 x r d
    else if qes t [59] = true then false
    else if qes t x = true then true
    else qd7 x r d
def qgp (c : K) (x : List UInt8) : Bool := if c.err = 0 then qd7 x (c.l.drop c.at') 0 else false
theorem q2k (t : T) (x y : List UInt8) : qdb Try.prog 54 [encT t, .sl 1 [.str x, .str y]] (.bool (qc0 t [x, y])) := qzq t [x, y]
theorem qbr0 {d : Int} (h0 : -1 ≤ d) (h1 : d ≤ 2000000) : IntKind.i64.wrap d = d := by
  simp [IntKind.wrap, IntKind.signed, IntKind.bits]
  omega
theorem qeo {b : Bool} (h : b = false) : ¬ b = true := by rw [h]; simp
theorem q1p (c : K) (hk : c.ok) (hl : c.l.length ≤ 1048577) (x : List UInt8) : qca Try.prog 66 (curE c) (curE c) [.ptr 0 0, .str x] (.bool (qgp c x)) := by
  refine q9 c0co 1 (by simp) (by simp) ?_
  have hmx : (1048577 : Nat) ≤ maxLen := by unfold maxLen; omega
  have h1 := hk.1
  obtain ⟨l, hll⟩ : ∃ l, l = c.l.drop c.at' := ⟨_, rfl⟩
  have hln : l.length = c.l.length - c.at' := by rw [hll, List.length_drop]
  repeat' (first | refine ql ?_ | refine qk ?_ | ((first | refine qn ?_ | refine qcw (by rfl) ?_ | refine qb6 ?_ | refine qm ?_ | refine qz ?_ | refine qj ?_ | refine qi ?_ | refine qf2 ?_ | ((first | refine qf ?_ ?_ | refine qc ?_ ?_) <;> intro hc <;> (try simp only [hc]) <;> (try simp only [qb, qa, decide_eq_true_eq, decide_eq_false_iff_not, Bool.and_eq_true] at hc)) | refine And.intro (by first | assumption | omega | (have := qh (by assumption); omega) | (unfold qt; omega)) ?_ | simp (disch := omega) only [qd] | simp (disch := omega) only [qq]) <;> (try simp only [go_sem, ↓reduceIte, Nat.reduceEqDiff, Nat.reduceAdd, Nat.reduceSub, Nat.reduceMul, Nat.reduceLT, Nat.reduceLeDiff, reduceCtorEq, Int.reduceToNat])))
  · rw [qgp, if_neg (qgi (by assumption))]
  · rw [qgp, if_pos (qf9 (by assumption)), ← hll]
    refine qc5 (S := Nat × Int) (fun y => y.1 ≤ l.length ∧ 0 ≤ y.2 ∧ y.2 ≤ y.1 ∧ qd7 x l 0 = qd7 x (l.drop y.1) y.2)
      (fun y => (⟨[(1, .str x), (5, .int .i64 y.2), (18, .sl 4 (qdg l)), (19, .int .i64 l.length), (20, .int .i64 y.1)], []⟩, [curE c])) (fun y => l.length - y.1) ?_ ?_
    · refine qcq (0, 0) [0] ⟨Nat.zero_le _, Int.le_refl _, Int.le_refl _, rfl⟩ rfl (by simp) ?_ ?_ ?_ <;> (try simp only [go_sem, ↓reduceIte, Nat.reduceEqDiff, Nat.reduceAdd, Nat.reduceSub, Nat.reduceMul, Nat.reduceLT, Nat.reduceLeDiff, reduceCtorEq, Int.reduceToNat]) <;> (try simp (disch := omega) only [qq])
    · rintro ⟨i, d⟩ ⟨i1, i2, i3, i4⟩
      simp only at i1 i2 i3 i4
      by_cases hlt : i < l.length
      · have hil : (i : Int) < l.length := by omega
        rw [qbes hlt, qd7] at i4
        have hT : AV.agg [.int .i64 (l.getD i T0).kind, .int .i64 (l.getD i T0).pos, .int .i64 (l.getD i T0).num, .str (l.getD i T0).text] = encT (l.getD i T0) := rfl
        repeat' (first | refine ql ?_ | refine qk ?_ | ((first | refine qn ?_ | refine qcw (by rfl) ?_ | refine qb6 ?_ | refine qm ?_ | refine qz ?_ | refine qj ?_ | refine qi ?_) <;> (try simp (disch := first | omega | (simp only [List.length_set, List.length_append, List.length_cons, List.length_nil]; done) | (simp only [List.length_set, List.length_append, List.length_cons, List.length_nil]; omega)) only [hil, qbr0, go_sem, ↓reduceIte, Nat.reduceEqDiff, Nat.reduceAdd, Nat.reduceSub, Nat.reduceMul, Nat.reduceLT, Nat.reduceLeDiff, reduceCtorEq, Int.reduceToNat])) | ((first | simp (disch := omega) only [qfl] | ((first | refine qf ?_ ?_ | refine qc ?_ ?_) <;> intro hc <;> (try simp only [hc]) <;> (try simp only [qb, qa, decide_eq_true_eq, decide_eq_false_iff_not, Bool.and_eq_true] at hc)) | refine And.intro (by first | assumption | omega | (have := qh (by assumption); omega) | (unfold qt; omega)) ?_ | simp (disch := omega) only [qd] | simp (disch := omega) only [qq] | refine qy (q2k (l.getD i T0) _ _) fun _ => ?_ | refine qy (qp9 (l.getD i T0) _) fun _ => ?_ | refine qba  (q2k (l.getD i T0) _ _) ?_ | refine qba  (qp9 (l.getD i T0) _) ?_) <;> (try simp only [go_sem, ↓reduceIte, Nat.reduceEqDiff, Nat.reduceAdd, Nat.reduceSub, Nat.reduceMul, Nat.reduceLT, Nat.reduceLeDiff, reduceCtorEq, Int.reduceToNat])))
        · have g : qc0 (l.getD i T0) [[40], [123]] = true := by assumption
          rw [if_pos g] at i4
          refine qcq (i + 1, d + 1) [0] ⟨⟨by simp only; omega, by simp only; omega, by simp only; omega, i4⟩, by simp only; omega⟩ rfl (by simp) ?_ ?_ ?_ <;> (try simp only [go_sem, ↓reduceIte, Nat.reduceEqDiff, Nat.reduceAdd, Nat.reduceSub, Nat.reduceMul, Nat.reduceLT, Nat.reduceLeDiff, reduceCtorEq, Int.reduceToNat]) <;> (try simp (disch := omega) only [qq]) <;> (try rfl)
        · have g : ¬ qc0 (l.getD i T0) [[40], [123]] = true := qeo (by assumption)
          have g2 : qc0 (l.getD i T0) [[41], [125]] = true := by assumption
          rw [i4, if_neg g, if_pos g2, if_pos (by assumption)]
        · have g : ¬ qc0 (l.getD i T0) [[40], [123]] = true := qeo (by assumption)
          have g2 : qc0 (l.getD i T0) [[41], [125]] = true := by assumption
          rw [if_neg g, if_pos g2, if_neg (by assumption)] at i4
          refine qcq (i + 1, d - 1) [0] ⟨⟨by simp only; omega, by simp only; omega, by simp only; omega, i4⟩, by simp only; omega⟩ rfl (by simp) ?_ ?_ ?_ <;> (try simp only [go_sem, ↓reduceIte, Nat.reduceEqDiff, Nat.reduceAdd, Nat.reduceSub, Nat.reduceMul, Nat.reduceLT, Nat.reduceLeDiff, reduceCtorEq, Int.reduceToNat]) <;> (try simp (disch := omega) only [qq]) <;> (try rfl)
        · have g : ¬ qc0 (l.getD i T0) [[40], [123]] = true := qeo (by assumption)
          have g2 : ¬ qc0 (l.getD i T0) [[41], [125]] = true := qeo (by assumption)
          rw [if_neg g, if_neg g2, if_pos (by assumption)] at i4
          refine qcq (i + 1, d) [0] ⟨⟨by simp only; omega, by simp only; omega, by simp only; omega, i4⟩, by simp only; omega⟩ rfl (by simp) ?_ ?_ ?_ <;> (try simp only [go_sem, ↓reduceIte, Nat.reduceEqDiff, Nat.reduceAdd, Nat.reduceSub, Nat.reduceMul, Nat.reduceLT, Nat.reduceLeDiff, reduceCtorEq, Int.reduceToNat]) <;> (try simp (disch := omega) only [qq]) <;> (try rfl)
        · have g : ¬ qc0 (l.getD i T0) [[40], [123]] = true := qeo (by assumption)
          have g2 : ¬ qc0 (l.getD i T0) [[41], [125]] = true := qeo (by assumption)
          rw [i4, if_neg g, if_neg g2, if_neg (by assumption), if_pos (by assumption)]
        · have g : ¬ qc0 (l.getD i T0) [[40], [123]] = true := qeo (by assumption)
          have g2 : ¬ qc0 (l.getD i T0) [[41], [125]] = true := qeo (by assumption)
          have g3 : ¬ qes (l.getD i T0) [59] = true := qeo (by assumption)
          rw [i4, if_neg g, if_neg g2, if_neg (by assumption), if_neg g3, if_pos (by assumption)]
        · have g : ¬ qc0 (l.getD i T0) [[40], [123]] = true := qeo (by assumption)
          have g2 : ¬ qc0 (l.getD i T0) [[41], [125]] = true := qeo (by assumption)
          have g3 : ¬ qes (l.getD i T0) [59] = true := qeo (by assumption)
          have g4 : ¬ qes (l.getD i T0) x = true := qeo (by assumption)
          rw [if_neg g, if_neg g2, if_neg (by assumption), if_neg g3, if_neg g4] at i4
          refine qcq (i + 1, d) [0] ⟨⟨by simp only; omega, by simp only; omega, by simp only; omega, i4⟩, by simp only; omega⟩ rfl (by simp) ?_ ?_ ?_ <;> (try simp only [go_sem, ↓reduceIte, Nat.reduceEqDiff, Nat.reduceAdd, Nat.reduceSub, Nat.reduceMul, Nat.reduceLT, Nat.reduceLeDiff, reduceCtorEq, Int.reduceToNat]) <;> (try simp (disch := omega) only [qq]) <;> (try rfl)
      · have hil : ¬ (i : Int) < l.length := by omega
        rw [List.drop_of_length_le (by omega), qd7] at i4
        repeat' (first | refine ql ?_ | refine qk ?_ | ((first | refine qn ?_ | refine qcw (by rfl) ?_ | refine qb6 ?_ | refine qm ?_ | refine qz ?_ | refine qj ?_ | refine qi ?_) <;> (try simp (disch := first | omega | (simp only [List.length_set, List.length_append, List.length_cons, List.length_nil]; done) | (simp only [List.length_set, List.length_append, List.length_cons, List.length_nil]; omega)) only [hil, go_sem, ↓reduceIte, Nat.reduceEqDiff, Nat.reduceAdd, Nat.reduceSub, Nat.reduceMul, Nat.reduceLT, Nat.reduceLeDiff, reduceCtorEq, Int.reduceToNat])) | ((first | ((first | refine qf ?_ ?_ | refine qc ?_ ?_) <;> intro hc <;> (try simp only [hc]) <;> (try simp only [qb, qa, decide_eq_true_eq, decide_eq_false_iff_not, Bool.and_eq_true] at hc)) | refine And.intro (by first | assumption | omega | (have := qh (by assumption); omega) | (unfold qt; omega)) ?_ | simp (disch := omega) only [qd] | simp (disch := omega) only [qq]) <;> (try simp only [go_sem, ↓reduceIte, Nat.reduceEqDiff, Nat.reduceAdd, Nat.reduceSub, Nat.reduceMul, Nat.reduceLT, Nat.reduceLeDiff, reduceCtorEq, Int.reduceToNat])))
        rw [i4]
theorem q18 {c : K} {L : List Ent} {x : List UInt8} {Q : List Ent → VO → Prop} (hk : c.ok) (hl : c.l.length ≤ 1048577) (h : Q (curE c :: L) (.val (.bool (qgp c x)))) :
    VApp Try.prog (curE c :: L) (.fn 66 [] []) [.ptr 0 0, .str x] Q := qb0 (q1p c hk hl x) (qbk _ _) (qbk _ _) rfl rfl fun _ => h
end Go.Proofs.Ytmekebfgmjaenaa
