/- A text of this proof. -/
import Derived.Test.YtmekebfgmjaenaaRaw

/- the cursor: words of a kind; what stands ahead -/
set_option maxRecDepth 4000
namespace Go.Proofs.Ytmekebfgmjaenaa
open Go Go.RowKit Go.V
set_option linter.unusedVariables false
set_option linter.unusedSimpArgs false

def kindK (c : K) (k : Int) : K × Bool := if (decide (c.err = 0) && decide ((qw c).kind = k)) = true then (qt c, true) else (qee c 5, false)
def qg9 (c : K) (k : Int) : T := if (kindK c k).2 = true then qw c else T0
theorem qmq {c : K} {k : Int} (h1 : c.err = 0) (h2 : (qw c).kind = k) : kindK c k = (qt c, true) := by rw [kindK, decide_eq_true h1, decide_eq_true h2]; rfl
theorem q2m {c : K} {k : Int} (h2 : ¬ (qw c).kind = k) : kindK c k = (qee c 5, false) := by rw [kindK, decide_eq_false h2, Bool.and_false]; rfl
theorem qts {c : K} {k : Int} (h1 : ¬ c.err = 0) : kindK c k = (qee c 5, false) := by rw [kindK, decide_eq_false h1]; rfl
theorem qqh {c : K} {k : Int} (h1 : c.err = 0) (h2 : (qw c).kind = k) : qg9 c k = qw c := by rw [qg9, qmq h1 h2]; rfl
theorem qbag {c : K} {k : Int} (h2 : ¬ (qw c).kind = k) : qg9 c k = T0 := by rw [qg9, q2m h2]; rfl
theorem qbh3 {c : K} {k : Int} (h1 : ¬ c.err = 0) : qg9 c k = T0 := by rw [qg9, qts h1]; rfl
theorem q41 (c : K) (hk : c.ok) (k : Int) : qb8 Try.prog 55 (curE c) (curE (kindK c k).1) [.ptr 0 0, .int .i64 k] (.tup [encT (qg9 c k), .bool (kindK c k).2]) := by
  refine q7 c0cn 1 (by simp) (by simp) ?_
  repeat' (first | refine ql ?_ | ((first | refine qn ?_ | refine qm ?_ | refine qj ?_ | refine qi ?_ | refine qfx ?_ | refine qc5 ?_ | refine qo9 ?_ | refine qhk hk ?_ | ((first | refine qf ?_ ?_ | refine qc ?_ ?_) <;> intro hc <;> (try simp only [hc]) <;> (try simp only [qb, qa, decide_eq_true_eq, decide_eq_false_iff_not, Bool.and_eq_true] at hc)) | refine And.intro (by first | assumption | omega | (have := qh (by assumption); omega) | (unfold qs; omega)) ?_ | simp (disch := omega) only [qd] | simp (disch := omega) only [qr]) <;> (try simp only [go_sem, ↓reduceIte, Nat.reduceEqDiff, Nat.reduceAdd, Nat.reduceSub, Nat.reduceMul, Nat.reduceLT, Nat.reduceLeDiff, reduceCtorEq, Int.reduceToNat])))
  · rw [qts (qge (by assumption)), qbh3 (qge (by assumption))]; exact ⟨rfl, rfl⟩
  · rw [q2m (by assumption), qbag (by assumption)]; exact ⟨rfl, rfl⟩
  · rw [qmq (qf3 (by assumption)) (by assumption), qqh (qf3 (by assumption)) (by assumption)]; exact ⟨rfl, rfl⟩
theorem qpc {c : K} {L : List Ent} {k : Int} {Q : List Ent → VO → Prop} (hk : c.ok) (h : Q (curE (kindK c k).1 :: L) (.val (.tup [encT (qg9 c k), .bool (kindK c k).2]))) :
    VApp Try.prog (curE c :: L) (.fn 55 [] []) [.ptr 0 0, .int .i64 k] Q := qbw (q41 c hk k) (qbf _ _) (qbf _ _) rfl rfl fun _ => h
/-- Whether a word stands ahead at the same depth of brackets. -/
def qd3 (x : List UInt8) : List T → Int → Bool
  | [], _ => false
  | t :: r, d =>
    if qcx t [[40], [123]] = true then qd3 x r (d + 1)
    else if qcx t [[41], [125]] = true then (if d - 1 < 0 then false else qd3 x r (d - 1))
    else if 0 < d then qd3 x r d
    else if qe6 t [59] = true then false
    else if qe6 t x = true then true
    else qd3 x r d
def qgh (c : K) (x : List UInt8) : Bool := if c.err = 0 then qd3 x (c.l.drop c.at') 0 else false
theorem qy3 (t : T) (x y : List UInt8) : qda Try.prog 54 [encT t, .sl 1 [.str x, .str y]] (.bool (qcx t [x, y])) := qze t [x, y]
theorem qbqn {d : Int} (h0 : -1 ≤ d) (h1 : d ≤ 2000000) : IntKind.i64.wrap d = d := by
  simp [IntKind.wrap, IntKind.signed, IntKind.bits]
  omega
theorem qel {b : Bool} (h : b = false) : ¬ b = true := by rw [h]; simp
theorem q2e (c : K) (hk : c.ok) (hl : c.l.length ≤ 1048577) (x : List UInt8) : qb8 Try.prog 66 (curE c) (curE c) [.ptr 0 0, .str x] (.bool (qgh c x)) := by
  refine q7 c0co 1 (by simp) (by simp) ?_
  have hmx : (1048577 : Nat) ≤ maxLen := by unfold maxLen; omega
  have h1 := hk.1
  obtain ⟨l, hll⟩ : ∃ l, l = c.l.drop c.at' := ⟨_, rfl⟩
  have hln : l.length = c.l.length - c.at' := by rw [hll, List.length_drop]
  repeat' (first | refine ql ?_ | refine qk ?_ | ((first | refine qn ?_ | refine qcr (by rfl) ?_ | refine qb4 ?_ | refine qm ?_ | refine qz ?_ | refine qj ?_ | refine qi ?_ | refine qfx ?_ | ((first | refine qf ?_ ?_ | refine qc ?_ ?_) <;> intro hc <;> (try simp only [hc]) <;> (try simp only [qb, qa, decide_eq_true_eq, decide_eq_false_iff_not, Bool.and_eq_true] at hc)) | refine And.intro (by first | assumption | omega | (have := qh (by assumption); omega) | (unfold qs; omega)) ?_ | simp (disch := omega) only [qd] | simp (disch := omega) only [qr]) <;> (try simp only [go_sem, ↓reduceIte, Nat.reduceEqDiff, Nat.reduceAdd, Nat.reduceSub, Nat.reduceMul, Nat.reduceLT, Nat.reduceLeDiff, reduceCtorEq, Int.reduceToNat])))
  · rw [qgh, if_neg (qge (by assumption))]
  · rw [qgh, if_pos (qf3 (by assumption)), ← hll]
    refine qc7 (S := Nat × Int) (fun y => y.1 ≤ l.length ∧ 0 ≤ y.2 ∧ y.2 ≤ y.1 ∧ qd3 x l 0 = qd3 x (l.drop y.1) y.2)
      (fun y => (⟨[(1, .str x), (5, .int .i64 y.2), (18, .sl 4 (qde l)), (19, .int .i64 l.length), (20, .int .i64 y.1)], []⟩, [curE c])) (fun y => l.length - y.1) ?_ ?_
    · refine qcq (0, 0) [0] ⟨Nat.zero_le _, Int.le_refl _, Int.le_refl _, rfl⟩ rfl (by simp) ?_ ?_ ?_ <;> (try simp only [go_sem, ↓reduceIte, Nat.reduceEqDiff, Nat.reduceAdd, Nat.reduceSub, Nat.reduceMul, Nat.reduceLT, Nat.reduceLeDiff, reduceCtorEq, Int.reduceToNat]) <;> (try simp (disch := omega) only [qr])
    · rintro ⟨i, d⟩ ⟨i1, i2, i3, i4⟩
      simp only at i1 i2 i3 i4
      by_cases hlt : i < l.length
      · have hil : (i : Int) < l.length := by omega
        rw [qbbx hlt, qd3] at i4
        have hT : AV.agg [.int .i64 (l.getD i T0).kind, .int .i64 (l.getD i T0).pos, .int .i64 (l.getD i T0).num, .str (l.getD i T0).text] = encT (l.getD i T0) := rfl
        repeat' (first | refine ql ?_ | refine qk ?_ | ((first | refine qn ?_ | refine qcr (by rfl) ?_ | refine qb4 ?_ | refine qm ?_ | refine qz ?_ | refine qj ?_ | refine qi ?_) <;> (try simp (disch := first | omega | (simp only [List.length_set, List.length_append, List.length_cons, List.length_nil]; done) | (simp only [List.length_set, List.length_append, List.length_cons, List.length_nil]; omega)) only [hil, qbqn, go_sem, ↓reduceIte, Nat.reduceEqDiff, Nat.reduceAdd, Nat.reduceSub, Nat.reduceMul, Nat.reduceLT, Nat.reduceLeDiff, reduceCtorEq, Int.reduceToNat])) | ((first | simp (disch := omega) only [qfd] | ((first | refine qf ?_ ?_ | refine qc ?_ ?_) <;> intro hc <;> (try simp only [hc]) <;> (try simp only [qb, qa, decide_eq_true_eq, decide_eq_false_iff_not, Bool.and_eq_true] at hc)) | refine And.intro (by first | assumption | omega | (have := qh (by assumption); omega) | (unfold qs; omega)) ?_ | simp (disch := omega) only [qd] | simp (disch := omega) only [qr] | refine qx (qy3 (l.getD i T0) _ _) fun _ => ?_ | refine qx (qp0 (l.getD i T0) _) fun _ => ?_ | refine qba  (qy3 (l.getD i T0) _ _) ?_ | refine qba  (qp0 (l.getD i T0) _) ?_) <;> (try simp only [go_sem, ↓reduceIte, Nat.reduceEqDiff, Nat.reduceAdd, Nat.reduceSub, Nat.reduceMul, Nat.reduceLT, Nat.reduceLeDiff, reduceCtorEq, Int.reduceToNat])))
        · have g : qcx (l.getD i T0) [[40], [123]] = true := by assumption
          rw [if_pos g] at i4
          refine qcq (i + 1, d + 1) [0] ⟨⟨by simp only; omega, by simp only; omega, by simp only; omega, i4⟩, by simp only; omega⟩ rfl (by simp) ?_ ?_ ?_ <;> (try simp only [go_sem, ↓reduceIte, Nat.reduceEqDiff, Nat.reduceAdd, Nat.reduceSub, Nat.reduceMul, Nat.reduceLT, Nat.reduceLeDiff, reduceCtorEq, Int.reduceToNat]) <;> (try simp (disch := omega) only [qr]) <;> (try rfl)
        · have g : ¬ qcx (l.getD i T0) [[40], [123]] = true := qel (by assumption)
          have g2 : qcx (l.getD i T0) [[41], [125]] = true := by assumption
          rw [i4, if_neg g, if_pos g2, if_pos (by assumption)]
        · have g : ¬ qcx (l.getD i T0) [[40], [123]] = true := qel (by assumption)
          have g2 : qcx (l.getD i T0) [[41], [125]] = true := by assumption
          rw [if_neg g, if_pos g2, if_neg (by assumption)] at i4
          refine qcq (i + 1, d - 1) [0] ⟨⟨by simp only; omega, by simp only; omega, by simp only; omega, i4⟩, by simp only; omega⟩ rfl (by simp) ?_ ?_ ?_ <;> (try simp only [go_sem, ↓reduceIte, Nat.reduceEqDiff, Nat.reduceAdd, Nat.reduceSub, Nat.reduceMul, Nat.reduceLT, Nat.reduceLeDiff, reduceCtorEq, Int.reduceToNat]) <;> (try simp (disch := omega) only [qr]) <;> (try rfl)
        · have g : ¬ qcx (l.getD i T0) [[40], [123]] = true := qel (by assumption)
          have g2 : ¬ qcx (l.getD i T0) [[41], [125]] = true := qel (by assumption)
          rw [if_neg g, if_neg g2, if_pos (by assumption)] at i4
          refine qcq (i + 1, d) [0] ⟨⟨by simp only; omega, by simp only; omega, by simp only; omega, i4⟩, by simp only; omega⟩ rfl (by simp) ?_ ?_ ?_ <;> (try simp only [go_sem, ↓reduceIte, Nat.reduceEqDiff, Nat.reduceAdd, Nat.reduceSub, Nat.reduceMul, Nat.reduceLT, Nat.reduceLeDiff, reduceCtorEq, Int.reduceToNat]) <;> (try simp (disch := omega) only [qr]) <;> (try rfl)
        · have g : ¬ qcx (l.getD i T0) [[40], [123]] = true := qel (by assumption)
          have g2 : ¬ qcx (l.getD i T0) [[41], [125]] = true := qel (by assumption)
          rw [i4, if_neg g, if_neg g2, if_neg (by assumption), if_pos (by assumption)]
        · have g : ¬ qcx (l.getD i T0) [[40], [123]] = true := qel (by assumption)
          have g2 : ¬ qcx (l.getD i T0) [[41], [125]] = true := qel (by assumption)
          have g3 : ¬ qe6 (l.getD i T0) [59] = true := qel (by assumption)
          rw [i4, if_neg g, if_neg g2, if_neg (by assumption), if_neg g3, if_pos (by assumption)]
        · have g : ¬ qcx (l.getD i T0) [[40], [123]] = true := qel (by assumption)
          have g2 : ¬ qcx (l.getD i T0) [[41], [125]] = true := qel (by assumption)
          have g3 : ¬ qe6 (l.getD i T0) [59] = true := qel (by assumption)
          have g4 : ¬ qe6 (l.getD i T0) x = true := qel (by assumption)
          rw [if_neg g, if_neg g2, if_neg (by assumption), if_neg g3, if_neg g4] at i4
          refine qcq (i + 1, d) [0] ⟨⟨by simp only; omega, by simp only; omega, by simp only; omega, i4⟩, by simp only; omega⟩ rfl (by simp) ?_ ?_ ?_ <;> (try simp only [go_sem, ↓reduceIte, Nat.reduceEqDiff, Nat.reduceAdd, Nat.reduceSub, Nat.reduceMul, Nat.reduceLT, Nat.reduceLeDiff, reduceCtorEq, Int.reduceToNat]) <;> (try simp (disch := omega) only [qr]) <;> (try rfl)
      · have hil : ¬ (i : Int) < l.length := by omega
        rw [List.drop_of_length_le (by omega), qd3] at i4
        repeat' (first | refine ql ?_ | refine qk ?_ | ((first | refine qn ?_ | refine qcr (by rfl) ?_ | refine qb4 ?_ | refine qm ?_ | refine qz ?_ | refine qj ?_ | refine qi ?_) <;> (try simp (disch := first | omega | (simp only [List.length_set, List.length_append, List.length_cons, List.length_nil]; done) | (simp only [List.length_set, List.length_append, List.length_cons, List.length_nil]; omega)) only [hil, go_sem, ↓reduceIte, Nat.reduceEqDiff, Nat.reduceAdd, Nat.reduceSub, Nat.reduceMul, Nat.reduceLT, Nat.reduceLeDiff, reduceCtorEq, Int.reduceToNat])) | ((first | ((first | refine qf ?_ ?_ | refine qc ?_ ?_) <;> intro hc <;> (try simp only [hc]) <;> (try simp only [qb, qa, decide_eq_true_eq, decide_eq_false_iff_not, Bool.and_eq_true] at hc)) | refine And.intro (by first | assumption | omega | (have := qh (by assumption); omega) | (unfold qs; omega)) ?_ | simp (disch := omega) only [qd] | simp (disch := omega) only [qr]) <;> (try simp only [go_sem, ↓reduceIte, Nat.reduceEqDiff, Nat.reduceAdd, Nat.reduceSub, Nat.reduceMul, Nat.reduceLT, Nat.reduceLeDiff, reduceCtorEq, Int.reduceToNat])))
        rw [i4]
theorem q15 {c : K} {L : List Ent} {x : List UInt8} {Q : List Ent → VO → Prop} (hk : c.ok) (hl : c.l.length ≤ 1048577) (h : Q (curE c :: L) (.val (.bool (qgh c x)))) :
    VApp Try.prog (curE c :: L) (.fn 66 [] []) [.ptr 0 0, .str x] Q := qbw (q2e c hk hl x) (qbf _ _) (qbf _ _) rfl rfl fun _ => h
end Go.Proofs.Ytmekebfgmjaenaa
