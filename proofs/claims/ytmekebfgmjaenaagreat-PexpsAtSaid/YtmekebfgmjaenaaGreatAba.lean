/- A text of this proof. -/
import Derived.Test.YtmekebfgmjaenaaGreatAaw

/- the cursor: words of a kind; what stands ahead -/
set_option maxRecDepth 4000
namespace Go.Proofs.YtmekebfgmjaenaaGreat
open Go Go.RowKit Go.V
set_option linter.unusedVariables false
set_option linter.unusedSimpArgs false

def qbk (c : K) (k : Int) : K × Bool := if (decide (c.err = 0) && decide ((qbc c).kind = k)) = true then (q8 c, true) else (qfc c 5, false)
def qh9 (c : K) (k : Int) : T := if (qbk c k).2 = true then qbc c else T0
theorem qqc {c : K} {k : Int} (h1 : c.err = 0) (h2 : (qbc c).kind = k) : qbk c k = (q8 c, true) := by rw [qbk, decide_eq_true h1, decide_eq_true h2]; rfl
theorem qu4 {c : K} {k : Int} (h2 : ¬ (qbc c).kind = k) : qbk c k = (qfc c 5, false) := by rw [qbk, decide_eq_false h2, Bool.and_false]; rfl
theorem qp4 {c : K} {k : Int} (h1 : ¬ c.err = 0) : qbk c k = (qfc c 5, false) := by rw [qbk, decide_eq_false h1]; rfl
theorem quz {c : K} {k : Int} (h1 : c.err = 0) (h2 : (qbc c).kind = k) : qh9 c k = qbc c := by rw [qh9, qqc h1 h2]; rfl
theorem qz6 {c : K} {k : Int} (h2 : ¬ (qbc c).kind = k) : qh9 c k = T0 := by rw [qh9, qu4 h2]; rfl
theorem q3a {c : K} {k : Int} (h1 : ¬ c.err = 0) : qh9 c k = T0 := by rw [qh9, qp4 h1]; rfl
theorem q5v (c : K) (hk : c.ok) (k : Int) : qco Tryz.prog 20 (curE c) (curE (qbk c k).1) [.ptr 0 0, .int .i64 k] (.tup [encT (qh9 c k), .bool (qbk c k).2]) := by
  refine qbd c0dx 1 (by simp) (by simp) ?_
  repeat' (first | refine ql ?_ | ((first | refine qn ?_ | refine qm ?_ | refine qj ?_ | refine qi ?_ | refine qgv ?_ | refine qdt ?_ | refine qpk ?_ | refine qin hk ?_); simp only [go_sem, ↓reduceIte, Nat.reduceEqDiff, Nat.reduceAdd, Nat.reduceSub, Nat.reduceMul, Nat.reduceLT, Nat.reduceLeDiff, reduceCtorEq, Int.reduceToNat]) | ((first | refine qf ?_ ?_ | refine qd ?_ ?_) <;> intro hc <;> simp only [hc, go_sem, ↓reduceIte, Nat.reduceEqDiff, Nat.reduceAdd, Nat.reduceSub, Nat.reduceMul, Nat.reduceLT, Nat.reduceLeDiff, reduceCtorEq, Int.reduceToNat] <;> (try simp only [qb, qa, decide_eq_true_eq, decide_eq_false_iff_not, Bool.and_eq_true] at hc)) | refine And.intro (by first | assumption | omega | (have := qg (by assumption); omega) | (unfold qq; omega)) ?_ | fail)
  · rw [qp4 (qhb (by assumption)), q3a (qhb (by assumption))]; exact ⟨rfl, rfl⟩
  · rw [qu4 (by assumption), qz6 (by assumption)]; exact ⟨rfl, rfl⟩
  · rw [qqc (qg1 (by assumption)) (by assumption), quz (qg1 (by assumption)) (by assumption)]; exact ⟨rfl, rfl⟩
theorem qpv {c : K} {L : List Ent} {k : Int} {Q : List Ent → VO → Prop} (hk : c.ok) (h : Q (curE (qbk c k).1 :: L) (.val (.tup [encT (qh9 c k), .bool (qbk c k).2]))) :
    VApp Tryz.prog (curE c :: L) (.fn 20 [] []) [.ptr 0 0, .int .i64 k] Q := qb2 (q5v c hk k) (qbh _ _) (qbh _ _) rfl rfl fun _ => h
theorem qgd (c : K) (k : Int) : qbp Tryz.prog 24 [refC c, .int .i64 k] (.tup [refC (qbk c k).1, encT (qh9 c k), .bool (qbk c k).2]) := by
  refine qba c0dy (by simp) (by simp only [go_sem]) (by simp only [go_sem]) fun hw => ?_
  repeat' (first | refine ql ?_ | ((first | refine qn ?_ | refine qx (by rfl) ?_ | refine qw ?_ | refine qm ?_ | refine qj ?_ | refine qi ?_ | refine qc (qt c) fun _ => ?_ | refine qc (qcz c _) fun _ => ?_ | refine qc (qcc c) fun _ => ?_ | refine qe  (qt c) ?_ | refine qe  (qcz c _) ?_ | refine qe  (qcc c) ?_); simp only [go_sem, ↓reduceIte, Nat.reduceEqDiff, Nat.reduceAdd, Nat.reduceSub, Nat.reduceMul, Nat.reduceLT, Nat.reduceLeDiff, reduceCtorEq, Int.reduceToNat]) | ((first | refine qf ?_ ?_ | refine qd ?_ ?_) <;> intro hc <;> simp only [hc, go_sem, ↓reduceIte, Nat.reduceEqDiff, Nat.reduceAdd, Nat.reduceSub, Nat.reduceMul, Nat.reduceLT, Nat.reduceLeDiff, reduceCtorEq, Int.reduceToNat] <;> (try simp only [qb, qa, decide_eq_true_eq, decide_eq_false_iff_not, Bool.and_eq_true] at hc)) | refine And.intro (by first | assumption | omega | (have := qg (by assumption); omega) | (unfold qq; omega)) ?_ | fail)
  · rw [qp4 (by assumption), q3a (by assumption)]; rfl
  · rw [qu4 (by assumption), qz6 (by assumption)]; rfl
  · rw [qqc (by assumption) (by assumption), quz (by assumption) (by assumption)]
/-- Whether a word stands ahead at the same depth of brackets. -/
def qg0 (x : List UInt8) : List T → Int → Bool
  | [], _ => false
  | t :: r, d =>
    if qdo t [[40], [123]] = true then qg0 x r (d + 1)
    else if qdo t [[41], [125]] = true then (if d - 1 < 0 then false else qg0 x r (d - 1))
    else if 0 < d then qg0 x r d
    else if qh3 t [59] = true then false
    else if qh3 t x = true then true
    else qg0 x r d
def qhz (c : K) (x : List UInt8) : Bool := if c.err = 0 then qg0 x (c.l.drop c.at') 0 else false
theorem q1c (t : T) (x y : List UInt8) : qbp Tryz.prog 79 [encT t, .sl 1 [.str x, .str y]] (.bool (qdo t [x, y])) := q3f t [x, y]
theorem q4g {d : Int} (h0 : -1 ≤ d) (h1 : d ≤ 2000000) : IntKind.i64.wrap d = d := by
  simp [IntKind.wrap, IntKind.signed, IntKind.bits]
  omega
theorem qfn {b : Bool} (h : b = false) : ¬ b = true := by rw [h]; simp
theorem q2i (c : K) (hk : c.ok) (hl : c.l.length ≤ 1048577) (x : List UInt8) : qco Tryz.prog 80 (curE c) (curE c) [.ptr 0 0, .str x] (.bool (qhz c x)) := by
  refine qbd c0dz 1 (by simp) (by simp) ?_
  have hmx : (1048577 : Nat) ≤ maxLen := by unfold maxLen; omega
  have h1 := hk.1
  obtain ⟨l, hll⟩ : ∃ l, l = c.l.drop c.at' := ⟨_, rfl⟩
  have hln : l.length = c.l.length - c.at' := by rw [hll, List.length_drop]
  repeat' (first | refine ql ?_ | refine qk ?_ | ((first | refine qn ?_ | refine qx (by rfl) ?_ | refine qw ?_ | refine qm ?_ | refine qs ?_ | refine qj ?_ | refine qi ?_ | refine qgv ?_); simp only [go_sem, ↓reduceIte, Nat.reduceEqDiff, Nat.reduceAdd, Nat.reduceSub, Nat.reduceMul, Nat.reduceLT, Nat.reduceLeDiff, reduceCtorEq, Int.reduceToNat]) | ((first | refine qf ?_ ?_ | refine qd ?_ ?_) <;> intro hc <;> simp only [hc, go_sem, ↓reduceIte, Nat.reduceEqDiff, Nat.reduceAdd, Nat.reduceSub, Nat.reduceMul, Nat.reduceLT, Nat.reduceLeDiff, reduceCtorEq, Int.reduceToNat] <;> (try simp only [qb, qa, decide_eq_true_eq, decide_eq_false_iff_not, Bool.and_eq_true] at hc)) | refine And.intro (by first | assumption | omega | (have := qg (by assumption); omega) | (unfold qq; omega)) ?_ | ((first | simp (disch := omega) only [qv] | simp (disch := omega) only [qbe]); (try simp only [go_sem, ↓reduceIte, Nat.reduceEqDiff, Nat.reduceAdd, Nat.reduceSub, Nat.reduceMul, Nat.reduceLT, Nat.reduceLeDiff, reduceCtorEq, Int.reduceToNat])))
  · rw [qhz, if_neg (qhb (by assumption))]
  · rw [qhz, if_pos (qg1 (by assumption)), ← hll]
    refine qca (S := Nat × Int) (fun y => y.1 ≤ l.length ∧ 0 ≤ y.2 ∧ y.2 ≤ y.1 ∧ qg0 x l 0 = qg0 x (l.drop y.1) y.2)
      (fun y => (⟨[(1, .str x), (5, .int .i64 y.2), (18, .sl 4 (qcy l)), (19, .int .i64 l.length), (20, .int .i64 y.1)], []⟩, [curE c])) (fun y => l.length - y.1) ?_ ?_
    · refine qbq (0, 0) [0] ⟨Nat.zero_le _, Int.le_refl _, Int.le_refl _, rfl⟩ rfl (by simp) ?_ ?_ ?_ <;> (try simp only [go_sem, ↓reduceIte, Nat.reduceEqDiff, Nat.reduceAdd, Nat.reduceSub, Nat.reduceMul, Nat.reduceLT, Nat.reduceLeDiff, reduceCtorEq, Int.reduceToNat]) <;> (try simp (disch := omega) only [qbe])
    · rintro ⟨i, d⟩ ⟨i1, i2, i3, i4⟩
      simp only at i1 i2 i3 i4
      by_cases hlt : i < l.length
      · have hil : (i : Int) < l.length := by omega
        rw [q6v hlt, qg0] at i4
        have hT : AV.agg [.int .i64 (l.getD i T0).kind, .int .i64 (l.getD i T0).pos, .int .i64 (l.getD i T0).num, .str (l.getD i T0).text] = encT (l.getD i T0) := rfl
        repeat' (first | refine ql ?_ | refine qk ?_ | ((first | refine qn ?_ | refine qx (by rfl) ?_ | refine qw ?_ | refine qm ?_ | refine qs ?_ | refine qj ?_ | refine qi ?_); simp (disch := first | omega | (simp only [List.length_set, List.length_append, List.length_cons, List.length_nil]; done) | (simp only [List.length_set, List.length_append, List.length_cons, List.length_nil]; omega)) only [hil, q4g, go_sem, ↓reduceIte, Nat.reduceEqDiff, Nat.reduceAdd, Nat.reduceSub, Nat.reduceMul, Nat.reduceLT, Nat.reduceLeDiff, reduceCtorEq, Int.reduceToNat]) | ((first | simp (disch := omega) only [qdr]); (try simp only [go_sem, ↓reduceIte, Nat.reduceEqDiff, Nat.reduceAdd, Nat.reduceSub, Nat.reduceMul, Nat.reduceLT, Nat.reduceLeDiff, reduceCtorEq, Int.reduceToNat])) | ((first | refine qf ?_ ?_ | refine qd ?_ ?_) <;> intro hc <;> simp only [hc, go_sem, ↓reduceIte, Nat.reduceEqDiff, Nat.reduceAdd, Nat.reduceSub, Nat.reduceMul, Nat.reduceLT, Nat.reduceLeDiff, reduceCtorEq, Int.reduceToNat] <;> (try simp only [qb, qa, decide_eq_true_eq, decide_eq_false_iff_not, Bool.and_eq_true] at hc)) | refine And.intro (by first | assumption | omega | (have := qg (by assumption); omega) | (unfold qq; omega)) ?_ | ((first | simp (disch := omega) only [qv] | simp (disch := omega) only [qbe]); (try simp only [go_sem, ↓reduceIte, Nat.reduceEqDiff, Nat.reduceAdd, Nat.reduceSub, Nat.reduceMul, Nat.reduceLT, Nat.reduceLeDiff, reduceCtorEq, Int.reduceToNat])) | ((first | refine qc (q1c (l.getD i T0) _ _) fun _ => ?_ | refine qc (qqb (l.getD i T0) _) fun _ => ?_ | refine qe  (q1c (l.getD i T0) _ _) ?_ | refine qe  (qqb (l.getD i T0) _) ?_); simp only [go_sem, ↓reduceIte, Nat.reduceEqDiff, Nat.reduceAdd, Nat.reduceSub, Nat.reduceMul, Nat.reduceLT, Nat.reduceLeDiff, reduceCtorEq, Int.reduceToNat]))
        · have g : qdo (l.getD i T0) [[40], [123]] = true := by assumption
          rw [if_pos g] at i4
          refine qbq (i + 1, d + 1) [0] ⟨⟨by simp only; omega, by simp only; omega, by simp only; omega, i4⟩, by simp only; omega⟩ rfl (by simp) ?_ ?_ ?_ <;> (try simp only [go_sem, ↓reduceIte, Nat.reduceEqDiff, Nat.reduceAdd, Nat.reduceSub, Nat.reduceMul, Nat.reduceLT, Nat.reduceLeDiff, reduceCtorEq, Int.reduceToNat]) <;> (try simp (disch := omega) only [qbe]) <;> (try rfl)
        · have g : ¬ qdo (l.getD i T0) [[40], [123]] = true := qfn (by assumption)
          have g2 : qdo (l.getD i T0) [[41], [125]] = true := by assumption
          rw [i4, if_neg g, if_pos g2, if_pos (by assumption)]
        · have g : ¬ qdo (l.getD i T0) [[40], [123]] = true := qfn (by assumption)
          have g2 : qdo (l.getD i T0) [[41], [125]] = true := by assumption
          rw [if_neg g, if_pos g2, if_neg (by assumption)] at i4
          refine qbq (i + 1, d - 1) [0] ⟨⟨by simp only; omega, by simp only; omega, by simp only; omega, i4⟩, by simp only; omega⟩ rfl (by simp) ?_ ?_ ?_ <;> (try simp only [go_sem, ↓reduceIte, Nat.reduceEqDiff, Nat.reduceAdd, Nat.reduceSub, Nat.reduceMul, Nat.reduceLT, Nat.reduceLeDiff, reduceCtorEq, Int.reduceToNat]) <;> (try simp (disch := omega) only [qbe]) <;> (try rfl)
        · have g : ¬ qdo (l.getD i T0) [[40], [123]] = true := qfn (by assumption)
          have g2 : ¬ qdo (l.getD i T0) [[41], [125]] = true := qfn (by assumption)
          rw [if_neg g, if_neg g2, if_pos (by assumption)] at i4
          refine qbq (i + 1, d) [0] ⟨⟨by simp only; omega, by simp only; omega, by simp only; omega, i4⟩, by simp only; omega⟩ rfl (by simp) ?_ ?_ ?_ <;> (try simp only [go_sem, ↓reduceIte, Nat.reduceEqDiff, Nat.reduceAdd, Nat.reduceSub, Nat.reduceMul, Nat.reduceLT, Nat.reduceLeDiff, reduceCtorEq, Int.reduceToNat]) <;> (try simp (disch := omega) only [qbe]) <;> (try rfl)
        · have g : ¬ qdo (l.getD i T0) [[40], [123]] = true := qfn (by assumption)
          have g2 : ¬ qdo (l.getD i T0) [[41], [125]] = true := qfn (by assumption)
          rw [i4, if_neg g, if_neg g2, if_neg (by assumption), if_pos (by assumption)]
        · have g : ¬ qdo (l.getD i T0) [[40], [123]] = true := qfn (by assumption)
          have g2 : ¬ qdo (l.getD i T0) [[41], [125]] = true := qfn (by assumption)
          have g3 : ¬ qh3 (l.getD i T0) [59] = true := qfn (by assumption)
          rw [i4, if_neg g, if_neg g2, if_neg (by assumption), if_neg g3, if_pos (by assumption)]
        · have g : ¬ qdo (l.getD i T0) [[40], [123]] = true := qfn (by assumption)
          have g2 : ¬ qdo (l.getD i T0) [[41], [125]] = true := qfn (by assumption)
          have g3 : ¬ qh3 (l.getD i T0) [59] = true := qfn (by assumption)
          have g4 : ¬ qh3 (l.getD i T0) x = true := qfn (by assumption)
          rw [if_neg g, if_neg g2, if_neg (by assumption), if_neg g3, if_neg g4] at i4
          refine qbq (i + 1, d) [0] ⟨⟨by simp only; omega, by simp only; omega, by simp only; omega, i4⟩, by simp only; omega⟩ rfl (by simp) ?_ ?_ ?_ <;> (try simp only [go_sem, ↓reduceIte, Nat.reduceEqDiff, Nat.reduceAdd, Nat.reduceSub, Nat.reduceMul, Nat.reduceLT, Nat.reduceLeDiff, reduceCtorEq, Int.reduceToNat]) <;> (try simp (disch := omega) only [qbe]) <;> (try rfl)
      · have hil : ¬ (i : Int) < l.length := by omega
        rw [List.drop_of_length_le (by omega), qg0] at i4
        repeat' (first | refine ql ?_ | refine qk ?_ | ((first | refine qn ?_ | refine qx (by rfl) ?_ | refine qw ?_ | refine qm ?_ | refine qs ?_ | refine qj ?_ | refine qi ?_); simp (disch := first | omega | (simp only [List.length_set, List.length_append, List.length_cons, List.length_nil]; done) | (simp only [List.length_set, List.length_append, List.length_cons, List.length_nil]; omega)) only [hil, go_sem, ↓reduceIte, Nat.reduceEqDiff, Nat.reduceAdd, Nat.reduceSub, Nat.reduceMul, Nat.reduceLT, Nat.reduceLeDiff, reduceCtorEq, Int.reduceToNat]) | ((first | refine qf ?_ ?_ | refine qd ?_ ?_) <;> intro hc <;> simp only [hc, go_sem, ↓reduceIte, Nat.reduceEqDiff, Nat.reduceAdd, Nat.reduceSub, Nat.reduceMul, Nat.reduceLT, Nat.reduceLeDiff, reduceCtorEq, Int.reduceToNat] <;> (try simp only [qb, qa, decide_eq_true_eq, decide_eq_false_iff_not, Bool.and_eq_true] at hc)) | refine And.intro (by first | assumption | omega | (have := qg (by assumption); omega) | (unfold qq; omega)) ?_ | ((first | simp (disch := omega) only [qv] | simp (disch := omega) only [qbe]); (try simp only [go_sem, ↓reduceIte, Nat.reduceEqDiff, Nat.reduceAdd, Nat.reduceSub, Nat.reduceMul, Nat.reduceLT, Nat.reduceLeDiff, reduceCtorEq, Int.reduceToNat])))
        rw [i4]
theorem q04 {c : K} {L : List Ent} {x : List UInt8} {Q : List Ent → VO → Prop} (hk : c.ok) (hl : c.l.length ≤ 1048577) (h : Q (curE c :: L) (.val (.bool (qhz c x)))) :
    VApp Tryz.prog (curE c :: L) (.fn 80 [] []) [.ptr 0 0, .str x] Q := qb2 (q2i c hk hl x) (qbh _ _) (qbh _ _) rfl rfl fun _ => h
theorem qed (c : K) (hl : c.l.length ≤ 1048577) (x : List UInt8) : qbp Tryz.prog 85 [refC c, .str x] (.bool (qhz c x)) := by
  refine qba c0ea (by simp) (by simp only [go_sem]) rfl fun hw => ?_
  have hmx : (1048577 : Nat) ≤ maxLen := by unfold maxLen; omega
  obtain ⟨l, hll⟩ : ∃ l, l = c.l.drop c.at' := ⟨_, rfl⟩
  have hln : l.length = c.l.length - c.at' := by rw [hll, List.length_drop]
  unfold refC
  rw [← hll]
  have hws : ∀ (t : T) (a b : List UInt8), qdo t [a, b] = (qh3 t a || qh3 t b) := fun t a b => by
    unfold qdo qh3
    have hd : ∀ a : List UInt8, (t.text == a) = decide (t.text = a) := fun a => by
      by_cases h : t.text = a
      · rw [decide_eq_true h]; simpa using h
      · rw [decide_eq_false h]; simpa using h
    simp only [List.contains_cons, List.contains_nil, Bool.or_false, Bool.and_or_distrib_left, hd]
  repeat' (first | refine ql ?_ | refine qk ?_ | ((first | refine qn ?_ | refine qm ?_ | refine qs ?_ | refine qj ?_ | refine qi ?_); simp only [go_sem, ↓reduceIte, Nat.reduceEqDiff, Nat.reduceAdd, Nat.reduceSub, Nat.reduceMul, Nat.reduceLT, Nat.reduceLeDiff, reduceCtorEq, Int.reduceToNat]) | ((first | refine qf ?_ ?_ | refine qd ?_ ?_) <;> intro hc <;> simp only [hc, go_sem, ↓reduceIte, Nat.reduceEqDiff, Nat.reduceAdd, Nat.reduceSub, Nat.reduceMul, Nat.reduceLT, Nat.reduceLeDiff, reduceCtorEq, Int.reduceToNat] <;> (try simp only [qb, qa, decide_eq_true_eq, decide_eq_false_iff_not, Bool.and_eq_true] at hc)) | refine And.intro (by first | assumption | omega | (have := qg (by assumption); omega) | (unfold qq; omega)) ?_ | ((first | simp (disch := omega) only [qv] | simp (disch := omega) only [qbe]); (try simp only [go_sem, ↓reduceIte, Nat.reduceEqDiff, Nat.reduceAdd, Nat.reduceSub, Nat.reduceMul, Nat.reduceLT, Nat.reduceLeDiff, reduceCtorEq, Int.reduceToNat])))
  · rw [qhz, if_neg (by assumption)]
  · rw [qhz, if_pos (by assumption), ← hll]
    refine qca (S := Nat × Int) (fun y => y.1 ≤ l.length ∧ 0 ≤ y.2 ∧ y.2 ≤ y.1 ∧ qg0 x l 0 = qg0 x (l.drop y.1) y.2)
      (fun y => (⟨[(1, .str x), (2, .ptr 0 0), (5, .int .i64 y.2), (6, .int .i64 y.1)], []⟩, [.blk [.sl 4 (qcy l), .int .i64 0, .int .i64 c.ep, .int .i64 0, .str [], .int .i64 c.nest, .int .i64 c.err, .int .i64 c.pos]])) (fun y => l.length - y.1) ?_ ?_
    · refine qbq (0, 0) [0] ⟨Nat.zero_le _, Int.le_refl _, Int.le_refl _, rfl⟩ rfl (by simp) ?_ ?_ ?_ <;> (try simp only [go_sem, ↓reduceIte, Nat.reduceEqDiff, Nat.reduceAdd, Nat.reduceSub, Nat.reduceMul, Nat.reduceLT, Nat.reduceLeDiff, reduceCtorEq, Int.reduceToNat]) <;> (try simp (disch := omega) only [qbe])
    · rintro ⟨i, d⟩ ⟨i1, i2, i3, i4⟩
      simp only at i1 i2 i3 i4
      by_cases hlt : i < l.length
      · have hil : (i : Int) < l.length := by omega
        rw [q6v hlt, qg0] at i4
        simp only [hws] at i4
        have hT : AV.agg [.int .i64 (l.getD i T0).kind, .int .i64 (l.getD i T0).pos, .int .i64 (l.getD i T0).num, .str (l.getD i T0).text] = encT (l.getD i T0) := rfl
        generalize hnx : qg0 x (l.drop (i + 1)) = nx at i4
        have hlb : l.length ≤ 1048577 := by omega
        clear hll hln
        repeat' (first | refine ql ?_ | refine qk ?_ | ((first | refine qn ?_ | refine qm ?_ | refine qs ?_ | refine qj ?_ | refine qi ?_); simp (disch := first | omega | (simp only [List.length_set, List.length_append, List.length_cons, List.length_nil]; done) | (simp only [List.length_set, List.length_append, List.length_cons, List.length_nil]; omega)) only [hil, q4g, go_sem, ↓reduceIte, Nat.reduceEqDiff, Nat.reduceAdd, Nat.reduceSub, Nat.reduceMul, Nat.reduceLT, Nat.reduceLeDiff, reduceCtorEq, Int.reduceToNat]) | ((first | simp (disch := omega) only [qdr]); (try simp only [go_sem, ↓reduceIte, Nat.reduceEqDiff, Nat.reduceAdd, Nat.reduceSub, Nat.reduceMul, Nat.reduceLT, Nat.reduceLeDiff, reduceCtorEq, Int.reduceToNat])) | ((first | refine qf ?_ ?_ | refine qd ?_ ?_) <;> intro hc <;> simp only [hc, go_sem, ↓reduceIte, Nat.reduceEqDiff, Nat.reduceAdd, Nat.reduceSub, Nat.reduceMul, Nat.reduceLT, Nat.reduceLeDiff, reduceCtorEq, Int.reduceToNat] <;> (try simp only [qb, qa, decide_eq_true_eq, decide_eq_false_iff_not, Bool.and_eq_true] at hc)) | refine And.intro (by first | assumption | omega | (have := qg (by assumption); omega) | (unfold qq; omega)) ?_ | ((first | simp (disch := omega) only [qv] | simp (disch := omega) only [qbe]); (try simp only [go_sem, ↓reduceIte, Nat.reduceEqDiff, Nat.reduceAdd, Nat.reduceSub, Nat.reduceMul, Nat.reduceLT, Nat.reduceLeDiff, reduceCtorEq, Int.reduceToNat])) | ((first | refine qc (qi0 (l.getD i T0) _) fun _ => ?_ | refine qe  (qi0 (l.getD i T0) _) ?_); simp only [go_sem, ↓reduceIte, Nat.reduceEqDiff, Nat.reduceAdd, Nat.reduceSub, Nat.reduceMul, Nat.reduceLT, Nat.reduceLeDiff, reduceCtorEq, Int.reduceToNat]))
        all_goals first | (exfalso; omega) | skip
        · refine qbq (i + 1, d + 1) [0] ⟨⟨by simp only; omega, by simp only; omega, by simp only; omega, ?_⟩, by simp only; omega⟩ rfl (by simp) ?_ ?_ ?_ <;> (try simp only [go_sem, ↓reduceIte, Nat.reduceEqDiff, Nat.reduceAdd, Nat.reduceSub, Nat.reduceMul, Nat.reduceLT, Nat.reduceLeDiff, reduceCtorEq, Int.reduceToNat]) <;> (try simp (disch := omega) only [qbe]) <;> (try rfl)
          rw [hnx, i4]; simp only [*, if_true, if_false, Bool.true_or, Bool.or_true, Bool.false_or, Bool.or_false, Bool.false_eq_true, reduceIte, Bool.or_self, Int.lt_irrefl]
        · refine qbq (i + 1, d + 1) [0] ⟨⟨by simp only; omega, by simp only; omega, by simp only; omega, ?_⟩, by simp only; omega⟩ rfl (by simp) ?_ ?_ ?_ <;> (try simp only [go_sem, ↓reduceIte, Nat.reduceEqDiff, Nat.reduceAdd, Nat.reduceSub, Nat.reduceMul, Nat.reduceLT, Nat.reduceLeDiff, reduceCtorEq, Int.reduceToNat]) <;> (try simp (disch := omega) only [qbe]) <;> (try rfl)
          rw [hnx, i4]; simp only [*, if_true, if_false, Bool.true_or, Bool.or_true, Bool.false_or, Bool.or_false, Bool.false_eq_true, reduceIte, Bool.or_self, Int.lt_irrefl]
        · rw [i4]; simp only [*, if_true, if_false, Bool.true_or, Bool.or_true, Bool.false_or, Bool.or_false, Bool.false_eq_true, reduceIte, Bool.or_self, Int.lt_irrefl]
        · refine qbq (i + 1, d - 1) [0] ⟨⟨by simp only; omega, by simp only; omega, by simp only; omega, ?_⟩, by simp only; omega⟩ rfl (by simp) ?_ ?_ ?_ <;> (try simp only [go_sem, ↓reduceIte, Nat.reduceEqDiff, Nat.reduceAdd, Nat.reduceSub, Nat.reduceMul, Nat.reduceLT, Nat.reduceLeDiff, reduceCtorEq, Int.reduceToNat]) <;> (try simp (disch := omega) only [qbe]) <;> (try rfl)
          rw [hnx, i4]; simp only [*, if_true, if_false, Bool.true_or, Bool.or_true, Bool.false_or, Bool.or_false, Bool.false_eq_true, reduceIte, Bool.or_self, Int.lt_irrefl]
        · rw [i4]; simp only [*, if_true, if_false, Bool.true_or, Bool.or_true, Bool.false_or, Bool.or_false, Bool.false_eq_true, reduceIte, Bool.or_self, Int.lt_irrefl]
        · refine qbq (i + 1, d - 1) [0] ⟨⟨by simp only; omega, by simp only; omega, by simp only; omega, ?_⟩, by simp only; omega⟩ rfl (by simp) ?_ ?_ ?_ <;> (try simp only [go_sem, ↓reduceIte, Nat.reduceEqDiff, Nat.reduceAdd, Nat.reduceSub, Nat.reduceMul, Nat.reduceLT, Nat.reduceLeDiff, reduceCtorEq, Int.reduceToNat]) <;> (try simp (disch := omega) only [qbe]) <;> (try rfl)
          rw [hnx, i4]; simp only [*, if_true, if_false, Bool.true_or, Bool.or_true, Bool.false_or, Bool.or_false, Bool.false_eq_true, reduceIte, Bool.or_self, Int.lt_irrefl]
        · rw [i4]; simp only [*, if_true, if_false, Bool.true_or, Bool.or_true, Bool.false_or, Bool.or_false, Bool.false_eq_true, reduceIte, Bool.or_self, Int.lt_irrefl]
        · rw [i4]; simp only [*, if_true, if_false, Bool.true_or, Bool.or_true, Bool.false_or, Bool.or_false, Bool.false_eq_true, reduceIte, Bool.or_self, Int.lt_irrefl]
        · refine qbq (i + 1, d) [0] ⟨⟨by simp only; omega, by simp only; omega, by simp only; omega, ?_⟩, by simp only; omega⟩ rfl (by simp) ?_ ?_ ?_ <;> (try simp only [go_sem, ↓reduceIte, Nat.reduceEqDiff, Nat.reduceAdd, Nat.reduceSub, Nat.reduceMul, Nat.reduceLT, Nat.reduceLeDiff, reduceCtorEq, Int.reduceToNat]) <;> (try simp (disch := omega) only [qbe]) <;> (try rfl)
          rw [hnx, i4]; simp only [*, if_true, if_false, Bool.true_or, Bool.or_true, Bool.false_or, Bool.or_false, Bool.false_eq_true, reduceIte, Bool.or_self, Int.lt_irrefl]
        · have h9 : 0 < d := by omega
          refine qbq (i + 1, d) [0] ⟨⟨by simp only; omega, by simp only; omega, by simp only; omega, ?_⟩, by simp only; omega⟩ rfl (by simp) ?_ ?_ ?_ <;> (try simp only [go_sem, ↓reduceIte, Nat.reduceEqDiff, Nat.reduceAdd, Nat.reduceSub, Nat.reduceMul, Nat.reduceLT, Nat.reduceLeDiff, reduceCtorEq, Int.reduceToNat]) <;> (try simp (disch := omega) only [qbe]) <;> (try rfl)
          rw [hnx, i4]; simp only [*, if_true, if_false, Bool.true_or, Bool.or_true, Bool.false_or, Bool.or_false, Bool.false_eq_true, reduceIte, Bool.or_self, Int.lt_irrefl]
      · have hil : ¬ (i : Int) < l.length := by omega
        rw [List.drop_of_length_le (by omega), qg0] at i4
        repeat' (first | refine ql ?_ | refine qk ?_ | ((first | refine qn ?_ | refine qm ?_ | refine qs ?_ | refine qj ?_ | refine qi ?_); simp (disch := first | omega | (simp only [List.length_set, List.length_append, List.length_cons, List.length_nil]; done) | (simp only [List.length_set, List.length_append, List.length_cons, List.length_nil]; omega)) only [hil, go_sem, ↓reduceIte, Nat.reduceEqDiff, Nat.reduceAdd, Nat.reduceSub, Nat.reduceMul, Nat.reduceLT, Nat.reduceLeDiff, reduceCtorEq, Int.reduceToNat]) | ((first | refine qf ?_ ?_ | refine qd ?_ ?_) <;> intro hc <;> simp only [hc, go_sem, ↓reduceIte, Nat.reduceEqDiff, Nat.reduceAdd, Nat.reduceSub, Nat.reduceMul, Nat.reduceLT, Nat.reduceLeDiff, reduceCtorEq, Int.reduceToNat] <;> (try simp only [qb, qa, decide_eq_true_eq, decide_eq_false_iff_not, Bool.and_eq_true] at hc)) | refine And.intro (by first | assumption | omega | (have := qg (by assumption); omega) | (unfold qq; omega)) ?_ | ((first | simp (disch := omega) only [qv] | simp (disch := omega) only [qbe]); (try simp only [go_sem, ↓reduceIte, Nat.reduceEqDiff, Nat.reduceAdd, Nat.reduceSub, Nat.reduceMul, Nat.reduceLT, Nat.reduceLeDiff, reduceCtorEq, Int.reduceToNat])))
        rw [i4]
end Go.Proofs.YtmekebfgmjaenaaGreat
