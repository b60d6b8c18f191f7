/- A text of this proof. -/
import Derived.Test.YtmekebfgmjaenaaGreatAaw

/- the cursor: words of a kind; what stands ahead -/
set_option maxRecDepth 4000
namespace Go.Proofs.YtmekebfgmjaenaaGreat
open Go Go.RowKit Go.V
set_option linter.unusedVariables false
set_option linter.unusedSimpArgs false

def qbn (c : K) (k : Int) : K × Bool := if (decide (c.err = 0) && decide ((qbg c).kind = k)) = true then (qbc c, true) else (qe9 c 5, false)
def qin (c : K) (k : Int) : T := if (qbn c k).2 = true then qbg c else T0
theorem qqq {c : K} {k : Int} (h1 : c.err = 0) (h2 : (qbg c).kind = k) : qbn c k = (qbc c, true) := by rw [qbn, decide_eq_true h1, decide_eq_true h2]; rfl
theorem qu8 {c : K} {k : Int} (h2 : ¬ (qbg c).kind = k) : qbn c k = (qe9 c 5, false) := by rw [qbn, decide_eq_false h2, Bool.and_false]; rfl
theorem qp0 {c : K} {k : Int} (h1 : ¬ c.err = 0) : qbn c k = (qe9 c 5, false) := by rw [qbn, decide_eq_false h1]; rfl
theorem qt8 {c : K} {k : Int} (h1 : c.err = 0) (h2 : (qbg c).kind = k) : qin c k = qbg c := by rw [qin, qqq h1 h2]; rfl
theorem qz4 {c : K} {k : Int} (h2 : ¬ (qbg c).kind = k) : qin c k = T0 := by rw [qin, qu8 h2]; rfl
theorem q2u {c : K} {k : Int} (h1 : ¬ c.err = 0) : qin c k = T0 := by rw [qin, qp0 h1]; rfl
theorem q3p (c : K) (hk : c.ok) (k : Int) : qcs Tryz.prog 20 (curE c) (curE (qbn c k).1) [.ptr 0 0, .int .i64 k] (.tup [encT (qin c k), .bool (qbn c k).2]) := by
  refine qbh c0dt 1 (by simp) (by simp) ?_
  repeat' (first | refine qs ?_ | refine qg ?_ | refine qi ?_ | ((first | refine qu ?_ | refine qq (by rfl) ?_ | refine ql ?_ | refine qj ?_ | refine qo ?_ | refine qt ?_ | refine qn ?_ | refine qm ?_ | refine qp ?_ | refine qgx ?_ | refine qdw ?_ | refine qph ?_ | refine qim hk ?_); simp only [go_sem, ↓reduceIte, Nat.reduceEqDiff, Nat.reduceAdd, Nat.reduceSub, Nat.reduceMul, Nat.reduceLT, Nat.reduceLeDiff, reduceCtorEq, Int.reduceToNat]) | ((first | refine qh ?_ ?_ | refine qe ?_ ?_) <;> intro hc <;> simp only [hc, go_sem, ↓reduceIte, Nat.reduceEqDiff, Nat.reduceAdd, Nat.reduceSub, Nat.reduceMul, Nat.reduceLT, Nat.reduceLeDiff, reduceCtorEq, Int.reduceToNat] <;> (try simp only [qb, qa, decide_eq_true_eq, decide_eq_false_iff_not, Bool.and_eq_true] at hc)) | refine And.intro (by first | assumption | omega | (have := qk (by assumption); omega) | (unfold qy; omega)) ?_ | ((first | simp (disch := omega) only [qd] | simp (disch := omega) only [qw]); (try simp only [go_sem, ↓reduceIte, Nat.reduceEqDiff, Nat.reduceAdd, Nat.reduceSub, Nat.reduceMul, Nat.reduceLT, Nat.reduceLeDiff, reduceCtorEq, Int.reduceToNat])))
  · rw [qp0 (qg9 (by assumption)), q2u (qg9 (by assumption))]; exact ⟨rfl, rfl⟩
  · rw [qu8 (by assumption), qz4 (by assumption)]; exact ⟨rfl, rfl⟩
  · rw [qqq (qgy (by assumption)) (by assumption), qt8 (qgy (by assumption)) (by assumption)]; exact ⟨rfl, rfl⟩
theorem qpd {c : K} {L : List Ent} {k : Int} {Q : List Ent → VO → Prop} (hk : c.ok) (h : Q (curE (qbn c k).1 :: L) (.val (.tup [encT (qin c k), .bool (qbn c k).2]))) :
    VApp Tryz.prog (curE c :: L) (.fn 20 [] []) [.ptr 0 0, .int .i64 k] Q := qb4 (q3p c hk k) (qbk _ _) (qbk _ _) rfl rfl fun _ => h
theorem qge (c : K) (k : Int) : qbs Tryz.prog 24 [refC c, .int .i64 k] (.tup [refC (qbn c k).1, encT (qin c k), .bool (qbn c k).2]) := by
  refine qbe c0du (by simp) (by simp only [go_sem]) (by simp only [go_sem]) fun hw => ?_
  repeat' (first | refine qs ?_ | refine qg ?_ | refine qi ?_ | ((first | refine qu ?_ | refine qq (by rfl) ?_ | refine ql ?_ | refine qj ?_ | refine qo ?_ | refine qt ?_ | refine qn ?_ | refine qm ?_ | refine qp ?_ | refine qc (q8 c) fun _ => ?_ | refine qc (qc2 c _) fun _ => ?_ | refine qc (qcf c) fun _ => ?_ | refine qf  (q8 c) ?_ | refine qf  (qc2 c _) ?_ | refine qf  (qcf c) ?_); simp only [go_sem, ↓reduceIte, Nat.reduceEqDiff, Nat.reduceAdd, Nat.reduceSub, Nat.reduceMul, Nat.reduceLT, Nat.reduceLeDiff, reduceCtorEq, Int.reduceToNat]) | ((first | refine qh ?_ ?_ | refine qe ?_ ?_) <;> intro hc <;> simp only [hc, go_sem, ↓reduceIte, Nat.reduceEqDiff, Nat.reduceAdd, Nat.reduceSub, Nat.reduceMul, Nat.reduceLT, Nat.reduceLeDiff, reduceCtorEq, Int.reduceToNat] <;> (try simp only [qb, qa, decide_eq_true_eq, decide_eq_false_iff_not, Bool.and_eq_true] at hc)) | refine And.intro (by first | assumption | omega | (have := qk (by assumption); omega) | (unfold qy; omega)) ?_ | ((first | simp (disch := omega) only [qd] | simp (disch := omega) only [qw]); (try simp only [go_sem, ↓reduceIte, Nat.reduceEqDiff, Nat.reduceAdd, Nat.reduceSub, Nat.reduceMul, Nat.reduceLT, Nat.reduceLeDiff, reduceCtorEq, Int.reduceToNat])))
  · rw [qp0 (by assumption), q2u (by assumption)]; rfl
  · rw [qu8 (by assumption), qz4 (by assumption)]; rfl
  · rw [qqq (by assumption) (by assumption), qt8 (by assumption) (by assumption)]
/-- Whether a word stands ahead at the same depth of brackets. -/
def qg7 (x : List UInt8) : List T → Int → Bool
  | [], _ => false
  | t :: r, d =>
    if qdr t [[40], [123]] = true then qg7 x r (d + 1)
    else if qdr t [[41], [125]] = true then (if d - 1 < 0 then false else qg7 x r (d - 1))
    else if 0 < d then qg7 x r d
    else if qh5 t [59] = true then false
    else if qh5 t x = true then true
    else qg7 x r d
def qh2 (c : K) (x : List UInt8) : Bool := if c.err = 0 then qg7 x (c.l.drop c.at') 0 else false
theorem qzp (t : T) (x y : List UInt8) : qbs Tryz.prog 79 [encT t, .sl 1 [.str x, .str y]] (.bool (qdr t [x, y])) := qy8 t [x, y]
theorem q69 {d : Int} (h0 : -1 ≤ d) (h1 : d ≤ 2000000) : IntKind.i64.wrap d = d := by
  simp [IntKind.wrap, IntKind.signed, IntKind.bits]
  omega
theorem qfn {b : Bool} (h : b = false) : ¬ b = true := by rw [h]; simp
theorem q2y (c : K) (hk : c.ok) (hl : c.l.length ≤ 1048577) (x : List UInt8) : qcs Tryz.prog 80 (curE c) (curE c) [.ptr 0 0, .str x] (.bool (qh2 c x)) := by
  refine qbh c0dx 1 (by simp) (by simp) ?_
  have hmx : (1048577 : Nat) ≤ maxLen := by unfold maxLen; omega
  have h1 := hk.1
  obtain ⟨l, hll⟩ : ∃ l, l = c.l.drop c.at' := ⟨_, rfl⟩
  have hln : l.length = c.l.length - c.at' := by rw [hll, List.length_drop]
  repeat' (first | refine qs ?_ | refine qg ?_ | refine qi ?_ | ((first | refine qu ?_ | refine qq (by rfl) ?_ | refine ql ?_ | refine qj ?_ | refine qo ?_ | refine qt ?_ | refine qn ?_ | refine qm ?_ | refine qp ?_ | refine qgx ?_); simp only [go_sem, ↓reduceIte, Nat.reduceEqDiff, Nat.reduceAdd, Nat.reduceSub, Nat.reduceMul, Nat.reduceLT, Nat.reduceLeDiff, reduceCtorEq, Int.reduceToNat]) | ((first | refine qh ?_ ?_ | refine qe ?_ ?_) <;> intro hc <;> simp only [hc, go_sem, ↓reduceIte, Nat.reduceEqDiff, Nat.reduceAdd, Nat.reduceSub, Nat.reduceMul, Nat.reduceLT, Nat.reduceLeDiff, reduceCtorEq, Int.reduceToNat] <;> (try simp only [qb, qa, decide_eq_true_eq, decide_eq_false_iff_not, Bool.and_eq_true] at hc)) | refine And.intro (by first | assumption | omega | (have := qk (by assumption); omega) | (unfold qy; omega)) ?_ | ((first | simp (disch := omega) only [qd] | simp (disch := omega) only [qw]); (try simp only [go_sem, ↓reduceIte, Nat.reduceEqDiff, Nat.reduceAdd, Nat.reduceSub, Nat.reduceMul, Nat.reduceLT, Nat.reduceLeDiff, reduceCtorEq, Int.reduceToNat])))
  · rw [qh2, if_neg (qg9 (by assumption))]
  · rw [qh2, if_pos (qgy (by assumption)), ← hll]
    refine qca (S := Nat × Int) (fun y => y.1 ≤ l.length ∧ 0 ≤ y.2 ∧ y.2 ≤ y.1 ∧ qg7 x l 0 = qg7 x (l.drop y.1) y.2)
      (fun y => (⟨[(1, .str x), (5, .int .i64 y.2), (18, .sl 4 (qc1 l)), (19, .int .i64 l.length), (20, .int .i64 y.1)], []⟩, [curE c])) (fun y => l.length - y.1) ?_ ?_
    · refine qbt (0, 0) [0] ⟨Nat.zero_le _, Int.le_refl _, Int.le_refl _, rfl⟩ rfl (by simp) ?_ ?_ ?_ <;> (try simp only [go_sem, ↓reduceIte, Nat.reduceEqDiff, Nat.reduceAdd, Nat.reduceSub, Nat.reduceMul, Nat.reduceLT, Nat.reduceLeDiff, reduceCtorEq, Int.reduceToNat]) <;> (try simp (disch := omega) only [qw])
    · rintro ⟨i, d⟩ ⟨i1, i2, i3, i4⟩
      simp only at i1 i2 i3 i4
      by_cases hlt : i < l.length
      · have hil : (i : Int) < l.length := by omega
        rw [q6e hlt, qg7] at i4
        have hT : AV.agg [.int .i64 (l.getD i T0).kind, .int .i64 (l.getD i T0).pos, .int .i64 (l.getD i T0).num, .str (l.getD i T0).text] = encT (l.getD i T0) := rfl
        repeat' (first | refine qs ?_ | refine qg ?_ | refine qi ?_ | ((first | refine qu ?_ | refine qq (by rfl) ?_ | refine ql ?_ | refine qj ?_ | refine qo ?_ | refine qt ?_ | refine qn ?_ | refine qm ?_ | refine qp ?_); simp (disch := first | omega | (simp only [List.length_set, List.length_append, List.length_cons, List.length_nil]; done) | (simp only [List.length_set, List.length_append, List.length_cons, List.length_nil]; omega)) only [hil, q69, go_sem, ↓reduceIte, Nat.reduceEqDiff, Nat.reduceAdd, Nat.reduceSub, Nat.reduceMul, Nat.reduceLT, Nat.reduceLeDiff, reduceCtorEq, Int.reduceToNat]) | ((first | simp (disch := omega) only [qdu]); (try simp only [go_sem, ↓reduceIte, Nat.reduceEqDiff, Nat.reduceAdd, Nat.reduceSub, Nat.reduceMul, Nat.reduceLT, Nat.reduceLeDiff, reduceCtorEq, Int.reduceToNat])) | ((first | refine qh ?_ ?_ | refine qe ?_ ?_) <;> intro hc <;> simp only [hc, go_sem, ↓reduceIte, Nat.reduceEqDiff, Nat.reduceAdd, Nat.reduceSub, Nat.reduceMul, Nat.reduceLT, Nat.reduceLeDiff, reduceCtorEq, Int.reduceToNat] <;> (try simp only [qb, qa, decide_eq_true_eq, decide_eq_false_iff_not, Bool.and_eq_true] at hc)) | refine And.intro (by first | assumption | omega | (have := qk (by assumption); omega) | (unfold qy; omega)) ?_ | ((first | simp (disch := omega) only [qd] | simp (disch := omega) only [qw]); (try simp only [go_sem, ↓reduceIte, Nat.reduceEqDiff, Nat.reduceAdd, Nat.reduceSub, Nat.reduceMul, Nat.reduceLT, Nat.reduceLeDiff, reduceCtorEq, Int.reduceToNat])) | ((first | refine qc (qzp (l.getD i T0) _ _) fun _ => ?_ | refine qc (qql (l.getD i T0) _) fun _ => ?_ | refine qf  (qzp (l.getD i T0) _ _) ?_ | refine qf  (qql (l.getD i T0) _) ?_); simp only [go_sem, ↓reduceIte, Nat.reduceEqDiff, Nat.reduceAdd, Nat.reduceSub, Nat.reduceMul, Nat.reduceLT, Nat.reduceLeDiff, reduceCtorEq, Int.reduceToNat]))
        · have g : qdr (l.getD i T0) [[40], [123]] = true := by assumption
          rw [if_pos g] at i4
          refine qbt (i + 1, d + 1) [0] ⟨⟨by simp only; omega, by simp only; omega, by simp only; omega, i4⟩, by simp only; omega⟩ rfl (by simp) ?_ ?_ ?_ <;> (try simp only [go_sem, ↓reduceIte, Nat.reduceEqDiff, Nat.reduceAdd, Nat.reduceSub, Nat.reduceMul, Nat.reduceLT, Nat.reduceLeDiff, reduceCtorEq, Int.reduceToNat]) <;> (try simp (disch := omega) only [qw]) <;> (try rfl)
        · have g : ¬ qdr (l.getD i T0) [[40], [123]] = true := qfn (by assumption)
          have g2 : qdr (l.getD i T0) [[41], [125]] = true := by assumption
          rw [i4, if_neg g, if_pos g2, if_pos (by assumption)]
        · have g : ¬ qdr (l.getD i T0) [[40], [123]] = true := qfn (by assumption)
          have g2 : qdr (l.getD i T0) [[41], [125]] = true := by assumption
          rw [if_neg g, if_pos g2, if_neg (by assumption)] at i4
          refine qbt (i + 1, d - 1) [0] ⟨⟨by simp only; omega, by simp only; omega, by simp only; omega, i4⟩, by simp only; omega⟩ rfl (by simp) ?_ ?_ ?_ <;> (try simp only [go_sem, ↓reduceIte, Nat.reduceEqDiff, Nat.reduceAdd, Nat.reduceSub, Nat.reduceMul, Nat.reduceLT, Nat.reduceLeDiff, reduceCtorEq, Int.reduceToNat]) <;> (try simp (disch := omega) only [qw]) <;> (try rfl)
        · have g : ¬ qdr (l.getD i T0) [[40], [123]] = true := qfn (by assumption)
          have g2 : ¬ qdr (l.getD i T0) [[41], [125]] = true := qfn (by assumption)
          rw [if_neg g, if_neg g2, if_pos (by assumption)] at i4
          refine qbt (i + 1, d) [0] ⟨⟨by simp only; omega, by simp only; omega, by simp only; omega, i4⟩, by simp only; omega⟩ rfl (by simp) ?_ ?_ ?_ <;> (try simp only [go_sem, ↓reduceIte, Nat.reduceEqDiff, Nat.reduceAdd, Nat.reduceSub, Nat.reduceMul, Nat.reduceLT, Nat.reduceLeDiff, reduceCtorEq, Int.reduceToNat]) <;> (try simp (disch := omega) only [qw]) <;> (try rfl)
        · have g : ¬ qdr (l.getD i T0) [[40], [123]] = true := qfn (by assumption)
          have g2 : ¬ qdr (l.getD i T0) [[41], [125]] = true := qfn (by assumption)
          rw [i4, if_neg g, if_neg g2, if_neg (by assumption), if_pos (by assumption)]
        · have g : ¬ qdr (l.getD i T0) [[40], [123]] = true := qfn (by assumption)
          have g2 : ¬ qdr (l.getD i T0) [[41], [125]] = true := qfn (by assumption)
          have g3 : ¬ qh5 (l.getD i T0) [59] = true := qfn (by assumption)
          rw [i4, if_neg g, if_neg g2, if_neg (by assumption), if_neg g3, if_pos (by assumption)]
        · have g : ¬ qdr (l.getD i T0) [[40], [123]] = true := qfn (by assumption)
          have g2 : ¬ qdr (l.getD i T0) [[41], [125]] = true := qfn (by assumption)
          have g3 : ¬ qh5 (l.getD i T0) [59] = true := qfn (by assumption)
          have g4 : ¬ qh5 (l.getD i T0) x = true := qfn (by assumption)
          rw [if_neg g, if_neg g2, if_neg (by assumption), if_neg g3, if_neg g4] at i4
          refine qbt (i + 1, d) [0] ⟨⟨by simp only; omega, by simp only; omega, by simp only; omega, i4⟩, by simp only; omega⟩ rfl (by simp) ?_ ?_ ?_ <;> (try simp only [go_sem, ↓reduceIte, Nat.reduceEqDiff, Nat.reduceAdd, Nat.reduceSub, Nat.reduceMul, Nat.reduceLT, Nat.reduceLeDiff, reduceCtorEq, Int.reduceToNat]) <;> (try simp (disch := omega) only [qw]) <;> (try rfl)
      · have hil : ¬ (i : Int) < l.length := by omega
        rw [List.drop_of_length_le (by omega), qg7] at i4
        repeat' (first | refine qs ?_ | refine qg ?_ | refine qi ?_ | ((first | refine qu ?_ | refine qq (by rfl) ?_ | refine ql ?_ | refine qj ?_ | refine qo ?_ | refine qt ?_ | refine qn ?_ | refine qm ?_ | refine qp ?_); simp (disch := first | omega | (simp only [List.length_set, List.length_append, List.length_cons, List.length_nil]; done) | (simp only [List.length_set, List.length_append, List.length_cons, List.length_nil]; omega)) only [hil, go_sem, ↓reduceIte, Nat.reduceEqDiff, Nat.reduceAdd, Nat.reduceSub, Nat.reduceMul, Nat.reduceLT, Nat.reduceLeDiff, reduceCtorEq, Int.reduceToNat]) | ((first | refine qh ?_ ?_ | refine qe ?_ ?_) <;> intro hc <;> simp only [hc, go_sem, ↓reduceIte, Nat.reduceEqDiff, Nat.reduceAdd, Nat.reduceSub, Nat.reduceMul, Nat.reduceLT, Nat.reduceLeDiff, reduceCtorEq, Int.reduceToNat] <;> (try simp only [qb, qa, decide_eq_true_eq, decide_eq_false_iff_not, Bool.and_eq_true] at hc)) | refine And.intro (by first | assumption | omega | (have := qk (by assumption); omega) | (unfold qy; omega)) ?_ | ((first | simp (disch := omega) only [qd] | simp (disch := omega) only [qw]); (try simp only [go_sem, ↓reduceIte, Nat.reduceEqDiff, Nat.reduceAdd, Nat.reduceSub, Nat.reduceMul, Nat.reduceLT, Nat.reduceLeDiff, reduceCtorEq, Int.reduceToNat])))
        rw [i4]
theorem q0b {c : K} {L : List Ent} {x : List UInt8} {Q : List Ent → VO → Prop} (hk : c.ok) (hl : c.l.length ≤ 1048577) (h : Q (curE c :: L) (.val (.bool (qh2 c x)))) :
    VApp Tryz.prog (curE c :: L) (.fn 80 [] []) [.ptr 0 0, .str x] Q := qb4 (q2y c hk hl x) (qbk _ _) (qbk _ _) rfl rfl fun _ => h
theorem qeb (c : K) (hl : c.l.length ≤ 1048577) (x : List UInt8) : qbs Tryz.prog 85 [refC c, .str x] (.bool (qh2 c x)) := by
  refine qbe c0dy (by simp) (by simp only [go_sem]) rfl fun hw => ?_
  have hmx : (1048577 : Nat) ≤ maxLen := by unfold maxLen; omega
  obtain ⟨l, hll⟩ : ∃ l, l = c.l.drop c.at' := ⟨_, rfl⟩
  have hln : l.length = c.l.length - c.at' := by rw [hll, List.length_drop]
  unfold refC
  rw [← hll]
  have hws : ∀ (t : T) (a b : List UInt8), qdr t [a, b] = (qh5 t a || qh5 t b) := fun t a b => by
    unfold qdr qh5
    have hd : ∀ a : List UInt8, (t.text == a) = decide (t.text = a) := fun a => by
      by_cases h : t.text = a
      · rw [decide_eq_true h]; simpa using h
      · rw [decide_eq_false h]; simpa using h
    simp only [List.contains_cons, List.contains_nil, Bool.or_false, Bool.and_or_distrib_left, hd]
  repeat' (first | refine qs ?_ | refine qg ?_ | refine qi ?_ | ((first | refine qu ?_ | refine qq (by rfl) ?_ | refine ql ?_ | refine qj ?_ | refine qo ?_ | refine qt ?_ | refine qn ?_ | refine qm ?_ | refine qp ?_); simp only [go_sem, ↓reduceIte, Nat.reduceEqDiff, Nat.reduceAdd, Nat.reduceSub, Nat.reduceMul, Nat.reduceLT, Nat.reduceLeDiff, reduceCtorEq, Int.reduceToNat]) | ((first | refine qh ?_ ?_ | refine qe ?_ ?_) <;> intro hc <;> simp only [hc, go_sem, ↓reduceIte, Nat.reduceEqDiff, Nat.reduceAdd, Nat.reduceSub, Nat.reduceMul, Nat.reduceLT, Nat.reduceLeDiff, reduceCtorEq, Int.reduceToNat] <;> (try simp only [qb, qa, decide_eq_true_eq, decide_eq_false_iff_not, Bool.and_eq_true] at hc)) | refine And.intro (by first | assumption | omega | (have := qk (by assumption); omega) | (unfold qy; omega)) ?_ | ((first | simp (disch := omega) only [qd] | simp (disch := omega) only [qw]); (try simp only [go_sem, ↓reduceIte, Nat.reduceEqDiff, Nat.reduceAdd, Nat.reduceSub, Nat.reduceMul, Nat.reduceLT, Nat.reduceLeDiff, reduceCtorEq, Int.reduceToNat])))
  · rw [qh2, if_neg (by assumption)]
  · rw [qh2, if_pos (by assumption), ← hll]
    refine qca (S := Nat × Int) (fun y => y.1 ≤ l.length ∧ 0 ≤ y.2 ∧ y.2 ≤ y.1 ∧ qg7 x l 0 = qg7 x (l.drop y.1) y.2)
      (fun y => (⟨[(1, .str x), (2, .ptr 0 0), (5, .int .i64 y.2), (6, .int .i64 y.1)], []⟩, [.blk [.sl 4 (qc1 l), .int .i64 0, .int .i64 c.ep, .int .i64 0, .str [], .int .i64 c.nest, .int .i64 c.err, .int .i64 c.pos]])) (fun y => l.length - y.1) ?_ ?_
    · refine qbt (0, 0) [0] ⟨Nat.zero_le _, Int.le_refl _, Int.le_refl _, rfl⟩ rfl (by simp) ?_ ?_ ?_ <;> (try simp only [go_sem, ↓reduceIte, Nat.reduceEqDiff, Nat.reduceAdd, Nat.reduceSub, Nat.reduceMul, Nat.reduceLT, Nat.reduceLeDiff, reduceCtorEq, Int.reduceToNat]) <;> (try simp (disch := omega) only [qw])
    · rintro ⟨i, d⟩ ⟨i1, i2, i3, i4⟩
      simp only at i1 i2 i3 i4
      by_cases hlt : i < l.length
      · have hil : (i : Int) < l.length := by omega
        rw [q6e hlt, qg7] at i4
        simp only [hws] at i4
        have hT : AV.agg [.int .i64 (l.getD i T0).kind, .int .i64 (l.getD i T0).pos, .int .i64 (l.getD i T0).num, .str (l.getD i T0).text] = encT (l.getD i T0) := rfl
        generalize hnx : qg7 x (l.drop (i + 1)) = nx at i4
        have hlb : l.length ≤ 1048577 := by omega
        clear hll hln
        repeat' (first | refine qs ?_ | refine qg ?_ | refine qi ?_ | ((first | refine qu ?_ | refine qq (by rfl) ?_ | refine ql ?_ | refine qj ?_ | refine qo ?_ | refine qt ?_ | refine qn ?_ | refine qm ?_ | refine qp ?_); simp (disch := first | omega | (simp only [List.length_set, List.length_append, List.length_cons, List.length_nil]; done) | (simp only [List.length_set, List.length_append, List.length_cons, List.length_nil]; omega)) only [hil, q69, go_sem, ↓reduceIte, Nat.reduceEqDiff, Nat.reduceAdd, Nat.reduceSub, Nat.reduceMul, Nat.reduceLT, Nat.reduceLeDiff, reduceCtorEq, Int.reduceToNat]) | ((first | simp (disch := omega) only [qdu]); (try simp only [go_sem, ↓reduceIte, Nat.reduceEqDiff, Nat.reduceAdd, Nat.reduceSub, Nat.reduceMul, Nat.reduceLT, Nat.reduceLeDiff, reduceCtorEq, Int.reduceToNat])) | ((first | refine qh ?_ ?_ | refine qe ?_ ?_) <;> intro hc <;> simp only [hc, go_sem, ↓reduceIte, Nat.reduceEqDiff, Nat.reduceAdd, Nat.reduceSub, Nat.reduceMul, Nat.reduceLT, Nat.reduceLeDiff, reduceCtorEq, Int.reduceToNat] <;> (try simp only [qb, qa, decide_eq_true_eq, decide_eq_false_iff_not, Bool.and_eq_true] at hc)) | refine And.intro (by first | assumption | omega | (have := qk (by assumption); omega) | (unfold qy; omega)) ?_ | ((first | simp (disch := omega) only [qd] | simp (disch := omega) only [qw]); (try simp only [go_sem, ↓reduceIte, Nat.reduceEqDiff, Nat.reduceAdd, Nat.reduceSub, Nat.reduceMul, Nat.reduceLT, Nat.reduceLeDiff, reduceCtorEq, Int.reduceToNat])) | ((first | refine qc (qi7 (l.getD i T0) _) fun _ => ?_ | refine qf  (qi7 (l.getD i T0) _) ?_); simp only [go_sem, ↓reduceIte, Nat.reduceEqDiff, Nat.reduceAdd, Nat.reduceSub, Nat.reduceMul, Nat.reduceLT, Nat.reduceLeDiff, reduceCtorEq, Int.reduceToNat]))
        all_goals first | (exfalso; omega) | skip
        · refine qbt (i + 1, d + 1) [0] ⟨⟨by simp only; omega, by simp only; omega, by simp only; omega, ?_⟩, by simp only; omega⟩ rfl (by simp) ?_ ?_ ?_ <;> (try simp only [go_sem, ↓reduceIte, Nat.reduceEqDiff, Nat.reduceAdd, Nat.reduceSub, Nat.reduceMul, Nat.reduceLT, Nat.reduceLeDiff, reduceCtorEq, Int.reduceToNat]) <;> (try simp (disch := omega) only [qw]) <;> (try rfl)
          rw [hnx, i4]; simp only [*, if_true, if_false, Bool.true_or, Bool.or_true, Bool.false_or, Bool.or_false, Bool.false_eq_true, reduceIte, Bool.or_self, Int.lt_irrefl]
        · refine qbt (i + 1, d + 1) [0] ⟨⟨by simp only; omega, by simp only; omega, by simp only; omega, ?_⟩, by simp only; omega⟩ rfl (by simp) ?_ ?_ ?_ <;> (try simp only [go_sem, ↓reduceIte, Nat.reduceEqDiff, Nat.reduceAdd, Nat.reduceSub, Nat.reduceMul, Nat.reduceLT, Nat.reduceLeDiff, reduceCtorEq, Int.reduceToNat]) <;> (try simp (disch := omega) only [qw]) <;> (try rfl)
          rw [hnx, i4]; simp only [*, if_true, if_false, Bool.true_or, Bool.or_true, Bool.false_or, Bool.or_false, Bool.false_eq_true, reduceIte, Bool.or_self, Int.lt_irrefl]
        · rw [i4]; simp only [*, if_true, if_false, Bool.true_or, Bool.or_true, Bool.false_or, Bool.or_false, Bool.false_eq_true, reduceIte, Bool.or_self, Int.lt_irrefl]
        · refine qbt (i + 1, d - 1) [0] ⟨⟨by simp only; omega, by simp only; omega, by simp only; omega, ?_⟩, by simp only; omega⟩ rfl (by simp) ?_ ?_ ?_ <;> (try simp only [go_sem, ↓reduceIte, Nat.reduceEqDiff, Nat.reduceAdd, Nat.reduceSub, Nat.reduceMul, Nat.reduceLT, Nat.reduceLeDiff, reduceCtorEq, Int.reduceToNat]) <;> (try simp (disch := omega) only [qw]) <;> (try rfl)
          rw [hnx, i4]; simp only [*, if_true, if_false, Bool.true_or, Bool.or_true, Bool.false_or, Bool.or_false, Bool.false_eq_true, reduceIte, Bool.or_self, Int.lt_irrefl]
        · rw [i4]; simp only [*, if_true, if_false, Bool.true_or, Bool.or_true, Bool.false_or, Bool.or_false, Bool.false_eq_true, reduceIte, Bool.or_self, Int.lt_irrefl]
        · refine qbt (i + 1, d - 1) [0] ⟨⟨by simp only; omega, by simp only; omega, by simp only; omega, ?_⟩, by simp only; omega⟩ rfl (by simp) ?_ ?_ ?_ <;> (try simp only [go_sem, ↓reduceIte, Nat.reduceEqDiff, Nat.reduceAdd, Nat.reduceSub, Nat.reduceMul, Nat.reduceLT, Nat.reduceLeDiff, reduceCtorEq, Int.reduceToNat]) <;> (try simp (disch := omega) only [qw]) <;> (try rfl)
          rw [hnx, i4]; simp only [*, if_true, if_false, Bool.true_or, Bool.or_true, Bool.false_or, Bool.or_false, Bool.false_eq_true, reduceIte, Bool.or_self, Int.lt_irrefl]
        · rw [i4]; simp only [*, if_true, if_false, Bool.true_or, Bool.or_true, Bool.false_or, Bool.or_false, Bool.false_eq_true, reduceIte, Bool.or_self, Int.lt_irrefl]
        · rw [i4]; simp only [*, if_true, if_false, Bool.true_or, Bool.or_true, Bool.false_or, Bool.or_false, Bool.false_eq_true, reduceIte, Bool.or_self, Int.lt_irrefl]
        · refine qbt (i + 1, d) [0] ⟨⟨by simp only; omega, by simp only; omega, by simp only; omega, ?_⟩, by simp only; omega⟩ rfl (by simp) ?_ ?_ ?_ <;> (try simp only [go_sem, ↓reduceIte, Nat.reduceEqDiff, Nat.reduceAdd, Nat.reduceSub, Nat.reduceMul, Nat.reduceLT, Nat.reduceLeDiff, reduceCtorEq, Int.reduceToNat]) <;> (try simp (disch := omega) only [qw]) <;> (try rfl)
          rw [hnx, i4]; simp only [*, if_true, if_false, Bool.true_or, Bool.or_true, Bool.false_or, Bool.or_false, Bool.false_eq_true, reduceIte, Bool.or_self, Int.lt_irrefl]
        · have h9 : 0 < d := by omega
          refine qbt (i + 1, d) [0] ⟨⟨by simp only; omega, by simp only; omega, by simp only; omega, ?_⟩, by simp only; omega⟩ rfl (by simp) ?_ ?_ ?_ <;> (try simp only [go_sem, ↓reduceIte, Nat.reduceEqDiff, Nat.reduceAdd, Nat.reduceSub, Nat.reduceMul, Nat.reduceLT, Nat.reduceLeDiff, reduceCtorEq, Int.reduceToNat]) <;> (try simp (disch := omega) only [qw]) <;> (try rfl)
          rw [hnx, i4]; simp only [*, if_true, if_false, Bool.true_or, Bool.or_true, Bool.false_or, Bool.or_false, Bool.false_eq_true, reduceIte, Bool.or_self, Int.lt_irrefl]
      · have hil : ¬ (i : Int) < l.length := by omega
        rw [List.drop_of_length_le (by omega), qg7] at i4
        repeat' (first | refine qs ?_ | refine qg ?_ | refine qi ?_ | ((first | refine qu ?_ | refine qq (by rfl) ?_ | refine ql ?_ | refine qj ?_ | refine qo ?_ | refine qt ?_ | refine qn ?_ | refine qm ?_ | refine qp ?_); simp (disch := first | omega | (simp only [List.length_set, List.length_append, List.length_cons, List.length_nil]; done) | (simp only [List.length_set, List.length_append, List.length_cons, List.length_nil]; omega)) only [hil, go_sem, ↓reduceIte, Nat.reduceEqDiff, Nat.reduceAdd, Nat.reduceSub, Nat.reduceMul, Nat.reduceLT, Nat.reduceLeDiff, reduceCtorEq, Int.reduceToNat]) | ((first | refine qh ?_ ?_ | refine qe ?_ ?_) <;> intro hc <;> simp only [hc, go_sem, ↓reduceIte, Nat.reduceEqDiff, Nat.reduceAdd, Nat.reduceSub, Nat.reduceMul, Nat.reduceLT, Nat.reduceLeDiff, reduceCtorEq, Int.reduceToNat] <;> (try simp only [qb, qa, decide_eq_true_eq, decide_eq_false_iff_not, Bool.and_eq_true] at hc)) | refine And.intro (by first | assumption | omega | (have := qk (by assumption); omega) | (unfold qy; omega)) ?_ | ((first | simp (disch := omega) only [qd] | simp (disch := omega) only [qw]); (try simp only [go_sem, ↓reduceIte, Nat.reduceEqDiff, Nat.reduceAdd, Nat.reduceSub, Nat.reduceMul, Nat.reduceLT, Nat.reduceLeDiff, reduceCtorEq, Int.reduceToNat])))
        rw [i4]
end Go.Proofs.YtmekebfgmjaenaaGreat
