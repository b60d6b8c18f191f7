/- A text of this proof. -/
import Derived.Test.YtfjbmjplnmaclaaGreatQau

/- the cursor: words of a kind; what stands ahead -/
set_option maxRecDepth 4000
namespace Go.Proofs.YtfjbmjplnmaclaaGreat
open Go Go.RowKit Go.V
set_option linter.unusedVariables false
set_option linter.unusedSimpArgs false

def qn (c : K) (k : Int) : K × Bool := if (decide (c.err = 0) && decide ((qq c).kind = k)) = true then (qu c, true) else (qdh c 5, false)
def qev (c : K) (k : Int) : T := if (qn c k).2 = true then qq c else T0
theorem qqz {c : K} {k : Int} (h1 : c.err = 0) (h2 : (qq c).kind = k) : qn c k = (qu c, true) := by rw [qn, decide_eq_true h1, decide_eq_true h2]; rfl
theorem q1r {c : K} {k : Int} (h2 : ¬ (qq c).kind = k) : qn c k = (qdh c 5, false) := by rw [qn, decide_eq_false h2, Bool.and_false]; rfl
theorem qvm {c : K} {k : Int} (h1 : ¬ c.err = 0) : qn c k = (qdh c 5, false) := by rw [qn, decide_eq_false h1]; rfl
theorem qu2 {c : K} {k : Int} (h1 : c.err = 0) (h2 : (qq c).kind = k) : qev c k = qq c := by rw [qev, qqz h1 h2]; rfl
theorem q6v {c : K} {k : Int} (h2 : ¬ (qq c).kind = k) : qev c k = T0 := by rw [qev, q1r h2]; rfl
theorem q8z {c : K} {k : Int} (h1 : ¬ c.err = 0) : qev c k = T0 := by rw [qev, qvm h1]; rfl
theorem qbge (c : K) (hk : c.ok) (k : Int) : qce Tryz.prog 61 (curE c) (curE (qn c k).1) [.ptr 0 0, .int .i64 k] (.tup [encT (qev c k), .bool (qn c k).2]) := by
 refine qp c0fg 1 (by simp) (by simp) ?_
 repeat' (first | refine vs_ ?_ | ((first | refine vr_ ?_ | refine qit ?_ | refine qb6 ?_ | refine qud ?_ | refine qlf hk ?_ | (refine cs_ ?_ ?_ <;> intro hc) | refine cj_ ?_ | fail) <;> (try refine ev_ ?_)) | with_reducible exact ti_)
 ·rw [qvm (qiz (by assumption)), q8z (qiz (by assumption))]; exact ⟨rfl, rfl⟩
 ·rw [q1r (by assumption), q6v (by assumption)]; exact ⟨rfl, rfl⟩
 ·rw [qqz (qii (by assumption)) (by assumption), qu2 (qii (by assumption)) (by assumption)]; exact ⟨rfl, rfl⟩
theorem qdi {c : K} {L : List Ent} {k : Int} {Q : List Ent → VO → Prop} (hk : c.ok) (h : Q (curE (qn c k).1 :: L) (.val (.tup [encT (qev c k), .bool (qn c k).2]))) :
 VApp Tryz.prog (curE c :: L) (.fn 61 [] []) [.ptr 0 0, .int .i64 k] Q := qb9 (qbge c hk k) (qbi _ _) (qbi _ _) rfl rfl fun _ => h
theorem qbe (c : K) (k : Int) : qz Tryz.prog 80 [refC c, .int .i64 k] (.tup [refC (qn c k).1, encT (qev c k), .bool (qn c k).2]) := by
 refine qj c0fh (by simp) (by simp only [go_sem]) (by simp only [go_sem]) fun hw => ?_
 repeat' (first | refine vs_ ?_ | ((first | refine vr_ ?_ | refine qa (ql c) fun _ => ?_ | refine qa (qcr c _) fun _ => ?_ | refine qa (qc3 c) fun _ => ?_ | refine qb (ql c) ?_ | refine qb (qcr c _) ?_ | refine qb (qc3 c) ?_ | (refine cs_ ?_ ?_ <;> intro hc) | refine cj_ ?_ | fail) <;> (try refine ev_ ?_)) | with_reducible exact ti_)
 ·rw [qvm (by assumption), q8z (by assumption)]; rfl
 ·rw [q1r (by assumption), q6v (by assumption)]; rfl
 ·rw [qqz (by assumption) (by assumption), qu2 (by assumption) (by assumption)]
def qim (x : List UInt8) : List T → Int → Bool
 | [], _ => false
 | t :: r, d =>
   if qd0 t [[40], [123]] = true then qim x r (d + 1)
   else if qd0 t [[41], [125]] = true then (if d - 1 < 0 then false else qim x r (d - 1))
   else if 0 < d then qim x r d
   else if qka t [59] = true then false
   else if qka t x = true then true
   else qim x r d
def qkf (c : K) (x : List UInt8) : Bool := if c.err = 0 then qim x (c.l.drop c.at') 0 else false
theorem qbad (t : T) (x y : List UInt8) : qz Tryz.prog 102 [encT t, .sl 1 [.str x, .str y]] (.bool (qd0 t [x, y])) := q93 t [x, y]
theorem qbcx {d : Int} (h0 : -1 ≤ d) (h1 : d ≤ 2000000) : IntKind.i64.wrap d = d := by
 simp [IntKind.wrap, IntKind.signed, IntKind.bits]
 omega
theorem qgv {b : Bool} (h : b = false) : ¬ b = true := by rw [h]; simp
theorem qbcf (c : K) (hk : c.ok) (hl : c.l.length ≤ 1048577) (x : List UInt8) : qce Tryz.prog 110 (curE c) (curE c) [.ptr 0 0, .str x] (.bool (qkf c x)) := by
 refine qp c0fi 1 (by simp) (by simp) ?_
 have hmx : (1048577 : Nat) ≤ maxLen := by unfold maxLen; omega
 have h1 := hk.1
 obtain ⟨l, hll⟩ : ∃ l, l = c.l.drop c.at' := ⟨_, rfl⟩
 have hln : l.length = c.l.length - c.at' := by rw [hll, List.length_drop]
 repeat' (first | refine vs_ ?_ | ((first | refine vr_ ?_ | refine qit ?_ | (refine cs_ ?_ ?_ <;> intro hc) | refine cj_ ?_ | simp (disch := omega) only [qh, qs]) <;> (try refine ev_ ?_)) | with_reducible exact ti_)
 ·rw [qkf, if_neg (qiz (by assumption))]
 ·rw [qkf, if_pos (qii (by assumption)), ← hll]
  refine qbm (S := Nat × Int) (fun y => y.1 ≤ l.length ∧ 0 ≤ y.2 ∧ y.2 ≤ y.1 ∧ qim x l 0 = qim x (l.drop y.1) y.2)
   (fun y => (⟨[(1, .str x), (5, .int .i64 y.2), (18, .sl 4 (qcv l)), (19, .int .i64 l.length), (20, .int .i64 y.1)], []⟩, [curE c])) (fun y => l.length - y.1) ?_ ?_
  ·refine q8 (0, 0) [0] ⟨Nat.zero_le _, Int.le_refl _, Int.le_refl _, rfl⟩ rfl (by simp) ?_ ?_ ?_ <;> (try refine ev_ ?_) <;> (try with_reducible exact ti_) <;> (try simp (disch := omega) only [qs, and_true, true_and])
  ·rintro ⟨i, d⟩ ⟨i1, i2, i3, i4⟩
   simp only at i1 i2 i3 i4
   by_cases hlt : i < l.length
   ·have hil : (i : Int) < l.length := by omega
    rw [qbcn hlt, qim] at i4
    have hT : AV.agg [.int .i64 (l.getD i T0).kind, .int .i64 (l.getD i T0).pos, .int .i64 (l.getD i T0).num, .str (l.getD i T0).text] = encT (l.getD i T0) := rfl
    repeat' (first | refine vs_ ?_ | ((first | refine vr_ ?_ | fail) <;> (try simp (disch := first | omega | (simp only [List.length_set, List.length_append, List.length_cons, List.length_nil]; done) | (simp only [List.length_set, List.length_append, List.length_cons, List.length_nil]; omega)) only [hil, qbcx, go_sem, ↓reduceIte])) | ((first | simp (disch := omega) only [qd5] | (refine cs_ ?_ ?_ <;> intro hc) | refine cj_ ?_ | simp (disch := omega) only [qh, qs] | refine qa (qbad (l.getD i T0) _ _) fun _ => ?_ | refine qa (q0l (l.getD i T0) _) fun _ => ?_ | refine qb (qbad (l.getD i T0) _ _) ?_ | refine qb (q0l (l.getD i T0) _) ?_) <;> (try refine ev_ ?_)) | with_reducible exact ti_)
    ·have g : qd0 (l.getD i T0) [[40], [123]] = true := by assumption
     rw [if_pos g] at i4
     refine q8 (i + 1, d + 1) [0] ⟨⟨by simp only; omega, by simp only; omega, by simp only; omega, i4⟩, by simp only; omega⟩ rfl (by simp) ?_ ?_ ?_ <;> (try refine ev_ ?_) <;> (try with_reducible exact ti_) <;> (try simp (disch := omega) only [qs, and_true, true_and]) <;> (try rfl)
    ·have g : ¬ qd0 (l.getD i T0) [[40], [123]] = true := qgv (by assumption)
     have g2 : qd0 (l.getD i T0) [[41], [125]] = true := by assumption
     rw [i4, if_neg g, if_pos g2, if_pos (by assumption)]
    ·have g : ¬ qd0 (l.getD i T0) [[40], [123]] = true := qgv (by assumption)
     have g2 : qd0 (l.getD i T0) [[41], [125]] = true := by assumption
     rw [if_neg g, if_pos g2, if_neg (by assumption)] at i4
     refine q8 (i + 1, d - 1) [0] ⟨⟨by simp only; omega, by simp only; omega, by simp only; omega, i4⟩, by simp only; omega⟩ rfl (by simp) ?_ ?_ ?_ <;> (try refine ev_ ?_) <;> (try with_reducible exact ti_) <;> (try simp (disch := omega) only [qs, and_true, true_and]) <;> (try rfl)
    ·have g : ¬ qd0 (l.getD i T0) [[40], [123]] = true := qgv (by assumption)
     have g2 : ¬ qd0 (l.getD i T0) [[41], [125]] = true := qgv (by assumption)
     rw [if_neg g, if_neg g2, if_pos (by assumption)] at i4
     refine q8 (i + 1, d) [0] ⟨⟨by simp only; omega, by simp only; omega, by simp only; omega, i4⟩, by simp only; omega⟩ rfl (by simp) ?_ ?_ ?_ <;> (try refine ev_ ?_) <;> (try with_reducible exact ti_) <;> (try simp (disch := omega) only [qs, and_true, true_and]) <;> (try rfl)
    ·have g : ¬ qd0 (l.getD i T0) [[40], [123]] = true := qgv (by assumption)
     have g2 : ¬ qd0 (l.getD i T0) [[41], [125]] = true := qgv (by assumption)
     rw [i4, if_neg g, if_neg g2, if_neg (by assumption), if_pos (by assumption)]
    ·have g : ¬ qd0 (l.getD i T0) [[40], [123]] = true := qgv (by assumption)
     have g2 : ¬ qd0 (l.getD i T0) [[41], [125]] = true := qgv (by assumption)
     have g3 : ¬ qka (l.getD i T0) [59] = true := qgv (by assumption)
     rw [i4, if_neg g, if_neg g2, if_neg (by assumption), if_neg g3, if_pos (by assumption)]
    ·have g : ¬ qd0 (l.getD i T0) [[40], [123]] = true := qgv (by assumption)
     have g2 : ¬ qd0 (l.getD i T0) [[41], [125]] = true := qgv (by assumption)
     have g3 : ¬ qka (l.getD i T0) [59] = true := qgv (by assumption)
     have g4 : ¬ qka (l.getD i T0) x = true := qgv (by assumption)
     rw [if_neg g, if_neg g2, if_neg (by assumption), if_neg g3, if_neg g4] at i4
     refine q8 (i + 1, d) [0] ⟨⟨by simp only; omega, by simp only; omega, by simp only; omega, i4⟩, by simp only; omega⟩ rfl (by simp) ?_ ?_ ?_ <;> (try refine ev_ ?_) <;> (try with_reducible exact ti_) <;> (try simp (disch := omega) only [qs, and_true, true_and]) <;> (try rfl)
   ·have hil : ¬ (i : Int) < l.length := by omega
    rw [List.drop_of_length_le (by omega), qim] at i4
    repeat' (first | refine vs_ ?_ | ((first | refine vr_ ?_ | fail) <;> (try simp only [hil, go_sem, ↓reduceIte])) | ((first | (refine cs_ ?_ ?_ <;> intro hc) | refine cj_ ?_ | simp (disch := omega) only [qh, qs]) <;> (try refine ev_ ?_)) | with_reducible exact ti_)
    rw [i4]
theorem q9m {c : K} {L : List Ent} {x : List UInt8} {Q : List Ent → VO → Prop} (hk : c.ok) (hl : c.l.length ≤ 1048577) (h : Q (curE c :: L) (.val (.bool (qkf c x)))) :
 VApp Tryz.prog (curE c :: L) (.fn 110 [] []) [.ptr 0 0, .str x] Q := qb9 (qbcf c hk hl x) (qbi _ _) (qbi _ _) rfl rfl fun _ => h
theorem qez (c : K) (hl : c.l.length ≤ 1048577) (x : List UInt8) : qz Tryz.prog 122 [refC c, .str x] (.bool (qkf c x)) := by
 refine qj c0fj (by simp) (by simp only [go_sem]) rfl fun hw => ?_
 have hmx : (1048577 : Nat) ≤ maxLen := by unfold maxLen; omega
 obtain ⟨l, hll⟩ : ∃ l, l = c.l.drop c.at' := ⟨_, rfl⟩
 have hln : l.length = c.l.length - c.at' := by rw [hll, List.length_drop]
 unfold refC
 rw [← hll]
 have hws : ∀ (t : T) (a b : List UInt8), qd0 t [a, b] = (qka t a || qka t b) := fun t a b => by
  unfold qd0 qka
  have hd : ∀ a : List UInt8, (t.text == a) = decide (t.text = a) := fun a => by
   by_cases h : t.text = a
   ·rw [decide_eq_true h]; simpa using h
   ·rw [decide_eq_false h]; simpa using h
  simp only [List.contains_cons, List.contains_nil, Bool.or_false, Bool.and_or_distrib_left, hd]
 repeat' (first | refine vs_ ?_ | ((first | refine vr_ ?_ | (refine cs_ ?_ ?_ <;> intro hc) | refine cj_ ?_ | simp (disch := omega) only [qh, qs]) <;> (try refine ev_ ?_)) | with_reducible exact ti_)
 ·rw [qkf, if_neg (by assumption)]
 ·rw [qkf, if_pos (by assumption), ← hll]
  refine qbm (S := Nat × Int) (fun y => y.1 ≤ l.length ∧ 0 ≤ y.2 ∧ y.2 ≤ y.1 ∧ qim x l 0 = qim x (l.drop y.1) y.2)
   (fun y => (⟨[(1, .str x), (2, .ptr 0 0), (5, .int .i64 y.2), (6, .int .i64 y.1)], []⟩, [.blk [.sl 4 (qcv l), .int .i64 0, .int .i64 c.ep, .int .i64 0, .str [], .int .i64 c.nest, .int .i64 c.err, .int .i64 c.pos]])) (fun y => l.length - y.1) ?_ ?_
  ·refine q8 (0, 0) [0] ⟨Nat.zero_le _, Int.le_refl _, Int.le_refl _, rfl⟩ rfl (by simp) ?_ ?_ ?_ <;> (try refine ev_ ?_) <;> (try with_reducible exact ti_) <;> (try simp (disch := omega) only [qs, and_true, true_and])
  ·rintro ⟨i, d⟩ ⟨i1, i2, i3, i4⟩
   simp only at i1 i2 i3 i4
   by_cases hlt : i < l.length
   ·have hil : (i : Int) < l.length := by omega
    rw [qbcn hlt, qim] at i4
    simp only [hws] at i4
    have hT : AV.agg [.int .i64 (l.getD i T0).kind, .int .i64 (l.getD i T0).pos, .int .i64 (l.getD i T0).num, .str (l.getD i T0).text] = encT (l.getD i T0) := rfl
    generalize hnx : qim x (l.drop (i + 1)) = nx at i4
    have hlb : l.length ≤ 1048577 := by omega
    clear hll hln
    repeat' (first | refine vs_ ?_ | ((first | refine vr_ ?_ | fail) <;> (try simp (disch := first | omega | (simp only [List.length_set, List.length_append, List.length_cons, List.length_nil]; done) | (simp only [List.length_set, List.length_append, List.length_cons, List.length_nil]; omega)) only [hil, qbcx, go_sem, ↓reduceIte])) | ((first | simp (disch := omega) only [qd5] | (refine cs_ ?_ ?_ <;> intro hc) | refine cj_ ?_ | simp (disch := omega) only [qh, qs] | refine qa (qum (l.getD i T0) _) fun _ => ?_) <;> (try refine ev_ ?_)) | with_reducible exact ti_)
    all_goals first | (exfalso; omega) | skip
    ·refine q8 (i + 1, d + 1) [0] ⟨⟨by simp only; omega, by simp only; omega, by simp only; omega, ?_⟩, by simp only; omega⟩ rfl (by simp) ?_ ?_ ?_ <;> (try refine ev_ ?_) <;> (try with_reducible exact ti_) <;> (try simp (disch := omega) only [qs, and_true, true_and]) <;> (try rfl)
     rw [hnx, i4]; simp only [*, if_true, if_false, Bool.true_or, Bool.or_true, Bool.false_or, Bool.or_false, Bool.false_eq_true, reduceIte, Bool.or_self, Int.lt_irrefl]
    ·refine q8 (i + 1, d + 1) [0] ⟨⟨by simp only; omega, by simp only; omega, by simp only; omega, ?_⟩, by simp only; omega⟩ rfl (by simp) ?_ ?_ ?_ <;> (try refine ev_ ?_) <;> (try with_reducible exact ti_) <;> (try simp (disch := omega) only [qs, and_true, true_and]) <;> (try rfl)
     rw [hnx, i4]; simp only [*, if_true, if_false, Bool.true_or, Bool.or_true, Bool.false_or, Bool.or_false, Bool.false_eq_true, reduceIte, Bool.or_self, Int.lt_irrefl]
    ·rw [i4]; simp only [*, if_true, if_false, Bool.true_or, Bool.or_true, Bool.false_or, Bool.or_false, Bool.false_eq_true, reduceIte, Bool.or_self, Int.lt_irrefl]
    ·refine q8 (i + 1, d - 1) [0] ⟨⟨by simp only; omega, by simp only; omega, by simp only; omega, ?_⟩, by simp only; omega⟩ rfl (by simp) ?_ ?_ ?_ <;> (try refine ev_ ?_) <;> (try with_reducible exact ti_) <;> (try simp (disch := omega) only [qs, and_true, true_and]) <;> (try rfl)
     rw [hnx, i4]; simp only [*, if_true, if_false, Bool.true_or, Bool.or_true, Bool.false_or, Bool.or_false, Bool.false_eq_true, reduceIte, Bool.or_self, Int.lt_irrefl]
    ·rw [i4]; simp only [*, if_true, if_false, Bool.true_or, Bool.or_true, Bool.false_or, Bool.or_false, Bool.false_eq_true, reduceIte, Bool.or_self, Int.lt_irrefl]
    ·refine q8 (i + 1, d - 1) [0] ⟨⟨by simp only; omega, by simp only; omega, by simp only; omega, ?_⟩, by simp only; omega⟩ rfl (by simp) ?_ ?_ ?_ <;> (try refine ev_ ?_) <;> (try with_reducible exact ti_) <;> (try simp (disch := omega) only [qs, and_true, true_and]) <;> (try rfl)
     rw [hnx, i4]; simp only [*, if_true, if_false, Bool.true_or, Bool.or_true, Bool.false_or, Bool.or_false, Bool.false_eq_true, reduceIte, Bool.or_self, Int.lt_irrefl]
    ·rw [i4]; simp only [*, if_true, if_false, Bool.true_or, Bool.or_true, Bool.false_or, Bool.or_false, Bool.false_eq_true, reduceIte, Bool.or_self, Int.lt_irrefl]
    ·rw [i4]; simp only [*, if_true, if_false, Bool.true_or, Bool.or_true, Bool.false_or, Bool.or_false, Bool.false_eq_true, reduceIte, Bool.or_self, Int.lt_irrefl]
    ·refine q8 (i + 1, d) [0] ⟨⟨by simp only; omega, by simp only; omega, by simp only; omega, ?_⟩, by simp only; omega⟩ rfl (by simp) ?_ ?_ ?_ <;> (try refine ev_ ?_) <;> (try with_reducible exact ti_) <;> (try simp (disch := omega) only [qs, and_true, true_and]) <;> (try rfl)
     rw [hnx, i4]; simp only [*, if_true, if_false, Bool.true_or, Bool.or_true, Bool.false_or, Bool.or_false, Bool.false_eq_true, reduceIte, Bool.or_self, Int.lt_irrefl]
    ·have h9 : 0 < d := by omega
     refine q8 (i + 1, d) [0] ⟨⟨by simp only; omega, by simp only; omega, by simp only; omega, ?_⟩, by simp only; omega⟩ rfl (by simp) ?_ ?_ ?_ <;> (try refine ev_ ?_) <;> (try with_reducible exact ti_) <;> (try simp (disch := omega) only [qs, and_true, true_and]) <;> (try rfl)
     rw [hnx, i4]; simp only [*, if_true, if_false, Bool.true_or, Bool.or_true, Bool.false_or, Bool.or_false, Bool.false_eq_true, reduceIte, Bool.or_self, Int.lt_irrefl]
   ·have hil : ¬ (i : Int) < l.length := by omega
    rw [List.drop_of_length_le (by omega), qim] at i4
    repeat' (first | refine vs_ ?_ | ((first | refine vr_ ?_ | fail) <;> (try simp only [hil, go_sem, ↓reduceIte])) | ((first | (refine cs_ ?_ ?_ <;> intro hc) | refine cj_ ?_ | simp (disch := omega) only [qh, qs]) <;> (try refine ev_ ?_)) | with_reducible exact ti_)
    rw [i4]
end Go.Proofs.YtfjbmjplnmaclaaGreat
