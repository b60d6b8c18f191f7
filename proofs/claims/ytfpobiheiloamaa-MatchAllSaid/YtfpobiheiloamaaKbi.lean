/- Texts of this proof, joined. -/
import Derived.Test.YtfpobiheiloamaaKbb
import Derived.Test.YtfpobiheiloamaaKbf
import Derived.Test.YtfpobiheiloamaaKat

/- matching: what it finds -/
namespace Go.Proofs.Ytfpobiheiloamaa
open Go Go.RowKit Go.V
set_option linter.unusedVariables false
set_option linter.unusedSimpArgs false


/-! the reference's -/
mutual
def onR : Ty → Ty → List Pr → List Pr × Int
 | .mk c v l, t, s => if c = [] then (match qx v s with | some u => if qdi u t = true then (s, 0) else ([], 14) | none => setR s v t)
  else if c = t.con then (if l.length = t.args.length then onRs l t.args s else ([], 14)) else ([], 14)
def onRs : List Ty → List Ty → List Pr → List Pr × Int
 | [], _, s => (s, 0)
 | x :: r, m, s => if (onR x (m.headD Y0) s).2 = 0 then onRs r m.tail (onR x (m.headD Y0) s).1 else ([], (onR x (m.headD Y0) s).2)
end
theorem q8a (p t : Ty) (s : List Pr) : onR p t s = if p.con = [] then (match qx p.var s with | some u => if qdi u t = true then (s, 0) else ([], 14) | none => setR s p.var t)
 else if p.con = t.con then (if p.args.length = t.args.length then onRs p.args t.args s else ([], 14)) else ([], 14) := by
 cases p; rw [onR]; rfl
theorem qlp {l m : List Ty} {i : Nat} (h : i < l.length) (h' : i < m.length) (s : List Pr) : onRs (l.drop i) (m.drop i) s = if (onR (l.getD i Y0) (m.getD i Y0) s).2 = 0 then onRs (l.drop (i + 1)) (m.drop (i + 1)) (onR (l.getD i Y0) (m.getD i Y0) s).1 else ([], (onR (l.getD i Y0) (m.getD i Y0) s).2) := by
 rw [qdl h, qdl h', onRs]; rfl
theorem qog {l m : List Ty} {i : Nat} (h : l.length ≤ i) (s : List Pr) : onRs (l.drop i) (m.drop i) s = (s, 0) := by
 rw [List.drop_of_length_le h, onRs]
theorem qsk {t a : Ty} (h : qk t = true) (ha : a ∈ t.args) : qk a = true := by
 obtain ⟨h1, h2, h3⟩ := (qbx t).1 h
 have q1 := qd1 ha
 have q2 := qkl ha
 rw [qdh] at h1
 rw [qmd] at h2
 rw [qd3, Bool.and_eq_true] at h3
 refine (qbx a).2 ⟨by omega, by omega, ?_⟩
 have : ∀ l : List Ty, qbf l = true → ∀ a ∈ l, qby a = true := fun l => by
  induction l with
  | nil => intro _ a ha; cases ha
  | cons x r ih =>
    intro hl a ha
    rw [qbf, Bool.and_eq_true] at hl
    rcases List.mem_cons.1 ha with rfl | ha
    ·exact hl.1
    ·exact ih hl.2 a ha
 exact this _ h3.1 a ha
mutual
theorem qbdc : ∀ (p t : Ty) (s : List Pr), qk t = true → onR p t s = if (onP p t s).2 = true then ((onP p t s).1, 0) else ([], 14)
 | .mk c v l, t, s, ht => by
   rw [onR, onP]
   by_cases hc : c = []
   ·rw [if_pos hc, if_pos hc]
    cases hl : qx v s with
    | some u => rfl
    | none => dsimp only; rw [qj4 ht hl]; rfl
   ·rw [if_neg hc, if_neg hc]
    by_cases hct : c = t.con
    ·rw [if_pos hct, if_pos hct]
     by_cases hlt : l.length = t.args.length
     ·rw [if_pos hlt, if_pos hlt]
      exact qna l t.args s hlt fun a ha => qsk ht ha
     ·rw [if_neg hlt, if_neg hlt]; rfl
    ·rw [if_neg hct, if_neg hct]; rfl
theorem qna : ∀ (l m : List Ty) (s : List Pr), l.length = m.length → (∀ a ∈ m, qk a = true) → onRs l m s = if (onPs l m s).2 = true then ((onPs l m s).1, 0) else ([], 14)
 | [], m, s, _, _ => by rw [onRs, onPs]; rfl
 | x :: r, [], s, h, _ => by simp at h
 | x :: r, y :: m, s, h, hm => by
   have h1 := qbdc x y s (hm y (by simp))
   rw [onRs, onPs]
   show (if (onR x y s).2 = 0 then onRs r m (onR x y s).1 else ([], (onR x y s).2)) = _
   rw [h1]
   show _ = if (if (onP x y s).2 = true then onPs r m (onP x y s).1 else ((onP x y s).1, false)).2 = true then ((if (onP x y s).2 = true then onPs r m (onP x y s).1 else ((onP x y s).1, false)).1, 0) else ([], 14)
   cases h2 : (onP x y s).2 with
   | true =>
     simp only [if_true]
     exact qna r m _ (by simpa using h) fun a ha => hm a (by simp [ha])
   | false => rfl
end
mutual
theorem qnw : ∀ (p t : Ty) (s : List Pr), okS s → okS (onR p t s).1 ∧ (onR p t s).1.length ≤ s.length + szY p
 | .mk c v l, t, s, h => by
   rw [onR, szY]
   split
   ·cases hl : qx v s with
    | some u =>
      dsimp only
      split
      ·exact ⟨h, by dsimp only; omega⟩
      ·exact ⟨qcb, by simp⟩
    | none => exact ⟨qkd h v t, by have := qky s v t; dsimp only; omega⟩
   split
   ·split
    ·have := qox l t.args s h
     exact ⟨this.1, by omega⟩
    ·exact ⟨qcb, by simp⟩
   ·exact ⟨qcb, by simp⟩
theorem qox : ∀ (l m : List Ty) (s : List Pr), okS s → okS (onRs l m s).1 ∧ (onRs l m s).1.length ≤ s.length + szYs l
 | [], m, s, h => by rw [onRs, szYs]; exact ⟨h, by dsimp only; omega⟩
 | x :: r, m, s, h => by
   have h1 := qnw x (m.headD Y0) s h
   rw [onRs, szYs]
   split
   ·have h2 := qox r m.tail _ h1.1
    exact ⟨h2.1, by omega⟩
   ·exact ⟨qcb, by simp⟩
end
def allR (l m : List Ty) : List Pr × Int := if l.all qk = true ∧ m.all qk = true then (if l.length = m.length then onRs l m [] else ([], 14)) else ([], 1)
theorem qx6 (l m : List Ty) : allR l m = allP l m := by
 rw [allR, allP]
 by_cases h : l.all qk = true ∧ m.all qk = true
 ·rw [if_pos h, if_pos h, qgt]
  by_cases hl : l.length = m.length
  ·rw [if_pos hl, if_pos hl]
   exact qna l m [] hl fun a ha => List.all_eq_true.1 h.2 a ha
  ·rw [if_neg hl, if_neg hl]; rfl
 ·rw [if_neg h, if_neg h]
set_option maxRecDepth 4000

def onrI (l m : List Ty) (s : List Pr) (x : Nat × List Pr) : Prop := x.1 ≤ l.length ∧ onRs (l.drop x.1) (m.drop x.1) x.2 = onRs l m s ∧ okS x.2 ∧ x.2.length + szYs (l.drop x.1) ≤ 100000
theorem qyg : ∀ p t s, okS s → s.length + szY p ≤ 100000 → szY t ≤ 20000 → dpY t ≤ 300 → qj Try.prog 96 [.sl 4 (qr s), encY p, encY t] (rowA (onR p t s)) := by
 refine Ty.ind fun p ih t s h1 h2 h3 h4 => ?_
 refine qe c0cs (by simp) (by simp only [go_sem]) (qny _ _) fun hw => ?_
 have hkp := qbp hw.2.1
 have hkt := qbp hw.2.2.1
 have hG := qfc s p.var
 have hS : qj Try.prog 44 [.sl 4 (qr s), .int .i64 p.var, encY t] (.tup [.sl 4 (qr (setR s p.var t).1), .int .i64 (setR s p.var t).2]) := qtj (s := s) (v := p.var) (by omega) h3 h4
 rw [q8a]
 by_cases hc : p.con = []
 ·simp only [if_pos hc]
  cases hlk : qx p.var s with
  | some u =>
    rw [getA, hlk] at hG
    cases hu : qdi u t with
    | true =>
      repeat' (first | refine vs_ ?_ | ((first | refine vr_ ?_ | fail) <;> (try simp only [hc, hu, go_sem, ↓reduceIte])) | ((first | (refine cs_ ?_ ?_ <;> intro hc) | refine cj_ ?_ | simp (disch := omega) only [encs_getN, qb] | refine qa hG fun _ => ?_ | refine qa (qck _ _) fun _ => ?_ | refine qd hG ?_ | refine qd (qck _ _) ?_) <;> (try refine ev_ ?_)) | with_reducible exact ti_)
      rfl
    | false =>
      repeat' (first | refine vs_ ?_ | ((first | refine vr_ ?_ | fail) <;> (try simp only [hc, hu, go_sem, ↓reduceIte])) | ((first | (refine cs_ ?_ ?_ <;> intro hc) | refine cj_ ?_ | simp (disch := omega) only [encs_getN, qb] | refine qa hG fun _ => ?_ | refine qa (qck _ _) fun _ => ?_ | refine qd hG ?_ | refine qd (qck _ _) ?_) <;> (try refine ev_ ?_)) | with_reducible exact ti_)
      rfl
  | none =>
    rw [getA, hlk] at hG
    repeat' (first | refine vs_ ?_ | ((first | refine vr_ ?_ | fail) <;> (try simp only [hc, go_sem, ↓reduceIte])) | ((first | (refine cs_ ?_ ?_ <;> intro hc) | refine cj_ ?_ | simp (disch := omega) only [encs_getN, qb] | refine qa hG fun _ => ?_ | refine qa hS fun _ => ?_ | refine qd hG ?_ | refine qd hS ?_) <;> (try refine ev_ ?_)) | with_reducible exact ti_)
    rfl
 ·simp only [if_neg hc]
  by_cases hct : p.con = t.con
  ·have hcT : ¬ t.con = [] := hct ▸ hc
   simp only [if_pos hct]
   by_cases hlm : p.args.length = t.args.length
   ·have hlmi : (p.args.length : Int) = t.args.length := by omega
    rw [if_pos hlm]
    repeat' (first | refine vs_ ?_ | ((first | refine vr_ ?_ | fail) <;> (try simp only [hc, hct, hcT, hlmi, go_sem, ↓reduceIte])) | ((first | (refine cs_ ?_ ?_ <;> intro hc) | refine cj_ ?_ | simp (disch := omega) only [encs_getN, qb]) <;> (try refine ev_ ?_)) | with_reducible exact ti_)
    refine qs (S := Nat × List Pr) (onrI p.args t.args s) (fun x => (⟨[(0, .sl 4 (qr x.2)), (4, .ptr 0 0), (5, .ptr 1 0), (10, .int .i64 x.1)], []⟩, [.blk (yc p), .blk (yc t)])) (fun x => p.args.length - x.1) ?_ fun x hx => ?_
    ·refine qo (0, s) [0, 1] ⟨Nat.zero_le _, rfl, h1, by rw [qdh] at h2; show s.length + szYs (p.args.drop 0) ≤ _; rw [List.drop_zero]; omega⟩ rfl (by simp) ?_ ?_ ?_ <;> (try refine ev_ ?_) <;> (try with_reducible exact ti_) <;> (try simp (disch := omega) only [qb, and_true, true_and])
     all_goals (try rw [hct])
    ·obtain ⟨i, s1⟩ := x
     obtain ⟨hi, ha, ho1, hs1⟩ := hx
     dsimp only at hi ha ho1 hs1
     by_cases hlt : i < p.args.length
     ·have hmt : i < t.args.length := by omega
      have q1 := qd1 (qt hmt)
      have q2 := qkl (qt hmt)
      rw [qdh] at h3
      rw [qmd] at h4
      rw [qlp hlt hmt] at ha
      rw [qdl hlt, szYs] at hs1
      have hon : qj Try.prog 96 [.sl 4 (qr s1), encY (p.args.getD i Y0), encY (t.args.getD i Y0)] (.tup [.sl 4 (qr (onR (p.args.getD i Y0) (t.args.getD i Y0) s1).1), .int .i64 (onR (p.args.getD i Y0) (t.args.getD i Y0) s1).2]) := ih _ (qt hlt) (t.args.getD i Y0) s1 ho1 (by omega) (by omega) (by omega)
      have hok := qnw (p.args.getD i Y0) (t.args.getD i Y0) s1 ho1
      by_cases he : (onR (p.args.getD i Y0) (t.args.getD i Y0) s1).2 = 0
      ·rw [if_pos he] at ha
       repeat' (first | refine vs_ ?_ | ((first | refine vr_ ?_ | fail) <;> (try simp (disch := first | omega | (simp only [List.length_set, List.length_append, List.length_cons, List.length_nil]; done) | (simp only [List.length_set, List.length_append, List.length_cons, List.length_nil]; omega)) only [qn, qb, he, go_sem, ↓reduceIte])) | ((first | (refine cs_ ?_ ?_ <;> intro hc) | refine cj_ ?_ | simp (disch := omega) only [encs_getN, qb] | refine qa hon fun _ => ?_ | refine qd hon ?_) <;> (try refine ev_ ?_)) | with_reducible exact ti_)
       all_goals first | (exfalso; omega) | skip
       refine qo (i + 1, (onR (p.args.getD i Y0) (t.args.getD i Y0) s1).1) [0, 1] ⟨⟨by dsimp only; omega, ha, hok.1, by dsimp only; omega⟩, by dsimp only; omega⟩ rfl (by simp) ?_ ?_ ?_ <;> (try refine ev_ ?_) <;> (try with_reducible exact ti_) <;> (try simp (disch := omega) only [qb, and_true, true_and])
      ·rw [if_neg he] at ha
       repeat' (first | refine vs_ ?_ | ((first | refine vr_ ?_ | fail) <;> (try simp (disch := first | omega | (simp only [List.length_set, List.length_append, List.length_cons, List.length_nil]; done) | (simp only [List.length_set, List.length_append, List.length_cons, List.length_nil]; omega)) only [qn, qb, he, go_sem, ↓reduceIte])) | ((first | (refine cs_ ?_ ?_ <;> intro hc) | refine cj_ ?_ | simp (disch := omega) only [encs_getN, qb] | refine qa hon fun _ => ?_ | refine qd hon ?_) <;> (try refine ev_ ?_)) | with_reducible exact ti_)
       all_goals first | (exfalso; omega) | (rw [← ha]; rfl)
     ·rw [qog (by omega)] at ha
      repeat' (first | refine vs_ ?_ | ((first | refine vr_ ?_ | (refine cs_ ?_ ?_ <;> intro hc) | refine cj_ ?_ | simp (disch := omega) only [encs_getN, qb]) <;> (try refine ev_ ?_)) | with_reducible exact ti_)
      all_goals first | (exfalso; omega) | skip
      all_goals (rw [← ha]; rfl)
   ·have hlmi : ¬ (p.args.length : Int) = t.args.length := by omega
    rw [if_neg hlm]
    repeat' (first | refine vs_ ?_ | ((first | refine vr_ ?_ | fail) <;> (try simp only [hc, hct, hcT, hlmi, go_sem, ↓reduceIte])) | ((first | (refine cs_ ?_ ?_ <;> intro hc) | refine cj_ ?_ | simp (disch := omega) only [encs_getN, qb]) <;> (try refine ev_ ?_)) | with_reducible exact ti_)
    rfl
  ·simp only [if_neg hct]
   repeat' (first | refine vs_ ?_ | ((first | refine vr_ ?_ | fail) <;> (try simp only [hc, hct, go_sem, ↓reduceIte])) | ((first | (refine cs_ ?_ ?_ <;> intro hc) | refine cj_ ?_ | simp (disch := omega) only [encs_getN, qb]) <;> (try refine ev_ ?_)) | with_reducible exact ti_)
   rfl
theorem qhb {l : List Ty} (hs : ∀ x ∈ l, szY x ≤ 20000 ∧ dpY x ≤ 300) : qj Try.prog 95 [.sl 3 (qi l)] (.bool (l.all qk)) := by
 refine qe c0ct (by simp) (by simp only [go_sem]) rfl fun hw => ?_
 have hl : l.length ≤ maxLen := by have := hw.1.1; rwa [qbb] at this
 repeat' (first | refine vs_ ?_ | ((first | refine vr_ ?_ | (refine cs_ ?_ ?_ <;> intro hc) | refine cj_ ?_ | simp (disch := omega) only [encs_getN, qb]) <;> (try refine ev_ ?_)) | with_reducible exact ti_)
 refine qs (S := Nat) (fun i => i ≤ l.length ∧ (l.drop i).all qk = l.all qk) (fun i => (⟨[(0, .sl 3 (qi l)), (3, .int .i64 i)], []⟩, [])) (fun i => l.length - i) ?_ fun i hi => ?_
 ·refine qo 0 [] ⟨Nat.zero_le _, rfl⟩ rfl (by simp) ?_ ?_ ?_ <;> (try refine ev_ ?_) <;> (try with_reducible exact ti_) <;> (try simp (disch := omega) only [qb, and_true, true_and])
 ·obtain ⟨hi, ha⟩ := hi
  by_cases hlt : i < l.length
  ·have hx := hs _ (qt hlt)
   have hL := qdb hx.1 hx.2
   have hd : (l.drop i).all qk = (qk (l.getD i Y0) && (l.drop (i + 1)).all qk) := by rw [qdl hlt]; rfl
   rw [hd] at ha
   repeat' (first | refine vs_ ?_ | ((first | refine vr_ ?_ | fail) <;> (try simp (disch := first | omega | (simp only [List.length_set, List.length_append, List.length_cons, List.length_nil]; done) | (simp only [List.length_set, List.length_append, List.length_cons, List.length_nil]; omega)) only [qn, qb, go_sem, ↓reduceIte])) | ((first | (refine cs_ ?_ ?_ <;> intro hc) | refine cj_ ?_ | simp (disch := omega) only [encs_getN, qb] | refine qa hL fun _ => ?_) <;> (try refine ev_ ?_)) | with_reducible exact ti_)
   ·rw [← ha, hc]; rfl
   ·refine qo (i + 1) [] ⟨⟨by omega, by rw [← ha, hc, Bool.true_and]⟩, by omega⟩ rfl (by simp) ?_ ?_ ?_ <;> (try refine ev_ ?_) <;> (try with_reducible exact ti_) <;> (try simp (disch := omega) only [qb, and_true, true_and])
   ·exfalso; omega
  ·rw [List.drop_of_length_le (by omega)] at ha
   repeat' (first | refine vs_ ?_ | ((first | refine vr_ ?_ | (refine cs_ ?_ ?_ <;> intro hc) | refine cj_ ?_ | simp (disch := omega) only [encs_getN, qb]) <;> (try refine ev_ ?_)) | with_reducible exact ti_)
   all_goals first | (exfalso; omega) | (rw [← ha]; rfl)
theorem qsf {l m : List Ty} (hl : ∀ x ∈ l, szY x ≤ 20000 ∧ dpY x ≤ 300) (hm : ∀ x ∈ m, szY x ≤ 20000 ∧ dpY x ≤ 300) (h20 : l.length ≤ 20) : qj Try.prog 58 [.sl 3 (qi l), .sl 3 (qi m)] (rowA (allR l m)) := by
 refine qe c0cu (by simp) (by simp only [go_sem]) (qny _ _) fun hw => ?_
 have L1 := qhb hl
 have L2 := qhb hm
 cases h1 : l.all qk with
 | false =>
   rw [h1] at L1
   rw [allR, if_neg (by simp [h1])]
   repeat' (first | refine vs_ ?_ | ((first | refine vr_ ?_ | refine qa L1 fun _ => ?_ | refine qd L1 ?_ | (refine cs_ ?_ ?_ <;> intro hc) | refine cj_ ?_ | simp (disch := omega) only [encs_getN, qb]) <;> (try refine ev_ ?_)) | with_reducible exact ti_)
   rfl
 | true =>
   rw [h1] at L1
   cases h2 : m.all qk with
   | false =>
     rw [h2] at L2
     rw [allR, if_neg (by simp [h2])]
     repeat' (first | refine vs_ ?_ | ((first | refine vr_ ?_ | refine qa L1 fun _ => ?_ | refine qa L2 fun _ => ?_ | refine qd L1 ?_ | refine qd L2 ?_ | (refine cs_ ?_ ?_ <;> intro hc) | refine cj_ ?_ | simp (disch := omega) only [encs_getN, qb]) <;> (try refine ev_ ?_)) | with_reducible exact ti_)
     rfl
   | true =>
     rw [h2] at L2
     rw [allR, if_pos ⟨h1, h2⟩]
     by_cases hlm : l.length = m.length
     ·have hlmi : (l.length : Int) = m.length := by omega
      have hsz := qhf (k := 20) h1 h20
      rw [if_pos hlm]
      repeat' (first | refine vs_ ?_ | ((first | refine vr_ ?_ | fail) <;> (try simp only [hlmi, go_sem, ↓reduceIte])) | ((first | (refine cs_ ?_ ?_ <;> intro hc) | refine cj_ ?_ | simp (disch := omega) only [encs_getN, qb] | refine qa L1 fun _ => ?_ | refine qa L2 fun _ => ?_ | refine qd L1 ?_ | refine qd L2 ?_) <;> (try refine ev_ ?_)) | with_reducible exact ti_)
      have hlx : l.length ≤ maxLen := by unfold maxLen; omega
      refine qbgy 6 4 rfl ?_
      refine qs (S := Nat × List Pr) (onrI l m []) (fun x => (⟨[(0, .sl 3 (qi l)), (1, .sl 3 (qi m)), (6, .sl 4 (qr x.2)), (7, .int .i64 x.1)], []⟩, [])) (fun x => l.length - x.1) ?_ fun x hx => ?_
      ·refine qo (0, []) [] ⟨Nat.zero_le _, rfl, qcb, by rw [List.length_nil]; show 0 + szYs (l.drop 0) ≤ _; rw [List.drop_zero]; omega⟩ rfl (by simp) ?_ ?_ ?_ <;> (try refine ev_ ?_) <;> (try with_reducible exact ti_) <;> (try simp (disch := omega) only [qb, and_true, true_and])
       all_goals rfl
      ·obtain ⟨i, s1⟩ := x
       obtain ⟨hi, ha, ho1, hs1⟩ := hx
       dsimp only at hi ha ho1 hs1
       by_cases hlt : i < l.length
       ·have hmt : i < m.length := by omega
        have q := hm _ (qt hmt)
        rw [qlp hlt hmt] at ha
        rw [qdl hlt, szYs] at hs1
        have hon : qj Try.prog 96 [.sl 4 (qr s1), encY (l.getD i Y0), encY (m.getD i Y0)] (.tup [.sl 4 (qr (onR (l.getD i Y0) (m.getD i Y0) s1).1), .int .i64 (onR (l.getD i Y0) (m.getD i Y0) s1).2]) := qyg _ _ s1 ho1 (by omega) q.1 q.2
        have hok := qnw (l.getD i Y0) (m.getD i Y0) s1 ho1
        by_cases he : (onR (l.getD i Y0) (m.getD i Y0) s1).2 = 0
        ·rw [if_pos he] at ha
         repeat' (first | refine vs_ ?_ | ((first | refine vr_ ?_ | fail) <;> (try simp (disch := first | omega | (simp only [List.length_set, List.length_append, List.length_cons, List.length_nil]; done) | (simp only [List.length_set, List.length_append, List.length_cons, List.length_nil]; omega)) only [qn, qb, he, go_sem, ↓reduceIte])) | ((first | (refine cs_ ?_ ?_ <;> intro hc) | refine cj_ ?_ | simp (disch := omega) only [encs_getN, qb] | refine qa hon fun _ => ?_ | refine qd hon ?_) <;> (try refine ev_ ?_)) | with_reducible exact ti_)
         all_goals first | (exfalso; omega) | skip
         refine qo (i + 1, (onR (l.getD i Y0) (m.getD i Y0) s1).1) [] ⟨⟨by dsimp only; omega, ha, hok.1, by dsimp only; omega⟩, by dsimp only; omega⟩ rfl (by simp) ?_ ?_ ?_ <;> (try refine ev_ ?_) <;> (try with_reducible exact ti_) <;> (try simp (disch := omega) only [qb, and_true, true_and])
        ·rw [if_neg he] at ha
         repeat' (first | refine vs_ ?_ | ((first | refine vr_ ?_ | fail) <;> (try simp (disch := first | omega | (simp only [List.length_set, List.length_append, List.length_cons, List.length_nil]; done) | (simp only [List.length_set, List.length_append, List.length_cons, List.length_nil]; omega)) only [qn, qb, he, go_sem, ↓reduceIte])) | ((first | (refine cs_ ?_ ?_ <;> intro hc) | refine cj_ ?_ | simp (disch := omega) only [encs_getN, qb] | refine qa hon fun _ => ?_ | refine qd hon ?_) <;> (try refine ev_ ?_)) | with_reducible exact ti_)
         all_goals first | (exfalso; omega) | (rw [← ha]; rfl)
       ·rw [qog (by omega)] at ha
        repeat' (first | refine vs_ ?_ | ((first | refine vr_ ?_ | (refine cs_ ?_ ?_ <;> intro hc) | refine cj_ ?_ | simp (disch := omega) only [encs_getN, qb]) <;> (try refine ev_ ?_)) | with_reducible exact ti_)
        all_goals first | (exfalso; omega) | (rw [← ha]; rfl)
     ·have hlmi : ¬ (l.length : Int) = m.length := by omega
      rw [if_neg hlm]
      repeat' (first | refine vs_ ?_ | ((first | refine vr_ ?_ | fail) <;> (try simp only [hlmi, go_sem, ↓reduceIte])) | ((first | (refine cs_ ?_ ?_ <;> intro hc) | refine cj_ ?_ | simp (disch := omega) only [encs_getN, qb] | refine qa L1 fun _ => ?_ | refine qa L2 fun _ => ?_ | refine qd L1 ?_ | refine qd L2 ?_) <;> (try refine ev_ ?_)) | with_reducible exact ti_)
      rfl
end Go.Proofs.Ytfpobiheiloamaa
