/- Texts of this proof, joined. -/
import Derived.Test.YtfjbmjplnmaclaaObp

/- declarations: the program: heads, declarations -/
set_option maxRecDepth 4000
namespace Go.Proofs.Ytfjbmjplnmaclaa
open Go Go.RowKit Go.V
set_option linter.unusedVariables false
set_option linter.unusedSimpArgs false

section
variable {kd : Int} {c : K} {out : List N} {e1 e2 e3 e4 e5 : Ent} {Q : List Ent → VO → Prop}
theorem qbc7 (h : qjx kd c out) (h0 : (qc9 kd c out).2.1 = out) (hq : Q [curE (qc9 kd c out).1, e1, e2, e3, e4, .app 5 (encs out)] (.val (.tup [.row 5 out.length, .bool (qc9 kd c out).2.2]))) :
    VApp Try.prog [curE c, e1, e2, e3, e4, .app 5 (encs out)] (.fn 44 [] []) [.ptr 0 0, .row 5 out.length, .int .i64 kd] Q :=
  qcb (first := []) (caps := []) (by
    simp only [List.nil_append, List.append_nil]
    refine qct (H0 := [curE c, .app 5 (encs out)]) (args0 := [.ptr 0 0, .row 1 out.length, .int .i64 kd]) [0, 5] h (by simp) ?_ rfl rfl ?_
    · simp only [go_sem, ↓reduceIte, Nat.reduceEqDiff, Nat.reduceAdd, Nat.reduceSub, Nat.reduceMul, Nat.reduceLT, Nat.reduceLeDiff, reduceCtorEq, Int.reduceToNat]
      all_goals (rw [qbw, qbc]; exact ⟨rfl, rfl⟩)
    intro H1 o hh
    obtain ⟨rfl, rfl⟩ := hh.1 h0
    simpa [qfv, qb0, sg', qo6, AV.ren, AV.rens, VO.ren, qc0] using hq)
theorem qbc9 (h : qjx kd c out) (h0 : (qc9 kd c out).2.1 ≠ out) (hq : Q [curE (qc9 kd c out).1, e1, e2, e3, e4, .dead, .app 5 (encs (qc9 kd c out).2.1)] (.val (.tup [.row 6 (qc9 kd c out).2.1.length, .bool (qc9 kd c out).2.2]))) :
    VApp Try.prog [curE c, e1, e2, e3, e4, .app 5 (encs out)] (.fn 44 [] []) [.ptr 0 0, .row 5 out.length, .int .i64 kd] Q :=
  qcb (first := []) (caps := []) (by
    simp only [List.nil_append, List.append_nil]
    refine qct (H0 := [curE c, .app 5 (encs out)]) (args0 := [.ptr 0 0, .row 1 out.length, .int .i64 kd]) [0, 5] h (by simp) ?_ rfl rfl ?_
    · simp only [go_sem, ↓reduceIte, Nat.reduceEqDiff, Nat.reduceAdd, Nat.reduceSub, Nat.reduceMul, Nat.reduceLT, Nat.reduceLeDiff, reduceCtorEq, Int.reduceToNat]
      all_goals (rw [qbw, qbc]; exact ⟨rfl, rfl⟩)
    intro H1 o hh
    obtain ⟨rfl, rfl⟩ := hh.2 h0
    have hd : ∀ σ : Nat → Nat, Ent.dead.ren σ = .dead := fun σ => rfl
    simpa [qfv, qb0, sg', qo6, hd, AV.ren, AV.rens, VO.ren, qc0] using hq)
theorem qbdi (h : qjx kd c out) (h0 : (qc9 kd c out).2.1 = out) (hq : Q [curE (qc9 kd c out).1, e1, e2, e3, e4, e5, .app 5 (encs out)] (.val (.tup [.row 6 out.length, .bool (qc9 kd c out).2.2]))) :
    VApp Try.prog [curE c, e1, e2, e3, e4, e5, .app 5 (encs out)] (.fn 44 [] []) [.ptr 0 0, .row 6 out.length, .int .i64 kd] Q :=
  qcb (first := []) (caps := []) (by
    simp only [List.nil_append, List.append_nil]
    refine qct (H0 := [curE c, .app 5 (encs out)]) (args0 := [.ptr 0 0, .row 1 out.length, .int .i64 kd]) [0, 6] h (by simp) ?_ rfl rfl ?_
    · simp only [go_sem, ↓reduceIte, Nat.reduceEqDiff, Nat.reduceAdd, Nat.reduceSub, Nat.reduceMul, Nat.reduceLT, Nat.reduceLeDiff, reduceCtorEq, Int.reduceToNat]
      all_goals (rw [qbw, qbc]; exact ⟨rfl, rfl⟩)
    intro H1 o hh
    obtain ⟨rfl, rfl⟩ := hh.1 h0
    simpa [qfv, qb0, sg', qo6, AV.ren, AV.rens, VO.ren, qc0] using hq)
theorem qbdd (h : qjx kd c out) (h0 : (qc9 kd c out).2.1 ≠ out) (hq : Q [curE (qc9 kd c out).1, e1, e2, e3, e4, e5, .dead, .app 5 (encs (qc9 kd c out).2.1)] (.val (.tup [.row 7 (qc9 kd c out).2.1.length, .bool (qc9 kd c out).2.2]))) :
    VApp Try.prog [curE c, e1, e2, e3, e4, e5, .app 5 (encs out)] (.fn 44 [] []) [.ptr 0 0, .row 6 out.length, .int .i64 kd] Q :=
  qcb (first := []) (caps := []) (by
    simp only [List.nil_append, List.append_nil]
    refine qct (H0 := [curE c, .app 5 (encs out)]) (args0 := [.ptr 0 0, .row 1 out.length, .int .i64 kd]) [0, 6] h (by simp) ?_ rfl rfl ?_
    · simp only [go_sem, ↓reduceIte, Nat.reduceEqDiff, Nat.reduceAdd, Nat.reduceSub, Nat.reduceMul, Nat.reduceLT, Nat.reduceLeDiff, reduceCtorEq, Int.reduceToNat]
      all_goals (rw [qbw, qbc]; exact ⟨rfl, rfl⟩)
    intro H1 o hh
    obtain ⟨rfl, rfl⟩ := hh.2 h0
    have hd : ∀ σ : Nat → Nat, Ent.dead.ren σ = .dead := fun σ => rfl
    simpa [qfv, qb0, sg', qo6, hd, AV.ren, AV.rens, VO.ren, qc0] using hq)
end
theorem qbdm : ∀ l : List N, l.length ≤ szs l
  | [] => Nat.zero_le _
  | x :: r => by
    have := qbdm r
    rw [szs, qjh, List.length_cons]; omega
def qbac (k p : Int) : AV := .agg [.int .i64 k, .int .i64 p, .int .i64 0, .str [], .nils]
theorem qsz (k p : Int) : AV.agg [.int .i64 k, .int .i64 p, .int .i64 0, .str [], .sl 5 []] = enc (q2i k p) := by simp only [q2i, enc, encs]
theorem qh6 (k p : Int) (t : T) (v l : List N) : AV.agg [.int .i64 k, .int .i64 p, .int .i64 v.length, .str t.text, .sl 5 (encs l)] = enc (qlo k p t v l) := by simp only [qlo, enc]
theorem qov (k p : Int) (t : T) (v : List N) : AV.agg [.int .i64 k, .int .i64 p, .int .i64 v.length, .str t.text, .sl 5 []] = enc (qlo k p t v []) := qh6 k p t v []
theorem qla (k p : Int) (t : T) (l : List N) : AV.agg [.int .i64 k, .int .i64 p, .int .i64 0, .str t.text, .sl 5 (encs l)] = enc (qlo k p t [] l) := qh6 k p t [] l
theorem qpj (k p : Int) (t : T) : AV.agg [.int .i64 k, .int .i64 p, .int .i64 0, .str t.text, .sl 5 []] = enc (qlo k p t [] []) := qh6 k p t [] []
set_option maxHeartbeats 2000000 in
theorem q4v (k p : Int) (c : K) (hg : c.good) : qcc Try.prog 28 (curE c) (curE (qku k p c).1) [.ptr 0 0, qbac k p] (resB (qku k p c).2) := by
  have hP : qhs (qbu (rest c + 2)) c := qof (qcn _) (qvy (rest c + 2)) c hg (by omega)
  have p0 := @qmm (qbu (rest c + 2)) c hP
  have p1 := @qrr (qbu (rest c + 2)) c hP
  have g1 : (qcz c).1.good := (qgf c).1 hg
  have h9 := hg.rest
  have hpl := fun l => @q1k c l
  have hpz := fun l (h : (qcz c).2 = some l) => Nat.le_trans (Nat.add_le_add_right (qbdm l) _) (@qwa c l h)
  clear hP
  refine qx c0cy 1 (by simp) (by simp [qbac]) ?_
  unfold qku q15 qbac
  unfold qcz at *
  generalize q9 (qbu (rest c + 2)) c = pr at *
  obtain ⟨d, o⟩ := pr
  simp only at p0 p1 g1 hpl hpz ⊢
  cases o with
  | none =>
    repeat' (first | refine qj ?_ | ((first | refine qbx ?_ | refine qba ?_ | refine qk ?_ | refine qh ?_ | refine qg ?_) <;> (try simp (disch := first | omega | (simp only [List.length_set, List.length_append, List.length_cons, List.length_nil]; done) | (simp only [List.length_set, List.length_append, List.length_cons, List.length_nil]; omega)) only [Option.isSome_none, Option.getD_none, go_sem, ↓reduceIte, Nat.reduceEqDiff, Nat.reduceAdd, Nat.reduceSub, Nat.reduceMul, Nat.reduceLT, Nat.reduceLeDiff, reduceCtorEq, Int.reduceToNat])) | ((first | ((first | refine qe ?_ ?_ | refine qd ?_ ?_) <;> intro hc <;> (try simp only [hc]) <;> (try simp only [qb, qa, decide_eq_true_eq, decide_eq_false_iff_not, Bool.and_eq_true] at hc)) | refine And.intro (by first | assumption | omega | (have := qf (by assumption); omega) | (unfold qp; omega)) ?_ | simp (disch := omega) only [qc] | simp (disch := omega) only [qo] | refine p0 rfl ?_) <;> (try simp only [go_sem, ↓reduceIte, Nat.reduceEqDiff, Nat.reduceAdd, Nat.reduceSub, Nat.reduceMul, Nat.reduceLT, Nat.reduceLeDiff, reduceCtorEq, Int.reduceToNat])))
    all_goals (try rw [qsz])
    all_goals first | exact ⟨rfl, rfl⟩ | rfl | (exfalso; clear p0 p1; simp_all; done)
  | some v =>
    have hvl := hpl v rfl
    have hvz := hpz v rfl
    have hvm : v.length ≤ maxLen := by unfold maxLen; unfold rest at hvl; omega
    have hcap : qp (v.length + 1) 64 := capN (by unfold rest at hvl; omega)
    have hcap1 : qp 1 64 := capN (by omega)
    have p0 : v = [] → _ := fun h => @p0 h
    have p1 : v ≠ [] → _ := fun h => @p1 v rfl h
    clear hpl hpz
    simp only [Option.getD_some, Option.isSome_some, if_true]
    have g2 : (kindK d 2).1.good := (qb8 d 2).1 g1
    have r2 := (qb8 d 2).2.1
    by_cases hk : (kindK d 2).2 = true
    · rw [if_pos hk]
      have ha := qpr (kindK d 2).1 g2
      have g3 := (qhx (kindK d 2).1).1 g2
      have r3 := (qhx (kindK d 2).1).2.1
      have r4 : (qfz (kindK d 2).1).2.isSome = true → rest (qfz (kindK d 2).1).1 < rest (kindK d 2).1 := fun h => qdv (qcn _) h
      unfold qw3 q1m
      generalize qfz (kindK d 2).1 = a at *
      have hkl := qmd (by decide) hk
      have hvl2 : v.length + 1 + rest a.1 ≤ 1048578 := by unfold rest at *; omega
      by_cases h35 : k = 35
      · subst h35
        simp only [true_and, if_true]
        by_cases hv : (qw (kindK d 2).1).kind = 1
        · have hv1 := hv
          rw [if_neg (by simp [hv])]
          have hbs := q4b 32 a.1 (v ++ [a.2.getD N0]) g3 (by simp only [List.length_append, List.length_cons, List.length_nil]; unfold rest at *; omega)
          have a0 := fun e1 e2 e3 e4 Q => @qbc7 32 a.1 (v ++ [a.2.getD N0]) e1 e2 e3 e4 Q hbs
          have a1 := fun e1 e2 e3 e4 Q => @qbc9 32 a.1 (v ++ [a.2.getD N0]) e1 e2 e3 e4 Q hbs
          have b0 := fun e1 e2 e3 e4 e5 Q => @qbdi 32 a.1 (v ++ [a.2.getD N0]) e1 e2 e3 e4 e5 Q hbs
          have b1 := fun e1 e2 e3 e4 e5 Q => @qbdd 32 a.1 (v ++ [a.2.getD N0]) e1 e2 e3 e4 e5 Q hbs
          clear hbs
          generalize qc9 32 a.1 (v ++ [a.2.getD N0]) = B at *
          obtain ⟨a, oa⟩ := a
          cases oa with
          | none =>
            simp only [Option.isSome_none, Bool.false_eq_true, if_false, Option.getD_none] at ha ⊢
            clear a0 a1 b0 b1
            by_cases h0 : v = []
            · repeat' (first | refine qj ?_ | ((first | refine qbx ?_ | refine qba ?_ | refine qk ?_ | refine qh ?_ | refine qg ?_) <;> (try simp (disch := first | omega | (simp only [List.length_set, List.length_append, List.length_cons, List.length_nil]; done) | (simp only [List.length_set, List.length_append, List.length_cons, List.length_nil]; omega)) only [hk, Option.isSome_some, hv1, ne_eq, not_true_eq_false, decide_false, Option.isSome_none, Option.getD_none, go_sem, ↓reduceIte, Nat.reduceEqDiff, Nat.reduceAdd, Nat.reduceSub, Nat.reduceMul, Nat.reduceLT, Nat.reduceLeDiff, reduceCtorEq, Int.reduceToNat])) | ((first | ((first | refine qe ?_ ?_ | refine qd ?_ ?_) <;> intro hc <;> (try simp only [hc]) <;> (try simp only [qb, qa, decide_eq_true_eq, decide_eq_false_iff_not, Bool.and_eq_true] at hc)) | refine And.intro (by first | assumption | omega | (have := qf (by assumption); omega) | (unfold qp; omega)) ?_ | simp (disch := omega) only [qc] | simp (disch := omega) only [qo] | refine p0 h0 ?_ | refine qc5 g1.ok ?_ | refine qb4 ?_ | refine qfp ?_ | refine qcp ha rfl ?_) <;> (try simp only [go_sem, ↓reduceIte, Nat.reduceEqDiff, Nat.reduceAdd, Nat.reduceSub, Nat.reduceMul, Nat.reduceLT, Nat.reduceLeDiff, reduceCtorEq, Int.reduceToNat])))
              all_goals (try subst h0)
              all_goals (try rw [qpj])
              all_goals first | exact ⟨rfl, rfl⟩ | rfl | (exfalso; clear p0 p1; simp_all; done)
            · repeat' (first | refine qj ?_ | ((first | refine qbx ?_ | refine qba ?_ | refine qk ?_ | refine qh ?_ | refine qg ?_) <;> (try simp (disch := first | omega | (simp only [List.length_set, List.length_append, List.length_cons, List.length_nil]; done) | (simp only [List.length_set, List.length_append, List.length_cons, List.length_nil]; omega)) only [hk, Option.isSome_some, hv1, ne_eq, not_true_eq_false, decide_false, Option.isSome_none, Option.getD_none, go_sem, ↓reduceIte, Nat.reduceEqDiff, Nat.reduceAdd, Nat.reduceSub, Nat.reduceMul, Nat.reduceLT, Nat.reduceLeDiff, reduceCtorEq, Int.reduceToNat])) | ((first | ((first | refine qe ?_ ?_ | refine qd ?_ ?_) <;> intro hc <;> (try simp only [hc]) <;> (try simp only [qb, qa, decide_eq_true_eq, decide_eq_false_iff_not, Bool.and_eq_true] at hc)) | refine And.intro (by first | assumption | omega | (have := qf (by assumption); omega) | (unfold qp; omega)) ?_ | simp (disch := omega) only [qc] | simp (disch := omega) only [qo] | refine p1 h0 ?_ | refine qc5 g1.ok ?_ | refine qb4 ?_ | refine qfp ?_ | refine qcp ha rfl ?_) <;> (try simp only [go_sem, ↓reduceIte, Nat.reduceEqDiff, Nat.reduceAdd, Nat.reduceSub, Nat.reduceMul, Nat.reduceLT, Nat.reduceLeDiff, reduceCtorEq, Int.reduceToNat])))
              all_goals (try rw [qov])
              all_goals first | exact ⟨rfl, rfl⟩ | rfl | (exfalso; clear p0 p1; simp_all; done)
          | some n =>
            simp only [Option.isSome_some, if_true, Option.getD_some] at ha a0 a1 b0 b1 ⊢
            by_cases h0 : v = []
            · subst h0
              clear b0 b1 hcap
              simp only [List.nil_append, encs, List.length_cons, List.length_nil, Nat.zero_add] at a0 a1
              by_cases hq : B.2.1 = [n]
              · repeat' (first | refine qj ?_ | ((first | refine qbx ?_ | refine qba ?_ | refine qk ?_ | refine qh ?_ | refine qg ?_) <;> (try simp (disch := first | omega | (simp only [List.length_set, List.length_append, List.length_cons, List.length_nil]; done) | (simp only [List.length_set, List.length_append, List.length_cons, List.length_nil]; omega)) only [hk, Option.isSome_some, hv1, ne_eq, not_true_eq_false, decide_false, go_sem, ↓reduceIte, Nat.reduceEqDiff, Nat.reduceAdd, Nat.reduceSub, Nat.reduceMul, Nat.reduceLT, Nat.reduceLeDiff, reduceCtorEq, Int.reduceToNat])) | ((first | ((first | refine qe ?_ ?_ | refine qd ?_ ?_) <;> intro hc <;> (try simp only [hc]) <;> (try simp only [qb, qa, decide_eq_true_eq, decide_eq_false_iff_not, Bool.and_eq_true] at hc)) | refine And.intro (by first | assumption | omega | (have := qf (by assumption); omega) | (unfold qp; omega)) ?_ | simp (disch := omega) only [qc] | simp (disch := omega) only [qo] | refine p0 rfl ?_ | refine qc5 g1.ok ?_ | refine qb4 ?_ | refine qfp ?_ | refine qcp ha rfl ?_ | refine a0 _ _ _ _ _ hq ?_) <;> (try simp only [go_sem, ↓reduceIte, Nat.reduceEqDiff, Nat.reduceAdd, Nat.reduceSub, Nat.reduceMul, Nat.reduceLT, Nat.reduceLeDiff, reduceCtorEq, Int.reduceToNat])))
                all_goals (try rw [hq, ← qla])
                all_goals first | exact ⟨rfl, rfl⟩ | rfl | (exfalso; clear p0 p1 a0 a1; simp_all; done)
              · repeat' (first | refine qj ?_ | ((first | refine qbx ?_ | refine qba ?_ | refine qk ?_ | refine qh ?_ | refine qg ?_) <;> (try simp (disch := first | omega | (simp only [List.length_set, List.length_append, List.length_cons, List.length_nil]; done) | (simp only [List.length_set, List.length_append, List.length_cons, List.length_nil]; omega)) only [hk, Option.isSome_some, hv1, ne_eq, not_true_eq_false, decide_false, go_sem, ↓reduceIte, Nat.reduceEqDiff, Nat.reduceAdd, Nat.reduceSub, Nat.reduceMul, Nat.reduceLT, Nat.reduceLeDiff, reduceCtorEq, Int.reduceToNat])) | ((first | ((first | refine qe ?_ ?_ | refine qd ?_ ?_) <;> intro hc <;> (try simp only [hc]) <;> (try simp only [qb, qa, decide_eq_true_eq, decide_eq_false_iff_not, Bool.and_eq_true] at hc)) | refine And.intro (by first | assumption | omega | (have := qf (by assumption); omega) | (unfold qp; omega)) ?_ | simp (disch := omega) only [qc] | simp (disch := omega) only [qo] | refine p0 rfl ?_ | refine qc5 g1.ok ?_ | refine qb4 ?_ | refine qfp ?_ | refine qcp ha rfl ?_ | refine a1 _ _ _ _ _ hq ?_) <;> (try simp only [go_sem, ↓reduceIte, Nat.reduceEqDiff, Nat.reduceAdd, Nat.reduceSub, Nat.reduceMul, Nat.reduceLT, Nat.reduceLeDiff, reduceCtorEq, Int.reduceToNat])))
                all_goals (try rw [qla])
                all_goals first | exact ⟨rfl, rfl⟩ | rfl | (exfalso; clear p0 p1 a0 a1; simp_all; done)
            · clear a0 a1 hcap1
              simp only [← qt, List.length_append, List.length_cons, List.length_nil, Nat.zero_add] at b0 b1
              by_cases hq : B.2.1 = v ++ [n]
              · repeat' (first | refine qj ?_ | ((first | refine qbx ?_ | refine qba ?_ | refine qk ?_ | refine qh ?_ | refine qg ?_) <;> (try simp (disch := first | omega | (simp only [List.length_set, List.length_append, List.length_cons, List.length_nil]; done) | (simp only [List.length_set, List.length_append, List.length_cons, List.length_nil]; omega)) only [hk, Option.isSome_some, hv1, ne_eq, not_true_eq_false, decide_false, go_sem, ↓reduceIte, Nat.reduceEqDiff, Nat.reduceAdd, Nat.reduceSub, Nat.reduceMul, Nat.reduceLT, Nat.reduceLeDiff, reduceCtorEq, Int.reduceToNat])) | ((first | ((first | refine qe ?_ ?_ | refine qd ?_ ?_) <;> intro hc <;> (try simp only [hc]) <;> (try simp only [qb, qa, decide_eq_true_eq, decide_eq_false_iff_not, Bool.and_eq_true] at hc)) | refine And.intro (by first | assumption | omega | (have := qf (by assumption); omega) | (unfold qp; omega)) ?_ | simp (disch := omega) only [qc] | simp (disch := omega) only [qo] | refine p1 h0 ?_ | refine qc5 g1.ok ?_ | refine qb4 ?_ | refine qfp ?_ | refine qcp ha rfl ?_ | refine b0 _ _ _ _ _ _ hq ?_) <;> (try simp only [go_sem, ↓reduceIte, Nat.reduceEqDiff, Nat.reduceAdd, Nat.reduceSub, Nat.reduceMul, Nat.reduceLT, Nat.reduceLeDiff, reduceCtorEq, Int.reduceToNat])))
                all_goals (try (rw [qt, qh6, hq]; exact ⟨qbc _ _, rfl⟩))
                all_goals first | exact ⟨rfl, rfl⟩ | rfl | (exfalso; clear p0 p1 b0 b1; simp_all; done)
              · repeat' (first | refine qj ?_ | ((first | refine qbx ?_ | refine qba ?_ | refine qk ?_ | refine qh ?_ | refine qg ?_) <;> (try simp (disch := first | omega | (simp only [List.length_set, List.length_append, List.length_cons, List.length_nil]; done) | (simp only [List.length_set, List.length_append, List.length_cons, List.length_nil]; omega)) only [hk, Option.isSome_some, hv1, ne_eq, not_true_eq_false, decide_false, go_sem, ↓reduceIte, Nat.reduceEqDiff, Nat.reduceAdd, Nat.reduceSub, Nat.reduceMul, Nat.reduceLT, Nat.reduceLeDiff, reduceCtorEq, Int.reduceToNat])) | ((first | ((first | refine qe ?_ ?_ | refine qd ?_ ?_) <;> intro hc <;> (try simp only [hc]) <;> (try simp only [qb, qa, decide_eq_true_eq, decide_eq_false_iff_not, Bool.and_eq_true] at hc)) | refine And.intro (by first | assumption | omega | (have := qf (by assumption); omega) | (unfold qp; omega)) ?_ | simp (disch := omega) only [qc] | simp (disch := omega) only [qo] | refine p1 h0 ?_ | refine qc5 g1.ok ?_ | refine qb4 ?_ | refine qfp ?_ | refine qcp ha rfl ?_ | refine b1 _ _ _ _ _ _ hq ?_) <;> (try simp only [go_sem, ↓reduceIte, Nat.reduceEqDiff, Nat.reduceAdd, Nat.reduceSub, Nat.reduceMul, Nat.reduceLT, Nat.reduceLeDiff, reduceCtorEq, Int.reduceToNat])))
                all_goals (try rw [qh6])
                all_goals first | exact ⟨rfl, rfl⟩ | rfl | (exfalso; clear p0 p1 b0 b1; simp_all; done)
        · rw [if_pos hv]
          clear ha
          by_cases h0 : v = []
          · repeat' (first | refine qj ?_ | ((first | refine qbx ?_ | refine qba ?_ | refine qk ?_ | refine qh ?_ | refine qg ?_) <;> (try simp (disch := first | omega | (simp only [List.length_set, List.length_append, List.length_cons, List.length_nil]; done) | (simp only [List.length_set, List.length_append, List.length_cons, List.length_nil]; omega)) only [hk, hv, Option.isSome_some, go_sem, ↓reduceIte, Nat.reduceEqDiff, Nat.reduceAdd, Nat.reduceSub, Nat.reduceMul, Nat.reduceLT, Nat.reduceLeDiff, reduceCtorEq, Int.reduceToNat])) | ((first | ((first | refine qe ?_ ?_ | refine qd ?_ ?_) <;> intro hc <;> (try simp only [hc]) <;> (try simp only [qb, qa, decide_eq_true_eq, decide_eq_false_iff_not, Bool.and_eq_true] at hc)) | refine And.intro (by first | assumption | omega | (have := qf (by assumption); omega) | (unfold qp; omega)) ?_ | simp (disch := omega) only [qc] | simp (disch := omega) only [qo] | refine p0 h0 ?_ | refine qc5 g1.ok ?_ | refine qb4 ?_ | refine qfp ?_) <;> (try simp only [go_sem, ↓reduceIte, Nat.reduceEqDiff, Nat.reduceAdd, Nat.reduceSub, Nat.reduceMul, Nat.reduceLT, Nat.reduceLeDiff, reduceCtorEq, Int.reduceToNat])))
            all_goals (try subst h0)
            all_goals (try rw [qpj])
            all_goals first | exact ⟨rfl, rfl⟩ | rfl | (exfalso; clear p0 p1; simp_all; done)
          · repeat' (first | refine qj ?_ | ((first | refine qbx ?_ | refine qba ?_ | refine qk ?_ | refine qh ?_ | refine qg ?_) <;> (try simp (disch := first | omega | (simp only [List.length_set, List.length_append, List.length_cons, List.length_nil]; done) | (simp only [List.length_set, List.length_append, List.length_cons, List.length_nil]; omega)) only [hk, hv, Option.isSome_some, go_sem, ↓reduceIte, Nat.reduceEqDiff, Nat.reduceAdd, Nat.reduceSub, Nat.reduceMul, Nat.reduceLT, Nat.reduceLeDiff, reduceCtorEq, Int.reduceToNat])) | ((first | ((first | refine qe ?_ ?_ | refine qd ?_ ?_) <;> intro hc <;> (try simp only [hc]) <;> (try simp only [qb, qa, decide_eq_true_eq, decide_eq_false_iff_not, Bool.and_eq_true] at hc)) | refine And.intro (by first | assumption | omega | (have := qf (by assumption); omega) | (unfold qp; omega)) ?_ | simp (disch := omega) only [qc] | simp (disch := omega) only [qo] | refine p1 h0 ?_ | refine qc5 g1.ok ?_ | refine qb4 ?_ | refine qfp ?_) <;> (try simp only [go_sem, ↓reduceIte, Nat.reduceEqDiff, Nat.reduceAdd, Nat.reduceSub, Nat.reduceMul, Nat.reduceLT, Nat.reduceLeDiff, reduceCtorEq, Int.reduceToNat])))
            all_goals (try rw [qov])
            all_goals first | exact ⟨rfl, rfl⟩ | rfl | (exfalso; clear p0 p1; simp_all; done)
      · simp only [if_neg h35, h35, false_and, if_false]
        have hbs := q4b 31 a.1 (v ++ [a.2.getD N0]) g3 (by simp only [List.length_append, List.length_cons, List.length_nil]; unfold rest at *; omega)
        have a0 := fun e1 e2 e3 e4 Q => @qbc7 31 a.1 (v ++ [a.2.getD N0]) e1 e2 e3 e4 Q hbs
        have a1 := fun e1 e2 e3 e4 Q => @qbc9 31 a.1 (v ++ [a.2.getD N0]) e1 e2 e3 e4 Q hbs
        have b0 := fun e1 e2 e3 e4 e5 Q => @qbdi 31 a.1 (v ++ [a.2.getD N0]) e1 e2 e3 e4 e5 Q hbs
        have b1 := fun e1 e2 e3 e4 e5 Q => @qbdd 31 a.1 (v ++ [a.2.getD N0]) e1 e2 e3 e4 e5 Q hbs
        clear hbs
        generalize qc9 31 a.1 (v ++ [a.2.getD N0]) = B at *
        obtain ⟨a, oa⟩ := a
        cases oa with
        | none =>
          simp only [Option.isSome_none, Bool.false_eq_true, if_false, Option.getD_none] at ha ⊢
          clear a0 a1 b0 b1
          by_cases h0 : v = []
          · repeat' (first | refine qj ?_ | ((first | refine qbx ?_ | refine qba ?_ | refine qk ?_ | refine qh ?_ | refine qg ?_) <;> (try simp (disch := first | omega | (simp only [List.length_set, List.length_append, List.length_cons, List.length_nil]; done) | (simp only [List.length_set, List.length_append, List.length_cons, List.length_nil]; omega)) only [hk, Option.isSome_some, h35, Option.isSome_none, Option.getD_none, go_sem, ↓reduceIte, Nat.reduceEqDiff, Nat.reduceAdd, Nat.reduceSub, Nat.reduceMul, Nat.reduceLT, Nat.reduceLeDiff, reduceCtorEq, Int.reduceToNat])) | ((first | ((first | refine qe ?_ ?_ | refine qd ?_ ?_) <;> intro hc <;> (try simp only [hc]) <;> (try simp only [qb, qa, decide_eq_true_eq, decide_eq_false_iff_not, Bool.and_eq_true] at hc)) | refine And.intro (by first | assumption | omega | (have := qf (by assumption); omega) | (unfold qp; omega)) ?_ | simp (disch := omega) only [qc] | simp (disch := omega) only [qo] | refine p0 h0 ?_ | refine qc5 g1.ok ?_ | refine qb4 ?_ | refine qfp ?_ | refine qcp ha rfl ?_) <;> (try simp only [go_sem, ↓reduceIte, Nat.reduceEqDiff, Nat.reduceAdd, Nat.reduceSub, Nat.reduceMul, Nat.reduceLT, Nat.reduceLeDiff, reduceCtorEq, Int.reduceToNat])))
            all_goals (try subst h0)
            all_goals (try rw [qpj])
            all_goals first | exact ⟨rfl, rfl⟩ | rfl | (exfalso; clear p0 p1; simp_all; done)
          · repeat' (first | refine qj ?_ | ((first | refine qbx ?_ | refine qba ?_ | refine qk ?_ | refine qh ?_ | refine qg ?_) <;> (try simp (disch := first | omega | (simp only [List.length_set, List.length_append, List.length_cons, List.length_nil]; done) | (simp only [List.length_set, List.length_append, List.length_cons, List.length_nil]; omega)) only [hk, Option.isSome_some, h35, Option.isSome_none, Option.getD_none, go_sem, ↓reduceIte, Nat.reduceEqDiff, Nat.reduceAdd, Nat.reduceSub, Nat.reduceMul, Nat.reduceLT, Nat.reduceLeDiff, reduceCtorEq, Int.reduceToNat])) | ((first | ((first | refine qe ?_ ?_ | refine qd ?_ ?_) <;> intro hc <;> (try simp only [hc]) <;> (try simp only [qb, qa, decide_eq_true_eq, decide_eq_false_iff_not, Bool.and_eq_true] at hc)) | refine And.intro (by first | assumption | omega | (have := qf (by assumption); omega) | (unfold qp; omega)) ?_ | simp (disch := omega) only [qc] | simp (disch := omega) only [qo] | refine p1 h0 ?_ | refine qc5 g1.ok ?_ | refine qb4 ?_ | refine qfp ?_ | refine qcp ha rfl ?_) <;> (try simp only [go_sem, ↓reduceIte, Nat.reduceEqDiff, Nat.reduceAdd, Nat.reduceSub, Nat.reduceMul, Nat.reduceLT, Nat.reduceLeDiff, reduceCtorEq, Int.reduceToNat])))
            all_goals (try rw [qov])
            all_goals first | exact ⟨rfl, rfl⟩ | rfl | (exfalso; clear p0 p1; simp_all; done)
        | some n =>
          simp only [Option.isSome_some, if_true, Option.getD_some] at ha a0 a1 b0 b1 ⊢
          by_cases h0 : v = []
          · subst h0
            clear b0 b1 hcap
            simp only [List.nil_append, encs, List.length_cons, List.length_nil, Nat.zero_add] at a0 a1
            by_cases hq : B.2.1 = [n]
            · repeat' (first | refine qj ?_ | ((first | refine qbx ?_ | refine qba ?_ | refine qk ?_ | refine qh ?_ | refine qg ?_) <;> (try simp (disch := first | omega | (simp only [List.length_set, List.length_append, List.length_cons, List.length_nil]; done) | (simp only [List.length_set, List.length_append, List.length_cons, List.length_nil]; omega)) only [hk, Option.isSome_some, h35, go_sem, ↓reduceIte, Nat.reduceEqDiff, Nat.reduceAdd, Nat.reduceSub, Nat.reduceMul, Nat.reduceLT, Nat.reduceLeDiff, reduceCtorEq, Int.reduceToNat])) | ((first | ((first | refine qe ?_ ?_ | refine qd ?_ ?_) <;> intro hc <;> (try simp only [hc]) <;> (try simp only [qb, qa, decide_eq_true_eq, decide_eq_false_iff_not, Bool.and_eq_true] at hc)) | refine And.intro (by first | assumption | omega | (have := qf (by assumption); omega) | (unfold qp; omega)) ?_ | simp (disch := omega) only [qc] | simp (disch := omega) only [qo] | refine p0 rfl ?_ | refine qc5 g1.ok ?_ | refine qb4 ?_ | refine qfp ?_ | refine qcp ha rfl ?_ | refine a0 _ _ _ _ _ hq ?_) <;> (try simp only [go_sem, ↓reduceIte, Nat.reduceEqDiff, Nat.reduceAdd, Nat.reduceSub, Nat.reduceMul, Nat.reduceLT, Nat.reduceLeDiff, reduceCtorEq, Int.reduceToNat])))
              all_goals (try rw [hq, ← qla])
              all_goals first | exact ⟨rfl, rfl⟩ | rfl | (exfalso; clear p0 p1 a0 a1; simp_all; done)
            · repeat' (first | refine qj ?_ | ((first | refine qbx ?_ | refine qba ?_ | refine qk ?_ | refine qh ?_ | refine qg ?_) <;> (try simp (disch := first | omega | (simp only [List.length_set, List.length_append, List.length_cons, List.length_nil]; done) | (simp only [List.length_set, List.length_append, List.length_cons, List.length_nil]; omega)) only [hk, Option.isSome_some, h35, go_sem, ↓reduceIte, Nat.reduceEqDiff, Nat.reduceAdd, Nat.reduceSub, Nat.reduceMul, Nat.reduceLT, Nat.reduceLeDiff, reduceCtorEq, Int.reduceToNat])) | ((first | ((first | refine qe ?_ ?_ | refine qd ?_ ?_) <;> intro hc <;> (try simp only [hc]) <;> (try simp only [qb, qa, decide_eq_true_eq, decide_eq_false_iff_not, Bool.and_eq_true] at hc)) | refine And.intro (by first | assumption | omega | (have := qf (by assumption); omega) | (unfold qp; omega)) ?_ | simp (disch := omega) only [qc] | simp (disch := omega) only [qo] | refine p0 rfl ?_ | refine qc5 g1.ok ?_ | refine qb4 ?_ | refine qfp ?_ | refine qcp ha rfl ?_ | refine a1 _ _ _ _ _ hq ?_) <;> (try simp only [go_sem, ↓reduceIte, Nat.reduceEqDiff, Nat.reduceAdd, Nat.reduceSub, Nat.reduceMul, Nat.reduceLT, Nat.reduceLeDiff, reduceCtorEq, Int.reduceToNat])))
              all_goals (try rw [qla])
              all_goals first | exact ⟨rfl, rfl⟩ | rfl | (exfalso; clear p0 p1 a0 a1; simp_all; done)
          · clear a0 a1 hcap1
            simp only [← qt, List.length_append, List.length_cons, List.length_nil, Nat.zero_add] at b0 b1
            by_cases hq : B.2.1 = v ++ [n]
            · repeat' (first | refine qj ?_ | ((first | refine qbx ?_ | refine qba ?_ | refine qk ?_ | refine qh ?_ | refine qg ?_) <;> (try simp (disch := first | omega | (simp only [List.length_set, List.length_append, List.length_cons, List.length_nil]; done) | (simp only [List.length_set, List.length_append, List.length_cons, List.length_nil]; omega)) only [hk, Option.isSome_some, h35, go_sem, ↓reduceIte, Nat.reduceEqDiff, Nat.reduceAdd, Nat.reduceSub, Nat.reduceMul, Nat.reduceLT, Nat.reduceLeDiff, reduceCtorEq, Int.reduceToNat])) | ((first | ((first | refine qe ?_ ?_ | refine qd ?_ ?_) <;> intro hc <;> (try simp only [hc]) <;> (try simp only [qb, qa, decide_eq_true_eq, decide_eq_false_iff_not, Bool.and_eq_true] at hc)) | refine And.intro (by first | assumption | omega | (have := qf (by assumption); omega) | (unfold qp; omega)) ?_ | simp (disch := omega) only [qc] | simp (disch := omega) only [qo] | refine p1 h0 ?_ | refine qc5 g1.ok ?_ | refine qb4 ?_ | refine qfp ?_ | refine qcp ha rfl ?_ | refine b0 _ _ _ _ _ _ hq ?_) <;> (try simp only [go_sem, ↓reduceIte, Nat.reduceEqDiff, Nat.reduceAdd, Nat.reduceSub, Nat.reduceMul, Nat.reduceLT, Nat.reduceLeDiff, reduceCtorEq, Int.reduceToNat])))
              all_goals (try (rw [qt, qh6, hq]; exact ⟨qbc _ _, rfl⟩))
              all_goals first | exact ⟨rfl, rfl⟩ | rfl | (exfalso; clear p0 p1 b0 b1; simp_all; done)
            · repeat' (first | refine qj ?_ | ((first | refine qbx ?_ | refine qba ?_ | refine qk ?_ | refine qh ?_ | refine qg ?_) <;> (try simp (disch := first | omega | (simp only [List.length_set, List.length_append, List.length_cons, List.length_nil]; done) | (simp only [List.length_set, List.length_append, List.length_cons, List.length_nil]; omega)) only [hk, Option.isSome_some, h35, go_sem, ↓reduceIte, Nat.reduceEqDiff, Nat.reduceAdd, Nat.reduceSub, Nat.reduceMul, Nat.reduceLT, Nat.reduceLeDiff, reduceCtorEq, Int.reduceToNat])) | ((first | ((first | refine qe ?_ ?_ | refine qd ?_ ?_) <;> intro hc <;> (try simp only [hc]) <;> (try simp only [qb, qa, decide_eq_true_eq, decide_eq_false_iff_not, Bool.and_eq_true] at hc)) | refine And.intro (by first | assumption | omega | (have := qf (by assumption); omega) | (unfold qp; omega)) ?_ | simp (disch := omega) only [qc] | simp (disch := omega) only [qo] | refine p1 h0 ?_ | refine qc5 g1.ok ?_ | refine qb4 ?_ | refine qfp ?_ | refine qcp ha rfl ?_ | refine b1 _ _ _ _ _ _ hq ?_) <;> (try simp only [go_sem, ↓reduceIte, Nat.reduceEqDiff, Nat.reduceAdd, Nat.reduceSub, Nat.reduceMul, Nat.reduceLT, Nat.reduceLeDiff, reduceCtorEq, Int.reduceToNat])))
              all_goals (try rw [qh6])
              all_goals first | exact ⟨rfl, rfl⟩ | rfl | (exfalso; clear p0 p1 b0 b1; simp_all; done)
    · rw [if_neg hk]
      by_cases h0 : v = []
      · repeat' (first | refine qj ?_ | ((first | refine qbx ?_ | refine qba ?_ | refine qk ?_ | refine qh ?_ | refine qg ?_) <;> (try simp (disch := first | omega | (simp only [List.length_set, List.length_append, List.length_cons, List.length_nil]; done) | (simp only [List.length_set, List.length_append, List.length_cons, List.length_nil]; omega)) only [hk, Option.isSome_some, go_sem, ↓reduceIte, Nat.reduceEqDiff, Nat.reduceAdd, Nat.reduceSub, Nat.reduceMul, Nat.reduceLT, Nat.reduceLeDiff, reduceCtorEq, Int.reduceToNat])) | ((first | ((first | refine qe ?_ ?_ | refine qd ?_ ?_) <;> intro hc <;> (try simp only [hc]) <;> (try simp only [qb, qa, decide_eq_true_eq, decide_eq_false_iff_not, Bool.and_eq_true] at hc)) | refine And.intro (by first | assumption | omega | (have := qf (by assumption); omega) | (unfold qp; omega)) ?_ | simp (disch := omega) only [qc] | simp (disch := omega) only [qo] | refine p0 h0 ?_ | refine qc5 g1.ok ?_) <;> (try simp only [go_sem, ↓reduceIte, Nat.reduceEqDiff, Nat.reduceAdd, Nat.reduceSub, Nat.reduceMul, Nat.reduceLT, Nat.reduceLeDiff, reduceCtorEq, Int.reduceToNat])))
        all_goals (try rw [qsz])
        all_goals first | exact ⟨rfl, rfl⟩ | rfl | (exfalso; clear p0 p1; simp_all; done)
      · repeat' (first | refine qj ?_ | ((first | refine qbx ?_ | refine qba ?_ | refine qk ?_ | refine qh ?_ | refine qg ?_) <;> (try simp (disch := first | omega | (simp only [List.length_set, List.length_append, List.length_cons, List.length_nil]; done) | (simp only [List.length_set, List.length_append, List.length_cons, List.length_nil]; omega)) only [hk, Option.isSome_some, go_sem, ↓reduceIte, Nat.reduceEqDiff, Nat.reduceAdd, Nat.reduceSub, Nat.reduceMul, Nat.reduceLT, Nat.reduceLeDiff, reduceCtorEq, Int.reduceToNat])) | ((first | ((first | refine qe ?_ ?_ | refine qd ?_ ?_) <;> intro hc <;> (try simp only [hc]) <;> (try simp only [qb, qa, decide_eq_true_eq, decide_eq_false_iff_not, Bool.and_eq_true] at hc)) | refine And.intro (by first | assumption | omega | (have := qf (by assumption); omega) | (unfold qp; omega)) ?_ | simp (disch := omega) only [qc] | simp (disch := omega) only [qo] | refine p1 h0 ?_ | refine qc5 g1.ok ?_) <;> (try simp only [go_sem, ↓reduceIte, Nat.reduceEqDiff, Nat.reduceAdd, Nat.reduceSub, Nat.reduceMul, Nat.reduceLT, Nat.reduceLeDiff, reduceCtorEq, Int.reduceToNat])))
        all_goals (try rw [qsz])
        all_goals first | exact ⟨rfl, rfl⟩ | rfl | (exfalso; clear p0 p1; simp_all; done)
set_option maxRecDepth 4000

theorem qbdw (c : K) (hg : c.good) : qcc Try.prog 17 (curE c) (curE (qdc c).1) [.ptr 0 0] (resB (qdc c).2) := by
  have g1 : (qs c qne).1.good := (qz _ _).1 hg
  have g2 : (qs c qil).1.good := (qz _ _).1 hg
  have g3 : (qs c qnk).1.good := (qz _ _).1 hg
  have h1 := qbd7 (qw c).pos _ g1
  have h2 := q4v 35 (qw c).pos _ g2
  have h3 := q4v 36 (qw c).pos _ g3
  have h4 := qux c hg
  refine qx c0cq 1 (by simp) (by simp) ?_
  unfold qdc
  unfold qne qil qnk posZ qbac at *
  by_cases t1 : (qs c [100, 97, 116, 97]).2 = true
  · rw [if_pos t1]
    repeat' (first | refine qj ?_ | refine ql ?_ | ((first | refine qbx ?_ | refine qk ?_ | refine qh ?_ | refine qg ?_) <;> (try simp (disch := first | omega | (simp only [List.length_set, List.length_append, List.length_cons, List.length_nil]; done) | (simp only [List.length_set, List.length_append, List.length_cons, List.length_nil]; omega)) only [t1, go_sem, ↓reduceIte, Nat.reduceEqDiff, Nat.reduceAdd, Nat.reduceSub, Nat.reduceMul, Nat.reduceLT, Nat.reduceLeDiff, reduceCtorEq, Int.reduceToNat])) | ((first | ((first | refine qe ?_ ?_ | refine qd ?_ ?_) <;> intro hc <;> (try simp only [hc]) <;> (try simp only [qb, qa, decide_eq_true_eq, decide_eq_false_iff_not, Bool.and_eq_true] at hc)) | refine And.intro (by first | assumption | omega | (have := qf (by assumption); omega) | (unfold qp; omega)) ?_ | simp (disch := omega) only [qc] | simp (disch := omega) only [qo] | refine qb4 ?_ | refine qd5 hg.ok ?_ | refine qj9 h1 rfl ?_) <;> (try simp only [go_sem, ↓reduceIte, Nat.reduceEqDiff, Nat.reduceAdd, Nat.reduceSub, Nat.reduceMul, Nat.reduceLT, Nat.reduceLeDiff, reduceCtorEq, Int.reduceToNat])))
  · have t1f : (qs c [100, 97, 116, 97]).2 = false := by simpa using t1
    have e1 := qc8 t1f
    rw [if_neg t1]
    by_cases t2 : (qs c [99, 108, 97, 115, 115]).2 = true
    · rw [if_pos t2]
      repeat' (first | refine qj ?_ | refine ql ?_ | ((first | refine qbx ?_ | refine qk ?_ | refine qh ?_ | refine qg ?_) <;> (try simp (disch := first | omega | (simp only [List.length_set, List.length_append, List.length_cons, List.length_nil]; done) | (simp only [List.length_set, List.length_append, List.length_cons, List.length_nil]; omega)) only [t1f, e1, t2, go_sem, ↓reduceIte, Nat.reduceEqDiff, Nat.reduceAdd, Nat.reduceSub, Nat.reduceMul, Nat.reduceLT, Nat.reduceLeDiff, reduceCtorEq, Int.reduceToNat])) | ((first | ((first | refine qe ?_ ?_ | refine qd ?_ ?_) <;> intro hc <;> (try simp only [hc]) <;> (try simp only [qb, qa, decide_eq_true_eq, decide_eq_false_iff_not, Bool.and_eq_true] at hc)) | refine And.intro (by first | assumption | omega | (have := qf (by assumption); omega) | (unfold qp; omega)) ?_ | simp (disch := omega) only [qc] | simp (disch := omega) only [qo] | refine qb4 ?_ | refine qd5 hg.ok ?_ | refine qj9 h2 rfl ?_) <;> (try simp only [go_sem, ↓reduceIte, Nat.reduceEqDiff, Nat.reduceAdd, Nat.reduceSub, Nat.reduceMul, Nat.reduceLT, Nat.reduceLeDiff, reduceCtorEq, Int.reduceToNat])))
    · have t2f : (qs c [99, 108, 97, 115, 115]).2 = false := by simpa using t2
      have e2 := qc8 t2f
      rw [if_neg t2]
      by_cases t3 : (qs c [105, 110, 115, 116, 97, 110, 99, 101]).2 = true
      · rw [if_pos t3]
        repeat' (first | refine qj ?_ | refine ql ?_ | ((first | refine qbx ?_ | refine qk ?_ | refine qh ?_ | refine qg ?_) <;> (try simp (disch := first | omega | (simp only [List.length_set, List.length_append, List.length_cons, List.length_nil]; done) | (simp only [List.length_set, List.length_append, List.length_cons, List.length_nil]; omega)) only [t1f, e1, t2f, e2, t3, go_sem, ↓reduceIte, Nat.reduceEqDiff, Nat.reduceAdd, Nat.reduceSub, Nat.reduceMul, Nat.reduceLT, Nat.reduceLeDiff, reduceCtorEq, Int.reduceToNat])) | ((first | ((first | refine qe ?_ ?_ | refine qd ?_ ?_) <;> intro hc <;> (try simp only [hc]) <;> (try simp only [qb, qa, decide_eq_true_eq, decide_eq_false_iff_not, Bool.and_eq_true] at hc)) | refine And.intro (by first | assumption | omega | (have := qf (by assumption); omega) | (unfold qp; omega)) ?_ | simp (disch := omega) only [qc] | simp (disch := omega) only [qo] | refine qb4 ?_ | refine qd5 hg.ok ?_ | refine qj9 h3 rfl ?_) <;> (try simp only [go_sem, ↓reduceIte, Nat.reduceEqDiff, Nat.reduceAdd, Nat.reduceSub, Nat.reduceMul, Nat.reduceLT, Nat.reduceLeDiff, reduceCtorEq, Int.reduceToNat])))
      · have t3f : (qs c [105, 110, 115, 116, 97, 110, 99, 101]).2 = false := by simpa using t3
        have e3 := qc8 t3f
        rw [if_neg t3]
        unfold ofO
        repeat' (first | refine qj ?_ | refine ql ?_ | ((first | refine qbx ?_ | refine qk ?_ | refine qh ?_ | refine qg ?_) <;> (try simp (disch := first | omega | (simp only [List.length_set, List.length_append, List.length_cons, List.length_nil]; done) | (simp only [List.length_set, List.length_append, List.length_cons, List.length_nil]; omega)) only [t1f, e1, t2f, e2, t3f, e3, go_sem, ↓reduceIte, Nat.reduceEqDiff, Nat.reduceAdd, Nat.reduceSub, Nat.reduceMul, Nat.reduceLT, Nat.reduceLeDiff, reduceCtorEq, Int.reduceToNat])) | ((first | ((first | refine qe ?_ ?_ | refine qd ?_ ?_) <;> intro hc <;> (try simp only [hc]) <;> (try simp only [qb, qa, decide_eq_true_eq, decide_eq_false_iff_not, Bool.and_eq_true] at hc)) | refine And.intro (by first | assumption | omega | (have := qf (by assumption); omega) | (unfold qp; omega)) ?_ | simp (disch := omega) only [qc] | simp (disch := omega) only [qo] | refine qb4 ?_ | refine qd5 hg.ok ?_ | refine qcp h4 rfl ?_) <;> (try simp only [go_sem, ↓reduceIte, Nat.reduceEqDiff, Nat.reduceAdd, Nat.reduceSub, Nat.reduceMul, Nat.reduceLT, Nat.reduceLeDiff, reduceCtorEq, Int.reduceToNat])))
theorem qbc0 {c : K} {L : List Ent} {Q : List Ent → VO → Prop} (hg : c.good) (hq : Q (curE (qdc c).1 :: L) (.val (resB (qdc c).2))) : VApp Try.prog (curE c :: L) (.fn 17 [] []) [.ptr 0 0] Q := qj9 (qbdw c hg) rfl hq
theorem q9f (x : List UInt8) (b : Bool) (c : K) (hg : c.good) : VCalls Try.prog 16 [curE c, .blk [.ptr 0 0], .blk [.ptr 0 0], .blk [.str x], .blk [.bool b], .blk [.fn 25 [] [.ptr 4 0, .ptr 2 0, .ptr 3 0]]] [.ptr 1 0] fun H' o => H' = frP x b (qdc c).1 ∧ o = .val (resB (qdc c).2) := by
  refine qx c0cr 6 (by simp) (by simp) ?_
  unfold frP
  repeat' (first | refine qj ?_ | ((first | refine qn ?_ | refine qk ?_ | refine qbc0 hg ?_ | ((first | refine qe ?_ ?_ | refine qd ?_ ?_) <;> intro hc <;> (try simp only [hc]) <;> (try simp only [qb, qa, decide_eq_true_eq, decide_eq_false_iff_not, Bool.and_eq_true] at hc)) | refine And.intro (by first | assumption | omega | (have := qf (by assumption); omega) | (unfold qp; omega)) ?_ | simp (disch := omega) only [qc] | simp (disch := omega) only [qo]) <;> (try simp only [go_sem, ↓reduceIte, Nat.reduceEqDiff, Nat.reduceAdd, Nat.reduceSub, Nat.reduceMul, Nat.reduceLT, Nat.reduceLeDiff, reduceCtorEq, Int.reduceToNat])))
  all_goals exact ⟨rfl, rfl⟩
theorem qbba (b : Bool) (c : K) (hg : c.good) : VCalls Try.prog 18 [curE c, .blk [.ptr 0 0], .blk [.ptr 0 0], .blk [.str [59]], .blk [.bool b], .blk [.fn 25 [] [.ptr 4 0, .ptr 2 0, .ptr 3 0]]] [.ptr 1 0, .ptr 5 0] fun H' o => H' = frP [59] (qim b c).1 (qim b c).2.1 ∧ o = .val (.bool (qim b c).2.2) := by
  refine qx c0cs 6 (by simp) (by simp) ?_
  unfold frP qim
  by_cases hi : (qw c).kind = 0
  · rw [if_pos hi]
    repeat' (first | refine qj ?_ | ((first | refine qn ?_ | refine qk ?_) <;> (try simp (disch := first | omega | (simp only [List.length_set, List.length_append, List.length_cons, List.length_nil]; done) | (simp only [List.length_set, List.length_append, List.length_cons, List.length_nil]; omega)) only [hi, ne_eq, not_true_eq_false, decide_false, go_sem, ↓reduceIte, Nat.reduceEqDiff, Nat.reduceAdd, Nat.reduceSub, Nat.reduceMul, Nat.reduceLT, Nat.reduceLeDiff, reduceCtorEq, Int.reduceToNat])) | ((first | ((first | refine qe ?_ ?_ | refine qd ?_ ?_) <;> intro hc <;> (try simp only [hc]) <;> (try simp only [qb, qa, decide_eq_true_eq, decide_eq_false_iff_not, Bool.and_eq_true] at hc)) | refine And.intro (by first | assumption | omega | (have := qf (by assumption); omega) | (unfold qp; omega)) ?_ | simp (disch := omega) only [qc] | simp (disch := omega) only [qo] | refine qb4 ?_ | refine qhz hg ?_) <;> (try simp only [go_sem, ↓reduceIte, Nat.reduceEqDiff, Nat.reduceAdd, Nat.reduceSub, Nat.reduceMul, Nat.reduceLT, Nat.reduceLeDiff, reduceCtorEq, Int.reduceToNat])))
    all_goals first | exact ⟨rfl, rfl⟩ | (exfalso; simp_all; done) | (simp_all; done)
  · rw [if_neg hi]
    by_cases ha : (qbs [59] b c).2.2 = true
    · repeat' (first | refine qj ?_ | ((first | refine qn ?_ | refine qk ?_) <;> (try simp (disch := first | omega | (simp only [List.length_set, List.length_append, List.length_cons, List.length_nil]; done) | (simp only [List.length_set, List.length_append, List.length_cons, List.length_nil]; omega)) only [hi, ha, ne_eq, not_false_eq_true, decide_true, go_sem, ↓reduceIte, Nat.reduceEqDiff, Nat.reduceAdd, Nat.reduceSub, Nat.reduceMul, Nat.reduceLT, Nat.reduceLeDiff, reduceCtorEq, Int.reduceToNat])) | ((first | ((first | refine qe ?_ ?_ | refine qd ?_ ?_) <;> intro hc <;> (try simp only [hc]) <;> (try simp only [qb, qa, decide_eq_true_eq, decide_eq_false_iff_not, Bool.and_eq_true] at hc)) | refine And.intro (by first | assumption | omega | (have := qf (by assumption); omega) | (unfold qp; omega)) ?_ | simp (disch := omega) only [qc] | simp (disch := omega) only [qo] | refine qb4 ?_ | refine qhz hg ?_) <;> (try simp only [go_sem, ↓reduceIte, Nat.reduceEqDiff, Nat.reduceAdd, Nat.reduceSub, Nat.reduceMul, Nat.reduceLT, Nat.reduceLeDiff, reduceCtorEq, Int.reduceToNat])))
      all_goals first | exact ⟨rfl, rfl⟩ | (exfalso; simp_all; done) | (simp_all; done)
    · have ha2 : (qbs [59] b c).2.2 = false := by simpa using ha
      repeat' (first | refine qj ?_ | ((first | refine qn ?_ | refine qk ?_) <;> (try simp (disch := first | omega | (simp only [List.length_set, List.length_append, List.length_cons, List.length_nil]; done) | (simp only [List.length_set, List.length_append, List.length_cons, List.length_nil]; omega)) only [hi, ha2, ne_eq, not_false_eq_true, decide_true, go_sem, ↓reduceIte, Nat.reduceEqDiff, Nat.reduceAdd, Nat.reduceSub, Nat.reduceMul, Nat.reduceLT, Nat.reduceLeDiff, reduceCtorEq, Int.reduceToNat])) | ((first | ((first | refine qe ?_ ?_ | refine qd ?_ ?_) <;> intro hc <;> (try simp only [hc]) <;> (try simp only [qb, qa, decide_eq_true_eq, decide_eq_false_iff_not, Bool.and_eq_true] at hc)) | refine And.intro (by first | assumption | omega | (have := qf (by assumption); omega) | (unfold qp; omega)) ?_ | simp (disch := omega) only [qc] | simp (disch := omega) only [qo] | refine qb4 ?_ | refine qhz hg ?_) <;> (try simp only [go_sem, ↓reduceIte, Nat.reduceEqDiff, Nat.reduceAdd, Nat.reduceSub, Nat.reduceMul, Nat.reduceLT, Nat.reduceLeDiff, reduceCtorEq, Int.reduceToNat])))
      all_goals first | exact ⟨rfl, rfl⟩ | (exfalso; simp_all; done) | (simp_all; done)
theorem q5s (c : K) (hg : c.good) : RowP qdc qim 16 18 [59] false c :=
  q6w goes_decl monP (fun b c g _ => q9f _ b c g) (fun b c g _ => qbba b c g) false c hg (Nat.le_refl _)
section
variable {one : K → R3} {more : MF} {g1 g2 : FuncId} {x : List UInt8} {b : Bool} {c : K} {e2 : Ent} {Q : List Ent → VO → Prop}
theorem q5z (h : RowP one more g1 g2 x b c) (h0 : (rowS one more b c []).2.2.1 = []) (hq : Q [curE (rowS one more b c []).2.1, .blk [.ptr 0 0], e2, .blk [.ptr 0 0], .blk [.str x], .blk [.bool (rowS one more b c []).1], .blk [.fn 25 [] [.ptr 5 0, .ptr 3 0, .ptr 4 0]]] (.val (.tup [.nils, .bool (rowS one more b c []).2.2.2]))) :
    VApp Try.prog [curE c, .blk [.ptr 0 0], e2, .blk [.ptr 0 0], .blk [.str x], .blk [.bool b], .blk [.fn 25 [] [.ptr 5 0, .ptr 3 0, .ptr 4 0]]] (.fn 15 [] []) [.nils, .fn g1 [] [.ptr 1 0], .fn g2 [] [.ptr 1 0, .ptr 6 0]] Q :=
  qcb (first := []) (caps := []) (by
    simp only [List.nil_append, List.append_nil]
    refine qct (H0 := [curE c, .blk [.ptr 0 0], .blk [.ptr 0 0], .blk [.str x], .blk [.bool b], .blk [.fn 25 [] [.ptr 4 0, .ptr 2 0, .ptr 3 0]]]) (args0 := [.nils, .fn g1 [] [.ptr 1 0], .fn g2 [] [.ptr 1 0, .ptr 5 0]]) [0, 1, 3, 4, 5, 6] h (by simp) ?_ rfl rfl ?_
    · simp only [go_sem, ↓reduceIte, Nat.reduceEqDiff, Nat.reduceAdd, Nat.reduceSub, Nat.reduceMul, Nat.reduceLT, Nat.reduceLeDiff, reduceCtorEq, Int.reduceToNat]
    rintro H1 o ⟨rfl, rfl⟩
    rw [h0]
    simpa [encs, qbt, qbq, qfv, qb0, sg', qnf, qpq, qjj, e_fn, AV.ren, AV.rens, VO.ren, qc0] using hq)
theorem q5w (h : RowP one more g1 g2 x b c) (h0 : (rowS one more b c []).2.2.1 ≠ []) (hq : Q [curE (rowS one more b c []).2.1, .blk [.ptr 0 0], e2, .blk [.ptr 0 0], .blk [.str x], .blk [.bool (rowS one more b c []).1], .blk [.fn 25 [] [.ptr 5 0, .ptr 3 0, .ptr 4 0]], .app 5 (encs (rowS one more b c []).2.2.1)] (.val (.tup [.row 7 (rowS one more b c []).2.2.1.length, .bool (rowS one more b c []).2.2.2]))) :
    VApp Try.prog [curE c, .blk [.ptr 0 0], e2, .blk [.ptr 0 0], .blk [.str x], .blk [.bool b], .blk [.fn 25 [] [.ptr 5 0, .ptr 3 0, .ptr 4 0]]] (.fn 15 [] []) [.nils, .fn g1 [] [.ptr 1 0], .fn g2 [] [.ptr 1 0, .ptr 6 0]] Q :=
  qcb (first := []) (caps := []) (by
    simp only [List.nil_append, List.append_nil]
    refine qct (H0 := [curE c, .blk [.ptr 0 0], .blk [.ptr 0 0], .blk [.str x], .blk [.bool b], .blk [.fn 25 [] [.ptr 4 0, .ptr 2 0, .ptr 3 0]]]) (args0 := [.nils, .fn g1 [] [.ptr 1 0], .fn g2 [] [.ptr 1 0, .ptr 5 0]]) [0, 1, 3, 4, 5, 6] h (by simp) ?_ rfl rfl ?_
    · simp only [go_sem, ↓reduceIte, Nat.reduceEqDiff, Nat.reduceAdd, Nat.reduceSub, Nat.reduceMul, Nat.reduceLT, Nat.reduceLeDiff, reduceCtorEq, Int.reduceToNat]
    rintro H1 o ⟨rfl, rfl⟩
    rw [qbz (qbl h0), qby (qbl h0), qbm]
    simpa [qfv, qb0, sg', qnf, qpq, qjj, e_fn, qo6, AV.ren, AV.rens, VO.ren, qc0] using hq)
end
theorem qy4 (l : List N) : AV.agg [.int .i64 37, .int .i64 0, .int .i64 0, .str [], .sl 5 (encs l)] = enc (qj8 l) := by simp only [qj8, enc]
theorem q3t : AV.agg [.int .i64 37, .int .i64 0, .int .i64 0, .str [], .sl 5 []] = enc (qj8 []) := qy4 []
theorem q7n (c : K) (hg : c.good) : qcc Try.prog 13 (curE c) (curE (qma c).1) [.ptr 0 0] (enc ((qma c).2.getD N0)) := by
  have hR := q5s c hg
  have i0 := fun e2 Q => @q5z _ _ _ _ _ _ _ e2 Q hR
  have i1 := fun e2 Q => @q5w _ _ _ _ _ _ _ e2 Q hR
  clear hR
  refine qx c0ct 1 (by simp) (by simp) ?_
  unfold qma
  generalize rowS qdc qim false c [] = r at *
  by_cases hq : r.2.2.1 = []
  · repeat' (first | refine qj ?_ | ((first | refine qbx ?_ | refine qk ?_ | refine qen ?_ | refine i0 _ _ hq ?_ | ((first | refine qe ?_ ?_ | refine qd ?_ ?_) <;> intro hc <;> (try simp only [hc]) <;> (try simp only [qb, qa, decide_eq_true_eq, decide_eq_false_iff_not, Bool.and_eq_true] at hc)) | refine And.intro (by first | assumption | omega | (have := qf (by assumption); omega) | (unfold qp; omega)) ?_ | simp (disch := omega) only [qc] | simp (disch := omega) only [qo]) <;> (try simp only [go_sem, ↓reduceIte, Nat.reduceEqDiff, Nat.reduceAdd, Nat.reduceSub, Nat.reduceMul, Nat.reduceLT, Nat.reduceLeDiff, reduceCtorEq, Int.reduceToNat])))
    all_goals (rw [Option.getD_some, hq, ← q3t]; first | done | rfl | exact ⟨rfl, rfl⟩)
  · repeat' (first | refine qj ?_ | ((first | refine qbx ?_ | refine qk ?_ | refine qen ?_ | refine i1 _ _ hq ?_ | ((first | refine qe ?_ ?_ | refine qd ?_ ?_) <;> intro hc <;> (try simp only [hc]) <;> (try simp only [qb, qa, decide_eq_true_eq, decide_eq_false_iff_not, Bool.and_eq_true] at hc)) | refine And.intro (by first | assumption | omega | (have := qf (by assumption); omega) | (unfold qp; omega)) ?_ | simp (disch := omega) only [qc] | simp (disch := omega) only [qo]) <;> (try simp only [go_sem, ↓reduceIte, Nat.reduceEqDiff, Nat.reduceAdd, Nat.reduceSub, Nat.reduceMul, Nat.reduceLT, Nat.reduceLeDiff, reduceCtorEq, Int.reduceToNat])))
    all_goals (rw [Option.getD_some, ← qy4]; first | done | rfl | exact ⟨rfl, rfl⟩)
theorem q0q (c : K) (hg : c.good) : qcc Try.prog 20 (curE c) (curE (decK c).1) [.ptr 0 0] (enc ((decK c).2.getD N0)) := by
  refine qx c0cu 1 (by simp) (by simp) ?_
  unfold decK
  repeat' (first | refine qj ?_ | ((first | refine qn ?_ | refine qk ?_ | refine qbc0 hg ?_ | ((first | refine qe ?_ ?_ | refine qd ?_ ?_) <;> intro hc <;> (try simp only [hc]) <;> (try simp only [qb, qa, decide_eq_true_eq, decide_eq_false_iff_not, Bool.and_eq_true] at hc)) | refine And.intro (by first | assumption | omega | (have := qf (by assumption); omega) | (unfold qp; omega)) ?_ | simp (disch := omega) only [qc] | simp (disch := omega) only [qo]) <;> (try simp only [go_sem, ↓reduceIte, Nat.reduceEqDiff, Nat.reduceAdd, Nat.reduceSub, Nat.reduceMul, Nat.reduceLT, Nat.reduceLeDiff, reduceCtorEq, Int.reduceToNat])))
  all_goals first | rfl | exact ⟨rfl, rfl⟩
theorem qn8 {so : FuncId} {rd : K → K × Option N} {s : List UInt8} (hs : s.length ≤ 400000) (hrd : ∀ c : K, c.good → qcc Try.prog so (curE c) (curE (rd c).1) [.ptr 0 0] (enc ((rd c).2.getD N0)))
    (hm : ∀ c, Mon c (rd c).1) (hsz : ∀ c, sz ((rd c).2.getD N0) ≤ 2 * rest c + 1) : qde Try.prog 12 [.str s, .fn so [] []] (resV (qxl rd s)) := by
  have g := qqo (qk7 s).1
  have g2 : (rd (newK (lexV s).1)).1.good := (hm _).1 g
  have hsz' : sz ((rd (newK (lexV s).1)).2.getD N0) ≤ 1000000 := by
    have h1 := hsz (newK (lexV s).1)
    have h2 := qmg (lexV s).1
    have h3 := (qk7 s).2
    have h4 : rest (newK (lexV s).1) = (qfb (lexV s).1).length := rfl
    omega
  have hdp := q1r hsz'
  refine qb7 c0cv (by simp) (by simp only [go_sem]) (by simp only [go_sem]) fun hw => ?_
  repeat' (first | refine qj ?_ | ((first | refine qn ?_ | refine qcm (by rfl) ?_ | refine qba ?_ | refine qk ?_ | refine qh ?_ | refine qg ?_ | refine qv (qu9 s) fun _ => ?_ | refine qbct (q86 _ (qk7 s).1) (qbe _ _) (by simp only [go_sem]) ?_ | refine qzl 1 (hrd _ g) (by rfl) (qbe _ _) (qbe _ _) (by rfl) (qmx _ _) (by rfl) fun _ => ?_ | refine qzl 1 (qzh _ g2.ok) (by rfl) (qbe _ _) (qbe _ _) (by rfl) (by rfl) (by rfl) fun _ => ?_ | refine qv (qt7 (q4f _) (by rw [hdp])) fun _ => ?_ | refine qy  (qu9 s) ?_ | refine qy  (qt7 (q4f _) (by rw [hdp])) ?_ | ((first | refine qe ?_ ?_ | refine qd ?_ ?_) <;> intro hc <;> (try simp only [hc]) <;> (try simp only [qb, qa, decide_eq_true_eq, decide_eq_false_iff_not, Bool.and_eq_true] at hc)) | refine And.intro (by first | assumption | omega | (have := qf (by assumption); omega) | (unfold qp; omega)) ?_ | simp (disch := omega) only [qc] | simp (disch := omega) only [qo]) <;> (try simp only [go_sem, ↓reduceIte, Nat.reduceEqDiff, Nat.reduceAdd, Nat.reduceSub, Nat.reduceMul, Nat.reduceLT, Nat.reduceLeDiff, reduceCtorEq, Int.reduceToNat])))
  all_goals (try rw [qd2])
  all_goals unfold qxl qkb
  all_goals (repeat' split)
  all_goals first | omega | rfl | (exfalso; omega) | simp_all [go_sem]
def qji (s : List UInt8) : N × Int × Int := qxl qma s
def ql1 (s : List UInt8) : N × Int × Int := qxl decK s
theorem qd1 (s : List UInt8) (hs : s.length ≤ 400000) : qde Try.prog 7 [.str s] (resV (qji s)) := by
  refine qb7 c0cw (by simp) (by simp only [go_sem]) (by simp only [go_sem]) fun hw => ?_
  repeat' (first | refine qj ?_ | ((first | refine qn ?_ | refine qk ?_ | refine qv (qn8 hs q7n qui qy7) fun _ => ?_ | refine qy  (qn8 hs q7n qui qy7) ?_ | ((first | refine qe ?_ ?_ | refine qd ?_ ?_) <;> intro hc <;> (try simp only [hc]) <;> (try simp only [qb, qa, decide_eq_true_eq, decide_eq_false_iff_not, Bool.and_eq_true] at hc)) | refine And.intro (by first | assumption | omega | (have := qf (by assumption); omega) | (unfold qp; omega)) ?_ | simp (disch := omega) only [qc] | simp (disch := omega) only [qo]) <;> (try simp only [go_sem, ↓reduceIte, Nat.reduceEqDiff, Nat.reduceAdd, Nat.reduceSub, Nat.reduceMul, Nat.reduceLT, Nat.reduceLeDiff, reduceCtorEq, Int.reduceToNat])))
  all_goals rfl
theorem qo9 (s : List UInt8) (hs : s.length ≤ 400000) : qde Try.prog 8 [.str s] (resV (ql1 s)) := by
  refine qb7 c0cx (by simp) (by simp only [go_sem]) (by simp only [go_sem]) fun hw => ?_
  repeat' (first | refine qj ?_ | ((first | refine qn ?_ | refine qk ?_ | refine qv (qn8 hs q0q qy5 q3g) fun _ => ?_ | refine qy  (qn8 hs q0q qy5 q3g) ?_ | ((first | refine qe ?_ ?_ | refine qd ?_ ?_) <;> intro hc <;> (try simp only [hc]) <;> (try simp only [qb, qa, decide_eq_true_eq, decide_eq_false_iff_not, Bool.and_eq_true] at hc)) | refine And.intro (by first | assumption | omega | (have := qf (by assumption); omega) | (unfold qp; omega)) ?_ | simp (disch := omega) only [qc] | simp (disch := omega) only [qo]) <;> (try simp only [go_sem, ↓reduceIte, Nat.reduceEqDiff, Nat.reduceAdd, Nat.reduceSub, Nat.reduceMul, Nat.reduceLT, Nat.reduceLeDiff, reduceCtorEq, Int.reduceToNat])))
  all_goals rfl
end Go.Proofs.Ytfjbmjplnmaclaa
