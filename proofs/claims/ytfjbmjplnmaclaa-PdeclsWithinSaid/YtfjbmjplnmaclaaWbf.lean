/- Texts of this proof, joined. -/
import Derived.Test.YtfjbmjplnmaclaaWbe

/- declarations: the program: bodies -/
set_option maxRecDepth 4000
namespace Go.Proofs.Ytfjbmjplnmaclaa
open Go Go.RowKit Go.V
set_option linter.unusedVariables false
set_option linter.unusedSimpArgs false

theorem qvh (kd : Int) (c : K) (hg : c.good) : qbz Try.prog 64 (curE c) (curE (qco kd c).1) [.ptr 0 0, .int .i64 kd] (resB (qco kd c).2) := by
  have hb := qoo c hg
  refine qs c0l 1 (by simp) (by simp) ?_
  unfold qco ofO
  generalize qij c = r at *
  obtain ⟨d, o⟩ := r
  cases o with
  | none =>
    repeat' (first | refine qi ?_ | ((first | refine qm ?_ | refine qcm (by rfl) ?_ | refine q9 ?_ | refine qj ?_ | refine qh ?_ | refine qg ?_) <;> (try simp (disch := first | omega | (simp only [List.length_set, List.length_append, List.length_cons, List.length_nil]; done) | (simp only [List.length_set, List.length_append, List.length_cons, List.length_nil]; omega)) only [Option.isSome_none, Option.getD_none, go_sem, ↓reduceIte, Nat.reduceEqDiff, Nat.reduceAdd, Nat.reduceSub, Nat.reduceMul, Nat.reduceLT, Nat.reduceLeDiff, reduceCtorEq, Int.reduceToNat])) | ((first | ((first | refine qe ?_ ?_ | refine qc ?_ ?_) <;> intro hc <;> (try simp only [hc]) <;> (try simp only [qb, qa, decide_eq_true_eq, decide_eq_false_iff_not, Bool.and_eq_true] at hc)) | refine And.intro (by first | assumption | omega | (have := qf (by assumption); omega) | (unfold qo; omega)) ?_ | simp (disch := omega) only [qd] | simp (disch := omega) only [qn] | refine qb7 hb rfl ?_) <;> (try simp only [go_sem, ↓reduceIte, Nat.reduceEqDiff, Nat.reduceAdd, Nat.reduceSub, Nat.reduceMul, Nat.reduceLT, Nat.reduceLeDiff, reduceCtorEq, Int.reduceToNat])))
    all_goals first | (rw [qdf]; done) | (rw [qdf]; rfl) | (rw [qdf]; exact ⟨rfl, rfl⟩) | rfl | (simp; done)
  | some n =>
    obtain ⟨k, p, m, t, l⟩ := n
    by_cases hk : k = kd
    · rw [if_neg (by simp [N.kind, hk])]
      repeat' (first | refine qi ?_ | ((first | refine qm ?_ | refine qcm (by rfl) ?_ | refine q9 ?_ | refine qj ?_ | refine qh ?_ | refine qg ?_) <;> (try simp (disch := first | omega | (simp only [List.length_set, List.length_append, List.length_cons, List.length_nil]; done) | (simp only [List.length_set, List.length_append, List.length_cons, List.length_nil]; omega)) only [Option.isSome_some, Option.getD_some, go_sem, ↓reduceIte, Nat.reduceEqDiff, Nat.reduceAdd, Nat.reduceSub, Nat.reduceMul, Nat.reduceLT, Nat.reduceLeDiff, reduceCtorEq, Int.reduceToNat])) | ((first | ((first | refine qe ?_ ?_ | refine qc ?_ ?_) <;> intro hc <;> (try simp only [hc]) <;> (try simp only [qb, qa, decide_eq_true_eq, decide_eq_false_iff_not, Bool.and_eq_true] at hc)) | refine And.intro (by first | assumption | omega | (have := qf (by assumption); omega) | (unfold qo; omega)) ?_ | simp (disch := omega) only [qd] | simp (disch := omega) only [qn] | refine qb7 hb rfl ?_ | refine qei ?_) <;> (try simp only [go_sem, ↓reduceIte, Nat.reduceEqDiff, Nat.reduceAdd, Nat.reduceSub, Nat.reduceMul, Nat.reduceLT, Nat.reduceLeDiff, reduceCtorEq, Int.reduceToNat])))
      all_goals first | (exfalso; simp_all [N.kind]; done) | exact ⟨rfl, rfl⟩
    · rw [if_pos (by simp [N.kind, hk])]
      repeat' (first | refine qi ?_ | ((first | refine qm ?_ | refine qcm (by rfl) ?_ | refine q9 ?_ | refine qj ?_ | refine qh ?_ | refine qg ?_) <;> (try simp (disch := first | omega | (simp only [List.length_set, List.length_append, List.length_cons, List.length_nil]; done) | (simp only [List.length_set, List.length_append, List.length_cons, List.length_nil]; omega)) only [Option.isSome_some, Option.getD_some, go_sem, ↓reduceIte, Nat.reduceEqDiff, Nat.reduceAdd, Nat.reduceSub, Nat.reduceMul, Nat.reduceLT, Nat.reduceLeDiff, reduceCtorEq, Int.reduceToNat])) | ((first | ((first | refine qe ?_ ?_ | refine qc ?_ ?_) <;> intro hc <;> (try simp only [hc]) <;> (try simp only [qb, qa, decide_eq_true_eq, decide_eq_false_iff_not, Bool.and_eq_true] at hc)) | refine And.intro (by first | assumption | omega | (have := qf (by assumption); omega) | (unfold qo; omega)) ?_ | simp (disch := omega) only [qd] | simp (disch := omega) only [qn] | refine qb7 hb rfl ?_ | refine qei ?_) <;> (try simp only [go_sem, ↓reduceIte, Nat.reduceEqDiff, Nat.reduceAdd, Nat.reduceSub, Nat.reduceMul, Nat.reduceLT, Nat.reduceLeDiff, reduceCtorEq, Int.reduceToNat])))
      all_goals first | (exfalso; simp_all [N.kind]; done) | exact ⟨rfl, rfl⟩
theorem q3t {kd : Int} {c : K} {L : List Ent} {Q : List Ent → VO → Prop} (hg : c.good) (hq : Q (curE (qco kd c).1 :: L) (.val (resB (qco kd c).2))) : VApp Try.prog (curE c :: L) (.fn 64 [] []) [.ptr 0 0, .int .i64 kd] Q := qhb (qvh kd c hg) rfl hq
theorem q4u (x : List UInt8) (kd : Int) (b : Bool) (c : K) (hg : c.good) : VCalls Try.prog 63 [curE c, .blk [.ptr 0 0], .blk [.ptr 0 0], .blk [.str x], .blk [.bool b], .blk [.fn 25 [] [.ptr 4 0, .ptr 2 0, .ptr 3 0]], .blk [.int .i64 kd]] [.ptr 1 0, .ptr 6 0] fun H' o => H' = frB x kd b (qco kd c).1 ∧ o = .val (resB (qco kd c).2) := by
  refine qs c0m 7 (by simp) (by simp) ?_
  unfold frB
  repeat' (first | refine qi ?_ | ((first | refine qm ?_ | refine qj ?_ | refine q3t hg ?_ | ((first | refine qe ?_ ?_ | refine qc ?_ ?_) <;> intro hc <;> (try simp only [hc]) <;> (try simp only [qb, qa, decide_eq_true_eq, decide_eq_false_iff_not, Bool.and_eq_true] at hc)) | refine And.intro (by first | assumption | omega | (have := qf (by assumption); omega) | (unfold qo; omega)) ?_ | simp (disch := omega) only [qd] | simp (disch := omega) only [qn]) <;> (try simp only [go_sem, ↓reduceIte, Nat.reduceEqDiff, Nat.reduceAdd, Nat.reduceSub, Nat.reduceMul, Nat.reduceLT, Nat.reduceLeDiff, reduceCtorEq, Int.reduceToNat])))
  all_goals exact ⟨rfl, rfl⟩
theorem q28 (kd : Int) (b : Bool) (c : K) (hg : c.good) : VCalls Try.prog 65 [curE c, .blk [.ptr 0 0], .blk [.ptr 0 0], .blk [.str [59]], .blk [.bool b], .blk [.fn 25 [] [.ptr 4 0, .ptr 2 0, .ptr 3 0]], .blk [.int .i64 kd]] [.ptr 1 0, .ptr 5 0] fun H' o => H' = frB [59] kd (qgb b c).1 (qgb b c).2.1 ∧ o = .val (.bool (qgb b c).2.2) := by
  refine qs c0n 7 (by simp) (by simp) ?_
  unfold frB qgb
  by_cases hi : isK c [125] = true
  · rw [if_pos hi]
    repeat' (first | refine qi ?_ | ((first | refine qm ?_ | refine qj ?_) <;> (try simp (disch := first | omega | (simp only [List.length_set, List.length_append, List.length_cons, List.length_nil]; done) | (simp only [List.length_set, List.length_append, List.length_cons, List.length_nil]; omega)) only [hi, go_sem, ↓reduceIte, Nat.reduceEqDiff, Nat.reduceAdd, Nat.reduceSub, Nat.reduceMul, Nat.reduceLT, Nat.reduceLeDiff, reduceCtorEq, Int.reduceToNat])) | ((first | ((first | refine qe ?_ ?_ | refine qc ?_ ?_) <;> intro hc <;> (try simp only [hc]) <;> (try simp only [qb, qa, decide_eq_true_eq, decide_eq_false_iff_not, Bool.and_eq_true] at hc)) | refine And.intro (by first | assumption | omega | (have := qf (by assumption); omega) | (unfold qo; omega)) ?_ | simp (disch := omega) only [qd] | simp (disch := omega) only [qn] | refine a_Is ?_ | refine qfy hg ?_) <;> (try simp only [go_sem, ↓reduceIte, Nat.reduceEqDiff, Nat.reduceAdd, Nat.reduceSub, Nat.reduceMul, Nat.reduceLT, Nat.reduceLeDiff, reduceCtorEq, Int.reduceToNat])))
    all_goals first | exact ⟨rfl, rfl⟩ | (exfalso; simp_all; done) | (simp_all; done)
  · rw [if_neg hi]
    have hi2 : isK c [125] = false := by simpa using hi
    by_cases ha : (qch [59] b c).2.2 = true
    · repeat' (first | refine qi ?_ | ((first | refine qm ?_ | refine qj ?_) <;> (try simp (disch := first | omega | (simp only [List.length_set, List.length_append, List.length_cons, List.length_nil]; done) | (simp only [List.length_set, List.length_append, List.length_cons, List.length_nil]; omega)) only [hi2, ha, go_sem, ↓reduceIte, Nat.reduceEqDiff, Nat.reduceAdd, Nat.reduceSub, Nat.reduceMul, Nat.reduceLT, Nat.reduceLeDiff, reduceCtorEq, Int.reduceToNat])) | ((first | ((first | refine qe ?_ ?_ | refine qc ?_ ?_) <;> intro hc <;> (try simp only [hc]) <;> (try simp only [qb, qa, decide_eq_true_eq, decide_eq_false_iff_not, Bool.and_eq_true] at hc)) | refine And.intro (by first | assumption | omega | (have := qf (by assumption); omega) | (unfold qo; omega)) ?_ | simp (disch := omega) only [qd] | simp (disch := omega) only [qn] | refine a_Is ?_ | refine qfy hg ?_) <;> (try simp only [go_sem, ↓reduceIte, Nat.reduceEqDiff, Nat.reduceAdd, Nat.reduceSub, Nat.reduceMul, Nat.reduceLT, Nat.reduceLeDiff, reduceCtorEq, Int.reduceToNat])))
      all_goals first | exact ⟨rfl, rfl⟩ | (exfalso; simp_all; done) | (simp_all; done)
    · have ha2 : (qch [59] b c).2.2 = false := by simpa using ha
      repeat' (first | refine qi ?_ | ((first | refine qm ?_ | refine qj ?_) <;> (try simp (disch := first | omega | (simp only [List.length_set, List.length_append, List.length_cons, List.length_nil]; done) | (simp only [List.length_set, List.length_append, List.length_cons, List.length_nil]; omega)) only [hi2, ha2, go_sem, ↓reduceIte, Nat.reduceEqDiff, Nat.reduceAdd, Nat.reduceSub, Nat.reduceMul, Nat.reduceLT, Nat.reduceLeDiff, reduceCtorEq, Int.reduceToNat])) | ((first | ((first | refine qe ?_ ?_ | refine qc ?_ ?_) <;> intro hc <;> (try simp only [hc]) <;> (try simp only [qb, qa, decide_eq_true_eq, decide_eq_false_iff_not, Bool.and_eq_true] at hc)) | refine And.intro (by first | assumption | omega | (have := qf (by assumption); omega) | (unfold qo; omega)) ?_ | simp (disch := omega) only [qd] | simp (disch := omega) only [qn] | refine a_Is ?_ | refine qfy hg ?_) <;> (try simp only [go_sem, ↓reduceIte, Nat.reduceEqDiff, Nat.reduceAdd, Nat.reduceSub, Nat.reduceMul, Nat.reduceLT, Nat.reduceLeDiff, reduceCtorEq, Int.reduceToNat])))
      all_goals first | exact ⟨rfl, rfl⟩ | (exfalso; simp_all; done) | (simp_all; done)
theorem qvo (kd : Int) (c : K) (a0 : List N) (hg : c.good) (hl : a0.length + rest c ≤ 1048578) : RovB (qco kd) qgb 63 65 [59] kd false c a0 :=
  qzx (qfa kd) monB (fun b c g _ => q4u _ kd b c g) (fun b c g _ => q28 kd b c g) false c a0 hg (Nat.le_refl _) hl
section
variable {one : K → R3} {more : MF} {g1 g2 : FuncId} {x : List UInt8} {kd : Int} {b : Bool} {c : K} {a0 : List N} {Q : List Ent → VO → Prop}
theorem qy3 (h : RovB one more g1 g2 x kd b c a0) (h0 : (rowS one more b c a0).2.2.1 = a0) (hq : Q [curE (rowS one more b c a0).2.1, .app 5 (encs a0), .blk [.ptr 0 0], .blk [.int .i64 kd], .blk [.ptr 0 0], .blk [.str x], .blk [.bool (rowS one more b c a0).1], .blk [.fn 25 [] [.ptr 6 0, .ptr 4 0, .ptr 5 0]]] (.val (.tup [.row 1 a0.length, .bool (rowS one more b c a0).2.2.2]))) :
    VApp Try.prog [curE c, .app 5 (encs a0), .blk [.ptr 0 0], .blk [.int .i64 kd], .blk [.ptr 0 0], .blk [.str x], .blk [.bool b], .blk [.fn 25 [] [.ptr 6 0, .ptr 4 0, .ptr 5 0]]] (.fn 15 [] []) [.row 1 a0.length, .fn g1 [] [.ptr 2 0, .ptr 3 0], .fn g2 [] [.ptr 2 0, .ptr 7 0]] Q :=
  qby (first := []) (caps := []) (by
    simp only [List.nil_append, List.append_nil]
    refine qcb (H0 := [curE c, .blk [.ptr 0 0], .blk [.ptr 0 0], .blk [.str x], .blk [.bool b], .blk [.fn 25 [] [.ptr 4 0, .ptr 2 0, .ptr 3 0]], .blk [.int .i64 kd], .app 5 (encs a0)]) (args0 := [.row 7 a0.length, .fn g1 [] [.ptr 1 0, .ptr 6 0], .fn g2 [] [.ptr 1 0, .ptr 5 0]]) [0, 2, 4, 5, 6, 7, 3, 1] h (by simp) ?_ rfl rfl ?_
    · simp only [go_sem, ↓reduceIte, Nat.reduceEqDiff, Nat.reduceAdd, Nat.reduceSub, Nat.reduceMul, Nat.reduceLT, Nat.reduceLeDiff, reduceCtorEq, Int.reduceToNat]
      all_goals (rw [qbn, q6]; exact ⟨rfl, rfl⟩)
    intro H1 o hh
    obtain ⟨rfl, rfl⟩ := hh.1 h0
    simpa [qel, qbq, sg', qji, qkg, qgg, qbn1, qlg, e_fn, AV.ren, AV.rens, VO.ren, qci] using hq)
theorem qwy (h : RovB one more g1 g2 x kd b c a0) (h0 : (rowS one more b c a0).2.2.1 ≠ a0) (hq : Q [curE (rowS one more b c a0).2.1, .dead, .blk [.ptr 0 0], .blk [.int .i64 kd], .blk [.ptr 0 0], .blk [.str x], .blk [.bool (rowS one more b c a0).1], .blk [.fn 25 [] [.ptr 6 0, .ptr 4 0, .ptr 5 0]], .app 5 (encs (rowS one more b c a0).2.2.1)] (.val (.tup [.row 8 (rowS one more b c a0).2.2.1.length, .bool (rowS one more b c a0).2.2.2]))) :
    VApp Try.prog [curE c, .app 5 (encs a0), .blk [.ptr 0 0], .blk [.int .i64 kd], .blk [.ptr 0 0], .blk [.str x], .blk [.bool b], .blk [.fn 25 [] [.ptr 6 0, .ptr 4 0, .ptr 5 0]]] (.fn 15 [] []) [.row 1 a0.length, .fn g1 [] [.ptr 2 0, .ptr 3 0], .fn g2 [] [.ptr 2 0, .ptr 7 0]] Q :=
  qby (first := []) (caps := []) (by
    simp only [List.nil_append, List.append_nil]
    refine qcb (H0 := [curE c, .blk [.ptr 0 0], .blk [.ptr 0 0], .blk [.str x], .blk [.bool b], .blk [.fn 25 [] [.ptr 4 0, .ptr 2 0, .ptr 3 0]], .blk [.int .i64 kd], .app 5 (encs a0)]) (args0 := [.row 7 a0.length, .fn g1 [] [.ptr 1 0, .ptr 6 0], .fn g2 [] [.ptr 1 0, .ptr 5 0]]) [0, 2, 4, 5, 6, 7, 3, 1] h (by simp) ?_ rfl rfl ?_
    · simp only [go_sem, ↓reduceIte, Nat.reduceEqDiff, Nat.reduceAdd, Nat.reduceSub, Nat.reduceMul, Nat.reduceLT, Nat.reduceLeDiff, reduceCtorEq, Int.reduceToNat]
      all_goals (rw [qbn, q6]; exact ⟨rfl, rfl⟩)
    intro H1 o hh
    obtain ⟨rfl, rfl⟩ := hh.2 h0
    have hd : ∀ σ : Nat → Nat, Ent.dead.ren σ = .dead := fun σ => rfl
    simpa [qel, qbq, sg', qji, qkg, qgg, qbn1, qlg, e_fn, hd, AV.ren, AV.rens, VO.ren, qci] using hq)
end
/-- What is read is what was there, or more. -/
theorem qr7 {kd : Int} : ∀ (f : Nat) (b : Bool) (c : K) (acc : List N), rest c < f → (rowF (qco kd) qgb f b c acc).2.2.1 ≠ acc → (rowF (qco kd) qgb f b c acc).2.2.1 ≠ []
  | 0, _, _, _, h, _ => absurd h (by omega)
  | f + 1, b, c, acc, hf, h => by
    rw [rowF] at h ⊢
    have h3 := (monB b c).2.1
    split at h
    · rename_i h1
      rw [if_pos h1]
      split at h
      · rename_i h2
        rw [if_pos h2]
        have h4 := (qfa kd).l _ h2
        by_cases hq : (rowF (qco kd) qgb f (qgb b c).1 (qco kd (qgb b c).2.1).1 (acc ++ [(qco kd (qgb b c).2.1).2.1])).2.2.1 = acc ++ [(qco kd (qgb b c).2.1).2.1]
        · rw [hq]; simp
        · exact qr7 f _ _ _ (by omega) hq
      · exact absurd rfl h
    · exact absurd rfl h
/-- What a body's reading does: members behind what is there. -/
def qg3 (kd : Int) (c : K) (out : List N) : Prop :=
  VCalls Try.prog 44 [curE c, .app 5 (encs out)] [.ptr 0 0, .row 1 out.length, .int .i64 kd] fun H' o =>
    ((qda kd c out).2.1 = out → H' = [curE (qda kd c out).1, .app 5 (encs out)] ∧ o = .val (.tup [.row 1 out.length, .bool (qda kd c out).2.2])) ∧
    ((qda kd c out).2.1 ≠ out → H' = [curE (qda kd c out).1, .dead, .app 5 (encs (qda kd c out).2.1)] ∧ o = .val (.tup [.row 2 (qda kd c out).2.1.length, .bool (qda kd c out).2.2]))
theorem qy7 (kd : Int) (c : K) (out : List N) (hg : c.good) (hl : out.length + rest c ≤ 1048578) : qg3 kd c out := by
  unfold qg3
  obtain ⟨kk, hk1, hk2, hk0⟩ : ∃ k : Nat, ((qda kd c out).2.1 = out → k = 2) ∧ ((qda kd c out).2.1 ≠ out → k = 3) ∧ 2 ≤ k := by
    by_cases h : (qda kd c out).2.1 = out
    · exact ⟨2, fun _ => rfl, fun g => absurd h g, Nat.le_refl _⟩
    · exact ⟨3, fun g => absurd g h, fun _ => rfl, Nat.le_succ _⟩
  refine qc7 c0o kk (by simpa using hk0) (by simp) ?_
  have g1 : (qx c [119, 104, 101, 114, 101]).1.good := (qt c _).1 hg
  have g2 : (qx (qx c [119, 104, 101, 114, 101]).1 [123]).1.good := (qt _ _).1 g1
  have r1 := (qt c [119, 104, 101, 114, 101]).2.1
  have r2 := (qt (qx c [119, 104, 101, 114, 101]).1 [123]).2.1
  unfold qda at *
  by_cases h1 : (qx c [119, 104, 101, 114, 101]).2 = true
  · simp only [if_pos h1] at hk1 hk2 ⊢
    by_cases h2 : (qx (qx c [119, 104, 101, 114, 101]).1 [123]).2 = true
    · simp only [if_pos h2] at hk1 hk2 ⊢
      have hR := qvo kd (qx (qx c [119, 104, 101, 114, 101]).1 [123]).1 out g2 (by omega)
      have i0 := fun Q => @qy3 _ _ _ _ _ _ _ _ _ Q hR
      have i1 := fun Q => @qwy _ _ _ _ _ _ _ _ _ Q hR
      have hln0 : (rowS (qco kd) qgb false (qx (qx c [119, 104, 101, 114, 101]).1 [123]).1 out).2.2.1 ≠ out → (rowS (qco kd) qgb false (qx (qx c [119, 104, 101, 114, 101]).1 [123]).1 out).2.2.1 ≠ [] := qr7 _ _ _ _ (Nat.lt_succ_self _)
      have g3 := (qes (qfa kd) monB false (qx (qx c [119, 104, 101, 114, 101]).1 [123]).1 out).1 g2
      clear hR
      generalize rowS (qco kd) qgb false (qx (qx c [119, 104, 101, 114, 101]).1 [123]).1 out = r at *
      obtain ⟨fl, d, l, ok⟩ := r
      simp only at i0 i1 g3 hk1 hk2 hln0 ⊢
      have hln : l ≠ out → l ≠ [] := hln0
      have hl2 : (qlv (d, l, ok)).2.1 = l := by unfold qlv; split <;> rfl
      rw [hl2] at hk1 hk2
      simp only [hl2]
      by_cases hq : l = out
      · obtain rfl := hk1 hq
        cases ok with
        | false =>
          unfold qlv
          repeat' (first | refine qi ?_ | ((first | refine qbk ?_ | refine qj ?_ | refine qh ?_ | refine qg ?_) <;> (try simp (disch := first | omega | (simp only [List.length_set, List.length_append, List.length_cons, List.length_nil]; done) | (simp only [List.length_set, List.length_append, List.length_cons, List.length_nil]; omega)) only [h1, h2, go_sem, ↓reduceIte, Nat.reduceEqDiff, Nat.reduceAdd, Nat.reduceSub, Nat.reduceMul, Nat.reduceLT, Nat.reduceLeDiff, reduceCtorEq, Int.reduceToNat])) | ((first | ((first | refine qe ?_ ?_ | refine qc ?_ ?_) <;> intro hc <;> (try simp only [hc]) <;> (try simp only [qb, qa, decide_eq_true_eq, decide_eq_false_iff_not, Bool.and_eq_true] at hc)) | refine And.intro (by first | assumption | omega | (have := qf (by assumption); omega) | (unfold qo; omega)) ?_ | simp (disch := omega) only [qd] | simp (disch := omega) only [qn] | refine qb0 hg.ok ?_ | refine qb0 g1.ok ?_ | refine qdq ?_ | refine i0 _ hq ?_) <;> (try simp only [go_sem, ↓reduceIte, Nat.reduceEqDiff, Nat.reduceAdd, Nat.reduceSub, Nat.reduceMul, Nat.reduceLT, Nat.reduceLeDiff, reduceCtorEq, Int.reduceToNat])))
          all_goals first | exact ⟨fun _ => by first | trivial | exact ⟨rfl, rfl⟩, fun g => absurd hq g⟩ | (exfalso; clear i0 i1; simp_all; done)
        | true =>
          unfold qlv
          repeat' (first | refine qi ?_ | ((first | refine qbk ?_ | refine qj ?_ | refine qh ?_ | refine qg ?_) <;> (try simp (disch := first | omega | (simp only [List.length_set, List.length_append, List.length_cons, List.length_nil]; done) | (simp only [List.length_set, List.length_append, List.length_cons, List.length_nil]; omega)) only [h1, h2, go_sem, ↓reduceIte, Nat.reduceEqDiff, Nat.reduceAdd, Nat.reduceSub, Nat.reduceMul, Nat.reduceLT, Nat.reduceLeDiff, reduceCtorEq, Int.reduceToNat])) | ((first | ((first | refine qe ?_ ?_ | refine qc ?_ ?_) <;> intro hc <;> (try simp only [hc]) <;> (try simp only [qb, qa, decide_eq_true_eq, decide_eq_false_iff_not, Bool.and_eq_true] at hc)) | refine And.intro (by first | assumption | omega | (have := qf (by assumption); omega) | (unfold qo; omega)) ?_ | simp (disch := omega) only [qd] | simp (disch := omega) only [qn] | refine qb0 hg.ok ?_ | refine qb0 g1.ok ?_ | refine qdq ?_ | refine i0 _ hq ?_ | refine qb0 g3.ok ?_) <;> (try simp only [go_sem, ↓reduceIte, Nat.reduceEqDiff, Nat.reduceAdd, Nat.reduceSub, Nat.reduceMul, Nat.reduceLT, Nat.reduceLeDiff, reduceCtorEq, Int.reduceToNat])))
          all_goals first | exact ⟨fun _ => by first | trivial | exact ⟨rfl, rfl⟩, fun g => absurd hq g⟩ | (exfalso; clear i0 i1; simp_all; done)
      · obtain rfl := hk2 hq
        have hne : l ≠ [] := hln hq
        unfold k0o
        generalize h9 : q53 = R5
        repeat' (first | refine qi ?_ | ((first | refine qbk ?_ | refine qj ?_ | refine qh ?_ | refine qg ?_) <;> (try simp (disch := first | omega | (simp only [List.length_set, List.length_append, List.length_cons, List.length_nil]; done) | (simp only [List.length_set, List.length_append, List.length_cons, List.length_nil]; omega)) only [h1, h2, go_sem, ↓reduceIte, Nat.reduceEqDiff, Nat.reduceAdd, Nat.reduceSub, Nat.reduceMul, Nat.reduceLT, Nat.reduceLeDiff, reduceCtorEq, Int.reduceToNat])) | ((first | ((first | refine qe ?_ ?_ | refine qc ?_ ?_) <;> intro hc <;> (try simp only [hc]) <;> (try simp only [qb, qa, decide_eq_true_eq, decide_eq_false_iff_not, Bool.and_eq_true] at hc)) | refine And.intro (by first | assumption | omega | (have := qf (by assumption); omega) | (unfold qo; omega)) ?_ | simp (disch := omega) only [qd] | simp (disch := omega) only [qn] | refine qb0 hg.ok ?_ | refine qb0 g1.ok ?_ | refine qdq ?_ | refine i1 _ hq ?_) <;> (try simp only [go_sem, ↓reduceIte, Nat.reduceEqDiff, Nat.reduceAdd, Nat.reduceSub, Nat.reduceMul, Nat.reduceLT, Nat.reduceLeDiff, reduceCtorEq, Int.reduceToNat])))
        all_goals first | (exfalso; clear i0 i1 h9; simp_all; done) | skip
        refine q6c (af' := ⟨[(1, .row 2 l.length), (3, .ptr 3 0), (9, .bool ok)], []⟩) (H' := [curE d, .dead, .app 5 (encs l), .blk [.ptr 0 0]]) ?_ (q4v [0, 1, 8, 2] rfl (by simp) ?_ ?_ ?_)
        rotate_left
        all_goals (try simp only [go_sem, ↓reduceIte, Nat.reduceEqDiff, Nat.reduceAdd, Nat.reduceSub, Nat.reduceMul, Nat.reduceLT, Nat.reduceLeDiff, reduceCtorEq, Int.reduceToNat])
        all_goals (try (rw [q6, qbn]; exact ⟨rfl, rfl⟩))
        subst h9
        cases ok with
        | false =>
          unfold qlv
          repeat' (first | refine qi ?_ | ((first | refine qbk ?_ | refine qj ?_ | refine qh ?_ | refine qg ?_ | refine qb0 g3.ok ?_ | ((first | refine qe ?_ ?_ | refine qc ?_ ?_) <;> intro hc <;> (try simp only [hc]) <;> (try simp only [qb, qa, decide_eq_true_eq, decide_eq_false_iff_not, Bool.and_eq_true] at hc)) | refine And.intro (by first | assumption | omega | (have := qf (by assumption); omega) | (unfold qo; omega)) ?_ | simp (disch := omega) only [qd] | simp (disch := omega) only [qn]) <;> (try simp only [go_sem, ↓reduceIte, Nat.reduceEqDiff, Nat.reduceAdd, Nat.reduceSub, Nat.reduceMul, Nat.reduceLT, Nat.reduceLeDiff, reduceCtorEq, Int.reduceToNat])))
          all_goals exact ⟨fun g => absurd g hq, fun _ => by first | trivial | exact ⟨rfl, rfl⟩⟩
        | true =>
          unfold qlv
          repeat' (first | refine qi ?_ | ((first | refine qbk ?_ | refine qj ?_ | refine qh ?_ | refine qg ?_ | refine qb0 g3.ok ?_ | ((first | refine qe ?_ ?_ | refine qc ?_ ?_) <;> intro hc <;> (try simp only [hc]) <;> (try simp only [qb, qa, decide_eq_true_eq, decide_eq_false_iff_not, Bool.and_eq_true] at hc)) | refine And.intro (by first | assumption | omega | (have := qf (by assumption); omega) | (unfold qo; omega)) ?_ | simp (disch := omega) only [qd] | simp (disch := omega) only [qn]) <;> (try simp only [go_sem, ↓reduceIte, Nat.reduceEqDiff, Nat.reduceAdd, Nat.reduceSub, Nat.reduceMul, Nat.reduceLT, Nat.reduceLeDiff, reduceCtorEq, Int.reduceToNat])))
          all_goals exact ⟨fun g => absurd g hq, fun _ => by first | trivial | exact ⟨rfl, rfl⟩⟩
    · simp only [if_neg h2] at hk1 hk2 ⊢
      obtain rfl := hk1 (by trivial)
      repeat' (first | refine qi ?_ | ((first | refine qbk ?_ | refine qj ?_ | refine qh ?_ | refine qg ?_) <;> (try simp (disch := first | omega | (simp only [List.length_set, List.length_append, List.length_cons, List.length_nil]; done) | (simp only [List.length_set, List.length_append, List.length_cons, List.length_nil]; omega)) only [h1, h2, go_sem, ↓reduceIte, Nat.reduceEqDiff, Nat.reduceAdd, Nat.reduceSub, Nat.reduceMul, Nat.reduceLT, Nat.reduceLeDiff, reduceCtorEq, Int.reduceToNat])) | ((first | ((first | refine qe ?_ ?_ | refine qc ?_ ?_) <;> intro hc <;> (try simp only [hc]) <;> (try simp only [qb, qa, decide_eq_true_eq, decide_eq_false_iff_not, Bool.and_eq_true] at hc)) | refine And.intro (by first | assumption | omega | (have := qf (by assumption); omega) | (unfold qo; omega)) ?_ | simp (disch := omega) only [qd] | simp (disch := omega) only [qn] | refine qb0 hg.ok ?_ | refine qb0 g1.ok ?_) <;> (try simp only [go_sem, ↓reduceIte, Nat.reduceEqDiff, Nat.reduceAdd, Nat.reduceSub, Nat.reduceMul, Nat.reduceLT, Nat.reduceLeDiff, reduceCtorEq, Int.reduceToNat])))
      all_goals first | exact ⟨rfl, rfl⟩ | exact ⟨fun _ => by first | trivial | exact ⟨rfl, rfl⟩, fun g => absurd rfl g⟩ | (exfalso; simp_all; done) | (simp_all; done)
  · simp only [if_neg h1] at hk1 hk2 ⊢
    obtain rfl := hk1 (by trivial)
    repeat' (first | refine qi ?_ | ((first | refine qbk ?_ | refine qj ?_ | refine qh ?_ | refine qg ?_) <;> (try simp (disch := first | omega | (simp only [List.length_set, List.length_append, List.length_cons, List.length_nil]; done) | (simp only [List.length_set, List.length_append, List.length_cons, List.length_nil]; omega)) only [h1, go_sem, ↓reduceIte, Nat.reduceEqDiff, Nat.reduceAdd, Nat.reduceSub, Nat.reduceMul, Nat.reduceLT, Nat.reduceLeDiff, reduceCtorEq, Int.reduceToNat])) | ((first | ((first | refine qe ?_ ?_ | refine qc ?_ ?_) <;> intro hc <;> (try simp only [hc]) <;> (try simp only [qb, qa, decide_eq_true_eq, decide_eq_false_iff_not, Bool.and_eq_true] at hc)) | refine And.intro (by first | assumption | omega | (have := qf (by assumption); omega) | (unfold qo; omega)) ?_ | simp (disch := omega) only [qd] | simp (disch := omega) only [qn] | refine qb0 hg.ok ?_ | refine qb0 g1.ok ?_ | refine qdq ?_) <;> (try simp only [go_sem, ↓reduceIte, Nat.reduceEqDiff, Nat.reduceAdd, Nat.reduceSub, Nat.reduceMul, Nat.reduceLT, Nat.reduceLeDiff, reduceCtorEq, Int.reduceToNat])))
    all_goals first | exact ⟨rfl, rfl⟩ | exact ⟨fun _ => by first | trivial | exact ⟨rfl, rfl⟩, fun g => absurd rfl g⟩ | (exfalso; simp_all; done) | (simp_all; done)
set_option maxRecDepth 4000

section
variable {kd : Int} {c : K} {out : List N} {e1 e2 e3 e4 e5 : Ent} {Q : List Ent → VO → Prop}
theorem q5w (h : qg3 kd c out) (h0 : (qda kd c out).2.1 = out) (hq : Q [curE (qda kd c out).1, e1, e2, e3, e4, .app 5 (encs out)] (.val (.tup [.row 5 out.length, .bool (qda kd c out).2.2]))) :
    VApp Try.prog [curE c, e1, e2, e3, e4, .app 5 (encs out)] (.fn 44 [] []) [.ptr 0 0, .row 5 out.length, .int .i64 kd] Q :=
  qby (first := []) (caps := []) (by
    simp only [List.nil_append, List.append_nil]
    refine qcb (H0 := [curE c, .app 5 (encs out)]) (args0 := [.ptr 0 0, .row 1 out.length, .int .i64 kd]) [0, 5] h (by simp) ?_ rfl rfl ?_
    · simp only [go_sem, ↓reduceIte, Nat.reduceEqDiff, Nat.reduceAdd, Nat.reduceSub, Nat.reduceMul, Nat.reduceLT, Nat.reduceLeDiff, reduceCtorEq, Int.reduceToNat]
      all_goals (rw [qbn, q6]; exact ⟨rfl, rfl⟩)
    intro H1 o hh
    obtain ⟨rfl, rfl⟩ := hh.1 h0
    simpa [qel, qbq, sg', qlg, AV.ren, AV.rens, VO.ren, qci] using hq)
theorem q5o (h : qg3 kd c out) (h0 : (qda kd c out).2.1 ≠ out) (hq : Q [curE (qda kd c out).1, e1, e2, e3, e4, .dead, .app 5 (encs (qda kd c out).2.1)] (.val (.tup [.row 6 (qda kd c out).2.1.length, .bool (qda kd c out).2.2]))) :
    VApp Try.prog [curE c, e1, e2, e3, e4, .app 5 (encs out)] (.fn 44 [] []) [.ptr 0 0, .row 5 out.length, .int .i64 kd] Q :=
  qby (first := []) (caps := []) (by
    simp only [List.nil_append, List.append_nil]
    refine qcb (H0 := [curE c, .app 5 (encs out)]) (args0 := [.ptr 0 0, .row 1 out.length, .int .i64 kd]) [0, 5] h (by simp) ?_ rfl rfl ?_
    · simp only [go_sem, ↓reduceIte, Nat.reduceEqDiff, Nat.reduceAdd, Nat.reduceSub, Nat.reduceMul, Nat.reduceLT, Nat.reduceLeDiff, reduceCtorEq, Int.reduceToNat]
      all_goals (rw [qbn, q6]; exact ⟨rfl, rfl⟩)
    intro H1 o hh
    obtain ⟨rfl, rfl⟩ := hh.2 h0
    have hd : ∀ σ : Nat → Nat, Ent.dead.ren σ = .dead := fun σ => rfl
    simpa [qel, qbq, sg', qlg, hd, AV.ren, AV.rens, VO.ren, qci] using hq)
theorem q5p (h : qg3 kd c out) (h0 : (qda kd c out).2.1 = out) (hq : Q [curE (qda kd c out).1, e1, e2, e3, e4, e5, .app 5 (encs out)] (.val (.tup [.row 6 out.length, .bool (qda kd c out).2.2]))) :
    VApp Try.prog [curE c, e1, e2, e3, e4, e5, .app 5 (encs out)] (.fn 44 [] []) [.ptr 0 0, .row 6 out.length, .int .i64 kd] Q :=
  qby (first := []) (caps := []) (by
    simp only [List.nil_append, List.append_nil]
    refine qcb (H0 := [curE c, .app 5 (encs out)]) (args0 := [.ptr 0 0, .row 1 out.length, .int .i64 kd]) [0, 6] h (by simp) ?_ rfl rfl ?_
    · simp only [go_sem, ↓reduceIte, Nat.reduceEqDiff, Nat.reduceAdd, Nat.reduceSub, Nat.reduceMul, Nat.reduceLT, Nat.reduceLeDiff, reduceCtorEq, Int.reduceToNat]
      all_goals (rw [qbn, q6]; exact ⟨rfl, rfl⟩)
    intro H1 o hh
    obtain ⟨rfl, rfl⟩ := hh.1 h0
    simpa [qel, qbq, sg', qlg, AV.ren, AV.rens, VO.ren, qci] using hq)
theorem q52 (h : qg3 kd c out) (h0 : (qda kd c out).2.1 ≠ out) (hq : Q [curE (qda kd c out).1, e1, e2, e3, e4, e5, .dead, .app 5 (encs (qda kd c out).2.1)] (.val (.tup [.row 7 (qda kd c out).2.1.length, .bool (qda kd c out).2.2]))) :
    VApp Try.prog [curE c, e1, e2, e3, e4, e5, .app 5 (encs out)] (.fn 44 [] []) [.ptr 0 0, .row 6 out.length, .int .i64 kd] Q :=
  qby (first := []) (caps := []) (by
    simp only [List.nil_append, List.append_nil]
    refine qcb (H0 := [curE c, .app 5 (encs out)]) (args0 := [.ptr 0 0, .row 1 out.length, .int .i64 kd]) [0, 6] h (by simp) ?_ rfl rfl ?_
    · simp only [go_sem, ↓reduceIte, Nat.reduceEqDiff, Nat.reduceAdd, Nat.reduceSub, Nat.reduceMul, Nat.reduceLT, Nat.reduceLeDiff, reduceCtorEq, Int.reduceToNat]
      all_goals (rw [qbn, q6]; exact ⟨rfl, rfl⟩)
    intro H1 o hh
    obtain ⟨rfl, rfl⟩ := hh.2 h0
    have hd : ∀ σ : Nat → Nat, Ent.dead.ren σ = .dead := fun σ => rfl
    simpa [qel, qbq, sg', qlg, hd, AV.ren, AV.rens, VO.ren, qci] using hq)
end
theorem q5q : ∀ l : List N, l.length ≤ szs l
  | [] => Nat.zero_le _
  | x :: r => by
    have := q5q r
    rw [szs, qgw, List.length_cons]; omega
def q3p (k p : Int) : AV := .agg [.int .i64 k, .int .i64 p, .int .i64 0, .str [], .nils]
theorem qm3 (k p : Int) : AV.agg [.int .i64 k, .int .i64 p, .int .i64 0, .str [], .sl 5 []] = enc (qtp k p) := by simp only [qtp, enc, encs]
theorem qga (k p : Int) (t : T) (v l : List N) : AV.agg [.int .i64 k, .int .i64 p, .int .i64 v.length, .str t.text, .sl 5 (encs l)] = enc (qk6 k p t v l) := by simp only [qk6, enc]
theorem qk5 (k p : Int) (t : T) (v : List N) : AV.agg [.int .i64 k, .int .i64 p, .int .i64 v.length, .str t.text, .sl 5 []] = enc (qk6 k p t v []) := qga k p t v []
theorem qh6 (k p : Int) (t : T) (l : List N) : AV.agg [.int .i64 k, .int .i64 p, .int .i64 0, .str t.text, .sl 5 (encs l)] = enc (qk6 k p t [] l) := qga k p t [] l
theorem qk9 (k p : Int) (t : T) : AV.agg [.int .i64 k, .int .i64 p, .int .i64 0, .str t.text, .sl 5 []] = enc (qk6 k p t [] []) := qga k p t [] []
set_option maxHeartbeats 2000000 in
theorem qvx (k p : Int) (c : K) (hg : c.good) : qbz Try.prog 28 (curE c) (curE (qlt k p c).1) [.ptr 0 0, q3p k p] (resB (qlt k p c).2) := by
  have hP : qf0 (qb2 (rest c + 2)) c := qka (qcv _) (qpz (rest c + 2)) c hg (by omega)
  have p0 := @qiy (qb2 (rest c + 2)) c hP
  have p1 := @qmw (qb2 (rest c + 2)) c hP
  have g1 : (qff c).1.good := (qfx c).1 hg
  have h9 := hg.rest
  have hpl := fun l => @qtm c l
  have hpz := fun l (h : (qff c).2 = some l) => Nat.le_trans (Nat.add_le_add_right (q5q l) _) (@qoj c l h)
  clear hP
  refine qs c0k 1 (by simp) (by simp [q3p]) ?_
  unfold qlt q3r q3p
  unfold qff at *
  generalize qbf (qb2 (rest c + 2)) c = pr at *
  obtain ⟨d, o⟩ := pr
  simp only at p0 p1 g1 hpl hpz ⊢
  cases o with
  | none =>
    repeat' (first | refine qi ?_ | ((first | refine qbk ?_ | refine q9 ?_ | refine qj ?_ | refine qh ?_ | refine qg ?_) <;> (try simp (disch := first | omega | (simp only [List.length_set, List.length_append, List.length_cons, List.length_nil]; done) | (simp only [List.length_set, List.length_append, List.length_cons, List.length_nil]; omega)) only [Option.isSome_none, Option.getD_none, go_sem, ↓reduceIte, Nat.reduceEqDiff, Nat.reduceAdd, Nat.reduceSub, Nat.reduceMul, Nat.reduceLT, Nat.reduceLeDiff, reduceCtorEq, Int.reduceToNat])) | ((first | ((first | refine qe ?_ ?_ | refine qc ?_ ?_) <;> intro hc <;> (try simp only [hc]) <;> (try simp only [qb, qa, decide_eq_true_eq, decide_eq_false_iff_not, Bool.and_eq_true] at hc)) | refine And.intro (by first | assumption | omega | (have := qf (by assumption); omega) | (unfold qo; omega)) ?_ | simp (disch := omega) only [qd] | simp (disch := omega) only [qn] | refine p0 rfl ?_) <;> (try simp only [go_sem, ↓reduceIte, Nat.reduceEqDiff, Nat.reduceAdd, Nat.reduceSub, Nat.reduceMul, Nat.reduceLT, Nat.reduceLeDiff, reduceCtorEq, Int.reduceToNat])))
    all_goals (try rw [qm3])
    all_goals first | exact ⟨rfl, rfl⟩ | rfl | (exfalso; clear p0 p1; simp_all; done)
  | some v =>
    have hvl := hpl v rfl
    have hvz := hpz v rfl
    have hvm : v.length ≤ maxLen := by unfold maxLen; unfold rest at hvl; omega
    have hcap : qo (v.length + 1) 64 := capN (by unfold rest at hvl; omega)
    have hcap1 : qo 1 64 := capN (by omega)
    have p0 : v = [] → _ := fun h => @p0 h
    have p1 : v ≠ [] → _ := fun h => @p1 v rfl h
    clear hpl hpz
    simp only [Option.getD_some, Option.isSome_some, if_true]
    have g2 : (qbe d 2).1.good := (qca d 2).1 g1
    have r2 := (qca d 2).2.1
    by_cases hk : (qbe d 2).2 = true
    · rw [if_pos hk]
      have ha := qj8 (qbe d 2).1 g2
      have g3 := (qgr (qbe d 2).1).1 g2
      have r3 := (qgr (qbe d 2).1).2.1
      have r4 : (qir (qbe d 2).1).2.isSome = true → rest (qir (qbe d 2).1).1 < rest (qbe d 2).1 := fun h => qdi (qcv _) h
      unfold qwa q1z
      generalize qir (qbe d 2).1 = a at *
      have hkl := qiw (by decide) hk
      have hvl2 : v.length + 1 + rest a.1 ≤ 1048578 := by unfold rest at *; omega
      by_cases h35 : k = 35
      · subst h35
        simp only [true_and, if_true]
        by_cases hv : (qba (qbe d 2).1).kind = 1
        · have hv1 := hv
          rw [if_neg (by simp [hv])]
          have hbs := qy7 32 a.1 (v ++ [a.2.getD N0]) g3 (by simp only [List.length_append, List.length_cons, List.length_nil]; unfold rest at *; omega)
          have a0 := fun e1 e2 e3 e4 Q => @q5w 32 a.1 (v ++ [a.2.getD N0]) e1 e2 e3 e4 Q hbs
          have a1 := fun e1 e2 e3 e4 Q => @q5o 32 a.1 (v ++ [a.2.getD N0]) e1 e2 e3 e4 Q hbs
          have b0 := fun e1 e2 e3 e4 e5 Q => @q5p 32 a.1 (v ++ [a.2.getD N0]) e1 e2 e3 e4 e5 Q hbs
          have b1 := fun e1 e2 e3 e4 e5 Q => @q52 32 a.1 (v ++ [a.2.getD N0]) e1 e2 e3 e4 e5 Q hbs
          clear hbs
          generalize qda 32 a.1 (v ++ [a.2.getD N0]) = B at *
          obtain ⟨a, oa⟩ := a
          cases oa with
          | none =>
            simp only [Option.isSome_none, Bool.false_eq_true, if_false, Option.getD_none] at ha ⊢
            clear a0 a1 b0 b1
            by_cases h0 : v = []
            · repeat' (first | refine qi ?_ | ((first | refine qbk ?_ | refine q9 ?_ | refine qj ?_ | refine qh ?_ | refine qg ?_) <;> (try simp (disch := first | omega | (simp only [List.length_set, List.length_append, List.length_cons, List.length_nil]; done) | (simp only [List.length_set, List.length_append, List.length_cons, List.length_nil]; omega)) only [hk, Option.isSome_some, hv1, ne_eq, not_true_eq_false, decide_false, Option.isSome_none, Option.getD_none, go_sem, ↓reduceIte, Nat.reduceEqDiff, Nat.reduceAdd, Nat.reduceSub, Nat.reduceMul, Nat.reduceLT, Nat.reduceLeDiff, reduceCtorEq, Int.reduceToNat])) | ((first | ((first | refine qe ?_ ?_ | refine qc ?_ ?_) <;> intro hc <;> (try simp only [hc]) <;> (try simp only [qb, qa, decide_eq_true_eq, decide_eq_false_iff_not, Bool.and_eq_true] at hc)) | refine And.intro (by first | assumption | omega | (have := qf (by assumption); omega) | (unfold qo; omega)) ?_ | simp (disch := omega) only [qd] | simp (disch := omega) only [qn] | refine p0 h0 ?_ | refine qcr g1.ok ?_ | refine qbu ?_ | refine qei ?_ | refine qb7 ha rfl ?_) <;> (try simp only [go_sem, ↓reduceIte, Nat.reduceEqDiff, Nat.reduceAdd, Nat.reduceSub, Nat.reduceMul, Nat.reduceLT, Nat.reduceLeDiff, reduceCtorEq, Int.reduceToNat])))
              all_goals (try subst h0)
              all_goals (try rw [qk9])
              all_goals first | exact ⟨rfl, rfl⟩ | rfl | (exfalso; clear p0 p1; simp_all; done)
            · repeat' (first | refine qi ?_ | ((first | refine qbk ?_ | refine q9 ?_ | refine qj ?_ | refine qh ?_ | refine qg ?_) <;> (try simp (disch := first | omega | (simp only [List.length_set, List.length_append, List.length_cons, List.length_nil]; done) | (simp only [List.length_set, List.length_append, List.length_cons, List.length_nil]; omega)) only [hk, Option.isSome_some, hv1, ne_eq, not_true_eq_false, decide_false, Option.isSome_none, Option.getD_none, go_sem, ↓reduceIte, Nat.reduceEqDiff, Nat.reduceAdd, Nat.reduceSub, Nat.reduceMul, Nat.reduceLT, Nat.reduceLeDiff, reduceCtorEq, Int.reduceToNat])) | ((first | ((first | refine qe ?_ ?_ | refine qc ?_ ?_) <;> intro hc <;> (try simp only [hc]) <;> (try simp only [qb, qa, decide_eq_true_eq, decide_eq_false_iff_not, Bool.and_eq_true] at hc)) | refine And.intro (by first | assumption | omega | (have := qf (by assumption); omega) | (unfold qo; omega)) ?_ | simp (disch := omega) only [qd] | simp (disch := omega) only [qn] | refine p1 h0 ?_ | refine qcr g1.ok ?_ | refine qbu ?_ | refine qei ?_ | refine qb7 ha rfl ?_) <;> (try simp only [go_sem, ↓reduceIte, Nat.reduceEqDiff, Nat.reduceAdd, Nat.reduceSub, Nat.reduceMul, Nat.reduceLT, Nat.reduceLeDiff, reduceCtorEq, Int.reduceToNat])))
              all_goals (try rw [qk5])
              all_goals first | exact ⟨rfl, rfl⟩ | rfl | (exfalso; clear p0 p1; simp_all; done)
          | some n =>
            simp only [Option.isSome_some, if_true, Option.getD_some] at ha a0 a1 b0 b1 ⊢
            by_cases h0 : v = []
            · subst h0
              clear b0 b1 hcap
              simp only [List.nil_append, encs, List.length_cons, List.length_nil, Nat.zero_add] at a0 a1
              by_cases hq : B.2.1 = [n]
              · repeat' (first | refine qi ?_ | ((first | refine qbk ?_ | refine q9 ?_ | refine qj ?_ | refine qh ?_ | refine qg ?_) <;> (try simp (disch := first | omega | (simp only [List.length_set, List.length_append, List.length_cons, List.length_nil]; done) | (simp only [List.length_set, List.length_append, List.length_cons, List.length_nil]; omega)) only [hk, Option.isSome_some, hv1, ne_eq, not_true_eq_false, decide_false, go_sem, ↓reduceIte, Nat.reduceEqDiff, Nat.reduceAdd, Nat.reduceSub, Nat.reduceMul, Nat.reduceLT, Nat.reduceLeDiff, reduceCtorEq, Int.reduceToNat])) | ((first | ((first | refine qe ?_ ?_ | refine qc ?_ ?_) <;> intro hc <;> (try simp only [hc]) <;> (try simp only [qb, qa, decide_eq_true_eq, decide_eq_false_iff_not, Bool.and_eq_true] at hc)) | refine And.intro (by first | assumption | omega | (have := qf (by assumption); omega) | (unfold qo; omega)) ?_ | simp (disch := omega) only [qd] | simp (disch := omega) only [qn] | refine p0 rfl ?_ | refine qcr g1.ok ?_ | refine qbu ?_ | refine qei ?_ | refine qb7 ha rfl ?_ | refine a0 _ _ _ _ _ hq ?_) <;> (try simp only [go_sem, ↓reduceIte, Nat.reduceEqDiff, Nat.reduceAdd, Nat.reduceSub, Nat.reduceMul, Nat.reduceLT, Nat.reduceLeDiff, reduceCtorEq, Int.reduceToNat])))
                all_goals (try rw [hq, ← qh6])
                all_goals first | exact ⟨rfl, rfl⟩ | rfl | (exfalso; clear p0 p1 a0 a1; simp_all; done)
              · repeat' (first | refine qi ?_ | ((first | refine qbk ?_ | refine q9 ?_ | refine qj ?_ | refine qh ?_ | refine qg ?_) <;> (try simp (disch := first | omega | (simp only [List.length_set, List.length_append, List.length_cons, List.length_nil]; done) | (simp only [List.length_set, List.length_append, List.length_cons, List.length_nil]; omega)) only [hk, Option.isSome_some, hv1, ne_eq, not_true_eq_false, decide_false, go_sem, ↓reduceIte, Nat.reduceEqDiff, Nat.reduceAdd, Nat.reduceSub, Nat.reduceMul, Nat.reduceLT, Nat.reduceLeDiff, reduceCtorEq, Int.reduceToNat])) | ((first | ((first | refine qe ?_ ?_ | refine qc ?_ ?_) <;> intro hc <;> (try simp only [hc]) <;> (try simp only [qb, qa, decide_eq_true_eq, decide_eq_false_iff_not, Bool.and_eq_true] at hc)) | refine And.intro (by first | assumption | omega | (have := qf (by assumption); omega) | (unfold qo; omega)) ?_ | simp (disch := omega) only [qd] | simp (disch := omega) only [qn] | refine p0 rfl ?_ | refine qcr g1.ok ?_ | refine qbu ?_ | refine qei ?_ | refine qb7 ha rfl ?_ | refine a1 _ _ _ _ _ hq ?_) <;> (try simp only [go_sem, ↓reduceIte, Nat.reduceEqDiff, Nat.reduceAdd, Nat.reduceSub, Nat.reduceMul, Nat.reduceLT, Nat.reduceLeDiff, reduceCtorEq, Int.reduceToNat])))
                all_goals (try rw [qh6])
                all_goals first | exact ⟨rfl, rfl⟩ | rfl | (exfalso; clear p0 p1 a0 a1; simp_all; done)
            · clear a0 a1 hcap1
              simp only [← qq, List.length_append, List.length_cons, List.length_nil, Nat.zero_add] at b0 b1
              by_cases hq : B.2.1 = v ++ [n]
              · repeat' (first | refine qi ?_ | ((first | refine qbk ?_ | refine q9 ?_ | refine qj ?_ | refine qh ?_ | refine qg ?_) <;> (try simp (disch := first | omega | (simp only [List.length_set, List.length_append, List.length_cons, List.length_nil]; done) | (simp only [List.length_set, List.length_append, List.length_cons, List.length_nil]; omega)) only [hk, Option.isSome_some, hv1, ne_eq, not_true_eq_false, decide_false, go_sem, ↓reduceIte, Nat.reduceEqDiff, Nat.reduceAdd, Nat.reduceSub, Nat.reduceMul, Nat.reduceLT, Nat.reduceLeDiff, reduceCtorEq, Int.reduceToNat])) | ((first | ((first | refine qe ?_ ?_ | refine qc ?_ ?_) <;> intro hc <;> (try simp only [hc]) <;> (try simp only [qb, qa, decide_eq_true_eq, decide_eq_false_iff_not, Bool.and_eq_true] at hc)) | refine And.intro (by first | assumption | omega | (have := qf (by assumption); omega) | (unfold qo; omega)) ?_ | simp (disch := omega) only [qd] | simp (disch := omega) only [qn] | refine p1 h0 ?_ | refine qcr g1.ok ?_ | refine qbu ?_ | refine qei ?_ | refine qb7 ha rfl ?_ | refine b0 _ _ _ _ _ _ hq ?_) <;> (try simp only [go_sem, ↓reduceIte, Nat.reduceEqDiff, Nat.reduceAdd, Nat.reduceSub, Nat.reduceMul, Nat.reduceLT, Nat.reduceLeDiff, reduceCtorEq, Int.reduceToNat])))
                all_goals (try (rw [qq, qga, hq]; exact ⟨q6 _ _, rfl⟩))
                all_goals first | exact ⟨rfl, rfl⟩ | rfl | (exfalso; clear p0 p1 b0 b1; simp_all; done)
              · repeat' (first | refine qi ?_ | ((first | refine qbk ?_ | refine q9 ?_ | refine qj ?_ | refine qh ?_ | refine qg ?_) <;> (try simp (disch := first | omega | (simp only [List.length_set, List.length_append, List.length_cons, List.length_nil]; done) | (simp only [List.length_set, List.length_append, List.length_cons, List.length_nil]; omega)) only [hk, Option.isSome_some, hv1, ne_eq, not_true_eq_false, decide_false, go_sem, ↓reduceIte, Nat.reduceEqDiff, Nat.reduceAdd, Nat.reduceSub, Nat.reduceMul, Nat.reduceLT, Nat.reduceLeDiff, reduceCtorEq, Int.reduceToNat])) | ((first | ((first | refine qe ?_ ?_ | refine qc ?_ ?_) <;> intro hc <;> (try simp only [hc]) <;> (try simp only [qb, qa, decide_eq_true_eq, decide_eq_false_iff_not, Bool.and_eq_true] at hc)) | refine And.intro (by first | assumption | omega | (have := qf (by assumption); omega) | (unfold qo; omega)) ?_ | simp (disch := omega) only [qd] | simp (disch := omega) only [qn] | refine p1 h0 ?_ | refine qcr g1.ok ?_ | refine qbu ?_ | refine qei ?_ | refine qb7 ha rfl ?_ | refine b1 _ _ _ _ _ _ hq ?_) <;> (try simp only [go_sem, ↓reduceIte, Nat.reduceEqDiff, Nat.reduceAdd, Nat.reduceSub, Nat.reduceMul, Nat.reduceLT, Nat.reduceLeDiff, reduceCtorEq, Int.reduceToNat])))
                all_goals (try rw [qga])
                all_goals first | exact ⟨rfl, rfl⟩ | rfl | (exfalso; clear p0 p1 b0 b1; simp_all; done)
        · rw [if_pos hv]
          clear ha
          by_cases h0 : v = []
          · repeat' (first | refine qi ?_ | ((first | refine qbk ?_ | refine q9 ?_ | refine qj ?_ | refine qh ?_ | refine qg ?_) <;> (try simp (disch := first | omega | (simp only [List.length_set, List.length_append, List.length_cons, List.length_nil]; done) | (simp only [List.length_set, List.length_append, List.length_cons, List.length_nil]; omega)) only [hk, hv, Option.isSome_some, go_sem, ↓reduceIte, Nat.reduceEqDiff, Nat.reduceAdd, Nat.reduceSub, Nat.reduceMul, Nat.reduceLT, Nat.reduceLeDiff, reduceCtorEq, Int.reduceToNat])) | ((first | ((first | refine qe ?_ ?_ | refine qc ?_ ?_) <;> intro hc <;> (try simp only [hc]) <;> (try simp only [qb, qa, decide_eq_true_eq, decide_eq_false_iff_not, Bool.and_eq_true] at hc)) | refine And.intro (by first | assumption | omega | (have := qf (by assumption); omega) | (unfold qo; omega)) ?_ | simp (disch := omega) only [qd] | simp (disch := omega) only [qn] | refine p0 h0 ?_ | refine qcr g1.ok ?_ | refine qbu ?_ | refine qei ?_) <;> (try simp only [go_sem, ↓reduceIte, Nat.reduceEqDiff, Nat.reduceAdd, Nat.reduceSub, Nat.reduceMul, Nat.reduceLT, Nat.reduceLeDiff, reduceCtorEq, Int.reduceToNat])))
            all_goals (try subst h0)
            all_goals (try rw [qk9])
            all_goals first | exact ⟨rfl, rfl⟩ | rfl | (exfalso; clear p0 p1; simp_all; done)
          · repeat' (first | refine qi ?_ | ((first | refine qbk ?_ | refine q9 ?_ | refine qj ?_ | refine qh ?_ | refine qg ?_) <;> (try simp (disch := first | omega | (simp only [List.length_set, List.length_append, List.length_cons, List.length_nil]; done) | (simp only [List.length_set, List.length_append, List.length_cons, List.length_nil]; omega)) only [hk, hv, Option.isSome_some, go_sem, ↓reduceIte, Nat.reduceEqDiff, Nat.reduceAdd, Nat.reduceSub, Nat.reduceMul, Nat.reduceLT, Nat.reduceLeDiff, reduceCtorEq, Int.reduceToNat])) | ((first | ((first | refine qe ?_ ?_ | refine qc ?_ ?_) <;> intro hc <;> (try simp only [hc]) <;> (try simp only [qb, qa, decide_eq_true_eq, decide_eq_false_iff_not, Bool.and_eq_true] at hc)) | refine And.intro (by first | assumption | omega | (have := qf (by assumption); omega) | (unfold qo; omega)) ?_ | simp (disch := omega) only [qd] | simp (disch := omega) only [qn] | refine p1 h0 ?_ | refine qcr g1.ok ?_ | refine qbu ?_ | refine qei ?_) <;> (try simp only [go_sem, ↓reduceIte, Nat.reduceEqDiff, Nat.reduceAdd, Nat.reduceSub, Nat.reduceMul, Nat.reduceLT, Nat.reduceLeDiff, reduceCtorEq, Int.reduceToNat])))
            all_goals (try rw [qk5])
            all_goals first | exact ⟨rfl, rfl⟩ | rfl | (exfalso; clear p0 p1; simp_all; done)
      · simp only [if_neg h35, h35, false_and, if_false]
        have hbs := qy7 31 a.1 (v ++ [a.2.getD N0]) g3 (by simp only [List.length_append, List.length_cons, List.length_nil]; unfold rest at *; omega)
        have a0 := fun e1 e2 e3 e4 Q => @q5w 31 a.1 (v ++ [a.2.getD N0]) e1 e2 e3 e4 Q hbs
        have a1 := fun e1 e2 e3 e4 Q => @q5o 31 a.1 (v ++ [a.2.getD N0]) e1 e2 e3 e4 Q hbs
        have b0 := fun e1 e2 e3 e4 e5 Q => @q5p 31 a.1 (v ++ [a.2.getD N0]) e1 e2 e3 e4 e5 Q hbs
        have b1 := fun e1 e2 e3 e4 e5 Q => @q52 31 a.1 (v ++ [a.2.getD N0]) e1 e2 e3 e4 e5 Q hbs
        clear hbs
        generalize qda 31 a.1 (v ++ [a.2.getD N0]) = B at *
        obtain ⟨a, oa⟩ := a
        cases oa with
        | none =>
          simp only [Option.isSome_none, Bool.false_eq_true, if_false, Option.getD_none] at ha ⊢
          clear a0 a1 b0 b1
          by_cases h0 : v = []
          · repeat' (first | refine qi ?_ | ((first | refine qbk ?_ | refine q9 ?_ | refine qj ?_ | refine qh ?_ | refine qg ?_) <;> (try simp (disch := first | omega | (simp only [List.length_set, List.length_append, List.length_cons, List.length_nil]; done) | (simp only [List.length_set, List.length_append, List.length_cons, List.length_nil]; omega)) only [hk, Option.isSome_some, h35, Option.isSome_none, Option.getD_none, go_sem, ↓reduceIte, Nat.reduceEqDiff, Nat.reduceAdd, Nat.reduceSub, Nat.reduceMul, Nat.reduceLT, Nat.reduceLeDiff, reduceCtorEq, Int.reduceToNat])) | ((first | ((first | refine qe ?_ ?_ | refine qc ?_ ?_) <;> intro hc <;> (try simp only [hc]) <;> (try simp only [qb, qa, decide_eq_true_eq, decide_eq_false_iff_not, Bool.and_eq_true] at hc)) | refine And.intro (by first | assumption | omega | (have := qf (by assumption); omega) | (unfold qo; omega)) ?_ | simp (disch := omega) only [qd] | simp (disch := omega) only [qn] | refine p0 h0 ?_ | refine qcr g1.ok ?_ | refine qbu ?_ | refine qei ?_ | refine qb7 ha rfl ?_) <;> (try simp only [go_sem, ↓reduceIte, Nat.reduceEqDiff, Nat.reduceAdd, Nat.reduceSub, Nat.reduceMul, Nat.reduceLT, Nat.reduceLeDiff, reduceCtorEq, Int.reduceToNat])))
            all_goals (try subst h0)
            all_goals (try rw [qk9])
            all_goals first | exact ⟨rfl, rfl⟩ | rfl | (exfalso; clear p0 p1; simp_all; done)
          · repeat' (first | refine qi ?_ | ((first | refine qbk ?_ | refine q9 ?_ | refine qj ?_ | refine qh ?_ | refine qg ?_) <;> (try simp (disch := first | omega | (simp only [List.length_set, List.length_append, List.length_cons, List.length_nil]; done) | (simp only [List.length_set, List.length_append, List.length_cons, List.length_nil]; omega)) only [hk, Option.isSome_some, h35, Option.isSome_none, Option.getD_none, go_sem, ↓reduceIte, Nat.reduceEqDiff, Nat.reduceAdd, Nat.reduceSub, Nat.reduceMul, Nat.reduceLT, Nat.reduceLeDiff, reduceCtorEq, Int.reduceToNat])) | ((first | ((first | refine qe ?_ ?_ | refine qc ?_ ?_) <;> intro hc <;> (try simp only [hc]) <;> (try simp only [qb, qa, decide_eq_true_eq, decide_eq_false_iff_not, Bool.and_eq_true] at hc)) | refine And.intro (by first | assumption | omega | (have := qf (by assumption); omega) | (unfold qo; omega)) ?_ | simp (disch := omega) only [qd] | simp (disch := omega) only [qn] | refine p1 h0 ?_ | refine qcr g1.ok ?_ | refine qbu ?_ | refine qei ?_ | refine qb7 ha rfl ?_) <;> (try simp only [go_sem, ↓reduceIte, Nat.reduceEqDiff, Nat.reduceAdd, Nat.reduceSub, Nat.reduceMul, Nat.reduceLT, Nat.reduceLeDiff, reduceCtorEq, Int.reduceToNat])))
            all_goals (try rw [qk5])
            all_goals first | exact ⟨rfl, rfl⟩ | rfl | (exfalso; clear p0 p1; simp_all; done)
        | some n =>
          simp only [Option.isSome_some, if_true, Option.getD_some] at ha a0 a1 b0 b1 ⊢
          by_cases h0 : v = []
          · subst h0
            clear b0 b1 hcap
            simp only [List.nil_append, encs, List.length_cons, List.length_nil, Nat.zero_add] at a0 a1
            by_cases hq : B.2.1 = [n]
            · repeat' (first | refine qi ?_ | ((first | refine qbk ?_ | refine q9 ?_ | refine qj ?_ | refine qh ?_ | refine qg ?_) <;> (try simp (disch := first | omega | (simp only [List.length_set, List.length_append, List.length_cons, List.length_nil]; done) | (simp only [List.length_set, List.length_append, List.length_cons, List.length_nil]; omega)) only [hk, Option.isSome_some, h35, go_sem, ↓reduceIte, Nat.reduceEqDiff, Nat.reduceAdd, Nat.reduceSub, Nat.reduceMul, Nat.reduceLT, Nat.reduceLeDiff, reduceCtorEq, Int.reduceToNat])) | ((first | ((first | refine qe ?_ ?_ | refine qc ?_ ?_) <;> intro hc <;> (try simp only [hc]) <;> (try simp only [qb, qa, decide_eq_true_eq, decide_eq_false_iff_not, Bool.and_eq_true] at hc)) | refine And.intro (by first | assumption | omega | (have := qf (by assumption); omega) | (unfold qo; omega)) ?_ | simp (disch := omega) only [qd] | simp (disch := omega) only [qn] | refine p0 rfl ?_ | refine qcr g1.ok ?_ | refine qbu ?_ | refine qei ?_ | refine qb7 ha rfl ?_ | refine a0 _ _ _ _ _ hq ?_) <;> (try simp only [go_sem, ↓reduceIte, Nat.reduceEqDiff, Nat.reduceAdd, Nat.reduceSub, Nat.reduceMul, Nat.reduceLT, Nat.reduceLeDiff, reduceCtorEq, Int.reduceToNat])))
              all_goals (try rw [hq, ← qh6])
              all_goals first | exact ⟨rfl, rfl⟩ | rfl | (exfalso; clear p0 p1 a0 a1; simp_all; done)
            · repeat' (first | refine qi ?_ | ((first | refine qbk ?_ | refine q9 ?_ | refine qj ?_ | refine qh ?_ | refine qg ?_) <;> (try simp (disch := first | omega | (simp only [List.length_set, List.length_append, List.length_cons, List.length_nil]; done) | (simp only [List.length_set, List.length_append, List.length_cons, List.length_nil]; omega)) only [hk, Option.isSome_some, h35, go_sem, ↓reduceIte, Nat.reduceEqDiff, Nat.reduceAdd, Nat.reduceSub, Nat.reduceMul, Nat.reduceLT, Nat.reduceLeDiff, reduceCtorEq, Int.reduceToNat])) | ((first | ((first | refine qe ?_ ?_ | refine qc ?_ ?_) <;> intro hc <;> (try simp only [hc]) <;> (try simp only [qb, qa, decide_eq_true_eq, decide_eq_false_iff_not, Bool.and_eq_true] at hc)) | refine And.intro (by first | assumption | omega | (have := qf (by assumption); omega) | (unfold qo; omega)) ?_ | simp (disch := omega) only [qd] | simp (disch := omega) only [qn] | refine p0 rfl ?_ | refine qcr g1.ok ?_ | refine qbu ?_ | refine qei ?_ | refine qb7 ha rfl ?_ | refine a1 _ _ _ _ _ hq ?_) <;> (try simp only [go_sem, ↓reduceIte, Nat.reduceEqDiff, Nat.reduceAdd, Nat.reduceSub, Nat.reduceMul, Nat.reduceLT, Nat.reduceLeDiff, reduceCtorEq, Int.reduceToNat])))
              all_goals (try rw [qh6])
              all_goals first | exact ⟨rfl, rfl⟩ | rfl | (exfalso; clear p0 p1 a0 a1; simp_all; done)
          · clear a0 a1 hcap1
            simp only [← qq, List.length_append, List.length_cons, List.length_nil, Nat.zero_add] at b0 b1
            by_cases hq : B.2.1 = v ++ [n]
            · repeat' (first | refine qi ?_ | ((first | refine qbk ?_ | refine q9 ?_ | refine qj ?_ | refine qh ?_ | refine qg ?_) <;> (try simp (disch := first | omega | (simp only [List.length_set, List.length_append, List.length_cons, List.length_nil]; done) | (simp only [List.length_set, List.length_append, List.length_cons, List.length_nil]; omega)) only [hk, Option.isSome_some, h35, go_sem, ↓reduceIte, Nat.reduceEqDiff, Nat.reduceAdd, Nat.reduceSub, Nat.reduceMul, Nat.reduceLT, Nat.reduceLeDiff, reduceCtorEq, Int.reduceToNat])) | ((first | ((first | refine qe ?_ ?_ | refine qc ?_ ?_) <;> intro hc <;> (try simp only [hc]) <;> (try simp only [qb, qa, decide_eq_true_eq, decide_eq_false_iff_not, Bool.and_eq_true] at hc)) | refine And.intro (by first | assumption | omega | (have := qf (by assumption); omega) | (unfold qo; omega)) ?_ | simp (disch := omega) only [qd] | simp (disch := omega) only [qn] | refine p1 h0 ?_ | refine qcr g1.ok ?_ | refine qbu ?_ | refine qei ?_ | refine qb7 ha rfl ?_ | refine b0 _ _ _ _ _ _ hq ?_) <;> (try simp only [go_sem, ↓reduceIte, Nat.reduceEqDiff, Nat.reduceAdd, Nat.reduceSub, Nat.reduceMul, Nat.reduceLT, Nat.reduceLeDiff, reduceCtorEq, Int.reduceToNat])))
              all_goals (try (rw [qq, qga, hq]; exact ⟨q6 _ _, rfl⟩))
              all_goals first | exact ⟨rfl, rfl⟩ | rfl | (exfalso; clear p0 p1 b0 b1; simp_all; done)
            · repeat' (first | refine qi ?_ | ((first | refine qbk ?_ | refine q9 ?_ | refine qj ?_ | refine qh ?_ | refine qg ?_) <;> (try simp (disch := first | omega | (simp only [List.length_set, List.length_append, List.length_cons, List.length_nil]; done) | (simp only [List.length_set, List.length_append, List.length_cons, List.length_nil]; omega)) only [hk, Option.isSome_some, h35, go_sem, ↓reduceIte, Nat.reduceEqDiff, Nat.reduceAdd, Nat.reduceSub, Nat.reduceMul, Nat.reduceLT, Nat.reduceLeDiff, reduceCtorEq, Int.reduceToNat])) | ((first | ((first | refine qe ?_ ?_ | refine qc ?_ ?_) <;> intro hc <;> (try simp only [hc]) <;> (try simp only [qb, qa, decide_eq_true_eq, decide_eq_false_iff_not, Bool.and_eq_true] at hc)) | refine And.intro (by first | assumption | omega | (have := qf (by assumption); omega) | (unfold qo; omega)) ?_ | simp (disch := omega) only [qd] | simp (disch := omega) only [qn] | refine p1 h0 ?_ | refine qcr g1.ok ?_ | refine qbu ?_ | refine qei ?_ | refine qb7 ha rfl ?_ | refine b1 _ _ _ _ _ _ hq ?_) <;> (try simp only [go_sem, ↓reduceIte, Nat.reduceEqDiff, Nat.reduceAdd, Nat.reduceSub, Nat.reduceMul, Nat.reduceLT, Nat.reduceLeDiff, reduceCtorEq, Int.reduceToNat])))
              all_goals (try rw [qga])
              all_goals first | exact ⟨rfl, rfl⟩ | rfl | (exfalso; clear p0 p1 b0 b1; simp_all; done)
    · rw [if_neg hk]
      by_cases h0 : v = []
      · repeat' (first | refine qi ?_ | ((first | refine qbk ?_ | refine q9 ?_ | refine qj ?_ | refine qh ?_ | refine qg ?_) <;> (try simp (disch := first | omega | (simp only [List.length_set, List.length_append, List.length_cons, List.length_nil]; done) | (simp only [List.length_set, List.length_append, List.length_cons, List.length_nil]; omega)) only [hk, Option.isSome_some, go_sem, ↓reduceIte, Nat.reduceEqDiff, Nat.reduceAdd, Nat.reduceSub, Nat.reduceMul, Nat.reduceLT, Nat.reduceLeDiff, reduceCtorEq, Int.reduceToNat])) | ((first | ((first | refine qe ?_ ?_ | refine qc ?_ ?_) <;> intro hc <;> (try simp only [hc]) <;> (try simp only [qb, qa, decide_eq_true_eq, decide_eq_false_iff_not, Bool.and_eq_true] at hc)) | refine And.intro (by first | assumption | omega | (have := qf (by assumption); omega) | (unfold qo; omega)) ?_ | simp (disch := omega) only [qd] | simp (disch := omega) only [qn] | refine p0 h0 ?_ | refine qcr g1.ok ?_) <;> (try simp only [go_sem, ↓reduceIte, Nat.reduceEqDiff, Nat.reduceAdd, Nat.reduceSub, Nat.reduceMul, Nat.reduceLT, Nat.reduceLeDiff, reduceCtorEq, Int.reduceToNat])))
        all_goals (try rw [qm3])
        all_goals first | exact ⟨rfl, rfl⟩ | rfl | (exfalso; clear p0 p1; simp_all; done)
      · repeat' (first | refine qi ?_ | ((first | refine qbk ?_ | refine q9 ?_ | refine qj ?_ | refine qh ?_ | refine qg ?_) <;> (try simp (disch := first | omega | (simp only [List.length_set, List.length_append, List.length_cons, List.length_nil]; done) | (simp only [List.length_set, List.length_append, List.length_cons, List.length_nil]; omega)) only [hk, Option.isSome_some, go_sem, ↓reduceIte, Nat.reduceEqDiff, Nat.reduceAdd, Nat.reduceSub, Nat.reduceMul, Nat.reduceLT, Nat.reduceLeDiff, reduceCtorEq, Int.reduceToNat])) | ((first | ((first | refine qe ?_ ?_ | refine qc ?_ ?_) <;> intro hc <;> (try simp only [hc]) <;> (try simp only [qb, qa, decide_eq_true_eq, decide_eq_false_iff_not, Bool.and_eq_true] at hc)) | refine And.intro (by first | assumption | omega | (have := qf (by assumption); omega) | (unfold qo; omega)) ?_ | simp (disch := omega) only [qd] | simp (disch := omega) only [qn] | refine p1 h0 ?_ | refine qcr g1.ok ?_) <;> (try simp only [go_sem, ↓reduceIte, Nat.reduceEqDiff, Nat.reduceAdd, Nat.reduceSub, Nat.reduceMul, Nat.reduceLT, Nat.reduceLeDiff, reduceCtorEq, Int.reduceToNat])))
        all_goals (try rw [qm3])
        all_goals first | exact ⟨rfl, rfl⟩ | rfl | (exfalso; clear p0 p1; simp_all; done)
set_option maxRecDepth 4000

theorem q79 (c : K) (hg : c.good) : qbz Try.prog 17 (curE c) (curE (qe8 c).1) [.ptr 0 0] (resB (qe8 c).2) := by
  have g1 : (qw c qo0).1.good := (q8 _ _).1 hg
  have g2 : (qw c qi3).1.good := (q8 _ _).1 hg
  have g3 : (qw c qqb).1.good := (q8 _ _).1 hg
  have h1 := qbi0 (qba c).pos _ g1
  have h2 := qvx 35 (qba c).pos _ g2
  have h3 := qvx 36 (qba c).pos _ g3
  have h4 := qoo c hg
  refine qs c0c 1 (by simp) (by simp) ?_
  unfold qe8
  unfold qo0 qi3 qqb posZ q3p at *
  by_cases t1 : (qw c [100, 97, 116, 97]).2 = true
  · rw [if_pos t1]
    repeat' (first | refine qi ?_ | refine qk ?_ | ((first | refine qbk ?_ | refine qj ?_ | refine qh ?_ | refine qg ?_) <;> (try simp (disch := first | omega | (simp only [List.length_set, List.length_append, List.length_cons, List.length_nil]; done) | (simp only [List.length_set, List.length_append, List.length_cons, List.length_nil]; omega)) only [t1, go_sem, ↓reduceIte, Nat.reduceEqDiff, Nat.reduceAdd, Nat.reduceSub, Nat.reduceMul, Nat.reduceLT, Nat.reduceLeDiff, reduceCtorEq, Int.reduceToNat])) | ((first | ((first | refine qe ?_ ?_ | refine qc ?_ ?_) <;> intro hc <;> (try simp only [hc]) <;> (try simp only [qb, qa, decide_eq_true_eq, decide_eq_false_iff_not, Bool.and_eq_true] at hc)) | refine And.intro (by first | assumption | omega | (have := qf (by assumption); omega) | (unfold qo; omega)) ?_ | simp (disch := omega) only [qd] | simp (disch := omega) only [qn] | refine qbu ?_ | refine qdh hg.ok ?_ | refine qhb h1 rfl ?_) <;> (try simp only [go_sem, ↓reduceIte, Nat.reduceEqDiff, Nat.reduceAdd, Nat.reduceSub, Nat.reduceMul, Nat.reduceLT, Nat.reduceLeDiff, reduceCtorEq, Int.reduceToNat])))
  · have t1f : (qw c [100, 97, 116, 97]).2 = false := by simpa using t1
    have e1 := qc1 t1f
    rw [if_neg t1]
    by_cases t2 : (qw c [99, 108, 97, 115, 115]).2 = true
    · rw [if_pos t2]
      repeat' (first | refine qi ?_ | refine qk ?_ | ((first | refine qbk ?_ | refine qj ?_ | refine qh ?_ | refine qg ?_) <;> (try simp (disch := first | omega | (simp only [List.length_set, List.length_append, List.length_cons, List.length_nil]; done) | (simp only [List.length_set, List.length_append, List.length_cons, List.length_nil]; omega)) only [t1f, e1, t2, go_sem, ↓reduceIte, Nat.reduceEqDiff, Nat.reduceAdd, Nat.reduceSub, Nat.reduceMul, Nat.reduceLT, Nat.reduceLeDiff, reduceCtorEq, Int.reduceToNat])) | ((first | ((first | refine qe ?_ ?_ | refine qc ?_ ?_) <;> intro hc <;> (try simp only [hc]) <;> (try simp only [qb, qa, decide_eq_true_eq, decide_eq_false_iff_not, Bool.and_eq_true] at hc)) | refine And.intro (by first | assumption | omega | (have := qf (by assumption); omega) | (unfold qo; omega)) ?_ | simp (disch := omega) only [qd] | simp (disch := omega) only [qn] | refine qbu ?_ | refine qdh hg.ok ?_ | refine qhb h2 rfl ?_) <;> (try simp only [go_sem, ↓reduceIte, Nat.reduceEqDiff, Nat.reduceAdd, Nat.reduceSub, Nat.reduceMul, Nat.reduceLT, Nat.reduceLeDiff, reduceCtorEq, Int.reduceToNat])))
    · have t2f : (qw c [99, 108, 97, 115, 115]).2 = false := by simpa using t2
      have e2 := qc1 t2f
      rw [if_neg t2]
      by_cases t3 : (qw c [105, 110, 115, 116, 97, 110, 99, 101]).2 = true
      · rw [if_pos t3]
        repeat' (first | refine qi ?_ | refine qk ?_ | ((first | refine qbk ?_ | refine qj ?_ | refine qh ?_ | refine qg ?_) <;> (try simp (disch := first | omega | (simp only [List.length_set, List.length_append, List.length_cons, List.length_nil]; done) | (simp only [List.length_set, List.length_append, List.length_cons, List.length_nil]; omega)) only [t1f, e1, t2f, e2, t3, go_sem, ↓reduceIte, Nat.reduceEqDiff, Nat.reduceAdd, Nat.reduceSub, Nat.reduceMul, Nat.reduceLT, Nat.reduceLeDiff, reduceCtorEq, Int.reduceToNat])) | ((first | ((first | refine qe ?_ ?_ | refine qc ?_ ?_) <;> intro hc <;> (try simp only [hc]) <;> (try simp only [qb, qa, decide_eq_true_eq, decide_eq_false_iff_not, Bool.and_eq_true] at hc)) | refine And.intro (by first | assumption | omega | (have := qf (by assumption); omega) | (unfold qo; omega)) ?_ | simp (disch := omega) only [qd] | simp (disch := omega) only [qn] | refine qbu ?_ | refine qdh hg.ok ?_ | refine qhb h3 rfl ?_) <;> (try simp only [go_sem, ↓reduceIte, Nat.reduceEqDiff, Nat.reduceAdd, Nat.reduceSub, Nat.reduceMul, Nat.reduceLT, Nat.reduceLeDiff, reduceCtorEq, Int.reduceToNat])))
      · have t3f : (qw c [105, 110, 115, 116, 97, 110, 99, 101]).2 = false := by simpa using t3
        have e3 := qc1 t3f
        rw [if_neg t3]
        unfold ofO
        repeat' (first | refine qi ?_ | refine qk ?_ | ((first | refine qbk ?_ | refine qj ?_ | refine qh ?_ | refine qg ?_) <;> (try simp (disch := first | omega | (simp only [List.length_set, List.length_append, List.length_cons, List.length_nil]; done) | (simp only [List.length_set, List.length_append, List.length_cons, List.length_nil]; omega)) only [t1f, e1, t2f, e2, t3f, e3, go_sem, ↓reduceIte, Nat.reduceEqDiff, Nat.reduceAdd, Nat.reduceSub, Nat.reduceMul, Nat.reduceLT, Nat.reduceLeDiff, reduceCtorEq, Int.reduceToNat])) | ((first | ((first | refine qe ?_ ?_ | refine qc ?_ ?_) <;> intro hc <;> (try simp only [hc]) <;> (try simp only [qb, qa, decide_eq_true_eq, decide_eq_false_iff_not, Bool.and_eq_true] at hc)) | refine And.intro (by first | assumption | omega | (have := qf (by assumption); omega) | (unfold qo; omega)) ?_ | simp (disch := omega) only [qd] | simp (disch := omega) only [qn] | refine qbu ?_ | refine qdh hg.ok ?_ | refine qb7 h4 rfl ?_) <;> (try simp only [go_sem, ↓reduceIte, Nat.reduceEqDiff, Nat.reduceAdd, Nat.reduceSub, Nat.reduceMul, Nat.reduceLT, Nat.reduceLeDiff, reduceCtorEq, Int.reduceToNat])))
theorem q5t {c : K} {L : List Ent} {Q : List Ent → VO → Prop} (hg : c.good) (hq : Q (curE (qe8 c).1 :: L) (.val (resB (qe8 c).2))) : VApp Try.prog (curE c :: L) (.fn 17 [] []) [.ptr 0 0] Q := qhb (q79 c hg) rfl hq
theorem q3z (x : List UInt8) (b : Bool) (c : K) (hg : c.good) : VCalls Try.prog 16 [curE c, .blk [.ptr 0 0], .blk [.ptr 0 0], .blk [.str x], .blk [.bool b], .blk [.fn 25 [] [.ptr 4 0, .ptr 2 0, .ptr 3 0]]] [.ptr 1 0] fun H' o => H' = frP x b (qe8 c).1 ∧ o = .val (resB (qe8 c).2) := by
  refine qs c0d 6 (by simp) (by simp) ?_
  unfold frP
  repeat' (first | refine qi ?_ | ((first | refine qm ?_ | refine qj ?_ | refine q5t hg ?_ | ((first | refine qe ?_ ?_ | refine qc ?_ ?_) <;> intro hc <;> (try simp only [hc]) <;> (try simp only [qb, qa, decide_eq_true_eq, decide_eq_false_iff_not, Bool.and_eq_true] at hc)) | refine And.intro (by first | assumption | omega | (have := qf (by assumption); omega) | (unfold qo; omega)) ?_ | simp (disch := omega) only [qd] | simp (disch := omega) only [qn]) <;> (try simp only [go_sem, ↓reduceIte, Nat.reduceEqDiff, Nat.reduceAdd, Nat.reduceSub, Nat.reduceMul, Nat.reduceLT, Nat.reduceLeDiff, reduceCtorEq, Int.reduceToNat])))
  all_goals exact ⟨rfl, rfl⟩
theorem q4d (b : Bool) (c : K) (hg : c.good) : VCalls Try.prog 18 [curE c, .blk [.ptr 0 0], .blk [.ptr 0 0], .blk [.str [59]], .blk [.bool b], .blk [.fn 25 [] [.ptr 4 0, .ptr 2 0, .ptr 3 0]]] [.ptr 1 0, .ptr 5 0] fun H' o => H' = frP [59] (qjh b c).1 (qjh b c).2.1 ∧ o = .val (.bool (qjh b c).2.2) := by
  refine qs c0e 6 (by simp) (by simp) ?_
  unfold frP qjh
  by_cases hi : (qba c).kind = 0
  · rw [if_pos hi]
    repeat' (first | refine qi ?_ | ((first | refine qm ?_ | refine qj ?_) <;> (try simp (disch := first | omega | (simp only [List.length_set, List.length_append, List.length_cons, List.length_nil]; done) | (simp only [List.length_set, List.length_append, List.length_cons, List.length_nil]; omega)) only [hi, ne_eq, not_true_eq_false, decide_false, go_sem, ↓reduceIte, Nat.reduceEqDiff, Nat.reduceAdd, Nat.reduceSub, Nat.reduceMul, Nat.reduceLT, Nat.reduceLeDiff, reduceCtorEq, Int.reduceToNat])) | ((first | ((first | refine qe ?_ ?_ | refine qc ?_ ?_) <;> intro hc <;> (try simp only [hc]) <;> (try simp only [qb, qa, decide_eq_true_eq, decide_eq_false_iff_not, Bool.and_eq_true] at hc)) | refine And.intro (by first | assumption | omega | (have := qf (by assumption); omega) | (unfold qo; omega)) ?_ | simp (disch := omega) only [qd] | simp (disch := omega) only [qn] | refine qbu ?_ | refine qfy hg ?_) <;> (try simp only [go_sem, ↓reduceIte, Nat.reduceEqDiff, Nat.reduceAdd, Nat.reduceSub, Nat.reduceMul, Nat.reduceLT, Nat.reduceLeDiff, reduceCtorEq, Int.reduceToNat])))
    all_goals first | exact ⟨rfl, rfl⟩ | (exfalso; simp_all; done) | (simp_all; done)
  · rw [if_neg hi]
    by_cases ha : (qch [59] b c).2.2 = true
    · repeat' (first | refine qi ?_ | ((first | refine qm ?_ | refine qj ?_) <;> (try simp (disch := first | omega | (simp only [List.length_set, List.length_append, List.length_cons, List.length_nil]; done) | (simp only [List.length_set, List.length_append, List.length_cons, List.length_nil]; omega)) only [hi, ha, ne_eq, not_false_eq_true, decide_true, go_sem, ↓reduceIte, Nat.reduceEqDiff, Nat.reduceAdd, Nat.reduceSub, Nat.reduceMul, Nat.reduceLT, Nat.reduceLeDiff, reduceCtorEq, Int.reduceToNat])) | ((first | ((first | refine qe ?_ ?_ | refine qc ?_ ?_) <;> intro hc <;> (try simp only [hc]) <;> (try simp only [qb, qa, decide_eq_true_eq, decide_eq_false_iff_not, Bool.and_eq_true] at hc)) | refine And.intro (by first | assumption | omega | (have := qf (by assumption); omega) | (unfold qo; omega)) ?_ | simp (disch := omega) only [qd] | simp (disch := omega) only [qn] | refine qbu ?_ | refine qfy hg ?_) <;> (try simp only [go_sem, ↓reduceIte, Nat.reduceEqDiff, Nat.reduceAdd, Nat.reduceSub, Nat.reduceMul, Nat.reduceLT, Nat.reduceLeDiff, reduceCtorEq, Int.reduceToNat])))
      all_goals first | exact ⟨rfl, rfl⟩ | (exfalso; simp_all; done) | (simp_all; done)
    · have ha2 : (qch [59] b c).2.2 = false := by simpa using ha
      repeat' (first | refine qi ?_ | ((first | refine qm ?_ | refine qj ?_) <;> (try simp (disch := first | omega | (simp only [List.length_set, List.length_append, List.length_cons, List.length_nil]; done) | (simp only [List.length_set, List.length_append, List.length_cons, List.length_nil]; omega)) only [hi, ha2, ne_eq, not_false_eq_true, decide_true, go_sem, ↓reduceIte, Nat.reduceEqDiff, Nat.reduceAdd, Nat.reduceSub, Nat.reduceMul, Nat.reduceLT, Nat.reduceLeDiff, reduceCtorEq, Int.reduceToNat])) | ((first | ((first | refine qe ?_ ?_ | refine qc ?_ ?_) <;> intro hc <;> (try simp only [hc]) <;> (try simp only [qb, qa, decide_eq_true_eq, decide_eq_false_iff_not, Bool.and_eq_true] at hc)) | refine And.intro (by first | assumption | omega | (have := qf (by assumption); omega) | (unfold qo; omega)) ?_ | simp (disch := omega) only [qd] | simp (disch := omega) only [qn] | refine qbu ?_ | refine qfy hg ?_) <;> (try simp only [go_sem, ↓reduceIte, Nat.reduceEqDiff, Nat.reduceAdd, Nat.reduceSub, Nat.reduceMul, Nat.reduceLT, Nat.reduceLeDiff, reduceCtorEq, Int.reduceToNat])))
      all_goals first | exact ⟨rfl, rfl⟩ | (exfalso; simp_all; done) | (simp_all; done)
theorem qwu (c : K) (hg : c.good) : RowP qe8 qjh 16 18 [59] false c :=
  qv7 goes_decl monP (fun b c g _ => q3z _ b c g) (fun b c g _ => q4d b c g) false c hg (Nat.le_refl _)
section
variable {one : K → R3} {more : MF} {g1 g2 : FuncId} {x : List UInt8} {b : Bool} {c : K} {e2 : Ent} {Q : List Ent → VO → Prop}
theorem qw1 (h : RowP one more g1 g2 x b c) (h0 : (rowS one more b c []).2.2.1 = []) (hq : Q [curE (rowS one more b c []).2.1, .blk [.ptr 0 0], e2, .blk [.ptr 0 0], .blk [.str x], .blk [.bool (rowS one more b c []).1], .blk [.fn 25 [] [.ptr 5 0, .ptr 3 0, .ptr 4 0]]] (.val (.tup [.nils, .bool (rowS one more b c []).2.2.2]))) :
    VApp Try.prog [curE c, .blk [.ptr 0 0], e2, .blk [.ptr 0 0], .blk [.str x], .blk [.bool b], .blk [.fn 25 [] [.ptr 5 0, .ptr 3 0, .ptr 4 0]]] (.fn 15 [] []) [.nils, .fn g1 [] [.ptr 1 0], .fn g2 [] [.ptr 1 0, .ptr 6 0]] Q :=
  qby (first := []) (caps := []) (by
    simp only [List.nil_append, List.append_nil]
    refine qcb (H0 := [curE c, .blk [.ptr 0 0], .blk [.ptr 0 0], .blk [.str x], .blk [.bool b], .blk [.fn 25 [] [.ptr 4 0, .ptr 2 0, .ptr 3 0]]]) (args0 := [.nils, .fn g1 [] [.ptr 1 0], .fn g2 [] [.ptr 1 0, .ptr 5 0]]) [0, 1, 3, 4, 5, 6] h (by simp) ?_ rfl rfl ?_
    · simp only [go_sem, ↓reduceIte, Nat.reduceEqDiff, Nat.reduceAdd, Nat.reduceSub, Nat.reduceMul, Nat.reduceLT, Nat.reduceLeDiff, reduceCtorEq, Int.reduceToNat]
    rintro H1 o ⟨rfl, rfl⟩
    rw [h0]
    simpa [encs, qbj, qbh, qel, qbq, sg', qji, qkg, qgg, e_fn, AV.ren, AV.rens, VO.ren, qci] using hq)
theorem qy2 (h : RowP one more g1 g2 x b c) (h0 : (rowS one more b c []).2.2.1 ≠ []) (hq : Q [curE (rowS one more b c []).2.1, .blk [.ptr 0 0], e2, .blk [.ptr 0 0], .blk [.str x], .blk [.bool (rowS one more b c []).1], .blk [.fn 25 [] [.ptr 5 0, .ptr 3 0, .ptr 4 0]], .app 5 (encs (rowS one more b c []).2.2.1)] (.val (.tup [.row 7 (rowS one more b c []).2.2.1.length, .bool (rowS one more b c []).2.2.2]))) :
    VApp Try.prog [curE c, .blk [.ptr 0 0], e2, .blk [.ptr 0 0], .blk [.str x], .blk [.bool b], .blk [.fn 25 [] [.ptr 5 0, .ptr 3 0, .ptr 4 0]]] (.fn 15 [] []) [.nils, .fn g1 [] [.ptr 1 0], .fn g2 [] [.ptr 1 0, .ptr 6 0]] Q :=
  qby (first := []) (caps := []) (by
    simp only [List.nil_append, List.append_nil]
    refine qcb (H0 := [curE c, .blk [.ptr 0 0], .blk [.ptr 0 0], .blk [.str x], .blk [.bool b], .blk [.fn 25 [] [.ptr 4 0, .ptr 2 0, .ptr 3 0]]]) (args0 := [.nils, .fn g1 [] [.ptr 1 0], .fn g2 [] [.ptr 1 0, .ptr 5 0]]) [0, 1, 3, 4, 5, 6] h (by simp) ?_ rfl rfl ?_
    · simp only [go_sem, ↓reduceIte, Nat.reduceEqDiff, Nat.reduceAdd, Nat.reduceSub, Nat.reduceMul, Nat.reduceLT, Nat.reduceLeDiff, reduceCtorEq, Int.reduceToNat]
    rintro H1 o ⟨rfl, rfl⟩
    rw [qbp (qbc h0), qbo (qbc h0), qbd]
    simpa [qel, qbq, sg', qji, qkg, qgg, e_fn, qlg, AV.ren, AV.rens, VO.ren, qci] using hq)
end
theorem qrx (l : List N) : AV.agg [.int .i64 37, .int .i64 0, .int .i64 0, .str [], .sl 5 (encs l)] = enc (quj l) := by simp only [quj, enc]
theorem qyh : AV.agg [.int .i64 37, .int .i64 0, .int .i64 0, .str [], .sl 5 []] = enc (quj []) := qrx []
theorem qvw (c : K) (hg : c.good) : qbz Try.prog 13 (curE c) (curE (qm5 c).1) [.ptr 0 0] (enc ((qm5 c).2.getD N0)) := by
  have hR := qwu c hg
  have i0 := fun e2 Q => @qw1 _ _ _ _ _ _ _ e2 Q hR
  have i1 := fun e2 Q => @qy2 _ _ _ _ _ _ _ e2 Q hR
  clear hR
  refine qs c0f 1 (by simp) (by simp) ?_
  unfold qm5
  generalize rowS qe8 qjh false c [] = r at *
  by_cases hq : r.2.2.1 = []
  · repeat' (first | refine qi ?_ | ((first | refine qbk ?_ | refine qj ?_ | refine qdq ?_ | refine i0 _ _ hq ?_ | ((first | refine qe ?_ ?_ | refine qc ?_ ?_) <;> intro hc <;> (try simp only [hc]) <;> (try simp only [qb, qa, decide_eq_true_eq, decide_eq_false_iff_not, Bool.and_eq_true] at hc)) | refine And.intro (by first | assumption | omega | (have := qf (by assumption); omega) | (unfold qo; omega)) ?_ | simp (disch := omega) only [qd] | simp (disch := omega) only [qn]) <;> (try simp only [go_sem, ↓reduceIte, Nat.reduceEqDiff, Nat.reduceAdd, Nat.reduceSub, Nat.reduceMul, Nat.reduceLT, Nat.reduceLeDiff, reduceCtorEq, Int.reduceToNat])))
    all_goals (rw [Option.getD_some, hq, ← qyh]; first | done | rfl | exact ⟨rfl, rfl⟩)
  · repeat' (first | refine qi ?_ | ((first | refine qbk ?_ | refine qj ?_ | refine qdq ?_ | refine i1 _ _ hq ?_ | ((first | refine qe ?_ ?_ | refine qc ?_ ?_) <;> intro hc <;> (try simp only [hc]) <;> (try simp only [qb, qa, decide_eq_true_eq, decide_eq_false_iff_not, Bool.and_eq_true] at hc)) | refine And.intro (by first | assumption | omega | (have := qf (by assumption); omega) | (unfold qo; omega)) ?_ | simp (disch := omega) only [qd] | simp (disch := omega) only [qn]) <;> (try simp only [go_sem, ↓reduceIte, Nat.reduceEqDiff, Nat.reduceAdd, Nat.reduceSub, Nat.reduceMul, Nat.reduceLT, Nat.reduceLeDiff, reduceCtorEq, Int.reduceToNat])))
    all_goals (rw [Option.getD_some, ← qrx]; first | done | rfl | exact ⟨rfl, rfl⟩)
theorem qs0 (c : K) (hg : c.good) : qbz Try.prog 20 (curE c) (curE (decK c).1) [.ptr 0 0] (enc ((decK c).2.getD N0)) := by
  refine qs c0g 1 (by simp) (by simp) ?_
  unfold decK
  repeat' (first | refine qi ?_ | ((first | refine qm ?_ | refine qj ?_ | refine q5t hg ?_ | ((first | refine qe ?_ ?_ | refine qc ?_ ?_) <;> intro hc <;> (try simp only [hc]) <;> (try simp only [qb, qa, decide_eq_true_eq, decide_eq_false_iff_not, Bool.and_eq_true] at hc)) | refine And.intro (by first | assumption | omega | (have := qf (by assumption); omega) | (unfold qo; omega)) ?_ | simp (disch := omega) only [qd] | simp (disch := omega) only [qn]) <;> (try simp only [go_sem, ↓reduceIte, Nat.reduceEqDiff, Nat.reduceAdd, Nat.reduceSub, Nat.reduceMul, Nat.reduceLT, Nat.reduceLeDiff, reduceCtorEq, Int.reduceToNat])))
  all_goals first | rfl | exact ⟨rfl, rfl⟩
theorem qj6 {so : FuncId} {rd : K → K × Option N} {s : List UInt8} (hs : s.length ≤ 400000) (hrd : ∀ c : K, c.good → qbz Try.prog so (curE c) (curE (rd c).1) [.ptr 0 0] (enc ((rd c).2.getD N0)))
    (hm : ∀ c, Mon c (rd c).1) (hsz : ∀ c, sz ((rd c).2.getD N0) ≤ 2 * rest c + 1) : qc4 Try.prog 12 [.str s, .fn so [] []] (resV (qvz rd s)) := by
  have g := qy6 (qnz s).1
  have g2 : (rd (newK (lexV s).1)).1.good := (hm _).1 g
  have hsz' : sz ((rd (newK (lexV s).1)).2.getD N0) ≤ 1000000 := by
    have h1 := hsz (newK (lexV s).1)
    have h2 := qix (lexV s).1
    have h3 := (qnz s).2
    have h4 : rest (newK (lexV s).1) = (qfs (lexV s).1).length := rfl
    omega
  have hdp := qtv hsz'
  refine qb3 c0h (by simp) (by simp only [go_sem]) (by simp only [go_sem]) fun hw => ?_
  repeat' (first | refine qi ?_ | ((first | refine qm ?_ | refine qcm (by rfl) ?_ | refine q9 ?_ | refine qj ?_ | refine qh ?_ | refine qg ?_ | refine qv (qoy s) fun _ => ?_ | refine q5e (q4m _ (qnz s).1) (q7 _ _) (by simp only [go_sem]) ?_ | refine qsi 1 (hrd _ g) (by rfl) (q7 _ _) (q7 _ _) (by rfl) (qja _ _) (by rfl) fun _ => ?_ | refine qsi 1 (qry _ g2.ok) (by rfl) (q7 _ _) (q7 _ _) (by rfl) (by rfl) (by rfl) fun _ => ?_ | refine qv (qqn (qws _) (by rw [hdp])) fun _ => ?_ | refine qy  (qoy s) ?_ | refine qy  (qqn (qws _) (by rw [hdp])) ?_ | ((first | refine qe ?_ ?_ | refine qc ?_ ?_) <;> intro hc <;> (try simp only [hc]) <;> (try simp only [qb, qa, decide_eq_true_eq, decide_eq_false_iff_not, Bool.and_eq_true] at hc)) | refine And.intro (by first | assumption | omega | (have := qf (by assumption); omega) | (unfold qo; omega)) ?_ | simp (disch := omega) only [qd] | simp (disch := omega) only [qn]) <;> (try simp only [go_sem, ↓reduceIte, Nat.reduceEqDiff, Nat.reduceAdd, Nat.reduceSub, Nat.reduceMul, Nat.reduceLT, Nat.reduceLeDiff, reduceCtorEq, Int.reduceToNat])))
  all_goals (try rw [qdf])
  all_goals unfold qvz qzl
  all_goals (repeat' split)
  all_goals first | omega | rfl | (exfalso; omega) | simp_all [go_sem]
def qha (s : List UInt8) : N × Int × Int := qvz qm5 s
def qbpm (s : List UInt8) : N × Int × Int := qvz decK s
theorem qds (s : List UInt8) (hs : s.length ≤ 400000) : qc4 Try.prog 7 [.str s] (resV (qha s)) := by
  refine qb3 c0i (by simp) (by simp only [go_sem]) (by simp only [go_sem]) fun hw => ?_
  repeat' (first | refine qi ?_ | ((first | refine qm ?_ | refine qj ?_ | refine qv (qj6 hs qvw qlo qr8) fun _ => ?_ | refine qy  (qj6 hs qvw qlo qr8) ?_ | ((first | refine qe ?_ ?_ | refine qc ?_ ?_) <;> intro hc <;> (try simp only [hc]) <;> (try simp only [qb, qa, decide_eq_true_eq, decide_eq_false_iff_not, Bool.and_eq_true] at hc)) | refine And.intro (by first | assumption | omega | (have := qf (by assumption); omega) | (unfold qo; omega)) ?_ | simp (disch := omega) only [qd] | simp (disch := omega) only [qn]) <;> (try simp only [go_sem, ↓reduceIte, Nat.reduceEqDiff, Nat.reduceAdd, Nat.reduceSub, Nat.reduceMul, Nat.reduceLT, Nat.reduceLeDiff, reduceCtorEq, Int.reduceToNat])))
  all_goals rfl
theorem qqz (s : List UInt8) (hs : s.length ≤ 400000) : qc4 Try.prog 8 [.str s] (resV (qbpm s)) := by
  refine qb3 c0j (by simp) (by simp only [go_sem]) (by simp only [go_sem]) fun hw => ?_
  repeat' (first | refine qi ?_ | ((first | refine qm ?_ | refine qj ?_ | refine qv (qj6 hs qs0 qrp qze) fun _ => ?_ | refine qy  (qj6 hs qs0 qrp qze) ?_ | ((first | refine qe ?_ ?_ | refine qc ?_ ?_) <;> intro hc <;> (try simp only [hc]) <;> (try simp only [qb, qa, decide_eq_true_eq, decide_eq_false_iff_not, Bool.and_eq_true] at hc)) | refine And.intro (by first | assumption | omega | (have := qf (by assumption); omega) | (unfold qo; omega)) ?_ | simp (disch := omega) only [qd] | simp (disch := omega) only [qn]) <;> (try simp only [go_sem, ↓reduceIte, Nat.reduceEqDiff, Nat.reduceAdd, Nat.reduceSub, Nat.reduceMul, Nat.reduceLT, Nat.reduceLeDiff, reduceCtorEq, Int.reduceToNat])))
  all_goals rfl
set_option maxRecDepth 4000

def dcS : List UInt8 := [99, 108, 97, 115, 115, 32, 69, 113, 32, 97, 32, 61, 62, 32, 79, 114, 100, 32, 97, 32, 119, 104, 101, 114, 101, 32, 123, 32, 108, 116, 32, 58, 58, 32, 97, 32, 45, 62, 32, 97, 32, 45, 62, 32, 66, 32, 125, 59, 32, 105, 110, 115, 116, 97, 110, 99, 101, 32, 69, 113, 32, 66, 32, 119, 104, 101, 114, 101, 32, 123, 32, 101, 113, 32, 120, 32, 121, 32, 61, 32, 84, 59, 32, 125, 59, 32, 102, 32, 58, 58, 32, 66, 59, 32, 102, 32, 61, 32, 84]
def dn1k : N := .mk 33 0 0 [66] [.mk 34 9 0 [84] [], .mk 34 13 0 [70] []]
def dn1 : N := .mk 37 0 0 [] [dn1k]
def dn2a : List N := [.mk 3 6 0 [69, 113] [.mk 1 9 0 [97] []], .mk 1 18 0 [97] [], .mk 32 28 0 [108, 116] [.mk 4 34 0 [] [.mk 2 34 0 [45, 62] [.mk 1 34 0 [97] [], .mk 2 39 0 [45, 62] [.mk 1 39 0 [97] [], .mk 2 44 0 [66] []]]]]]
def dn2b : List N := [.mk 2 61 0 [66] [], .mk 31 71 0 [101, 113] [.mk 25 74 0 [120] [.mk 25 76 0 [121] [.mk 22 80 0 [84] []]]]]
def dn2c : List N := [.mk 32 86 0 [102] [.mk 4 91 0 [] [.mk 2 91 0 [66] []]], .mk 31 94 0 [102] [.mk 22 98 0 [84] []]]
def dn2 : N := .mk 37 0 0 [] (.mk 35 0 1 [79, 114, 100] dn2a :: .mk 36 49 0 [69, 113] dn2b :: dn2c)
def dn3 : N := .mk 33 0 1 [77] [.mk 1 7 0 [97] [], .mk 34 11 0 [78] [], .mk 34 15 0 [74] [.mk 1 17 0 [97] []]]
def dn5 : N := .mk 37 0 0 [] []
theorem awD1 : qc4 Try.prog 7 [.str [100, 97, 116, 97, 32, 66, 32, 61, 32, 84, 32, 124, 32, 70, 59]] (.tup [enc dn1, .int .i64 0, .int .i64 0]) := qqn (qds _ (by decide)) (by rw [show qha [100, 97, 116, 97, 32, 66, 32, 61, 32, 84, 32, 124, 32, 70, 59] = (dn1, 0, 0) by kernel_rfl]; rfl)
theorem awD2 : qc4 Try.prog 7 [.str dcS] (.tup [enc dn2, .int .i64 0, .int .i64 0]) := qqn (qds _ (by decide)) (by rw [show qha dcS = (dn2, 0, 0) by kernel_rfl]; rfl)
theorem awD3 : qc4 Try.prog 8 [.str [100, 97, 116, 97, 32, 77, 32, 97, 32, 61, 32, 78, 32, 124, 32, 74, 32, 97]] (.tup [enc dn3, .int .i64 0, .int .i64 0]) := qqn (qqz _ (by decide)) (by rw [show qbpm [100, 97, 116, 97, 32, 77, 32, 97, 32, 61, 32, 78, 32, 124, 32, 74, 32, 97] = (dn3, 0, 0) by kernel_rfl]; rfl)
theorem awD4 : qc4 Try.prog 7 [.str [120, 32, 61, 32, 49, 59, 32, 59]] (.tup [enc N0, .int .i64 7, .int .i64 5]) := qqn (qds _ (by decide)) (by rw [show qha [120, 32, 61, 32, 49, 59, 32, 59] = (N0, 7, 5) by kernel_rfl]; rfl)
theorem awD5 : qc4 Try.prog 7 [.str []] (.tup [enc dn5, .int .i64 0, .int .i64 0]) := qqn (qds _ (by decide)) (by rw [show qha [] = (dn5, 0, 0) by kernel_rfl]; rfl)
theorem qbea : dn1.kids.length = 1 := rfl
theorem q0f : (encs dn1.kids).getD 0 .junk = .agg [.int .i64 33, .int .i64 0, .int .i64 0, .str [66], .sl 5 [enc (.mk 34 9 0 [84] []), enc (.mk 34 13 0 [70] [])]] := rfl
theorem qbjv : dn2.kids.length = 4 := rfl
theorem q3e : (encs dn2.kids).getD 0 .junk = .agg [.int .i64 35, .int .i64 0, .int .i64 1, .str [79, 114, 100], .sl 5 (encs dn2a)] := rfl
theorem q16 : (encs dn2.kids).getD 1 .junk = .agg [.int .i64 36, .int .i64 49, .int .i64 0, .str [69, 113], .sl 5 (encs dn2b)] := rfl
theorem q7h : dn3.num = 1 := rfl
theorem qbc4 : dn3.kids.length = 3 := rfl
theorem q3d : dn5.kind = 37 := rfl
attribute [go_sem] qbea q0f qbjv q3e q16 q7h qbc4 q3d
theorem qd2 : qc4 Try.prog 6 [] (.bool true) := by
  refine qb3 c0b (by simp) (by simp only [go_sem]) rfl fun hw => ?_
  have h2 := awD2
  unfold dcS at h2
  repeat' (first | refine qi ?_ | ((first | refine qm ?_ | refine qj ?_ | refine qh ?_ | refine qg ?_) <;> (try simp (disch := first | omega | (simp only [List.length_set, List.length_append, List.length_cons, List.length_nil]; done) | (simp only [List.length_set, List.length_append, List.length_cons, List.length_nil]; omega)) only [Int.reduceLT, Int.reduceLE, Int.reduceEq, decide_true, ne_eq, not_true_eq_false, go_sem, ↓reduceIte, Nat.reduceEqDiff, Nat.reduceAdd, Nat.reduceSub, Nat.reduceMul, Nat.reduceLT, Nat.reduceLeDiff, reduceCtorEq, Int.reduceToNat])) | ((first | ((first | refine qe ?_ ?_ | refine qc ?_ ?_) <;> intro hc <;> (try simp only [hc]) <;> (try simp only [qb, qa, decide_eq_true_eq, decide_eq_false_iff_not, Bool.and_eq_true] at hc)) | refine And.intro (by first | assumption | omega | (have := qf (by assumption); omega) | (unfold qo; omega)) ?_ | simp (disch := omega) only [qd] | simp (disch := omega) only [qn] | refine qv awD1 fun _ => ?_ | refine qv h2 fun _ => ?_ | refine qv awD3 fun _ => ?_ | refine qv awD4 fun _ => ?_ | refine qv awD5 fun _ => ?_ | refine qy  awD1 ?_ | refine qy  h2 ?_ | refine qy  awD3 ?_ | refine qy  awD4 ?_ | refine qy  awD5 ?_) <;> (try simp only [go_sem, ↓reduceIte, Nat.reduceEqDiff, Nat.reduceAdd, Nat.reduceSub, Nat.reduceMul, Nat.reduceLT, Nat.reduceLeDiff, reduceCtorEq, Int.reduceToNat])))
  all_goals first | exact absurd rfl (by assumption) | trace_state
end Go.Proofs.Ytfjbmjplnmaclaa
