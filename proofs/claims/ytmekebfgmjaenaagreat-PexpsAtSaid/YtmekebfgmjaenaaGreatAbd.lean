/- Texts of this proof, joined. -/
import Derived.Test.YtmekebfgmjaenaaGreatAbc

/- patterns: what is read (plain); the program -/
set_option maxRecDepth 4000
namespace Go.Proofs.YtmekebfgmjaenaaGreat
open Go Go.RowKit Go.V
set_option linter.unusedVariables false
set_option linter.unusedSimpArgs false

/-! Patterns. -/
def qjb (c : K) : Option N :=
  if (qbg c).kind = 1 then some (.mk 11 (qbg c).pos 0 (qbg c).text [])
  else if (qbg c).kind = 2 then some (.mk 14 (qbg c).pos 0 (qbg c).text [])
  else if (qbg c).kind = 3 then some (.mk 13 (qbg c).pos (qbg c).num [] [])
  else if isK c [95] = true then some (.mk 12 (qbg c).pos 0 [] [])
  else none
def begP (c : K) : Bool := (qjb c).isSome || isK c [40]
def qb1 (rec : K → K × Option N) (c : K) : K × Option N :=
  if (qjb c).isSome = true then (qbc c, qjb c)
  else if isK c [40] = true then
    if (qr c).2 = true then
      if (rec (qbc (qr c).1)).2.isSome = true then
        if (q9 (rec (qbc (qr c).1)).1 [41]).2 = true then (qci (q9 (rec (qbc (qr c).1)).1 [41]).1, (rec (qbc (qr c).1)).2)
        else ((q9 (rec (qbc (qr c).1)).1 [41]).1, none)
      else ((rec (qbc (qr c).1)).1, none)
    else ((qr c).1, none)
  else (qe9 c 5, none)
def qhe (rec : K → K × Option N) : Nat → K → List N → K × Option (List N)
  | 0, c, acc => (c, none)
  | f + 1, c, acc =>
    if begP c = true then
      if (qb1 rec c).2.isSome = true then qhe rec f (qb1 rec c).1 (acc ++ [(qb1 rec c).2.getD N0])
      else ((qb1 rec c).1, none)
    else (c, some acc)
def qcy : Nat → K → K × Option N
  | 0, c => (c, none)
  | f + 1, c =>
    if (qr c).2 = true then
      if (qbg (qr c).1).kind = 2 then
        (qci (qhe (qcy f) (rest (qr c).1 + 1) (qbc (qr c).1) []).1, (qhe (qcy f) (rest (qr c).1 + 1) (qbc (qr c).1) []).2.map fun ks => .mk 14 (qbg (qr c).1).pos 0 (qbg (qr c).1).text ks)
      else (qci (qb1 (qcy f) (qr c).1).1, (qb1 (qcy f) (qr c).1).2)
    else ((qr c).1, none)

theorem qj7 {c : K} {n : N} (h : qjb c = some n) : (qbg c).kind ≠ 0 := by
  unfold qjb at h
  split at h
  · omega
  · split at h
    · omega
    · split at h
      · omega
      · split at h
        · exact qdp (by assumption)
        · cases h
section
variable {rec : K → K × Option N} (hm : ∀ c, Mon c (rec c).1)
include hm
theorem qi0 (c : K) : Mon c (qb1 rec c).1 := by
  unfold qb1
  split
  · exact qbw c
  · split
    · split
      · have h1 := ((qbb c).trans (qbw _)).trans (hm _)
        split
        · split
          · exact (h1.trans (qx _ _)).trans (qby _)
          · exact h1.trans (qx _ _)
        · exact h1
      · exact qbb c
    · exact qfh c 5
theorem qns {c : K} (h : (qb1 rec c).2.isSome = true) : rest (qb1 rec c).1 < rest c := by
  unfold qb1 at h ⊢
  split at h
  · rename_i hl
    rw [if_pos hl]
    obtain ⟨n, hn⟩ := Option.isSome_iff_exists.1 hl
    have := qbm (qj7 hn)
    simp only; omega
  · rename_i hl
    rw [if_neg hl]
    split at h
    · rename_i hk
      rw [if_pos hk]
      split at h
      · rename_i he
        rw [if_pos he]
        have hp := qbm (c := (qr c).1) (by rw [qei he]; exact qdp hk)
        have h0 := (qbb c).2.1
        have h1 := (hm (qbc (qr c).1)).2.1
        split at h
        · rename_i hr
          rw [if_pos hr]
          have h2 := (qx (rec (qbc (qr c).1)).1 [41]).2.1
          split at h
          · rename_i hw
            rw [if_pos hw]
            have h3 := (qby (q9 (rec (qbc (qr c).1)).1 [41]).1).2.1
            simp only; omega
          · cases h
        · cases h
      · cases h
    · cases h
theorem qpz : ∀ (f : Nat) (c : K) (acc : List N), Mon c (qhe rec f c acc).1
  | 0, c, acc => Mon.refl c
  | f + 1, c, acc => by
    rw [qhe]
    split
    · split
      · exact (qi0 hm c).trans (qpz f _ _)
      · exact qi0 hm c
    · exact Mon.refl c
end
theorem qfg : ∀ (f : Nat) (c : K), Mon c (qcy f c).1
  | 0, c => Mon.refl c
  | f + 1, c => by
    rw [qcy]
    split
    · split
      · exact (((qbb c).trans (qbw _)).trans (qpz (qfg f) _ _ _)).trans (qby _)
      · exact ((qbb c).trans (qi0 (qfg f) _)).trans (qby _)
    · exact qbb c
theorem q2t (c : K) : qcs Tryz.prog 133 (curE c) (curE c) [.ptr 0 0] (resP (qjb c)) := by
  refine qbh c0bf 1 (by simp) (by simp) ?_
  repeat' (first | refine qs ?_ | refine qg ?_ | refine qi ?_ | ((first | refine qu ?_ | refine qq (by rfl) ?_ | refine ql ?_ | refine qj ?_ | refine qo ?_ | refine qt ?_ | refine qn ?_ | refine qm ?_ | refine qp ?_ | refine qdw ?_ | refine a_Is ?_); simp only [go_sem, ↓reduceIte, Nat.reduceEqDiff, Nat.reduceAdd, Nat.reduceSub, Nat.reduceMul, Nat.reduceLT, Nat.reduceLeDiff, reduceCtorEq, Int.reduceToNat]) | ((first | refine qh ?_ ?_ | refine qe ?_ ?_) <;> intro hc <;> simp only [hc, go_sem, ↓reduceIte, Nat.reduceEqDiff, Nat.reduceAdd, Nat.reduceSub, Nat.reduceMul, Nat.reduceLT, Nat.reduceLeDiff, reduceCtorEq, Int.reduceToNat] <;> (try simp only [qb, qa, decide_eq_true_eq, decide_eq_false_iff_not, Bool.and_eq_true] at hc)) | refine And.intro (by first | assumption | omega | (have := qk (by assumption); omega) | (unfold qy; omega)) ?_ | ((first | simp (disch := omega) only [qd] | simp (disch := omega) only [qw]); (try simp only [go_sem, ↓reduceIte, Nat.reduceEqDiff, Nat.reduceAdd, Nat.reduceSub, Nat.reduceMul, Nat.reduceLT, Nat.reduceLeDiff, reduceCtorEq, Int.reduceToNat])))
  all_goals (unfold qjb; simp_all [enc, encs, N0])
theorem q2b {c : K} {L : List Ent} {Q : List Ent → VO → Prop} (hq : Q (curE c :: L) (.val (resP (qjb c)))) : VApp Tryz.prog (curE c :: L) (.fn 133 [] []) [.ptr 0 0] Q := qdk (q2t c) rfl hq
theorem qup (c : K) : qcs Tryz.prog 119 (curE c) (curE c) [.ptr 0 0] (.bool (begP c)) := by
  refine qbh c0bg 1 (by simp) (by simp) ?_
  repeat' (first | refine qs ?_ | refine qg ?_ | refine qi ?_ | ((first | refine qu ?_ | refine qq (by rfl) ?_ | refine ql ?_ | refine qj ?_ | refine qo ?_ | refine qt ?_ | refine qn ?_ | refine qm ?_ | refine qp ?_ | refine q2b ?_ | refine a_Is ?_); simp only [go_sem, ↓reduceIte, Nat.reduceEqDiff, Nat.reduceAdd, Nat.reduceSub, Nat.reduceMul, Nat.reduceLT, Nat.reduceLeDiff, reduceCtorEq, Int.reduceToNat]) | ((first | refine qh ?_ ?_ | refine qe ?_ ?_) <;> intro hc <;> simp only [hc, go_sem, ↓reduceIte, Nat.reduceEqDiff, Nat.reduceAdd, Nat.reduceSub, Nat.reduceMul, Nat.reduceLT, Nat.reduceLeDiff, reduceCtorEq, Int.reduceToNat] <;> (try simp only [qb, qa, decide_eq_true_eq, decide_eq_false_iff_not, Bool.and_eq_true] at hc)) | refine And.intro (by first | assumption | omega | (have := qk (by assumption); omega) | (unfold qy; omega)) ?_ | ((first | simp (disch := omega) only [qd] | simp (disch := omega) only [qw]); (try simp only [go_sem, ↓reduceIte, Nat.reduceEqDiff, Nat.reduceAdd, Nat.reduceSub, Nat.reduceMul, Nat.reduceLT, Nat.reduceLeDiff, reduceCtorEq, Int.reduceToNat])))
  all_goals (unfold begP; simp_all)
theorem q95 {c : K} {L : List Ent} {Q : List Ent → VO → Prop} (hq : Q (curE c :: L) (.val (.bool (begP c)))) : VApp Tryz.prog (curE c :: L) (.fn 119 [] []) [.ptr 0 0] Q := qb4 (qup c) (qbk _ _) (qbk _ _) rfl rfl fun _ => hq
theorem qm4 {rec : K → K × Option N} {b : Nat} (hm : ∀ c, Mon c (rec c).1) (ih : ∀ c, c.good → rest c < b → qcs Tryz.prog 91 (curE c) (curE (rec c).1) [.ptr 0 0] (resP (rec c).2)) (c : K) (hg : c.good) (hr : rest c ≤ b) :
    qcs Tryz.prog 118 (curE c) (curE (qb1 rec c).1) [.ptr 0 0] (resP (qb1 rec c).2) := by
  have g1 : (qr c).1.good := (qbb c).1 hg
  have g2 : (qbc (qr c).1).good := (qbw _).1 g1
  have g3 : (rec (qbc (qr c).1)).1.good := (hm _).1 g2
  have g4 : (q9 (rec (qbc (qr c).1)).1 [41]).1.good := (qx _ _).1 g3
  have hrr : isK c [40] = true → (qr c).2 = true → rest (qbc (qr c).1) < b := fun h1 h2 => by
    have := qbm (c := (qr c).1) (by rw [qei h2]; exact qdp h1)
    have := (qbb c).2.1
    omega
  refine qbh c0bh 1 (by simp) (by simp) ?_
  repeat' (first | refine qs ?_ | refine qg ?_ | refine qi ?_ | ((first | refine qu ?_ | refine qq (by rfl) ?_ | refine ql ?_ | refine qj ?_ | refine qo ?_ | refine qt ?_ | refine qn ?_ | refine qm ?_ | refine qp ?_ | refine q2b ?_ | refine a_Is ?_ | refine qph ?_ | refine qha ?_ | refine qim hg.ok ?_ | refine qim g1.ok ?_ | refine qdk (ih _ g2 (hrr (by assumption) (by assumption))) rfl ?_ | refine qd2 g3.ok ?_ | refine qfl g4.2.2 ?_); simp only [go_sem, ↓reduceIte, Nat.reduceEqDiff, Nat.reduceAdd, Nat.reduceSub, Nat.reduceMul, Nat.reduceLT, Nat.reduceLeDiff, reduceCtorEq, Int.reduceToNat]) | ((first | refine qh ?_ ?_ | refine qe ?_ ?_) <;> intro hc <;> simp only [hc, go_sem, ↓reduceIte, Nat.reduceEqDiff, Nat.reduceAdd, Nat.reduceSub, Nat.reduceMul, Nat.reduceLT, Nat.reduceLeDiff, reduceCtorEq, Int.reduceToNat] <;> (try simp only [qb, qa, decide_eq_true_eq, decide_eq_false_iff_not, Bool.and_eq_true] at hc)) | refine And.intro (by first | assumption | omega | (have := qk (by assumption); omega) | (unfold qy; omega)) ?_ | ((first | simp (disch := omega) only [qd] | simp (disch := omega) only [qw]); (try simp only [go_sem, ↓reduceIte, Nat.reduceEqDiff, Nat.reduceAdd, Nat.reduceSub, Nat.reduceMul, Nat.reduceLT, Nat.reduceLeDiff, reduceCtorEq, Int.reduceToNat])))
  all_goals (unfold qb1; simp only [*, qea, Int.reduceEq, if_true, if_false, reduceIte, Bool.false_eq_true, Option.getD_none, Option.getD_some, Option.isSome_none, Option.isSome_some, and_self, true_and, and_true]; try rfl)
/-- The name's node, as it is made. -/
def conZ (c : K) : AV := .tup [.agg [.int .i64 14, .int .i64 (qbg c).pos, .int .i64 0, .str (qbg c).text, .nils], .bool true]
attribute [go_sem] conZ
theorem qy7 (k : Nat) (c : K) : (conZ c).bd k = true := rfl
theorem qxz (c : K) (hc : (qbg c).kind = 2) : qcs Tryz.prog 133 (curE c) (curE c) [.ptr 0 0] (conZ c) := by
  refine qi8 c0bf 1 (by simp) (by simp) ?_
  repeat' (first | refine qs ?_ | refine qg ?_ | refine qi ?_ | ((first | refine qu ?_ | refine qq (by rfl) ?_ | refine ql ?_ | refine qj ?_ | refine qo ?_ | refine qt ?_ | refine qn ?_ | refine qm ?_ | refine qp ?_); simp (disch := first | omega | (simp only [List.length_set, List.length_append, List.length_cons, List.length_nil]; done) | (simp only [List.length_set, List.length_append, List.length_cons, List.length_nil]; omega)) only [hc, Int.reduceEq, go_sem, ↓reduceIte, Nat.reduceEqDiff, Nat.reduceAdd, Nat.reduceSub, Nat.reduceMul, Nat.reduceLT, Nat.reduceLeDiff, reduceCtorEq, Int.reduceToNat]) | ((first | refine qh ?_ ?_ | refine qe ?_ ?_) <;> intro hc <;> simp only [hc, go_sem, ↓reduceIte, Nat.reduceEqDiff, Nat.reduceAdd, Nat.reduceSub, Nat.reduceMul, Nat.reduceLT, Nat.reduceLeDiff, reduceCtorEq, Int.reduceToNat] <;> (try simp only [qb, qa, decide_eq_true_eq, decide_eq_false_iff_not, Bool.and_eq_true] at hc)) | refine And.intro (by first | assumption | omega | (have := qk (by assumption); omega) | (unfold qy; omega)) ?_ | ((first | simp (disch := omega) only [qd] | simp (disch := omega) only [qw]); (try simp only [go_sem, ↓reduceIte, Nat.reduceEqDiff, Nat.reduceAdd, Nat.reduceSub, Nat.reduceMul, Nat.reduceLT, Nat.reduceLeDiff, reduceCtorEq, Int.reduceToNat])) | ((first | refine qdw ?_ | refine a_Is ?_); simp only [go_sem, ↓reduceIte, Nat.reduceEqDiff, Nat.reduceAdd, Nat.reduceSub, Nat.reduceMul, Nat.reduceLT, Nat.reduceLeDiff, reduceCtorEq, Int.reduceToNat]))
theorem qxj (c : K) (hg : c.good) (hc : (qbg c).kind = 2) : qcs Tryz.prog 118 (curE c) (curE (qbc c)) [.ptr 0 0] (conZ c) := by
  refine qi8 c0bh 1 (by simp) (by simp) ?_
  repeat' (first | refine qs ?_ | refine qg ?_ | refine qi ?_ | ((first | refine qu ?_ | refine qq (by rfl) ?_ | refine ql ?_ | refine qj ?_ | refine qo ?_ | refine qt ?_ | refine qn ?_ | refine qm ?_ | refine qp ?_); simp (disch := first | omega | (simp only [List.length_set, List.length_append, List.length_cons, List.length_nil]; done) | (simp only [List.length_set, List.length_append, List.length_cons, List.length_nil]; omega)) only [hc, go_sem, ↓reduceIte, Nat.reduceEqDiff, Nat.reduceAdd, Nat.reduceSub, Nat.reduceMul, Nat.reduceLT, Nat.reduceLeDiff, reduceCtorEq, Int.reduceToNat]) | ((first | refine qh ?_ ?_ | refine qe ?_ ?_) <;> intro hc <;> simp only [hc, go_sem, ↓reduceIte, Nat.reduceEqDiff, Nat.reduceAdd, Nat.reduceSub, Nat.reduceMul, Nat.reduceLT, Nat.reduceLeDiff, reduceCtorEq, Int.reduceToNat] <;> (try simp only [qb, qa, decide_eq_true_eq, decide_eq_false_iff_not, Bool.and_eq_true] at hc)) | refine And.intro (by first | assumption | omega | (have := qk (by assumption); omega) | (unfold qy; omega)) ?_ | ((first | simp (disch := omega) only [qd] | simp (disch := omega) only [qw]); (try simp only [go_sem, ↓reduceIte, Nat.reduceEqDiff, Nat.reduceAdd, Nat.reduceSub, Nat.reduceMul, Nat.reduceLT, Nat.reduceLeDiff, reduceCtorEq, Int.reduceToNat])) | ((first | refine qb4 (qxz c hc) (qbk _ _) (qbk _ _) rfl (qy7 _ _) fun _ => ?_ | refine qim hg.ok ?_); simp only [go_sem, ↓reduceIte, Nat.reduceEqDiff, Nat.reduceAdd, Nat.reduceSub, Nat.reduceMul, Nat.reduceLT, Nat.reduceLeDiff, reduceCtorEq, Int.reduceToNat]))
def q10 (p : Int) (t : List UInt8) (x : Bool × Nat × K × List N) : AF × List Ent :=
  (⟨[(0, .ptr 0 0), (2, .ptr 1 0), (4, .bool true), (5, .ptr 2 0), (6, .bool x.1)], []⟩,
    curE x.2.2.1 :: .blk [.int .i64 0, .int .i64 0, .int .i64 0, .str [], .nils] :: .blk [.int .i64 14, .int .i64 p, .int .i64 0, .str t, accV 3 (encs x.2.2.2)] :: accE 5 (encs x.2.2.2))
theorem qrn {f : Nat} (ih : ∀ c, c.good → rest c < f → qcs Tryz.prog 91 (curE c) (curE (qcy f c).1) [.ptr 0 0] (resP (qcy f c).2)) (c : K) (hg : c.good) (hr : rest c < f + 1) :
    qcs Tryz.prog 91 (curE c) (curE (qcy (f + 1) c).1) [.ptr 0 0] (resP (qcy (f + 1) c).2) := by
  have hm := qfg f
  have g1 : (qr c).1.good := (qbb c).1 hg
  have hr1 : rest (qr c).1 ≤ f := by have := (qbb c).2.1; omega
  refine qbh c0bi 1 (by simp) (by simp) ?_
  by_cases hk : (qr c).2 = true ∧ (qbg (qr c).1).kind = 2
  · obtain ⟨hk1, hk2⟩ := hk
    have g2 : (qbc (qr c).1).good := (qbw _).1 g1
    have hpa : qcy (f + 1) c = (qci (qhe (qcy f) (rest (qr c).1 + 1) (qbc (qr c).1) []).1, (qhe (qcy f) (rest (qr c).1 + 1) (qbc (qr c).1) []).2.map fun ks => .mk 14 (qbg (qr c).1).pos 0 (qbg (qr c).1).text ks) := by rw [qcy, if_pos hk1, if_pos hk2]
    rw [hpa]
    clear hpa
    generalize htg : qhe (qcy f) (rest (qr c).1 + 1) (qbc (qr c).1) [] = tg
    have hmt : Mon (qbc (qr c).1) tg.1 := htg ▸ qpz hm _ _ _
    have g3 : tg.1.good := hmt.1 g2
    repeat' (first | refine qs ?_ | refine qg ?_ | refine qi ?_ | ((first | refine qu ?_ | refine qq (by rfl) ?_ | refine ql ?_ | refine qj ?_ | refine qo ?_ | refine qt ?_ | refine qn ?_ | refine qm ?_ | refine qp ?_); simp (disch := first | omega | (simp only [List.length_set, List.length_append, List.length_cons, List.length_nil]; done) | (simp only [List.length_set, List.length_append, List.length_cons, List.length_nil]; omega)) only [hk1, hk2, Int.reduceEq, go_sem, ↓reduceIte, Nat.reduceEqDiff, Nat.reduceAdd, Nat.reduceSub, Nat.reduceMul, Nat.reduceLT, Nat.reduceLeDiff, reduceCtorEq, Int.reduceToNat]) | ((first | refine qh ?_ ?_ | refine qe ?_ ?_) <;> intro hc <;> simp only [hc, go_sem, ↓reduceIte, Nat.reduceEqDiff, Nat.reduceAdd, Nat.reduceSub, Nat.reduceMul, Nat.reduceLT, Nat.reduceLeDiff, reduceCtorEq, Int.reduceToNat] <;> (try simp only [qb, qa, decide_eq_true_eq, decide_eq_false_iff_not, Bool.and_eq_true] at hc)) | refine And.intro (by first | assumption | omega | (have := qk (by assumption); omega) | (unfold qy; omega)) ?_ | ((first | simp (disch := omega) only [qd] | simp (disch := omega) only [qw]); (try simp only [go_sem, ↓reduceIte, Nat.reduceEqDiff, Nat.reduceAdd, Nat.reduceSub, Nat.reduceMul, Nat.reduceLT, Nat.reduceLeDiff, reduceCtorEq, Int.reduceToNat])) | ((first | refine qha ?_ | refine qdw ?_ | refine qb4 (qxj _ g1 hk2) (qbk _ _) (qbk _ _) rfl (qy7 _ _) fun _ => ?_); simp only [go_sem, ↓reduceIte, Nat.reduceEqDiff, Nat.reduceAdd, Nat.reduceSub, Nat.reduceMul, Nat.reduceLT, Nat.reduceLeDiff, reduceCtorEq, Int.reduceToNat]))
    refine qca (S := Bool × Nat × K × List N) (fun x => x.2.2.1.good ∧ rest x.2.2.1 ≤ f ∧ (x.1 = true → qhe (qcy f) x.2.1 x.2.2.1 x.2.2.2 = tg ∧ rest x.2.2.1 < x.2.1) ∧ (x.1 = false → tg = (x.2.2.1, none)) ∧ x.2.2.2.length + rest x.2.2.1 ≤ 1048577)
      (q10 (qbg (qr c).1).pos (qbg (qr c).1).text) (fun x => if x.1 = true then rest x.2.2.1 + 1 else 0) ?_ ?_
    · have hrn := (qbw (qr c).1).2.1
      refine qbt (true, rest (qr c).1 + 1, qbc (qr c).1, []) [0, 1, 2] ⟨g2, by simp only; omega, fun _ => ⟨htg, by simp only; omega⟩, (by intro h; cases h), ?_⟩ rfl (by simp) ?_ ?_ ?_
      · have h9 := g2.rest
        unfold rest
        simp only [List.length_nil]
        omega
      all_goals simp only [q10, encs, qbv, qbx]
      all_goals simp only [go_sem, ↓reduceIte, Nat.reduceEqDiff, Nat.reduceAdd, Nat.reduceSub, Nat.reduceMul, Nat.reduceLT, Nat.reduceLeDiff, reduceCtorEq, Int.reduceToNat]
    · rintro ⟨b, fu, d, acc⟩ ⟨i1, i2, i3, i4, i5⟩
      simp only at i1 i2 i3 i4 i5
      unfold q10
      cases b with
      | false =>
        have i4 := i4 rfl
        subst i4
        repeat' (first | refine qs ?_ | refine qg ?_ | refine qi ?_ | ((first | refine qu ?_ | refine qq (by rfl) ?_ | refine ql ?_ | refine qj ?_ | refine qo ?_ | refine qt ?_ | refine qn ?_ | refine qm ?_ | refine qp ?_ | refine qfl i1.2.2 ?_); simp only [go_sem, ↓reduceIte, Nat.reduceEqDiff, Nat.reduceAdd, Nat.reduceSub, Nat.reduceMul, Nat.reduceLT, Nat.reduceLeDiff, reduceCtorEq, Int.reduceToNat]) | ((first | refine qh ?_ ?_ | refine qe ?_ ?_) <;> intro hc <;> simp only [hc, go_sem, ↓reduceIte, Nat.reduceEqDiff, Nat.reduceAdd, Nat.reduceSub, Nat.reduceMul, Nat.reduceLT, Nat.reduceLeDiff, reduceCtorEq, Int.reduceToNat] <;> (try simp only [qb, qa, decide_eq_true_eq, decide_eq_false_iff_not, Bool.and_eq_true] at hc)) | refine And.intro (by first | assumption | omega | (have := qk (by assumption); omega) | (unfold qy; omega)) ?_ | ((first | simp (disch := omega) only [qd] | simp (disch := omega) only [qw]); (try simp only [go_sem, ↓reduceIte, Nat.reduceEqDiff, Nat.reduceAdd, Nat.reduceSub, Nat.reduceMul, Nat.reduceLT, Nat.reduceLeDiff, reduceCtorEq, Int.reduceToNat])))
        simp only [Option.map_none, Option.getD_none, Option.isSome_none, qea]
      | true =>
        have i6 := (i3 rfl).2
        replace i3 := (i3 rfl).1
        clear i4
        obtain ⟨fu, rfl⟩ : ∃ k, fu = k + 1 := ⟨fu - 1, by omega⟩
        rw [qhe] at i3
        have hcap : qy (acc.length + 1) 64 := capN (by omega)
        have j1 : (qb1 (qcy f) d).1.good := (qi0 hm d).1 i1
        have j2 : rest (qb1 (qcy f) d).1 ≤ rest d := (qi0 hm d).2.1
        by_cases h0 : acc = []
        · subst h0
          simp only [encs, qbv, qbx]
          repeat' (first | refine qs ?_ | refine qg ?_ | refine qi ?_ | ((first | refine qu ?_ | refine qq (by rfl) ?_ | refine ql ?_ | refine qj ?_ | refine qo ?_ | refine qt ?_ | refine qn ?_ | refine qm ?_ | refine qp ?_ | refine q95 ?_ | refine qdk (qm4 hm ih _ i1 i2) rfl ?_ | refine qfl i1.2.2 ?_); simp only [go_sem, ↓reduceIte, Nat.reduceEqDiff, Nat.reduceAdd, Nat.reduceSub, Nat.reduceMul, Nat.reduceLT, Nat.reduceLeDiff, reduceCtorEq, Int.reduceToNat]) | ((first | refine qh ?_ ?_ | refine qe ?_ ?_) <;> intro hc <;> simp only [hc, go_sem, ↓reduceIte, Nat.reduceEqDiff, Nat.reduceAdd, Nat.reduceSub, Nat.reduceMul, Nat.reduceLT, Nat.reduceLeDiff, reduceCtorEq, Int.reduceToNat] <;> (try simp only [qb, qa, decide_eq_true_eq, decide_eq_false_iff_not, Bool.and_eq_true] at hc)) | refine And.intro (by first | assumption | omega | (have := qk (by assumption); omega) | (unfold qy; omega)) ?_ | ((first | simp (disch := omega) only [qd] | simp (disch := omega) only [qw]); (try simp only [go_sem, ↓reduceIte, Nat.reduceEqDiff, Nat.reduceAdd, Nat.reduceSub, Nat.reduceMul, Nat.reduceLT, Nat.reduceLeDiff, reduceCtorEq, Int.reduceToNat])))
          · have hb : begP d = true := by assumption
            have hs : (qb1 (qcy f) d).2.isSome = true := by assumption
            rw [if_pos hb, if_pos hs] at i3
            have hlt := qns hm hs
            refine qbt (true, fu, (qb1 (qcy f) d).1, [] ++ [(qb1 (qcy f) d).2.getD N0]) [0, 1, 2, 4] ⟨⟨j1, by simp only; omega, fun _ => ⟨i3, by simp only; omega⟩, (by intro h; cases h), ?_⟩, by simp only [if_true]; omega⟩ rfl (by simp) ?_ ?_ ?_
            · simp only [List.length_append, List.length_cons, List.length_nil]; omega
            all_goals simp only [← qba, qct, qcv, List.nil_append, encs, qdg, qde]
            all_goals simp only [go_sem, ↓reduceIte, Nat.reduceEqDiff, Nat.reduceAdd, Nat.reduceSub, Nat.reduceMul, Nat.reduceLT, Nat.reduceLeDiff, reduceCtorEq, Int.reduceToNat]
          · have hb : begP d = true := by assumption
            have hs : (qb1 (qcy f) d).2.isSome = false := by assumption
            rw [if_pos hb, if_neg (by rw [hs]; simp)] at i3
            refine qbt (false, 0, (qb1 (qcy f) d).1, []) [0, 1, 2] ⟨⟨j1, by simp only; omega, (by intro h; cases h), fun _ => i3.symm, by simp only; omega⟩, by simp only [if_true, Bool.false_eq_true, if_false]; omega⟩ rfl (by simp) ?_ ?_ ?_
            all_goals simp only [encs, qbv, qbx]
            all_goals simp only [go_sem, ↓reduceIte, Nat.reduceEqDiff, Nat.reduceAdd, Nat.reduceSub, Nat.reduceMul, Nat.reduceLT, Nat.reduceLeDiff, reduceCtorEq, Int.reduceToNat]
          · have hb : begP d = false := by assumption
            rw [if_neg (by rw [hb]; simp)] at i3
            subst i3
            simp only [Option.map_some, Option.getD_some, Option.isSome_some, enc, encs, and_self]
        · have hne := qcm h0
          simp only [qcb hne, qcc hne, qb3]
          repeat' (first | refine qs ?_ | refine qg ?_ | refine qi ?_ | ((first | refine qu ?_ | refine qq (by rfl) ?_ | refine ql ?_ | refine qj ?_ | refine qo ?_ | refine qt ?_ | refine qn ?_ | refine qm ?_ | refine qp ?_ | refine q95 ?_ | refine qdk (qm4 hm ih _ i1 i2) rfl ?_ | refine qfl i1.2.2 ?_); simp only [go_sem, ↓reduceIte, Nat.reduceEqDiff, Nat.reduceAdd, Nat.reduceSub, Nat.reduceMul, Nat.reduceLT, Nat.reduceLeDiff, reduceCtorEq, Int.reduceToNat]) | ((first | refine qh ?_ ?_ | refine qe ?_ ?_) <;> intro hc <;> simp only [hc, go_sem, ↓reduceIte, Nat.reduceEqDiff, Nat.reduceAdd, Nat.reduceSub, Nat.reduceMul, Nat.reduceLT, Nat.reduceLeDiff, reduceCtorEq, Int.reduceToNat] <;> (try simp only [qb, qa, decide_eq_true_eq, decide_eq_false_iff_not, Bool.and_eq_true] at hc)) | refine And.intro (by first | assumption | omega | (have := qk (by assumption); omega) | (unfold qy; omega)) ?_ | ((first | simp (disch := omega) only [qd] | simp (disch := omega) only [qw]); (try simp only [go_sem, ↓reduceIte, Nat.reduceEqDiff, Nat.reduceAdd, Nat.reduceSub, Nat.reduceMul, Nat.reduceLT, Nat.reduceLeDiff, reduceCtorEq, Int.reduceToNat])))
          · have hb : begP d = true := by assumption
            have hs : (qb1 (qcy f) d).2.isSome = true := by assumption
            rw [if_pos hb, if_pos hs] at i3
            have hlt := qns hm hs
            refine qbt (true, fu, (qb1 (qcy f) d).1, acc ++ [(qb1 (qcy f) d).2.getD N0]) [0, 1, 2, 5] ⟨⟨j1, by simp only; omega, fun _ => ⟨i3, by simp only; omega⟩, (by intro h; cases h), ?_⟩, by simp only [if_true]; omega⟩ rfl (by simp) ?_ ?_ ?_
            · simp only [List.length_append, List.length_cons, List.length_nil]; omega
            all_goals simp only [← qba, qct, qcv, List.nil_append, encs, qdg, qde]
            all_goals simp only [go_sem, ↓reduceIte, Nat.reduceEqDiff, Nat.reduceAdd, Nat.reduceSub, Nat.reduceMul, Nat.reduceLT, Nat.reduceLeDiff, reduceCtorEq, Int.reduceToNat]
            rw [qba, qcd, qc4]; exact ⟨rfl, rfl⟩
          · have hb : begP d = true := by assumption
            have hs : (qb1 (qcy f) d).2.isSome = false := by assumption
            rw [if_pos hb, if_neg (by rw [hs]; simp)] at i3
            refine qbt (false, 0, (qb1 (qcy f) d).1, acc) [0, 1, 2, 3] ⟨⟨j1, by simp only; omega, (by intro h; cases h), fun _ => i3.symm, by simp only; omega⟩, by simp only [if_true, Bool.false_eq_true, if_false]; omega⟩ rfl (by simp) ?_ ?_ ?_
            all_goals simp only [qcb hne, qcc hne, qb3]
            all_goals simp only [go_sem, ↓reduceIte, Nat.reduceEqDiff, Nat.reduceAdd, Nat.reduceSub, Nat.reduceMul, Nat.reduceLT, Nat.reduceLeDiff, reduceCtorEq, Int.reduceToNat]
          · have hb : begP d = false := by assumption
            rw [if_neg (by rw [hb]; simp)] at i3
            subst i3
            simp only [Option.map_some, Option.getD_some, Option.isSome_some, enc, encs, and_self]
  · by_cases hk1 : (qr c).2 = true
    · have hk2 : ¬ (qbg (qr c).1).kind = 2 := fun h => hk ⟨hk1, h⟩
      have j1 : (qb1 (qcy f) (qr c).1).1.good := (qi0 hm _).1 g1
      have hpa : qcy (f + 1) c = (qci (qb1 (qcy f) (qr c).1).1, (qb1 (qcy f) (qr c).1).2) := by rw [qcy, if_pos hk1, if_neg hk2]
      rw [hpa]
      clear hpa
      repeat' (first | refine qs ?_ | refine qg ?_ | refine qi ?_ | ((first | refine qu ?_ | refine qq (by rfl) ?_ | refine ql ?_ | refine qj ?_ | refine qo ?_ | refine qt ?_ | refine qn ?_ | refine qm ?_ | refine qp ?_); simp (disch := first | omega | (simp only [List.length_set, List.length_append, List.length_cons, List.length_nil]; done) | (simp only [List.length_set, List.length_append, List.length_cons, List.length_nil]; omega)) only [hk1, hk2, go_sem, ↓reduceIte, Nat.reduceEqDiff, Nat.reduceAdd, Nat.reduceSub, Nat.reduceMul, Nat.reduceLT, Nat.reduceLeDiff, reduceCtorEq, Int.reduceToNat]) | ((first | refine qh ?_ ?_ | refine qe ?_ ?_) <;> intro hc <;> simp only [hc, go_sem, ↓reduceIte, Nat.reduceEqDiff, Nat.reduceAdd, Nat.reduceSub, Nat.reduceMul, Nat.reduceLT, Nat.reduceLeDiff, reduceCtorEq, Int.reduceToNat] <;> (try simp only [qb, qa, decide_eq_true_eq, decide_eq_false_iff_not, Bool.and_eq_true] at hc)) | refine And.intro (by first | assumption | omega | (have := qk (by assumption); omega) | (unfold qy; omega)) ?_ | ((first | simp (disch := omega) only [qd] | simp (disch := omega) only [qw]); (try simp only [go_sem, ↓reduceIte, Nat.reduceEqDiff, Nat.reduceAdd, Nat.reduceSub, Nat.reduceMul, Nat.reduceLT, Nat.reduceLeDiff, reduceCtorEq, Int.reduceToNat])) | ((first | refine qha ?_ | refine qdw ?_ | refine qdk (qm4 hm ih _ g1 hr1) rfl ?_); simp only [go_sem, ↓reduceIte, Nat.reduceEqDiff, Nat.reduceAdd, Nat.reduceSub, Nat.reduceMul, Nat.reduceLT, Nat.reduceLeDiff, reduceCtorEq, Int.reduceToNat]))
      generalize hr' : qb1 (qcy f) (qr c).1 = r at j1
      refine qca (S := Unit) (fun _ => True) (fun _ => (⟨[(0, .ptr 0 0), (2, .ptr 1 0), (4, .bool false), (5, .ptr 2 0), (6, .bool r.2.isSome)], []⟩, [curE r.1, .blk [.int .i64 0, .int .i64 0, .int .i64 0, .str [], .nils], .blk (enc (r.2.getD N0)).cells])) (fun _ => 0) ?_ ?_
      · refine qbt () [0, 1, 2] trivial rfl (by simp) ?_ ?_ ?_ <;> (try simp only [go_sem, ↓reduceIte, Nat.reduceEqDiff, Nat.reduceAdd, Nat.reduceSub, Nat.reduceMul, Nat.reduceLT, Nat.reduceLeDiff, reduceCtorEq, Int.reduceToNat]) <;> (try simp (disch := omega) only [qw])
      · intro _ _
        repeat' (first | refine qs ?_ | refine qg ?_ | refine qi ?_ | ((first | refine qu ?_ | refine qq (by rfl) ?_ | refine ql ?_ | refine qj ?_ | refine qo ?_ | refine qt ?_ | refine qn ?_ | refine qm ?_ | refine qp ?_ | refine qfl j1.2.2 ?_); simp only [go_sem, ↓reduceIte, Nat.reduceEqDiff, Nat.reduceAdd, Nat.reduceSub, Nat.reduceMul, Nat.reduceLT, Nat.reduceLeDiff, reduceCtorEq, Int.reduceToNat]) | ((first | refine qh ?_ ?_ | refine qe ?_ ?_) <;> intro hc <;> simp only [hc, go_sem, ↓reduceIte, Nat.reduceEqDiff, Nat.reduceAdd, Nat.reduceSub, Nat.reduceMul, Nat.reduceLT, Nat.reduceLeDiff, reduceCtorEq, Int.reduceToNat] <;> (try simp only [qb, qa, decide_eq_true_eq, decide_eq_false_iff_not, Bool.and_eq_true] at hc)) | refine And.intro (by first | assumption | omega | (have := qk (by assumption); omega) | (unfold qy; omega)) ?_ | ((first | simp (disch := omega) only [qd] | simp (disch := omega) only [qw]); (try simp only [go_sem, ↓reduceIte, Nat.reduceEqDiff, Nat.reduceAdd, Nat.reduceSub, Nat.reduceMul, Nat.reduceLT, Nat.reduceLeDiff, reduceCtorEq, Int.reduceToNat])))
        have hs : r.2 = none := by
          have : r.2.isSome = false := by assumption
          revert this
          cases r.2 <;> simp
        rw [hs, qea]; rfl
    · have hk1 : (qr c).2 = false := by simpa using hk1
      have hpa : qcy (f + 1) c = ((qr c).1, none) := by rw [qcy, if_neg (by rw [hk1]; simp)]
      rw [hpa]
      repeat' (first | refine qs ?_ | refine qg ?_ | refine qi ?_ | ((first | refine qu ?_ | refine qq (by rfl) ?_ | refine ql ?_ | refine qj ?_ | refine qo ?_ | refine qt ?_ | refine qn ?_ | refine qm ?_ | refine qp ?_); simp (disch := first | omega | (simp only [List.length_set, List.length_append, List.length_cons, List.length_nil]; done) | (simp only [List.length_set, List.length_append, List.length_cons, List.length_nil]; omega)) only [hk1, go_sem, ↓reduceIte, Nat.reduceEqDiff, Nat.reduceAdd, Nat.reduceSub, Nat.reduceMul, Nat.reduceLT, Nat.reduceLeDiff, reduceCtorEq, Int.reduceToNat]) | ((first | refine qh ?_ ?_ | refine qe ?_ ?_) <;> intro hc <;> simp only [hc, go_sem, ↓reduceIte, Nat.reduceEqDiff, Nat.reduceAdd, Nat.reduceSub, Nat.reduceMul, Nat.reduceLT, Nat.reduceLeDiff, reduceCtorEq, Int.reduceToNat] <;> (try simp only [qb, qa, decide_eq_true_eq, decide_eq_false_iff_not, Bool.and_eq_true] at hc)) | refine And.intro (by first | assumption | omega | (have := qk (by assumption); omega) | (unfold qy; omega)) ?_ | ((first | simp (disch := omega) only [qd] | simp (disch := omega) only [qw]); (try simp only [go_sem, ↓reduceIte, Nat.reduceEqDiff, Nat.reduceAdd, Nat.reduceSub, Nat.reduceMul, Nat.reduceLT, Nat.reduceLeDiff, reduceCtorEq, Int.reduceToNat])) | ((first | refine qha ?_); simp only [go_sem, ↓reduceIte, Nat.reduceEqDiff, Nat.reduceAdd, Nat.reduceSub, Nat.reduceMul, Nat.reduceLT, Nat.reduceLeDiff, reduceCtorEq, Int.reduceToNat]))
      rw [qea]; rfl
theorem qbfc (f : Nat) : ∀ c : K, c.good → rest c < f → qcs Tryz.prog 91 (curE c) (curE (qcy f c).1) [.ptr 0 0] (resP (qcy f c).2) := by
  induction f with
  | zero => exact fun c _ h => absurd h (by omega)
  | succ f ih => exact qrn ih
end Go.Proofs.YtmekebfgmjaenaaGreat

/- patterns: the reference -/
set_option maxRecDepth 4000
namespace Go.Proofs.YtmekebfgmjaenaaGreat
open Go Go.RowKit Go.V
set_option linter.unusedVariables false
set_option linter.unusedSimpArgs false

theorem qwn {c : K} (h : (qjb c).isSome = true) : c.err = 0 ∧ rest (qbc c) + 1 = rest c := by
  obtain ⟨n, hn⟩ := Option.isSome_iff_exists.1 h
  exact ⟨(qd4 (qj7 hn)).1, qbm (qj7 hn)⟩
theorem q4f {c : K} (h : begP c = true) : c.err = 0 := by
  simp only [begP, Bool.or_eq_true] at h
  rcases h with h | h
  · exact (qwn h).1
  · exact qqm h
theorem qrc {c : K} (h : c.err ≠ 0) : begP c = false := by
  cases hb : begP c with
  | false => rfl
  | true => exact absurd (q4f hb) h
def qda (rec : K → K × N) (c : K) : K × N :=
  if begP c = true then
    if isK c [40] = true then (qci (q9 (rec (q9 (qr c).1 [40]).1).1 [41]).1, (rec (q9 (qr c).1 [40]).1).2)
    else (qbc c, (qjb c).getD N0)
  else (qe9 c 5, N0)
def qev (rec : K → K × N) : Nat → K → List N → K × List N
  | 0, c, acc => (c, acc)
  | f + 1, c, acc => if begP c = true then qev rec f (qda rec c).1 (acc ++ [(qda rec c).2]) else (c, acc)
def qd6 : Nat → K → K × N
  | 0, c => (c, N0)
  | f + 1, c =>
    if (qbg (qr c).1).kind = 2 then
      (qci (qev (qd6 f) (em (qbc (qr c).1) + 1) (qbc (qr c).1) []).1, .mk 14 (qbg (qr c).1).pos 0 (qbg (qr c).1).text (qev (qd6 f) (em (qbc (qr c).1) + 1) (qbc (qr c).1) []).2)
    else (qci (qda (qd6 f) (qr c).1).1, (qda (qd6 f) (qr c).1).2)
section
variable {rec : K → K × N} (hm : ∀ c, Mon c (rec c).1)
include hm
theorem qrq (c : K) : Mon (q9 (qr c).1 [40]).1 (qci (q9 (rec (q9 (qr c).1 [40]).1).1 [41]).1) := ((hm _).trans (qx _ _)).trans (qby _)
theorem qgs (c : K) : Mon c (qda rec c).1 := by
  unfold qda
  split
  · split
    · exact ((qbb c).trans (qx _ _)).trans (qrq hm c)
    · exact qbw c
  · exact qfh c 5
theorem qis {c : K} (h : begP c = true) : em (qda rec c).1 < em c := by
  unfold qda
  rw [if_pos h]
  split
  · have h1 := qeq (c := c) (by assumption)
    have h2 := (qrq hm c).em
    simp only; omega
  · rename_i hk
    have h1 := qwn (c := c) (by simpa [begP, hk] using h)
    have h2 := qip (qbc c)
    rw [qbql h1.1]
    simp only; omega
theorem qju : ∀ (f : Nat) (c : K) (acc : List N), Mon c (qev rec f c acc).1
  | 0, c, acc => Mon.refl c
  | f + 1, c, acc => by
    rw [qev]
    split
    · exact (qgs hm c).trans (qju f _ _)
    · exact Mon.refl c
end
theorem qgi : ∀ (f : Nat) (c : K), Mon c (qd6 f c).1
  | 0, c => Mon.refl c
  | f + 1, c => by
    rw [qd6]
    split
    · exact (((qbb c).trans (qbw _)).trans (qju (qgi f) _ _ _)).trans (qby _)
    · exact ((qbb c).trans (qgs (qgi f) _)).trans (qby _)

/-! The program. -/
theorem qe4 (c : K) : qbs Tryz.prog 121 [refC c] (.bool (begP c)) := by
  refine qbe c0bc (by simp) (by simp only [go_sem]) rfl fun hw => ?_
  repeat' (first | refine qs ?_ | refine qg ?_ | refine qi ?_ | ((first | refine qu ?_ | refine qq (by rfl) ?_ | refine ql ?_ | refine qj ?_ | refine qo ?_ | refine qt ?_ | refine qn ?_ | refine qm ?_ | refine qp ?_ | refine qc (q8 c) fun _ => ?_ | refine qc (qc3 c _) fun _ => ?_ | refine qf  (q8 c) ?_ | refine qf  (qc3 c _) ?_); simp only [go_sem, ↓reduceIte, Nat.reduceEqDiff, Nat.reduceAdd, Nat.reduceSub, Nat.reduceMul, Nat.reduceLT, Nat.reduceLeDiff, reduceCtorEq, Int.reduceToNat]) | ((first | refine qh ?_ ?_ | refine qe ?_ ?_) <;> intro hc <;> simp only [hc, go_sem, ↓reduceIte, Nat.reduceEqDiff, Nat.reduceAdd, Nat.reduceSub, Nat.reduceMul, Nat.reduceLT, Nat.reduceLeDiff, reduceCtorEq, Int.reduceToNat] <;> (try simp only [qb, qa, decide_eq_true_eq, decide_eq_false_iff_not, Bool.and_eq_true] at hc)) | refine And.intro (by first | assumption | omega | (have := qk (by assumption); omega) | (unfold qy; omega)) ?_ | ((first | simp (disch := omega) only [qd] | simp (disch := omega) only [qw]); (try simp only [go_sem, ↓reduceIte, Nat.reduceEqDiff, Nat.reduceAdd, Nat.reduceSub, Nat.reduceMul, Nat.reduceLT, Nat.reduceLeDiff, reduceCtorEq, Int.reduceToNat])))
  all_goals (have := @qrc c; unfold begP qjb at *; simp_all)
theorem qgd {rec : K → K × N} {b : Nat} (hm : ∀ c, Mon c (rec c).1) (ih : ∀ c, c.good → em c < b → qbs Tryz.prog 95 [refC c] (.tup [refC (rec c).1, enc (rec c).2])) (c : K) (hg : c.good) (hr : em c ≤ b) :
    qbs Tryz.prog 120 [refC c] (.tup [refC (qda rec c).1, enc (qda rec c).2]) := by
  have g1 : (q9 (qr c).1 [40]).1.good := ((qbb c).trans (qx _ _)).1 hg
  have g2 : (q9 (rec (q9 (qr c).1 [40]).1).1 [41]).1.good := ((hm _).trans (qx _ _)).1 g1
  refine qbe c0bd (by simp) (by simp only [go_sem]) (by simp only [go_sem]) fun hw => ?_
  repeat' (first | refine qs ?_ | refine qg ?_ | refine qi ?_ | ((first | refine qu ?_ | refine qq (by rfl) ?_ | refine ql ?_ | refine qj ?_ | refine qo ?_ | refine qt ?_ | refine qn ?_ | refine qm ?_ | refine qp ?_ | refine qc (q8 c) fun _ => ?_ | refine qc (qc3 c _) fun _ => ?_ | refine qc (qe4 c) fun _ => ?_ | refine qc (qc2 c _) fun _ => ?_ | refine qc (qcq c) fun _ => ?_ | refine qc (qbi _ _) fun _ => ?_ | refine qc (ih _ g1 (Nat.lt_of_lt_of_le (qeq (by assumption)) hr)) fun _ => ?_ | refine qc (qb2 _ g2.2.2) fun _ => ?_ | refine qc (qcf c) fun _ => ?_ | refine qf  (q8 c) ?_ | refine qf  (qc3 c _) ?_ | refine qf  (qe4 c) ?_ | refine qf  (qc2 c _) ?_ | refine qf  (qcq c) ?_ | refine qf  (qbi _ _) ?_ | refine qf  (ih _ g1 (Nat.lt_of_lt_of_le (qeq (by assumption)) hr)) ?_ | refine qf  (qb2 _ g2.2.2) ?_ | refine qf  (qcf c) ?_); simp only [go_sem, ↓reduceIte, Nat.reduceEqDiff, Nat.reduceAdd, Nat.reduceSub, Nat.reduceMul, Nat.reduceLT, Nat.reduceLeDiff, reduceCtorEq, Int.reduceToNat]) | ((first | refine qh ?_ ?_ | refine qe ?_ ?_) <;> intro hc <;> simp only [hc, go_sem, ↓reduceIte, Nat.reduceEqDiff, Nat.reduceAdd, Nat.reduceSub, Nat.reduceMul, Nat.reduceLT, Nat.reduceLeDiff, reduceCtorEq, Int.reduceToNat] <;> (try simp only [qb, qa, decide_eq_true_eq, decide_eq_false_iff_not, Bool.and_eq_true] at hc)) | refine And.intro (by first | assumption | omega | (have := qk (by assumption); omega) | (unfold qy; omega)) ?_ | ((first | simp (disch := omega) only [qd] | simp (disch := omega) only [qw]); (try simp only [go_sem, ↓reduceIte, Nat.reduceEqDiff, Nat.reduceAdd, Nat.reduceSub, Nat.reduceMul, Nat.reduceLT, Nat.reduceLeDiff, reduceCtorEq, Int.reduceToNat])))
  all_goals (unfold qda; simp only [*, qea, Int.reduceEq, if_true, if_false, reduceIte, Bool.false_eq_true, Option.getD_none, Option.getD_some, Option.isSome_none, Option.isSome_some, and_self, true_and, and_true]; try rfl)
  all_goals
    have hb : begP c = true := by assumption
    have hk : isK c [40] = false := by assumption
    simp only [begP, hk, Bool.or_false] at hb
    unfold qjb at hb ⊢
    clear ih
    simp_all [enc, encs]
def q2r (p : Int) (t : List UInt8) (x : Nat × K × List N) : AF × List Ent :=
  (⟨[(1, .ptr 0 0), (2, .ptr 1 0), (3, .ptr 2 0), (7, .ptr 3 0)], []⟩,
    .blk (refC x.2.1).cells :: .blk [.nils, .int .i64 0, .int .i64 0, .int .i64 0, .str [], .int .i64 0, .int .i64 0, .int .i64 0] :: .blk [.int .i64 0, .int .i64 0, .int .i64 0, .str [], .nils] :: .blk [.int .i64 14, .int .i64 p, .int .i64 0, .str t, accV 4 (encs x.2.2)] :: accE 5 (encs x.2.2))
theorem qq3 {f : Nat} (ih : ∀ c, c.good → em c < f → qbs Tryz.prog 95 [refC c] (.tup [refC (qd6 f c).1, enc (qd6 f c).2])) (c : K) (hg : c.good) (hr : em c < f + 1) :
    qbs Tryz.prog 95 [refC c] (.tup [refC (qd6 (f + 1) c).1, enc (qd6 (f + 1) c).2]) := by
  have hm := qgi f
  have g1 : (qr c).1.good := (qbb c).1 hg
  have hr1 : em (qr c).1 ≤ f := by have := (qbb c).em; omega
  refine qbe c0be (by simp) (by simp only [go_sem]) (by simp only [go_sem]) fun hw => ?_
  by_cases hk : (qbg (qr c).1).kind = 2
  · have hpa : qd6 (f + 1) c = (qci (qev (qd6 f) (em (qbc (qr c).1) + 1) (qbc (qr c).1) []).1, .mk 14 (qbg (qr c).1).pos 0 (qbg (qr c).1).text (qev (qd6 f) (em (qbc (qr c).1) + 1) (qbc (qr c).1) []).2) := by rw [qd6, if_pos hk]
    rw [hpa]
    clear hpa
    have g2 : (qbc (qr c).1).good := (qbw _).1 g1
    have hr2 : em (qbc (qr c).1) ≤ f := by have := (qbw (qr c).1).em; omega
    generalize htg : qev (qd6 f) (em (qbc (qr c).1) + 1) (qbc (qr c).1) [] = tg
    have hmt : Mon (qbc (qr c).1) tg.1 := htg ▸ qju hm _ _ _
    have g3 : tg.1.good := hmt.1 g2
    repeat' (first | refine qs ?_ | refine qg ?_ | refine qi ?_ | ((first | refine qu ?_ | refine qq (by rfl) ?_ | refine ql ?_ | refine qj ?_ | refine qo ?_ | refine qt ?_ | refine qn ?_ | refine qm ?_ | refine qp ?_); simp (disch := first | omega | (simp only [List.length_set, List.length_append, List.length_cons, List.length_nil]; done) | (simp only [List.length_set, List.length_append, List.length_cons, List.length_nil]; omega)) only [hk, go_sem, ↓reduceIte, Nat.reduceEqDiff, Nat.reduceAdd, Nat.reduceSub, Nat.reduceMul, Nat.reduceLT, Nat.reduceLeDiff, reduceCtorEq, Int.reduceToNat]) | ((first | refine qh ?_ ?_ | refine qe ?_ ?_) <;> intro hc <;> simp only [hc, go_sem, ↓reduceIte, Nat.reduceEqDiff, Nat.reduceAdd, Nat.reduceSub, Nat.reduceMul, Nat.reduceLT, Nat.reduceLeDiff, reduceCtorEq, Int.reduceToNat] <;> (try simp only [qb, qa, decide_eq_true_eq, decide_eq_false_iff_not, Bool.and_eq_true] at hc)) | refine And.intro (by first | assumption | omega | (have := qk (by assumption); omega) | (unfold qy; omega)) ?_ | ((first | simp (disch := omega) only [qd] | simp (disch := omega) only [qw]); (try simp only [go_sem, ↓reduceIte, Nat.reduceEqDiff, Nat.reduceAdd, Nat.reduceSub, Nat.reduceMul, Nat.reduceLT, Nat.reduceLeDiff, reduceCtorEq, Int.reduceToNat])) | ((first | refine qc (q8 _) fun _ => ?_ | refine qc (qcq c) fun _ => ?_ | refine qc (qcf _) fun _ => ?_ | refine qf  (q8 _) ?_ | refine qf  (qcq c) ?_ | refine qf  (qcf _) ?_); simp only [go_sem, ↓reduceIte, Nat.reduceEqDiff, Nat.reduceAdd, Nat.reduceSub, Nat.reduceMul, Nat.reduceLT, Nat.reduceLeDiff, reduceCtorEq, Int.reduceToNat]))
    refine qca (S := Nat × K × List N) (fun x => x.2.1.good ∧ em x.2.1 ≤ f ∧ qev (qd6 f) x.1 x.2.1 x.2.2 = tg ∧ em x.2.1 < x.1 ∧ x.2.2.length + em x.2.1 ≤ 1048578)
      (q2r (qbg (qr c).1).pos (qbg (qr c).1).text) (fun x => em x.2.1) ?_ ?_
    · refine qbt (em (qbc (qr c).1) + 1, qbc (qr c).1, []) [0, 1, 2, 4] ⟨g2, hr2, htg, by simp only; omega, ?_⟩ rfl (by simp) ?_ ?_ ?_
      · have h9 := g2.rest
        have h8 := qip (qbc (qr c).1)
        unfold rest at h8
        simp only [List.length_nil]
        omega
      all_goals simp only [q2r, encs, qbv, qbx]
      all_goals simp only [go_sem, ↓reduceIte, Nat.reduceEqDiff, Nat.reduceAdd, Nat.reduceSub, Nat.reduceMul, Nat.reduceLT, Nat.reduceLeDiff, reduceCtorEq, Int.reduceToNat]
    · rintro ⟨fu, d, acc⟩ ⟨i1, i2, i3, i4, i5⟩
      simp only at i1 i2 i3 i4 i5
      unfold q2r
      obtain ⟨fu, rfl⟩ : ∃ k, fu = k + 1 := ⟨fu - 1, by omega⟩
      rw [qev] at i3
      have hcap : qy (acc.length + 1) 64 := capN (by omega)
      have j1 : (qda (qd6 f) d).1.good := (qgs hm d).1 i1
      have j2 : em (qda (qd6 f) d).1 ≤ em d := (qgs hm d).em
      by_cases h0 : acc = []
      · subst h0
        simp only [encs, qbv, qbx]
        repeat' (first | refine qs ?_ | refine qg ?_ | refine qi ?_ | ((first | refine qu ?_ | refine qq (by rfl) ?_ | refine ql ?_ | refine qj ?_ | refine qo ?_ | refine qt ?_ | refine qn ?_ | refine qm ?_ | refine qp ?_ | refine qc (qe4 _) fun _ => ?_ | refine qc (qgd hm ih _ i1 i2) fun _ => ?_ | refine qc (qb2 _ i1.2.2) fun _ => ?_ | refine qf  (qe4 _) ?_ | refine qf  (qgd hm ih _ i1 i2) ?_ | refine qf  (qb2 _ i1.2.2) ?_); simp only [go_sem, ↓reduceIte, Nat.reduceEqDiff, Nat.reduceAdd, Nat.reduceSub, Nat.reduceMul, Nat.reduceLT, Nat.reduceLeDiff, reduceCtorEq, Int.reduceToNat]) | ((first | refine qh ?_ ?_ | refine qe ?_ ?_) <;> intro hc <;> simp only [hc, go_sem, ↓reduceIte, Nat.reduceEqDiff, Nat.reduceAdd, Nat.reduceSub, Nat.reduceMul, Nat.reduceLT, Nat.reduceLeDiff, reduceCtorEq, Int.reduceToNat] <;> (try simp only [qb, qa, decide_eq_true_eq, decide_eq_false_iff_not, Bool.and_eq_true] at hc)) | refine And.intro (by first | assumption | omega | (have := qk (by assumption); omega) | (unfold qy; omega)) ?_ | ((first | simp (disch := omega) only [qd] | simp (disch := omega) only [qw]); (try simp only [go_sem, ↓reduceIte, Nat.reduceEqDiff, Nat.reduceAdd, Nat.reduceSub, Nat.reduceMul, Nat.reduceLT, Nat.reduceLeDiff, reduceCtorEq, Int.reduceToNat])))
        · have hb : begP d = true := by assumption
          rw [if_pos hb] at i3
          have hlt := qis hm hb
          refine qbt (fu, (qda (qd6 f) d).1, [] ++ [(qda (qd6 f) d).2]) [0, 1, 2, 3, 6] ⟨⟨j1, by simp only; omega, i3, by simp only; omega, ?_⟩, by simp only; omega⟩ rfl (by simp) ?_ ?_ ?_
          · simp only [List.length_append, List.length_cons, List.length_nil]; omega
          all_goals simp only [q2r, ← qba, qct, qcv, List.nil_append, encs, qdg, qde]
          all_goals simp only [go_sem, ↓reduceIte, Nat.reduceEqDiff, Nat.reduceAdd, Nat.reduceSub, Nat.reduceMul, Nat.reduceLT, Nat.reduceLeDiff, reduceCtorEq, Int.reduceToNat]
        · have hb : begP d = false := by assumption
          rw [if_neg (by rw [hb]; simp)] at i3
          subst i3
          rfl
      · have hne := qcm h0
        simp only [qcb hne, qcc hne, qb3]
        repeat' (first | refine qs ?_ | refine qg ?_ | refine qi ?_ | ((first | refine qu ?_ | refine qq (by rfl) ?_ | refine ql ?_ | refine qj ?_ | refine qo ?_ | refine qt ?_ | refine qn ?_ | refine qm ?_ | refine qp ?_ | refine qc (qe4 _) fun _ => ?_ | refine qc (qgd hm ih _ i1 i2) fun _ => ?_ | refine qc (qb2 _ i1.2.2) fun _ => ?_ | refine qf  (qe4 _) ?_ | refine qf  (qgd hm ih _ i1 i2) ?_ | refine qf  (qb2 _ i1.2.2) ?_); simp only [go_sem, ↓reduceIte, Nat.reduceEqDiff, Nat.reduceAdd, Nat.reduceSub, Nat.reduceMul, Nat.reduceLT, Nat.reduceLeDiff, reduceCtorEq, Int.reduceToNat]) | ((first | refine qh ?_ ?_ | refine qe ?_ ?_) <;> intro hc <;> simp only [hc, go_sem, ↓reduceIte, Nat.reduceEqDiff, Nat.reduceAdd, Nat.reduceSub, Nat.reduceMul, Nat.reduceLT, Nat.reduceLeDiff, reduceCtorEq, Int.reduceToNat] <;> (try simp only [qb, qa, decide_eq_true_eq, decide_eq_false_iff_not, Bool.and_eq_true] at hc)) | refine And.intro (by first | assumption | omega | (have := qk (by assumption); omega) | (unfold qy; omega)) ?_ | ((first | simp (disch := omega) only [qd] | simp (disch := omega) only [qw]); (try simp only [go_sem, ↓reduceIte, Nat.reduceEqDiff, Nat.reduceAdd, Nat.reduceSub, Nat.reduceMul, Nat.reduceLT, Nat.reduceLeDiff, reduceCtorEq, Int.reduceToNat])))
        · have hb : begP d = true := by assumption
          rw [if_pos hb] at i3
          have hlt := qis hm hb
          refine qbt (fu, (qda (qd6 f) d).1, acc ++ [(qda (qd6 f) d).2]) [0, 1, 2, 3, 7] ⟨⟨j1, by simp only; omega, i3, by simp only; omega, ?_⟩, by simp only; omega⟩ rfl (by simp) ?_ ?_ ?_
          · simp only [List.length_append, List.length_cons, List.length_nil]; omega
          all_goals simp only [q2r, ← qba, qct, qcv, List.nil_append, encs, qdg, qde]
          all_goals simp only [go_sem, ↓reduceIte, Nat.reduceEqDiff, Nat.reduceAdd, Nat.reduceSub, Nat.reduceMul, Nat.reduceLT, Nat.reduceLeDiff, reduceCtorEq, Int.reduceToNat]
          rw [qba, qcd, qc4]; exact ⟨rfl, rfl⟩
        · have hb : begP d = false := by assumption
          rw [if_neg (by rw [hb]; simp)] at i3
          subst i3
          rfl
  · have hpa : qd6 (f + 1) c = (qci (qda (qd6 f) (qr c).1).1, (qda (qd6 f) (qr c).1).2) := by rw [qd6, if_neg hk]
    rw [hpa]
    have j1 : (qda (qd6 f) (qr c).1).1.good := (qgs hm _).1 g1
    repeat' (first | refine qs ?_ | refine qg ?_ | refine qi ?_ | ((first | refine qu ?_ | refine qq (by rfl) ?_ | refine ql ?_ | refine qj ?_ | refine qo ?_ | refine qt ?_ | refine qn ?_ | refine qm ?_ | refine qp ?_); simp (disch := first | omega | (simp only [List.length_set, List.length_append, List.length_cons, List.length_nil]; done) | (simp only [List.length_set, List.length_append, List.length_cons, List.length_nil]; omega)) only [hk, go_sem, ↓reduceIte, Nat.reduceEqDiff, Nat.reduceAdd, Nat.reduceSub, Nat.reduceMul, Nat.reduceLT, Nat.reduceLeDiff, reduceCtorEq, Int.reduceToNat]) | ((first | refine qh ?_ ?_ | refine qe ?_ ?_) <;> intro hc <;> simp only [hc, go_sem, ↓reduceIte, Nat.reduceEqDiff, Nat.reduceAdd, Nat.reduceSub, Nat.reduceMul, Nat.reduceLT, Nat.reduceLeDiff, reduceCtorEq, Int.reduceToNat] <;> (try simp only [qb, qa, decide_eq_true_eq, decide_eq_false_iff_not, Bool.and_eq_true] at hc)) | refine And.intro (by first | assumption | omega | (have := qk (by assumption); omega) | (unfold qy; omega)) ?_ | ((first | simp (disch := omega) only [qd] | simp (disch := omega) only [qw]); (try simp only [go_sem, ↓reduceIte, Nat.reduceEqDiff, Nat.reduceAdd, Nat.reduceSub, Nat.reduceMul, Nat.reduceLT, Nat.reduceLeDiff, reduceCtorEq, Int.reduceToNat])) | ((first | refine qc (q8 _) fun _ => ?_ | refine qc (qcq c) fun _ => ?_ | refine qc (qgd hm ih _ g1 hr1) fun _ => ?_ | refine qc (qb2 _ j1.2.2) fun _ => ?_ | refine qf  (q8 _) ?_ | refine qf  (qcq c) ?_ | refine qf  (qgd hm ih _ g1 hr1) ?_ | refine qf  (qb2 _ j1.2.2) ?_); simp only [go_sem, ↓reduceIte, Nat.reduceEqDiff, Nat.reduceAdd, Nat.reduceSub, Nat.reduceMul, Nat.reduceLT, Nat.reduceLeDiff, reduceCtorEq, Int.reduceToNat]))
theorem q4p (f : Nat) : ∀ c : K, c.good → em c < f → qbs Tryz.prog 95 [refC c] (.tup [refC (qd6 f c).1, enc (qd6 f c).2]) := by
  induction f with
  | zero => exact fun c _ h => absurd h (by omega)
  | succ f ih => exact qq3 ih

/-! What both read. -/
theorem qmg {rec : K → K × N} {c : K} (h : c.err ≠ 0) : qda rec c = (c, N0) := by
  rw [qda, if_neg (by rw [qrc h]; simp), qfx h]
theorem qt6 {rec : K → K × N} {c : K} (h : c.err ≠ 0) (f : Nat) (acc : List N) : qev rec f c acc = (c, acc) := by
  cases f with
  | zero => rfl
  | succ f => rw [qev, if_neg (by rw [qrc h]; simp)]
theorem qtf (f : Nat) {c : K} (h : c.err ≠ 0) : qd6 f c = (c, N0) := by
  cases f with
  | zero => rfl
  | succ f => rw [qd6, qhd h, qe8 h, if_neg (by decide), qmg h, qco h]
section
variable {rp : K → K × Option N} {rr : K → K × N} {b : Nat} (hx : ∀ c : K, c.err ≠ 0 → (rr c).1 = c) (ih : ∀ c, em c < b → qec (rp c) (rr c))
include hx ih
theorem qo8 {c : K} (hr : em c ≤ b) : qec (qb1 rp c) (qda rr c) := by
  unfold qb1 qda
  by_cases hl : (qjb c).isSome = true
  · have hk : ¬ isK c [40] = true := by
      intro h
      obtain ⟨n, hn⟩ := Option.isSome_iff_exists.1 hl
      simp only [isK, qh5, Bool.and_eq_true, Bool.or_eq_true, decide_eq_true_eq] at h
      unfold qjb at hn
      rw [if_neg (by omega), if_neg (by omega), if_neg (by omega), if_neg (by simp [isK, qh5, h.2.2])] at hn
      cases hn
    rw [if_pos hl, if_pos (show begP c = true by simp [begP, hl]), if_neg hk]
    exact ⟨rfl, fun n h => by simp only at h ⊢; rw [h]; rfl, fun h => by simp only at h; rw [h] at hl; cases hl⟩
  · rw [if_neg hl]
    by_cases hk : isK c [40] = true
    · rw [if_pos hk, if_pos (show begP c = true by simp [begP, hk]), if_pos hk]
      have hem := qeq hk
      by_cases he : (qr c).2 = true
      · rw [if_pos he]
        have hk' : isK (qr c).1 [40] = true := by rw [ql2 he]; exact hk
        rw [ql4 hk'] at hem ⊢
        simp only at hem ⊢
        obtain ⟨a1, a2, a3⟩ := ih (qbc (qr c).1) (by omega)
        rw [← a1]
        generalize rp (qbc (qr c).1) = r at *
        obtain ⟨d, o⟩ := r
        simp only at a1 a2 a3 ⊢
        cases o with
        | none =>
          have h3 := a3 rfl
          rw [if_neg (by simp), qb9 h3, qco h3]
          exact ⟨rfl, (fun n h => by cases h), fun _ => h3⟩
        | some n =>
          rw [if_pos (by rfl)]
          by_cases hw : (q9 d [41]).2 = true
          · rw [if_pos hw]
            exact ⟨rfl, fun m h => a2 m h, (fun h => by cases h)⟩
          · rw [if_neg hw]
            have h3 := qd7 (by simpa using hw)
            exact ⟨(qco h3).symm, (fun n h => by cases h), fun _ => h3⟩
      · have he' : (qr c).2 = false := by simpa using he
        have h1 := qf1 he'
        rw [if_neg he]
        rw [qb9 h1] at hem ⊢
        simp only at hem ⊢
        rw [hx _ h1, qb9 h1, qco h1]
        exact ⟨rfl, (fun n h => by cases h), fun _ => h1⟩
    · rw [if_neg hk, if_neg (show ¬ begP c = true by simp [begP, hl, hk])]
      exact ⟨rfl, (fun n h => by cases h), fun _ => qgz c⟩
theorem qon (hp : ∀ c, Mon c (rp c).1) (hm : ∀ c, Mon c (rr c).1) : ∀ (f g : Nat) (c : K) (acc : List N), rest c < f → em c < g → em c ≤ b →
    (qhe rp f c acc).1 = (qev rr g c acc).1 ∧ (∀ l, (qhe rp f c acc).2 = some l → l = (qev rr g c acc).2) ∧ ((qhe rp f c acc).2 = none → (qhe rp f c acc).1.err ≠ 0)
  | 0, _, _, _ => fun h _ _ => by omega
  | _, 0, _, _ => fun _ h _ => by omega
  | f + 1, g + 1, c, acc => fun hf hg hb => by
    rw [qhe, qev]
    by_cases hk : begP c = true
    · rw [if_pos hk, if_pos hk]
      obtain ⟨a1, a2, a3⟩ := qo8 hx ih hb
      have hl := qis hm hk
      rw [← a1] at hl ⊢
      cases ho : (qb1 rp c).2 with
      | none =>
        have h3 := a3 ho
        rw [if_neg (by simp), qt6 h3]
        exact ⟨rfl, (fun n h => by cases h), fun _ => h3⟩
      | some n =>
        rw [if_pos (by rfl), ← a2 n ho]
        exact qon hp hm f g _ _ (by have := qns hp (c := c) (by rw [ho]; rfl); omega) (by omega) (by omega)
    · rw [if_neg hk, if_neg hk]
      exact ⟨rfl, (fun l h => by cases h; rfl), (fun h => by cases h)⟩
end
theorem qvc : ∀ (f : Nat) (c : K), em c < f → qec (qcy f c) (qd6 f c)
  | 0, _ => fun h => by omega
  | f + 1, c => fun hf => by
    have ih := qvc f
    have hx : ∀ c : K, c.err ≠ 0 → (qd6 f c).1 = c := fun c h => by rw [qtf f h]
    by_cases he : (qr c).2 = true
    · have h1 := (qbb c).em
      rw [qcy, qd6, if_pos he]
      by_cases hk : (qbg (qr c).1).kind = 2
      · rw [if_pos hk, if_pos hk]
        have hr := qbm (c := (qr c).1) (by omega)
        obtain ⟨a1, a2, a3⟩ := qon hx ih (qfg f) (qgi f) (rest (qr c).1 + 1) (em (qbc (qr c).1) + 1) (qbc (qr c).1) [] (by omega) (by omega) (by have := (qbw (qr c).1).em; omega)
        rw [← a1]
        generalize qhe (qcy f) (rest (qr c).1 + 1) (qbc (qr c).1) [] = r at *
        obtain ⟨d, o⟩ := r
        cases o with
        | none =>
          have h3 := a3 rfl
          simp only at h3
          refine ⟨rfl, (fun n h => by cases h), fun _ => ?_⟩
          simp only
          rwa [qco h3]
        | some l => exact ⟨rfl, (fun n h => by cases h; rw [a2 l rfl]), (fun h => by cases h)⟩
      · rw [if_neg hk, if_neg hk]
        obtain ⟨a1, a2, a3⟩ := qo8 hx ih (c := (qr c).1) (by omega)
        rw [← a1]
        exact ⟨rfl, a2, fun h => by simp only at h ⊢; rw [qco (a3 h)]; exact a3 h⟩
    · have he' : (qr c).2 = false := by simpa using he
      have h1 := qf1 he'
      rw [qcy, if_neg he, qd6, qe8 h1, if_neg (by decide), qmg h1]
      exact ⟨(qco h1).symm, (fun n h => by cases h), fun _ => h1⟩
end Go.Proofs.YtmekebfgmjaenaaGreat
