/- A text of this proof. -/
import Derived.Test.YtmekebfgmjaenaaPbc

/- patterns: what is read (plain); the program -/
set_option maxRecDepth 4000
namespace Go.Proofs.Ytmekebfgmjaenaa
open Go Go.RowKit Go.V
set_option linter.unusedVariables false
set_option linter.unusedSimpArgs false

/-! Patterns. -/
def leafP (c : K) : Option N :=
  if (qw c).kind = 1 then some (.mk 11 (qw c).pos 0 (qw c).text [])
  else if (qw c).kind = 2 then some (.mk 14 (qw c).pos 0 (qw c).text [])
  else if (qw c).kind = 3 then some (.mk 13 (qw c).pos (qw c).num [] [])
  else if isK c [95] = true then some (.mk 12 (qw c).pos 0 [] [])
  else none
def begP (c : K) : Bool := (leafP c).isSome || isK c [40]
def qbn (rec : K → K × Option N) (c : K) : K × Option N :=
  if (leafP c).isSome = true then (qs c, leafP c)
  else if isK c [40] = true then
    if (qe c).2 = true then
      if (rec (qs (qe c).1)).2.isSome = true then
        if (qr (rec (qs (qe c).1)).1 [41]).2 = true then (qbv (qr (rec (qs (qe c).1)).1 [41]).1, (rec (qs (qe c).1)).2)
        else ((qr (rec (qs (qe c).1)).1 [41]).1, none)
      else ((rec (qs (qe c).1)).1, none)
    else ((qe c).1, none)
  else (qee c 5, none)
def qeq (rec : K → K × Option N) : Nat → K → List N → K × Option (List N)
  | 0, c, acc => (c, none)
  | f + 1, c, acc =>
    if begP c = true then
      if (qbn rec c).2.isSome = true then qeq rec f (qbn rec c).1 (acc ++ [(qbn rec c).2.getD N0])
      else ((qbn rec c).1, none)
    else (c, some acc)
def qb1 : Nat → K → K × Option N
  | 0, c => (c, none)
  | f + 1, c =>
    if (qe c).2 = true then
      if (qw (qe c).1).kind = 2 then
        (qbv (qeq (qb1 f) (rest (qe c).1 + 1) (qs (qe c).1) []).1, (qeq (qb1 f) (rest (qe c).1 + 1) (qs (qe c).1) []).2.map fun ks => .mk 14 (qw (qe c).1).pos 0 (qw (qe c).1).text ks)
      else (qbv (qbn (qb1 f) (qe c).1).1, (qbn (qb1 f) (qe c).1).2)
    else ((qe c).1, none)

theorem qhp {c : K} {n : N} (h : leafP c = some n) : (qw c).kind ≠ 0 := by
  unfold leafP at h
  split at h
  · omega
  · split at h
    · omega
    · split at h
      · omega
      · split at h
        · exact qcd (by assumption)
        · cases h
section
variable {rec : K → K × Option N} (hm : ∀ c, Mon c (rec c).1)
include hm
theorem qip (c : K) : Mon c (qbn rec c).1 := by
  unfold qbn
  split
  · exact qbm c
  · split
    · split
      · have h1 := ((qx c).trans (qbm _)).trans (hm _)
        split
        · split
          · exact (h1.trans (qo _ _)).trans (qbg _)
          · exact h1.trans (qo _ _)
        · exact h1
      · exact qx c
    · exact qec c 5
theorem qmv {c : K} (h : (qbn rec c).2.isSome = true) : rest (qbn rec c).1 < rest c := by
  unfold qbn at h ⊢
  split at h
  · rename_i hl
    rw [if_pos hl]
    obtain ⟨n, hn⟩ := Option.isSome_iff_exists.1 hl
    have := qbh (qhp hn)
    simp only; omega
  · rename_i hl
    rw [if_neg hl]
    split at h
    · rename_i hk
      rw [if_pos hk]
      split at h
      · rename_i he
        rw [if_pos he]
        have hp := qbh (c := (qe c).1) (by rw [qcu he]; exact qcd hk)
        have h0 := (qx c).2.1
        have h1 := (hm (qs (qe c).1)).2.1
        split at h
        · rename_i hr
          rw [if_pos hr]
          have h2 := (qo (rec (qs (qe c).1)).1 [41]).2.1
          split at h
          · rename_i hw
            rw [if_pos hw]
            have h3 := (qbg (qr (rec (qs (qe c).1)).1 [41]).1).2.1
            simp only; omega
          · cases h
        · cases h
      · cases h
    · cases h
theorem qqy : ∀ (f : Nat) (c : K) (acc : List N), Mon c (qeq rec f c acc).1
  | 0, c, acc => Mon.refl c
  | f + 1, c, acc => by
    rw [qeq]
    split
    · split
      · exact (qip hm c).trans (qqy f _ _)
      · exact qip hm c
    · exact Mon.refl c
end
theorem qd8 : ∀ (f : Nat) (c : K), Mon c (qb1 f c).1
  | 0, c => Mon.refl c
  | f + 1, c => by
    rw [qb1]
    split
    · split
      · exact (((qx c).trans (qbm _)).trans (qqy (qd8 f) _ _ _)).trans (qbg _)
      · exact ((qx c).trans (qip (qd8 f) _)).trans (qbg _)
    · exact qx c
theorem q0a (c : K) : qca Try.prog 64 (curE c) (curE c) [.ptr 0 0] (resP (leafP c)) := by
  refine q9 c0p 1 (by simp) (by simp) ?_
  repeat' (first | refine ql ?_ | refine qk ?_ | ((first | refine qn ?_ | refine qcw (by rfl) ?_ | refine qb6 ?_ | refine qm ?_ | refine qi ?_ | refine qc8 ?_ | refine a_Is ?_ | ((first | refine qf ?_ ?_ | refine qc ?_ ?_) <;> intro hc <;> (try simp only [hc]) <;> (try simp only [qb, qa, decide_eq_true_eq, decide_eq_false_iff_not, Bool.and_eq_true] at hc)) | refine And.intro (by first | assumption | omega | (have := qh (by assumption); omega) | (unfold qt; omega)) ?_ | simp (disch := omega) only [qd] | simp (disch := omega) only [qq]) <;> (try simp only [go_sem, ↓reduceIte, Nat.reduceEqDiff, Nat.reduceAdd, Nat.reduceSub, Nat.reduceMul, Nat.reduceLT, Nat.reduceLeDiff, reduceCtorEq, Int.reduceToNat])))
  all_goals (unfold leafP; simp_all [enc, encs, N0])
theorem qz4 {c : K} {L : List Ent} {Q : List Ent → VO → Prop} (hq : Q (curE c :: L) (.val (resP (leafP c)))) : VApp Try.prog (curE c :: L) (.fn 64 [] []) [.ptr 0 0] Q := qc7 (q0a c) rfl hq
theorem qud (c : K) : qca Try.prog 58 (curE c) (curE c) [.ptr 0 0] (.bool (begP c)) := by
  refine q9 c0q 1 (by simp) (by simp) ?_
  repeat' (first | refine ql ?_ | ((first | refine qn ?_ | refine qm ?_ | refine qz4 ?_ | refine a_Is ?_ | ((first | refine qf ?_ ?_ | refine qc ?_ ?_) <;> intro hc <;> (try simp only [hc]) <;> (try simp only [qb, qa, decide_eq_true_eq, decide_eq_false_iff_not, Bool.and_eq_true] at hc)) | refine And.intro (by first | assumption | omega | (have := qh (by assumption); omega) | (unfold qt; omega)) ?_ | simp (disch := omega) only [qd] | simp (disch := omega) only [qq]) <;> (try simp only [go_sem, ↓reduceIte, Nat.reduceEqDiff, Nat.reduceAdd, Nat.reduceSub, Nat.reduceMul, Nat.reduceLT, Nat.reduceLeDiff, reduceCtorEq, Int.reduceToNat])))
  all_goals (unfold begP; simp_all)
theorem q7t {c : K} {L : List Ent} {Q : List Ent → VO → Prop} (hq : Q (curE c :: L) (.val (.bool (begP c)))) : VApp Try.prog (curE c :: L) (.fn 58 [] []) [.ptr 0 0] Q := qb0 (qud c) (qbk _ _) (qbk _ _) rfl rfl fun _ => hq
theorem qnm {rec : K → K × Option N} {b : Nat} (hm : ∀ c, Mon c (rec c).1) (ih : ∀ c, c.good → rest c < b → qca Try.prog 48 (curE c) (curE (rec c).1) [.ptr 0 0] (resP (rec c).2)) (c : K) (hg : c.good) (hr : rest c ≤ b) :
    qca Try.prog 57 (curE c) (curE (qbn rec c).1) [.ptr 0 0] (resP (qbn rec c).2) := by
  have g1 : (qe c).1.good := (qx c).1 hg
  have g2 : (qs (qe c).1).good := (qbm _).1 g1
  have g3 : (rec (qs (qe c).1)).1.good := (hm _).1 g2
  have g4 : (qr (rec (qs (qe c).1)).1 [41]).1.good := (qo _ _).1 g3
  have hrr : isK c [40] = true → (qe c).2 = true → rest (qs (qe c).1) < b := fun h1 h2 => by
    have := qbh (c := (qe c).1) (by rw [qcu h2]; exact qcd h1)
    have := (qx c).2.1
    omega
  refine q9 c0r 1 (by simp) (by simp) ?_
  repeat' (first | refine ql ?_ | ((first | refine qn ?_ | refine qm ?_ | refine qj ?_ | refine qi ?_ | refine qz4 ?_ | refine a_Is ?_ | refine qpr ?_ | refine qgk ?_ | refine qh9 hg.ok ?_ | refine qh9 g1.ok ?_ | refine qc7 (ih _ g2 (hrr (by assumption) (by assumption))) rfl ?_ | refine qde g3.ok ?_ | refine qek g4.2.2 ?_ | ((first | refine qf ?_ ?_ | refine qc ?_ ?_) <;> intro hc <;> (try simp only [hc]) <;> (try simp only [qb, qa, decide_eq_true_eq, decide_eq_false_iff_not, Bool.and_eq_true] at hc)) | refine And.intro (by first | assumption | omega | (have := qh (by assumption); omega) | (unfold qt; omega)) ?_ | simp (disch := omega) only [qd] | simp (disch := omega) only [qq]) <;> (try simp only [go_sem, ↓reduceIte, Nat.reduceEqDiff, Nat.reduceAdd, Nat.reduceSub, Nat.reduceMul, Nat.reduceLT, Nat.reduceLeDiff, reduceCtorEq, Int.reduceToNat])))
  all_goals (unfold qbn; simp only [*, qd3, Int.reduceEq, if_true, if_false, reduceIte, Bool.false_eq_true, Option.getD_none, Option.getD_some, Option.isSome_none, Option.isSome_some, and_self, true_and, and_true]; try rfl)
/-- The name's node, as it is made. -/
def conZ (c : K) : AV := .tup [.agg [.int .i64 14, .int .i64 (qw c).pos, .int .i64 0, .str (qw c).text, .nils], .bool true]
attribute [go_sem] conZ
theorem qz7 (k : Nat) (c : K) : (conZ c).bd k = true := rfl
theorem qy0 (c : K) (hc : (qw c).kind = 2) : qca Try.prog 64 (curE c) (curE c) [.ptr 0 0] (conZ c) := by
  refine qie c0p 1 (by simp) (by simp) ?_
  repeat' (first | refine ql ?_ | refine qk ?_ | ((first | refine qn ?_ | refine qcw (by rfl) ?_ | refine qb6 ?_ | refine qm ?_ | refine qi ?_) <;> (try simp (disch := first | omega | (simp only [List.length_set, List.length_append, List.length_cons, List.length_nil]; done) | (simp only [List.length_set, List.length_append, List.length_cons, List.length_nil]; omega)) only [hc, Int.reduceEq, go_sem, ↓reduceIte, Nat.reduceEqDiff, Nat.reduceAdd, Nat.reduceSub, Nat.reduceMul, Nat.reduceLT, Nat.reduceLeDiff, reduceCtorEq, Int.reduceToNat])) | ((first | ((first | refine qf ?_ ?_ | refine qc ?_ ?_) <;> intro hc <;> (try simp only [hc]) <;> (try simp only [qb, qa, decide_eq_true_eq, decide_eq_false_iff_not, Bool.and_eq_true] at hc)) | refine And.intro (by first | assumption | omega | (have := qh (by assumption); omega) | (unfold qt; omega)) ?_ | simp (disch := omega) only [qd] | simp (disch := omega) only [qq] | refine qc8 ?_ | refine a_Is ?_) <;> (try simp only [go_sem, ↓reduceIte, Nat.reduceEqDiff, Nat.reduceAdd, Nat.reduceSub, Nat.reduceMul, Nat.reduceLT, Nat.reduceLeDiff, reduceCtorEq, Int.reduceToNat])))
theorem qyk (c : K) (hg : c.good) (hc : (qw c).kind = 2) : qca Try.prog 57 (curE c) (curE (qs c)) [.ptr 0 0] (conZ c) := by
  refine qie c0r 1 (by simp) (by simp) ?_
  repeat' (first | refine ql ?_ | ((first | refine qn ?_ | refine qm ?_ | refine qj ?_ | refine qi ?_) <;> (try simp (disch := first | omega | (simp only [List.length_set, List.length_append, List.length_cons, List.length_nil]; done) | (simp only [List.length_set, List.length_append, List.length_cons, List.length_nil]; omega)) only [hc, go_sem, ↓reduceIte, Nat.reduceEqDiff, Nat.reduceAdd, Nat.reduceSub, Nat.reduceMul, Nat.reduceLT, Nat.reduceLeDiff, reduceCtorEq, Int.reduceToNat])) | ((first | ((first | refine qf ?_ ?_ | refine qc ?_ ?_) <;> intro hc <;> (try simp only [hc]) <;> (try simp only [qb, qa, decide_eq_true_eq, decide_eq_false_iff_not, Bool.and_eq_true] at hc)) | refine And.intro (by first | assumption | omega | (have := qh (by assumption); omega) | (unfold qt; omega)) ?_ | simp (disch := omega) only [qd] | simp (disch := omega) only [qq] | refine qb0 (qy0 c hc) (qbk _ _) (qbk _ _) rfl (qz7 _ _) fun _ => ?_ | refine qh9 hg.ok ?_) <;> (try simp only [go_sem, ↓reduceIte, Nat.reduceEqDiff, Nat.reduceAdd, Nat.reduceSub, Nat.reduceMul, Nat.reduceLT, Nat.reduceLeDiff, reduceCtorEq, Int.reduceToNat])))
def q0u (p : Int) (t : List UInt8) (x : Bool × Nat × K × List N) : AF × List Ent :=
  (⟨[(0, .ptr 0 0), (2, .ptr 1 0), (4, .bool true), (5, .ptr 2 0), (6, .bool x.1)], []⟩,
    curE x.2.2.1 :: .blk [.int .i64 0, .int .i64 0, .int .i64 0, .str [], .nils] :: .blk [.int .i64 14, .int .i64 p, .int .i64 0, .str t, accV 3 (encs x.2.2.2)] :: accE 5 (encs x.2.2.2))
theorem qs8 {f : Nat} (ih : ∀ c, c.good → rest c < f → qca Try.prog 48 (curE c) (curE (qb1 f c).1) [.ptr 0 0] (resP (qb1 f c).2)) (c : K) (hg : c.good) (hr : rest c < f + 1) :
    qca Try.prog 48 (curE c) (curE (qb1 (f + 1) c).1) [.ptr 0 0] (resP (qb1 (f + 1) c).2) := by
  have hm := qd8 f
  have g1 : (qe c).1.good := (qx c).1 hg
  have hr1 : rest (qe c).1 ≤ f := by have := (qx c).2.1; omega
  refine q9 c0s 1 (by simp) (by simp) ?_
  by_cases hk : (qe c).2 = true ∧ (qw (qe c).1).kind = 2
  · obtain ⟨hk1, hk2⟩ := hk
    have g2 : (qs (qe c).1).good := (qbm _).1 g1
    have hpa : qb1 (f + 1) c = (qbv (qeq (qb1 f) (rest (qe c).1 + 1) (qs (qe c).1) []).1, (qeq (qb1 f) (rest (qe c).1 + 1) (qs (qe c).1) []).2.map fun ks => .mk 14 (qw (qe c).1).pos 0 (qw (qe c).1).text ks) := by rw [qb1, if_pos hk1, if_pos hk2]
    rw [hpa]
    clear hpa
    generalize htg : qeq (qb1 f) (rest (qe c).1 + 1) (qs (qe c).1) [] = tg
    have hmt : Mon (qs (qe c).1) tg.1 := htg ▸ qqy hm _ _ _
    have g3 : tg.1.good := hmt.1 g2
    repeat' (first | refine ql ?_ | refine qk ?_ | ((first | refine qn ?_ | refine qm ?_ | refine qz ?_ | refine qj ?_ | refine qi ?_) <;> (try simp (disch := first | omega | (simp only [List.length_set, List.length_append, List.length_cons, List.length_nil]; done) | (simp only [List.length_set, List.length_append, List.length_cons, List.length_nil]; omega)) only [hk1, hk2, Int.reduceEq, go_sem, ↓reduceIte, Nat.reduceEqDiff, Nat.reduceAdd, Nat.reduceSub, Nat.reduceMul, Nat.reduceLT, Nat.reduceLeDiff, reduceCtorEq, Int.reduceToNat])) | ((first | ((first | refine qf ?_ ?_ | refine qc ?_ ?_) <;> intro hc <;> (try simp only [hc]) <;> (try simp only [qb, qa, decide_eq_true_eq, decide_eq_false_iff_not, Bool.and_eq_true] at hc)) | refine And.intro (by first | assumption | omega | (have := qh (by assumption); omega) | (unfold qt; omega)) ?_ | simp (disch := omega) only [qd] | simp (disch := omega) only [qq] | refine qgk ?_ | refine qc8 ?_ | refine qb0 (qyk _ g1 hk2) (qbk _ _) (qbk _ _) rfl (qz7 _ _) fun _ => ?_) <;> (try simp only [go_sem, ↓reduceIte, Nat.reduceEqDiff, Nat.reduceAdd, Nat.reduceSub, Nat.reduceMul, Nat.reduceLT, Nat.reduceLeDiff, reduceCtorEq, Int.reduceToNat])))
    refine qc5 (S := Bool × Nat × K × List N) (fun x => x.2.2.1.good ∧ rest x.2.2.1 ≤ f ∧ (x.1 = true → qeq (qb1 f) x.2.1 x.2.2.1 x.2.2.2 = tg ∧ rest x.2.2.1 < x.2.1) ∧ (x.1 = false → tg = (x.2.2.1, none)) ∧ x.2.2.2.length + rest x.2.2.1 ≤ 1048577)
      (q0u (qw (qe c).1).pos (qw (qe c).1).text) (fun x => if x.1 = true then rest x.2.2.1 + 1 else 0) ?_ ?_
    · have hrn := (qbm (qe c).1).2.1
      refine qcq (true, rest (qe c).1 + 1, qs (qe c).1, []) [0, 1, 2] ⟨g2, by simp only; omega, fun _ => ⟨htg, by simp only; omega⟩, (by intro h; cases h), ?_⟩ rfl (by simp) ?_ ?_ ?_
      · have h9 := g2.rest
        unfold rest
        simp only [List.length_nil]
        omega
      all_goals simp only [q0u, encs, qb8, qce]
      all_goals simp only [go_sem, ↓reduceIte, Nat.reduceEqDiff, Nat.reduceAdd, Nat.reduceSub, Nat.reduceMul, Nat.reduceLT, Nat.reduceLeDiff, reduceCtorEq, Int.reduceToNat]
    · rintro ⟨b, fu, d, acc⟩ ⟨i1, i2, i3, i4, i5⟩
      simp only at i1 i2 i3 i4 i5
      unfold q0u
      cases b with
      | false =>
        have i4 := i4 rfl
        subst i4
        repeat' (first | refine ql ?_ | refine qk ?_ | ((first | refine qn ?_ | refine qm ?_ | refine qz ?_ | refine qj ?_ | refine qi ?_ | refine qek i1.2.2 ?_ | ((first | refine qf ?_ ?_ | refine qc ?_ ?_) <;> intro hc <;> (try simp only [hc]) <;> (try simp only [qb, qa, decide_eq_true_eq, decide_eq_false_iff_not, Bool.and_eq_true] at hc)) | refine And.intro (by first | assumption | omega | (have := qh (by assumption); omega) | (unfold qt; omega)) ?_ | simp (disch := omega) only [qd] | simp (disch := omega) only [qq]) <;> (try simp only [go_sem, ↓reduceIte, Nat.reduceEqDiff, Nat.reduceAdd, Nat.reduceSub, Nat.reduceMul, Nat.reduceLT, Nat.reduceLeDiff, reduceCtorEq, Int.reduceToNat])))
        simp only [Option.map_none, Option.getD_none, Option.isSome_none, qd3]
      | true =>
        have i6 := (i3 rfl).2
        replace i3 := (i3 rfl).1
        clear i4
        obtain ⟨fu, rfl⟩ : ∃ k, fu = k + 1 := ⟨fu - 1, by omega⟩
        rw [qeq] at i3
        have hcap : qt (acc.length + 1) 64 := capN (by omega)
        have j1 : (qbn (qb1 f) d).1.good := (qip hm d).1 i1
        have j2 : rest (qbn (qb1 f) d).1 ≤ rest d := (qip hm d).2.1
        by_cases h0 : acc = []
        · subst h0
          simp only [encs, qb8, qce]
          repeat' (first | refine ql ?_ | refine qk ?_ | ((first | refine qn ?_ | refine qm ?_ | refine qz ?_ | refine qj ?_ | refine qi ?_ | refine q7t ?_ | refine qc7 (qnm hm ih _ i1 i2) rfl ?_ | refine qek i1.2.2 ?_ | ((first | refine qf ?_ ?_ | refine qc ?_ ?_) <;> intro hc <;> (try simp only [hc]) <;> (try simp only [qb, qa, decide_eq_true_eq, decide_eq_false_iff_not, Bool.and_eq_true] at hc)) | refine And.intro (by first | assumption | omega | (have := qh (by assumption); omega) | (unfold qt; omega)) ?_ | simp (disch := omega) only [qd] | simp (disch := omega) only [qq]) <;> (try simp only [go_sem, ↓reduceIte, Nat.reduceEqDiff, Nat.reduceAdd, Nat.reduceSub, Nat.reduceMul, Nat.reduceLT, Nat.reduceLeDiff, reduceCtorEq, Int.reduceToNat])))
          · have hb : begP d = true := by assumption
            have hs : (qbn (qb1 f) d).2.isSome = true := by assumption
            rw [if_pos hb, if_pos hs] at i3
            have hlt := qmv hm hs
            refine qcq (true, fu, (qbn (qb1 f) d).1, [] ++ [(qbn (qb1 f) d).2.getD N0]) [0, 1, 2, 4] ⟨⟨j1, by simp only; omega, fun _ => ⟨i3, by simp only; omega⟩, (by intro h; cases h), ?_⟩, by simp only [if_true]; omega⟩ rfl (by simp) ?_ ?_ ?_
            · simp only [List.length_append, List.length_cons, List.length_nil]; omega
            all_goals simp only [← qbf, qe2, qe0, List.nil_append, encs, qf5, qgf]
            all_goals simp only [go_sem, ↓reduceIte, Nat.reduceEqDiff, Nat.reduceAdd, Nat.reduceSub, Nat.reduceMul, Nat.reduceLT, Nat.reduceLeDiff, reduceCtorEq, Int.reduceToNat]
          · have hb : begP d = true := by assumption
            have hs : (qbn (qb1 f) d).2.isSome = false := by assumption
            rw [if_pos hb, if_neg (by rw [hs]; simp)] at i3
            refine qcq (false, 0, (qbn (qb1 f) d).1, []) [0, 1, 2] ⟨⟨j1, by simp only; omega, (by intro h; cases h), fun _ => i3.symm, by simp only; omega⟩, by simp only [if_true, Bool.false_eq_true, if_false]; omega⟩ rfl (by simp) ?_ ?_ ?_
            all_goals simp only [encs, qb8, qce]
            all_goals simp only [go_sem, ↓reduceIte, Nat.reduceEqDiff, Nat.reduceAdd, Nat.reduceSub, Nat.reduceMul, Nat.reduceLT, Nat.reduceLeDiff, reduceCtorEq, Int.reduceToNat]
          · have hb : begP d = false := by assumption
            rw [if_neg (by rw [hb]; simp)] at i3
            subst i3
            simp only [Option.map_some, Option.getD_some, Option.isSome_some, enc, encs, and_self]
        · have hne := qcr h0
          simp only [qcm hne, qcl hne, qcc]
          repeat' (first | refine ql ?_ | refine qk ?_ | ((first | refine qn ?_ | refine qm ?_ | refine qz ?_ | refine qj ?_ | refine qi ?_ | refine q7t ?_ | refine qc7 (qnm hm ih _ i1 i2) rfl ?_ | refine qek i1.2.2 ?_ | ((first | refine qf ?_ ?_ | refine qc ?_ ?_) <;> intro hc <;> (try simp only [hc]) <;> (try simp only [qb, qa, decide_eq_true_eq, decide_eq_false_iff_not, Bool.and_eq_true] at hc)) | refine And.intro (by first | assumption | omega | (have := qh (by assumption); omega) | (unfold qt; omega)) ?_ | simp (disch := omega) only [qd] | simp (disch := omega) only [qq]) <;> (try simp only [go_sem, ↓reduceIte, Nat.reduceEqDiff, Nat.reduceAdd, Nat.reduceSub, Nat.reduceMul, Nat.reduceLT, Nat.reduceLeDiff, reduceCtorEq, Int.reduceToNat])))
          · have hb : begP d = true := by assumption
            have hs : (qbn (qb1 f) d).2.isSome = true := by assumption
            rw [if_pos hb, if_pos hs] at i3
            have hlt := qmv hm hs
            refine qcq (true, fu, (qbn (qb1 f) d).1, acc ++ [(qbn (qb1 f) d).2.getD N0]) [0, 1, 2, 5] ⟨⟨j1, by simp only; omega, fun _ => ⟨i3, by simp only; omega⟩, (by intro h; cases h), ?_⟩, by simp only [if_true]; omega⟩ rfl (by simp) ?_ ?_ ?_
            · simp only [List.length_append, List.length_cons, List.length_nil]; omega
            all_goals simp only [← qbf, qe2, qe0, List.nil_append, encs, qf5, qgf]
            all_goals simp only [go_sem, ↓reduceIte, Nat.reduceEqDiff, Nat.reduceAdd, Nat.reduceSub, Nat.reduceMul, Nat.reduceLT, Nat.reduceLeDiff, reduceCtorEq, Int.reduceToNat]
            rw [qbf, qcs, qdr]; exact ⟨rfl, rfl⟩
          · have hb : begP d = true := by assumption
            have hs : (qbn (qb1 f) d).2.isSome = false := by assumption
            rw [if_pos hb, if_neg (by rw [hs]; simp)] at i3
            refine qcq (false, 0, (qbn (qb1 f) d).1, acc) [0, 1, 2, 3] ⟨⟨j1, by simp only; omega, (by intro h; cases h), fun _ => i3.symm, by simp only; omega⟩, by simp only [if_true, Bool.false_eq_true, if_false]; omega⟩ rfl (by simp) ?_ ?_ ?_
            all_goals simp only [qcm hne, qcl hne, qcc]
            all_goals simp only [go_sem, ↓reduceIte, Nat.reduceEqDiff, Nat.reduceAdd, Nat.reduceSub, Nat.reduceMul, Nat.reduceLT, Nat.reduceLeDiff, reduceCtorEq, Int.reduceToNat]
          · have hb : begP d = false := by assumption
            rw [if_neg (by rw [hb]; simp)] at i3
            subst i3
            simp only [Option.map_some, Option.getD_some, Option.isSome_some, enc, encs, and_self]
  · by_cases hk1 : (qe c).2 = true
    · have hk2 : ¬ (qw (qe c).1).kind = 2 := fun h => hk ⟨hk1, h⟩
      have j1 : (qbn (qb1 f) (qe c).1).1.good := (qip hm _).1 g1
      have hpa : qb1 (f + 1) c = (qbv (qbn (qb1 f) (qe c).1).1, (qbn (qb1 f) (qe c).1).2) := by rw [qb1, if_pos hk1, if_neg hk2]
      rw [hpa]
      clear hpa
      repeat' (first | refine ql ?_ | refine qk ?_ | ((first | refine qn ?_ | refine qm ?_ | refine qz ?_ | refine qj ?_ | refine qi ?_) <;> (try simp (disch := first | omega | (simp only [List.length_set, List.length_append, List.length_cons, List.length_nil]; done) | (simp only [List.length_set, List.length_append, List.length_cons, List.length_nil]; omega)) only [hk1, hk2, go_sem, ↓reduceIte, Nat.reduceEqDiff, Nat.reduceAdd, Nat.reduceSub, Nat.reduceMul, Nat.reduceLT, Nat.reduceLeDiff, reduceCtorEq, Int.reduceToNat])) | ((first | ((first | refine qf ?_ ?_ | refine qc ?_ ?_) <;> intro hc <;> (try simp only [hc]) <;> (try simp only [qb, qa, decide_eq_true_eq, decide_eq_false_iff_not, Bool.and_eq_true] at hc)) | refine And.intro (by first | assumption | omega | (have := qh (by assumption); omega) | (unfold qt; omega)) ?_ | simp (disch := omega) only [qd] | simp (disch := omega) only [qq] | refine qgk ?_ | refine qc8 ?_ | refine qc7 (qnm hm ih _ g1 hr1) rfl ?_) <;> (try simp only [go_sem, ↓reduceIte, Nat.reduceEqDiff, Nat.reduceAdd, Nat.reduceSub, Nat.reduceMul, Nat.reduceLT, Nat.reduceLeDiff, reduceCtorEq, Int.reduceToNat])))
      generalize hr' : qbn (qb1 f) (qe c).1 = r at j1
      refine qc5 (S := Unit) (fun _ => True) (fun _ => (⟨[(0, .ptr 0 0), (2, .ptr 1 0), (4, .bool false), (5, .ptr 2 0), (6, .bool r.2.isSome)], []⟩, [curE r.1, .blk [.int .i64 0, .int .i64 0, .int .i64 0, .str [], .nils], .blk (enc (r.2.getD N0)).cells])) (fun _ => 0) ?_ ?_
      · refine qcq () [0, 1, 2] trivial rfl (by simp) ?_ ?_ ?_ <;> (try simp only [go_sem, ↓reduceIte, Nat.reduceEqDiff, Nat.reduceAdd, Nat.reduceSub, Nat.reduceMul, Nat.reduceLT, Nat.reduceLeDiff, reduceCtorEq, Int.reduceToNat]) <;> (try simp (disch := omega) only [qq])
      · intro _ _
        repeat' (first | refine ql ?_ | refine qk ?_ | ((first | refine qn ?_ | refine qm ?_ | refine qz ?_ | refine qj ?_ | refine qi ?_ | refine qek j1.2.2 ?_ | ((first | refine qf ?_ ?_ | refine qc ?_ ?_) <;> intro hc <;> (try simp only [hc]) <;> (try simp only [qb, qa, decide_eq_true_eq, decide_eq_false_iff_not, Bool.and_eq_true] at hc)) | refine And.intro (by first | assumption | omega | (have := qh (by assumption); omega) | (unfold qt; omega)) ?_ | simp (disch := omega) only [qd] | simp (disch := omega) only [qq]) <;> (try simp only [go_sem, ↓reduceIte, Nat.reduceEqDiff, Nat.reduceAdd, Nat.reduceSub, Nat.reduceMul, Nat.reduceLT, Nat.reduceLeDiff, reduceCtorEq, Int.reduceToNat])))
        have hs : r.2 = none := by
          have : r.2.isSome = false := by assumption
          revert this
          cases r.2 <;> simp
        rw [hs, qd3]; rfl
    · have hk1 : (qe c).2 = false := by simpa using hk1
      have hpa : qb1 (f + 1) c = ((qe c).1, none) := by rw [qb1, if_neg (by rw [hk1]; simp)]
      rw [hpa]
      repeat' (first | refine ql ?_ | refine qk ?_ | ((first | refine qn ?_ | refine qm ?_ | refine qz ?_ | refine qj ?_ | refine qi ?_) <;> (try simp (disch := first | omega | (simp only [List.length_set, List.length_append, List.length_cons, List.length_nil]; done) | (simp only [List.length_set, List.length_append, List.length_cons, List.length_nil]; omega)) only [hk1, go_sem, ↓reduceIte, Nat.reduceEqDiff, Nat.reduceAdd, Nat.reduceSub, Nat.reduceMul, Nat.reduceLT, Nat.reduceLeDiff, reduceCtorEq, Int.reduceToNat])) | ((first | ((first | refine qf ?_ ?_ | refine qc ?_ ?_) <;> intro hc <;> (try simp only [hc]) <;> (try simp only [qb, qa, decide_eq_true_eq, decide_eq_false_iff_not, Bool.and_eq_true] at hc)) | refine And.intro (by first | assumption | omega | (have := qh (by assumption); omega) | (unfold qt; omega)) ?_ | simp (disch := omega) only [qd] | simp (disch := omega) only [qq] | refine qgk ?_) <;> (try simp only [go_sem, ↓reduceIte, Nat.reduceEqDiff, Nat.reduceAdd, Nat.reduceSub, Nat.reduceMul, Nat.reduceLT, Nat.reduceLeDiff, reduceCtorEq, Int.reduceToNat])))
      rw [qd3]; rfl
theorem qbb4 (f : Nat) : ∀ c : K, c.good → rest c < f → qca Try.prog 48 (curE c) (curE (qb1 f c).1) [.ptr 0 0] (resP (qb1 f c).2) := by
  induction f with
  | zero => exact fun c _ h => absurd h (by omega)
  | succ f ih => exact qs8 ih
end Go.Proofs.Ytmekebfgmjaenaa
