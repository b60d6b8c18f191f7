/- A text of this proof. -/
import Derived.Test.YtmekebfgmjaenaaRbc

/- patterns: what is read (plain); the program -/
set_option maxRecDepth 4000
namespace Go.Proofs.Ytmekebfgmjaenaa
open Go Go.RowKit Go.V
set_option linter.unusedVariables false
set_option linter.unusedSimpArgs false

/-! Patterns. -/
def leafP (c : K) : Option N :=
  if (qw c).kind = 1 then some (.mk 11 (qw c).pos 0 (qw c).text [])
  else if (qw c).kind = 2 then some (.mk 14 (qw c).pos 0 (qw c).text [])
  else if (qw c).kind = 3 then some (.mk 13 (qw c).pos (qw c).num [] [])
  else if isK c [95] = true then some (.mk 12 (qw c).pos 0 [] [])
  else none
def begP (c : K) : Bool := (leafP c).isSome || isK c [40]
def qbj (rec : K → K × Option N) (c : K) : K × Option N :=
  if (leafP c).isSome = true then (qt c, leafP c)
  else if isK c [40] = true then
    if (qe c).2 = true then
      if (rec (qt (qe c).1)).2.isSome = true then
        if (qq (rec (qt (qe c).1)).1 [41]).2 = true then (qbn (qq (rec (qt (qe c).1)).1 [41]).1, (rec (qt (qe c).1)).2)
        else ((qq (rec (qt (qe c).1)).1 [41]).1, none)
      else ((rec (qt (qe c).1)).1, none)
    else ((qe c).1, none)
  else (qee c 5, none)
def qek (rec : K → K × Option N) : Nat → K → List N → K × Option (List N)
  | 0, c, acc => (c, none)
  | f + 1, c, acc =>
    if begP c = true then
      if (qbj rec c).2.isSome = true then qek rec f (qbj rec c).1 (acc ++ [(qbj rec c).2.getD N0])
      else ((qbj rec c).1, none)
    else (c, some acc)
def qbx : Nat → K → K × Option N
  | 0, c => (c, none)
  | f + 1, c =>
    if (qe c).2 = true then
      if (qw (qe c).1).kind = 2 then
        (qbn (qek (qbx f) (rest (qe c).1 + 1) (qt (qe c).1) []).1, (qek (qbx f) (rest (qe c).1 + 1) (qt (qe c).1) []).2.map fun ks => .mk 14 (qw (qe c).1).pos 0 (qw (qe c).1).text ks)
      else (qbn (qbj (qbx f) (qe c).1).1, (qbj (qbx f) (qe c).1).2)
    else ((qe c).1, none)

theorem qhd {c : K} {n : N} (h : leafP c = some n) : (qw c).kind ≠ 0 := by
  unfold leafP at h
  split at h
  · omega
  · split at h
    · omega
    · split at h
      · omega
      · split at h
        · exact qcg (by assumption)
        · cases h
section
variable {rec : K → K × Option N} (hm : ∀ c, Mon c (rec c).1)
include hm
theorem qij (c : K) : Mon c (qbj rec c).1 := by
  unfold qbj
  split
  · exact qbm c
  · split
    · split
      · have h1 := ((qv c).trans (qbm _)).trans (hm _)
        split
        · split
          · exact (h1.trans (qo _ _)).trans (qbc _)
          · exact h1.trans (qo _ _)
        · exact h1
      · exact qv c
    · exact qd7 c 5
theorem qm8 {c : K} (h : (qbj rec c).2.isSome = true) : rest (qbj rec c).1 < rest c := by
  unfold qbj at h ⊢
  split at h
  · rename_i hl
    rw [if_pos hl]
    obtain ⟨n, hn⟩ := Option.isSome_iff_exists.1 hl
    have := qbg (qhd hn)
    simp only; omega
  · rename_i hl
    rw [if_neg hl]
    split at h
    · rename_i hk
      rw [if_pos hk]
      split at h
      · rename_i he
        rw [if_pos he]
        have hp := qbg (c := (qe c).1) (by rw [qcp he]; exact qcg hk)
        have h0 := (qv c).2.1
        have h1 := (hm (qt (qe c).1)).2.1
        split at h
        · rename_i hr
          rw [if_pos hr]
          have h2 := (qo (rec (qt (qe c).1)).1 [41]).2.1
          split at h
          · rename_i hw
            rw [if_pos hw]
            have h3 := (qbc (qq (rec (qt (qe c).1)).1 [41]).1).2.1
            simp only; omega
          · cases h
        · cases h
      · cases h
    · cases h
theorem qq6 : ∀ (f : Nat) (c : K) (acc : List N), Mon c (qek rec f c acc).1
  | 0, c, acc => Mon.refl c
  | f + 1, c, acc => by
    rw [qek]
    split
    · split
      · exact (qij hm c).trans (qq6 f _ _)
      · exact qij hm c
    · exact Mon.refl c
end
theorem qd8 : ∀ (f : Nat) (c : K), Mon c (qbx f c).1
  | 0, c => Mon.refl c
  | f + 1, c => by
    rw [qbx]
    split
    · split
      · exact (((qv c).trans (qbm _)).trans (qq6 (qd8 f) _ _ _)).trans (qbc _)
      · exact ((qv c).trans (qij (qd8 f) _)).trans (qbc _)
    · exact qv c
theorem q0o (c : K) : qb8 Try.prog 64 (curE c) (curE c) [.ptr 0 0] (resP (leafP c)) := by
  refine q7 c0p 1 (by simp) (by simp) ?_
  repeat' (first | refine ql ?_ | refine qk ?_ | ((first | refine qn ?_ | refine qcr (by rfl) ?_ | refine qb4 ?_ | refine qm ?_ | refine qi ?_ | refine qc5 ?_ | refine a_Is ?_ | ((first | refine qf ?_ ?_ | refine qc ?_ ?_) <;> intro hc <;> (try simp only [hc]) <;> (try simp only [qb, qa, decide_eq_true_eq, decide_eq_false_iff_not, Bool.and_eq_true] at hc)) | refine And.intro (by first | assumption | omega | (have := qh (by assumption); omega) | (unfold qs; omega)) ?_ | simp (disch := omega) only [qd] | simp (disch := omega) only [qr]) <;> (try simp only [go_sem, ↓reduceIte, Nat.reduceEqDiff, Nat.reduceAdd, Nat.reduceSub, Nat.reduceMul, Nat.reduceLT, Nat.reduceLeDiff, reduceCtorEq, Int.reduceToNat])))
  all_goals (unfold leafP; simp_all [enc, encs, N0])
theorem qzm {c : K} {L : List Ent} {Q : List Ent → VO → Prop} (hq : Q (curE c :: L) (.val (resP (leafP c)))) : VApp Try.prog (curE c :: L) (.fn 64 [] []) [.ptr 0 0] Q := qc3 (q0o c) rfl hq
theorem qtq (c : K) : qb8 Try.prog 58 (curE c) (curE c) [.ptr 0 0] (.bool (begP c)) := by
  refine q7 c0q 1 (by simp) (by simp) ?_
  repeat' (first | refine ql ?_ | ((first | refine qn ?_ | refine qm ?_ | refine qzm ?_ | refine a_Is ?_ | ((first | refine qf ?_ ?_ | refine qc ?_ ?_) <;> intro hc <;> (try simp only [hc]) <;> (try simp only [qb, qa, decide_eq_true_eq, decide_eq_false_iff_not, Bool.and_eq_true] at hc)) | refine And.intro (by first | assumption | omega | (have := qh (by assumption); omega) | (unfold qs; omega)) ?_ | simp (disch := omega) only [qd] | simp (disch := omega) only [qr]) <;> (try simp only [go_sem, ↓reduceIte, Nat.reduceEqDiff, Nat.reduceAdd, Nat.reduceSub, Nat.reduceMul, Nat.reduceLT, Nat.reduceLeDiff, reduceCtorEq, Int.reduceToNat])))
  all_goals (unfold begP; simp_all)
theorem q7m {c : K} {L : List Ent} {Q : List Ent → VO → Prop} (hq : Q (curE c :: L) (.val (.bool (begP c)))) : VApp Try.prog (curE c :: L) (.fn 58 [] []) [.ptr 0 0] Q := qbw (qtq c) (qbf _ _) (qbf _ _) rfl rfl fun _ => hq
theorem qn3 {rec : K → K × Option N} {b : Nat} (hm : ∀ c, Mon c (rec c).1) (ih : ∀ c, c.good → rest c < b → qb8 Try.prog 48 (curE c) (curE (rec c).1) [.ptr 0 0] (resP (rec c).2)) (c : K) (hg : c.good) (hr : rest c ≤ b) :
    qb8 Try.prog 57 (curE c) (curE (qbj rec c).1) [.ptr 0 0] (resP (qbj rec c).2) := by
  have g1 : (qe c).1.good := (qv c).1 hg
  have g2 : (qt (qe c).1).good := (qbm _).1 g1
  have g3 : (rec (qt (qe c).1)).1.good := (hm _).1 g2
  have g4 : (qq (rec (qt (qe c).1)).1 [41]).1.good := (qo _ _).1 g3
  have hrr : isK c [40] = true → (qe c).2 = true → rest (qt (qe c).1) < b := fun h1 h2 => by
    have := qbg (c := (qe c).1) (by rw [qcp h2]; exact qcg h1)
    have := (qv c).2.1
    omega
  refine q7 c0r 1 (by simp) (by simp) ?_
  repeat' (first | refine ql ?_ | ((first | refine qn ?_ | refine qm ?_ | refine qj ?_ | refine qi ?_ | refine qzm ?_ | refine a_Is ?_ | refine qo9 ?_ | refine qgb ?_ | refine qhk hg.ok ?_ | refine qhk g1.ok ?_ | refine qc3 (ih _ g2 (hrr (by assumption) (by assumption))) rfl ?_ | refine qdc g3.ok ?_ | refine qeo g4.2.2 ?_ | ((first | refine qf ?_ ?_ | refine qc ?_ ?_) <;> intro hc <;> (try simp only [hc]) <;> (try simp only [qb, qa, decide_eq_true_eq, decide_eq_false_iff_not, Bool.and_eq_true] at hc)) | refine And.intro (by first | assumption | omega | (have := qh (by assumption); omega) | (unfold qs; omega)) ?_ | simp (disch := omega) only [qd] | simp (disch := omega) only [qr]) <;> (try simp only [go_sem, ↓reduceIte, Nat.reduceEqDiff, Nat.reduceAdd, Nat.reduceSub, Nat.reduceMul, Nat.reduceLT, Nat.reduceLeDiff, reduceCtorEq, Int.reduceToNat])))
  all_goals (unfold qbj; simp only [*, qdz, Int.reduceEq, if_true, if_false, reduceIte, Bool.false_eq_true, Option.getD_none, Option.getD_some, Option.isSome_none, Option.isSome_some, and_self, true_and, and_true]; try rfl)
/-- The name's node, as it is made. -/
def conZ (c : K) : AV := .tup [.agg [.int .i64 14, .int .i64 (qw c).pos, .int .i64 0, .str (qw c).text, .nils], .bool true]
attribute [go_sem] conZ
theorem q19 (k : Nat) (c : K) : (conZ c).bd k = true := rfl
theorem qw1 (c : K) (hc : (qw c).kind = 2) : qb8 Try.prog 64 (curE c) (curE c) [.ptr 0 0] (conZ c) := by
  refine qil c0p 1 (by simp) (by simp) ?_
  repeat' (first | refine ql ?_ | refine qk ?_ | ((first | refine qn ?_ | refine qcr (by rfl) ?_ | refine qb4 ?_ | refine qm ?_ | refine qi ?_) <;> (try simp (disch := first | omega | (simp only [List.length_set, List.length_append, List.length_cons, List.length_nil]; done) | (simp only [List.length_set, List.length_append, List.length_cons, List.length_nil]; omega)) only [hc, Int.reduceEq, go_sem, ↓reduceIte, Nat.reduceEqDiff, Nat.reduceAdd, Nat.reduceSub, Nat.reduceMul, Nat.reduceLT, Nat.reduceLeDiff, reduceCtorEq, Int.reduceToNat])) | ((first | ((first | refine qf ?_ ?_ | refine qc ?_ ?_) <;> intro hc <;> (try simp only [hc]) <;> (try simp only [qb, qa, decide_eq_true_eq, decide_eq_false_iff_not, Bool.and_eq_true] at hc)) | refine And.intro (by first | assumption | omega | (have := qh (by assumption); omega) | (unfold qs; omega)) ?_ | simp (disch := omega) only [qd] | simp (disch := omega) only [qr] | refine qc5 ?_ | refine a_Is ?_) <;> (try simp only [go_sem, ↓reduceIte, Nat.reduceEqDiff, Nat.reduceAdd, Nat.reduceSub, Nat.reduceMul, Nat.reduceLT, Nat.reduceLeDiff, reduceCtorEq, Int.reduceToNat])))
theorem qxx (c : K) (hg : c.good) (hc : (qw c).kind = 2) : qb8 Try.prog 57 (curE c) (curE (qt c)) [.ptr 0 0] (conZ c) := by
  refine qil c0r 1 (by simp) (by simp) ?_
  repeat' (first | refine ql ?_ | ((first | refine qn ?_ | refine qm ?_ | refine qj ?_ | refine qi ?_) <;> (try simp (disch := first | omega | (simp only [List.length_set, List.length_append, List.length_cons, List.length_nil]; done) | (simp only [List.length_set, List.length_append, List.length_cons, List.length_nil]; omega)) only [hc, go_sem, ↓reduceIte, Nat.reduceEqDiff, Nat.reduceAdd, Nat.reduceSub, Nat.reduceMul, Nat.reduceLT, Nat.reduceLeDiff, reduceCtorEq, Int.reduceToNat])) | ((first | ((first | refine qf ?_ ?_ | refine qc ?_ ?_) <;> intro hc <;> (try simp only [hc]) <;> (try simp only [qb, qa, decide_eq_true_eq, decide_eq_false_iff_not, Bool.and_eq_true] at hc)) | refine And.intro (by first | assumption | omega | (have := qh (by assumption); omega) | (unfold qs; omega)) ?_ | simp (disch := omega) only [qd] | simp (disch := omega) only [qr] | refine qbw (qw1 c hc) (qbf _ _) (qbf _ _) rfl (q19 _ _) fun _ => ?_ | refine qhk hg.ok ?_) <;> (try simp only [go_sem, ↓reduceIte, Nat.reduceEqDiff, Nat.reduceAdd, Nat.reduceSub, Nat.reduceMul, Nat.reduceLT, Nat.reduceLeDiff, reduceCtorEq, Int.reduceToNat])))
def q2w (p : Int) (t : List UInt8) (x : Bool × Nat × K × List N) : AF × List Ent :=
  (⟨[(0, .ptr 0 0), (2, .ptr 1 0), (4, .bool true), (5, .ptr 2 0), (6, .bool x.1)], []⟩,
    curE x.2.2.1 :: .blk [.int .i64 0, .int .i64 0, .int .i64 0, .str [], .nils] :: .blk [.int .i64 14, .int .i64 p, .int .i64 0, .str t, accV 3 (encs x.2.2.2)] :: accE 5 (encs x.2.2.2))
theorem qsc {f : Nat} (ih : ∀ c, c.good → rest c < f → qb8 Try.prog 48 (curE c) (curE (qbx f c).1) [.ptr 0 0] (resP (qbx f c).2)) (c : K) (hg : c.good) (hr : rest c < f + 1) :
    qb8 Try.prog 48 (curE c) (curE (qbx (f + 1) c).1) [.ptr 0 0] (resP (qbx (f + 1) c).2) := by
  have hm := qd8 f
  have g1 : (qe c).1.good := (qv c).1 hg
  have hr1 : rest (qe c).1 ≤ f := by have := (qv c).2.1; omega
  refine q7 c0s 1 (by simp) (by simp) ?_
  by_cases hk : (qe c).2 = true ∧ (qw (qe c).1).kind = 2
  · obtain ⟨hk1, hk2⟩ := hk
    have g2 : (qt (qe c).1).good := (qbm _).1 g1
    have hpa : qbx (f + 1) c = (qbn (qek (qbx f) (rest (qe c).1 + 1) (qt (qe c).1) []).1, (qek (qbx f) (rest (qe c).1 + 1) (qt (qe c).1) []).2.map fun ks => .mk 14 (qw (qe c).1).pos 0 (qw (qe c).1).text ks) := by rw [qbx, if_pos hk1, if_pos hk2]
    rw [hpa]
    clear hpa
    generalize htg : qek (qbx f) (rest (qe c).1 + 1) (qt (qe c).1) [] = tg
    have hmt : Mon (qt (qe c).1) tg.1 := htg ▸ qq6 hm _ _ _
    have g3 : tg.1.good := hmt.1 g2
    repeat' (first | refine ql ?_ | refine qk ?_ | ((first | refine qn ?_ | refine qm ?_ | refine qz ?_ | refine qj ?_ | refine qi ?_) <;> (try simp (disch := first | omega | (simp only [List.length_set, List.length_append, List.length_cons, List.length_nil]; done) | (simp only [List.length_set, List.length_append, List.length_cons, List.length_nil]; omega)) only [hk1, hk2, Int.reduceEq, go_sem, ↓reduceIte, Nat.reduceEqDiff, Nat.reduceAdd, Nat.reduceSub, Nat.reduceMul, Nat.reduceLT, Nat.reduceLeDiff, reduceCtorEq, Int.reduceToNat])) | ((first | ((first | refine qf ?_ ?_ | refine qc ?_ ?_) <;> intro hc <;> (try simp only [hc]) <;> (try simp only [qb, qa, decide_eq_true_eq, decide_eq_false_iff_not, Bool.and_eq_true] at hc)) | refine And.intro (by first | assumption | omega | (have := qh (by assumption); omega) | (unfold qs; omega)) ?_ | simp (disch := omega) only [qd] | simp (disch := omega) only [qr] | refine qgb ?_ | refine qc5 ?_ | refine qbw (qxx _ g1 hk2) (qbf _ _) (qbf _ _) rfl (q19 _ _) fun _ => ?_) <;> (try simp only [go_sem, ↓reduceIte, Nat.reduceEqDiff, Nat.reduceAdd, Nat.reduceSub, Nat.reduceMul, Nat.reduceLT, Nat.reduceLeDiff, reduceCtorEq, Int.reduceToNat])))
    refine qc7 (S := Bool × Nat × K × List N) (fun x => x.2.2.1.good ∧ rest x.2.2.1 ≤ f ∧ (x.1 = true → qek (qbx f) x.2.1 x.2.2.1 x.2.2.2 = tg ∧ rest x.2.2.1 < x.2.1) ∧ (x.1 = false → tg = (x.2.2.1, none)) ∧ x.2.2.2.length + rest x.2.2.1 ≤ 1048577)
      (q2w (qw (qe c).1).pos (qw (qe c).1).text) (fun x => if x.1 = true then rest x.2.2.1 + 1 else 0) ?_ ?_
    · have hrn := (qbm (qe c).1).2.1
      refine qcq (true, rest (qe c).1 + 1, qt (qe c).1, []) [0, 1, 2] ⟨g2, by simp only; omega, fun _ => ⟨htg, by simp only; omega⟩, (by intro h; cases h), ?_⟩ rfl (by simp) ?_ ?_ ?_
      · have h9 := g2.rest
        unfold rest
        simp only [List.length_nil]
        omega
      all_goals simp only [q2w, encs, qb7, qcb]
      all_goals simp only [go_sem, ↓reduceIte, Nat.reduceEqDiff, Nat.reduceAdd, Nat.reduceSub, Nat.reduceMul, Nat.reduceLT, Nat.reduceLeDiff, reduceCtorEq, Int.reduceToNat]
    · rintro ⟨b, fu, d, acc⟩ ⟨i1, i2, i3, i4, i5⟩
      simp only at i1 i2 i3 i4 i5
      unfold q2w
      cases b with
      | false =>
        have i4 := i4 rfl
        subst i4
        repeat' (first | refine ql ?_ | refine qk ?_ | ((first | refine qn ?_ | refine qm ?_ | refine qz ?_ | refine qj ?_ | refine qi ?_ | refine qeo i1.2.2 ?_ | ((first | refine qf ?_ ?_ | refine qc ?_ ?_) <;> intro hc <;> (try simp only [hc]) <;> (try simp only [qb, qa, decide_eq_true_eq, decide_eq_false_iff_not, Bool.and_eq_true] at hc)) | refine And.intro (by first | assumption | omega | (have := qh (by assumption); omega) | (unfold qs; omega)) ?_ | simp (disch := omega) only [qd] | simp (disch := omega) only [qr]) <;> (try simp only [go_sem, ↓reduceIte, Nat.reduceEqDiff, Nat.reduceAdd, Nat.reduceSub, Nat.reduceMul, Nat.reduceLT, Nat.reduceLeDiff, reduceCtorEq, Int.reduceToNat])))
        simp only [Option.map_none, Option.getD_none, Option.isSome_none, qdz]
      | true =>
        have i6 := (i3 rfl).2
        replace i3 := (i3 rfl).1
        clear i4
        obtain ⟨fu, rfl⟩ : ∃ k, fu = k + 1 := ⟨fu - 1, by omega⟩
        rw [qek] at i3
        have hcap : qs (acc.length + 1) 64 := capN (by omega)
        have j1 : (qbj (qbx f) d).1.good := (qij hm d).1 i1
        have j2 : rest (qbj (qbx f) d).1 ≤ rest d := (qij hm d).2.1
        by_cases h0 : acc = []
        · subst h0
          simp only [encs, qb7, qcb]
          repeat' (first | refine ql ?_ | refine qk ?_ | ((first | refine qn ?_ | refine qm ?_ | refine qz ?_ | refine qj ?_ | refine qi ?_ | refine q7m ?_ | refine qc3 (qn3 hm ih _ i1 i2) rfl ?_ | refine qeo i1.2.2 ?_ | ((first | refine qf ?_ ?_ | refine qc ?_ ?_) <;> intro hc <;> (try simp only [hc]) <;> (try simp only [qb, qa, decide_eq_true_eq, decide_eq_false_iff_not, Bool.and_eq_true] at hc)) | refine And.intro (by first | assumption | omega | (have := qh (by assumption); omega) | (unfold qs; omega)) ?_ | simp (disch := omega) only [qd] | simp (disch := omega) only [qr]) <;> (try simp only [go_sem, ↓reduceIte, Nat.reduceEqDiff, Nat.reduceAdd, Nat.reduceSub, Nat.reduceMul, Nat.reduceLT, Nat.reduceLeDiff, reduceCtorEq, Int.reduceToNat])))
          · have hb : begP d = true := by assumption
            have hs : (qbj (qbx f) d).2.isSome = true := by assumption
            rw [if_pos hb, if_pos hs] at i3
            have hlt := qm8 hm hs
            refine qcq (true, fu, (qbj (qbx f) d).1, [] ++ [(qbj (qbx f) d).2.getD N0]) [0, 1, 2, 4] ⟨⟨j1, by simp only; omega, fun _ => ⟨i3, by simp only; omega⟩, (by intro h; cases h), ?_⟩, by simp only [if_true]; omega⟩ rfl (by simp) ?_ ?_ ?_
            · simp only [List.length_append, List.length_cons, List.length_nil]; omega
            all_goals simp only [← qbd, qew, qev, List.nil_append, encs, qf4, qf1]
            all_goals simp only [go_sem, ↓reduceIte, Nat.reduceEqDiff, Nat.reduceAdd, Nat.reduceSub, Nat.reduceMul, Nat.reduceLT, Nat.reduceLeDiff, reduceCtorEq, Int.reduceToNat]
          · have hb : begP d = true := by assumption
            have hs : (qbj (qbx f) d).2.isSome = false := by assumption
            rw [if_pos hb, if_neg (by rw [hs]; simp)] at i3
            refine qcq (false, 0, (qbj (qbx f) d).1, []) [0, 1, 2] ⟨⟨j1, by simp only; omega, (by intro h; cases h), fun _ => i3.symm, by simp only; omega⟩, by simp only [if_true, Bool.false_eq_true, if_false]; omega⟩ rfl (by simp) ?_ ?_ ?_
            all_goals simp only [encs, qb7, qcb]
            all_goals simp only [go_sem, ↓reduceIte, Nat.reduceEqDiff, Nat.reduceAdd, Nat.reduceSub, Nat.reduceMul, Nat.reduceLT, Nat.reduceLeDiff, reduceCtorEq, Int.reduceToNat]
          · have hb : begP d = false := by assumption
            rw [if_neg (by rw [hb]; simp)] at i3
            subst i3
            simp only [Option.map_some, Option.getD_some, Option.isSome_some, enc, encs, and_self]
        · have hne := qcn h0
          simp only [qch hne, qci hne, qca]
          repeat' (first | refine ql ?_ | refine qk ?_ | ((first | refine qn ?_ | refine qm ?_ | refine qz ?_ | refine qj ?_ | refine qi ?_ | refine q7m ?_ | refine qc3 (qn3 hm ih _ i1 i2) rfl ?_ | refine qeo i1.2.2 ?_ | ((first | refine qf ?_ ?_ | refine qc ?_ ?_) <;> intro hc <;> (try simp only [hc]) <;> (try simp only [qb, qa, decide_eq_true_eq, decide_eq_false_iff_not, Bool.and_eq_true] at hc)) | refine And.intro (by first | assumption | omega | (have := qh (by assumption); omega) | (unfold qs; omega)) ?_ | simp (disch := omega) only [qd] | simp (disch := omega) only [qr]) <;> (try simp only [go_sem, ↓reduceIte, Nat.reduceEqDiff, Nat.reduceAdd, Nat.reduceSub, Nat.reduceMul, Nat.reduceLT, Nat.reduceLeDiff, reduceCtorEq, Int.reduceToNat])))
          · have hb : begP d = true := by assumption
            have hs : (qbj (qbx f) d).2.isSome = true := by assumption
            rw [if_pos hb, if_pos hs] at i3
            have hlt := qm8 hm hs
            refine qcq (true, fu, (qbj (qbx f) d).1, acc ++ [(qbj (qbx f) d).2.getD N0]) [0, 1, 2, 5] ⟨⟨j1, by simp only; omega, fun _ => ⟨i3, by simp only; omega⟩, (by intro h; cases h), ?_⟩, by simp only [if_true]; omega⟩ rfl (by simp) ?_ ?_ ?_
            · simp only [List.length_append, List.length_cons, List.length_nil]; omega
            all_goals simp only [← qbd, qew, qev, List.nil_append, encs, qf4, qf1]
            all_goals simp only [go_sem, ↓reduceIte, Nat.reduceEqDiff, Nat.reduceAdd, Nat.reduceSub, Nat.reduceMul, Nat.reduceLT, Nat.reduceLeDiff, reduceCtorEq, Int.reduceToNat]
            rw [qbd, qcm, qdq]; exact ⟨rfl, rfl⟩
          · have hb : begP d = true := by assumption
            have hs : (qbj (qbx f) d).2.isSome = false := by assumption
            rw [if_pos hb, if_neg (by rw [hs]; simp)] at i3
            refine qcq (false, 0, (qbj (qbx f) d).1, acc) [0, 1, 2, 3] ⟨⟨j1, by simp only; omega, (by intro h; cases h), fun _ => i3.symm, by simp only; omega⟩, by simp only [if_true, Bool.false_eq_true, if_false]; omega⟩ rfl (by simp) ?_ ?_ ?_
            all_goals simp only [qch hne, qci hne, qca]
            all_goals simp only [go_sem, ↓reduceIte, Nat.reduceEqDiff, Nat.reduceAdd, Nat.reduceSub, Nat.reduceMul, Nat.reduceLT, Nat.reduceLeDiff, reduceCtorEq, Int.reduceToNat]
          · have hb : begP d = false := by assumption
            rw [if_neg (by rw [hb]; simp)] at i3
            subst i3
            simp only [Option.map_some, Option.getD_some, Option.isSome_some, enc, encs, and_self]
  · by_cases hk1 : (qe c).2 = true
    · have hk2 : ¬ (qw (qe c).1).kind = 2 := fun h => hk ⟨hk1, h⟩
      have j1 : (qbj (qbx f) (qe c).1).1.good := (qij hm _).1 g1
      have hpa : qbx (f + 1) c = (qbn (qbj (qbx f) (qe c).1).1, (qbj (qbx f) (qe c).1).2) := by rw [qbx, if_pos hk1, if_neg hk2]
      rw [hpa]
      clear hpa
      repeat' (first | refine ql ?_ | refine qk ?_ | ((first | refine qn ?_ | refine qm ?_ | refine qz ?_ | refine qj ?_ | refine qi ?_) <;> (try simp (disch := first | omega | (simp only [List.length_set, List.length_append, List.length_cons, List.length_nil]; done) | (simp only [List.length_set, List.length_append, List.length_cons, List.length_nil]; omega)) only [hk1, hk2, go_sem, ↓reduceIte, Nat.reduceEqDiff, Nat.reduceAdd, Nat.reduceSub, Nat.reduceMul, Nat.reduceLT, Nat.reduceLeDiff, reduceCtorEq, Int.reduceToNat])) | ((first | ((first | refine qf ?_ ?_ | refine qc ?_ ?_) <;> intro hc <;> (try simp only [hc]) <;> (try simp only [qb, qa, decide_eq_true_eq, decide_eq_false_iff_not, Bool.and_eq_true] at hc)) | refine And.intro (by first | assumption | omega | (have := qh (by assumption); omega) | (unfold qs; omega)) ?_ | simp (disch := omega) only [qd] | simp (disch := omega) only [qr] | refine qgb ?_ | refine qc5 ?_ | refine qc3 (qn3 hm ih _ g1 hr1) rfl ?_) <;> (try simp only [go_sem, ↓reduceIte, Nat.reduceEqDiff, Nat.reduceAdd, Nat.reduceSub, Nat.reduceMul, Nat.reduceLT, Nat.reduceLeDiff, reduceCtorEq, Int.reduceToNat])))
      generalize hr' : qbj (qbx f) (qe c).1 = r at j1
      refine qc7 (S := Unit) (fun _ => True) (fun _ => (⟨[(0, .ptr 0 0), (2, .ptr 1 0), (4, .bool false), (5, .ptr 2 0), (6, .bool r.2.isSome)], []⟩, [curE r.1, .blk [.int .i64 0, .int .i64 0, .int .i64 0, .str [], .nils], .blk (enc (r.2.getD N0)).cells])) (fun _ => 0) ?_ ?_
      · refine qcq () [0, 1, 2] trivial rfl (by simp) ?_ ?_ ?_ <;> (try simp only [go_sem, ↓reduceIte, Nat.reduceEqDiff, Nat.reduceAdd, Nat.reduceSub, Nat.reduceMul, Nat.reduceLT, Nat.reduceLeDiff, reduceCtorEq, Int.reduceToNat]) <;> (try simp (disch := omega) only [qr])
      · intro _ _
        repeat' (first | refine ql ?_ | refine qk ?_ | ((first | refine qn ?_ | refine qm ?_ | refine qz ?_ | refine qj ?_ | refine qi ?_ | refine qeo j1.2.2 ?_ | ((first | refine qf ?_ ?_ | refine qc ?_ ?_) <;> intro hc <;> (try simp only [hc]) <;> (try simp only [qb, qa, decide_eq_true_eq, decide_eq_false_iff_not, Bool.and_eq_true] at hc)) | refine And.intro (by first | assumption | omega | (have := qh (by assumption); omega) | (unfold qs; omega)) ?_ | simp (disch := omega) only [qd] | simp (disch := omega) only [qr]) <;> (try simp only [go_sem, ↓reduceIte, Nat.reduceEqDiff, Nat.reduceAdd, Nat.reduceSub, Nat.reduceMul, Nat.reduceLT, Nat.reduceLeDiff, reduceCtorEq, Int.reduceToNat])))
        have hs : r.2 = none := by
          have : r.2.isSome = false := by assumption
          revert this
          cases r.2 <;> simp
        rw [hs, qdz]; rfl
    · have hk1 : (qe c).2 = false := by simpa using hk1
      have hpa : qbx (f + 1) c = ((qe c).1, none) := by rw [qbx, if_neg (by rw [hk1]; simp)]
      rw [hpa]
      repeat' (first | refine ql ?_ | refine qk ?_ | ((first | refine qn ?_ | refine qm ?_ | refine qz ?_ | refine qj ?_ | refine qi ?_) <;> (try simp (disch := first | omega | (simp only [List.length_set, List.length_append, List.length_cons, List.length_nil]; done) | (simp only [List.length_set, List.length_append, List.length_cons, List.length_nil]; omega)) only [hk1, go_sem, ↓reduceIte, Nat.reduceEqDiff, Nat.reduceAdd, Nat.reduceSub, Nat.reduceMul, Nat.reduceLT, Nat.reduceLeDiff, reduceCtorEq, Int.reduceToNat])) | ((first | ((first | refine qf ?_ ?_ | refine qc ?_ ?_) <;> intro hc <;> (try simp only [hc]) <;> (try simp only [qb, qa, decide_eq_true_eq, decide_eq_false_iff_not, Bool.and_eq_true] at hc)) | refine And.intro (by first | assumption | omega | (have := qh (by assumption); omega) | (unfold qs; omega)) ?_ | simp (disch := omega) only [qd] | simp (disch := omega) only [qr] | refine qgb ?_) <;> (try simp only [go_sem, ↓reduceIte, Nat.reduceEqDiff, Nat.reduceAdd, Nat.reduceSub, Nat.reduceMul, Nat.reduceLT, Nat.reduceLeDiff, reduceCtorEq, Int.reduceToNat])))
      rw [qdz]; rfl
theorem qbbf (f : Nat) : ∀ c : K, c.good → rest c < f → qb8 Try.prog 48 (curE c) (curE (qbx f c).1) [.ptr 0 0] (resP (qbx f c).2) := by
  induction f with
  | zero => exact fun c _ h => absurd h (by omega)
  | succ f ih => exact qsc ih
end Go.Proofs.Ytmekebfgmjaenaa
