/- Texts of this proof, joined. -/
import Derived.Test.YtmekebfgmjaenaaGreatAbc

/- patterns: what is read (plain); the program -/
set_option maxRecDepth 4000
namespace Go.Proofs.YtmekebfgmjaenaaGreat
open Go Go.RowKit Go.V
set_option linter.unusedVariables false
set_option linter.unusedSimpArgs false

/-! Patterns. -/
def qjb (c : K) : Option N :=
  if (qbc c).kind = 1 then some (.mk 11 (qbc c).pos 0 (qbc c).text [])
  else if (qbc c).kind = 2 then some (.mk 14 (qbc c).pos 0 (qbc c).text [])
  else if (qbc c).kind = 3 then some (.mk 13 (qbc c).pos (qbc c).num [] [])
  else if isK c [95] = true then some (.mk 12 (qbc c).pos 0 [] [])
  else none
def begP (c : K) : Bool := (qjb c).isSome || isK c [40]
def qbz (rec : K → K × Option N) (c : K) : K × Option N :=
  if (qjb c).isSome = true then (q8 c, qjb c)
  else if isK c [40] = true then
    if (qh c).2 = true then
      if (rec (q8 (qh c).1)).2.isSome = true then
        if (qu (rec (q8 (qh c).1)).1 [41]).2 = true then (qcg (qu (rec (q8 (qh c).1)).1 [41]).1, (rec (q8 (qh c).1)).2)
        else ((qu (rec (q8 (qh c).1)).1 [41]).1, none)
      else ((rec (q8 (qh c).1)).1, none)
    else ((qh c).1, none)
  else (qfc c 5, none)
def qhe (rec : K → K × Option N) : Nat → K → List N → K × Option (List N)
  | 0, c, acc => (c, none)
  | f + 1, c, acc =>
    if begP c = true then
      if (qbz rec c).2.isSome = true then qhe rec f (qbz rec c).1 (acc ++ [(qbz rec c).2.getD N0])
      else ((qbz rec c).1, none)
    else (c, some acc)
def qcv : Nat → K → K × Option N
  | 0, c => (c, none)
  | f + 1, c =>
    if (qh c).2 = true then
      if (qbc (qh c).1).kind = 2 then
        (qcg (qhe (qcv f) (rest (qh c).1 + 1) (q8 (qh c).1) []).1, (qhe (qcv f) (rest (qh c).1 + 1) (q8 (qh c).1) []).2.map fun ks => .mk 14 (qbc (qh c).1).pos 0 (qbc (qh c).1).text ks)
      else (qcg (qbz (qcv f) (qh c).1).1, (qbz (qcv f) (qh c).1).2)
    else ((qh c).1, none)

theorem qj9 {c : K} {n : N} (h : qjb c = some n) : (qbc c).kind ≠ 0 := by
  unfold qjb at h
  split at h
  · omega
  · split at h
    · omega
    · split at h
      · omega
      · split at h
        · exact qdn (by assumption)
        · cases h
section
variable {rec : K → K × Option N} (hm : ∀ c, Mon c (rec c).1)
include hm
theorem qi3 (c : K) : Mon c (qbz rec c).1 := by
  unfold qbz
  split
  · exact qbt c
  · split
    · split
      · have h1 := ((qy c).trans (qbt _)).trans (hm _)
        split
        · split
          · exact (h1.trans (qp _ _)).trans (qbv _)
          · exact h1.trans (qp _ _)
        · exact h1
      · exact qy c
    · exact qfa c 5
theorem qnr {c : K} (h : (qbz rec c).2.isSome = true) : rest (qbz rec c).1 < rest c := by
  unfold qbz at h ⊢
  split at h
  · rename_i hl
    rw [if_pos hl]
    obtain ⟨n, hn⟩ := Option.isSome_iff_exists.1 hl
    have := qbj (qj9 hn)
    simp only; omega
  · rename_i hl
    rw [if_neg hl]
    split at h
    · rename_i hk
      rw [if_pos hk]
      split at h
      · rename_i he
        rw [if_pos he]
        have hp := qbj (c := (qh c).1) (by rw [qeg he]; exact qdn hk)
        have h0 := (qy c).2.1
        have h1 := (hm (q8 (qh c).1)).2.1
        split at h
        · rename_i hr
          rw [if_pos hr]
          have h2 := (qp (rec (q8 (qh c).1)).1 [41]).2.1
          split at h
          · rename_i hw
            rw [if_pos hw]
            have h3 := (qbv (qu (rec (q8 (qh c).1)).1 [41]).1).2.1
            simp only; omega
          · cases h
        · cases h
      · cases h
    · cases h
theorem qq2 : ∀ (f : Nat) (c : K) (acc : List N), Mon c (qhe rec f c acc).1
  | 0, c, acc => Mon.refl c
  | f + 1, c, acc => by
    rw [qhe]
    split
    · split
      · exact (qi3 hm c).trans (qq2 f _ _)
      · exact qi3 hm c
    · exact Mon.refl c
end
theorem qfh : ∀ (f : Nat) (c : K), Mon c (qcv f c).1
  | 0, c => Mon.refl c
  | f + 1, c => by
    rw [qcv]
    split
    · split
      · exact (((qy c).trans (qbt _)).trans (qq2 (qfh f) _ _ _)).trans (qbv _)
      · exact ((qy c).trans (qi3 (qfh f) _)).trans (qbv _)
    · exact qy c
theorem q1e (c : K) : qco Tryz.prog 133 (curE c) (curE c) [.ptr 0 0] (resP (qjb c)) := by
  refine qbd c0bf 1 (by simp) (by simp) ?_
  repeat' (first | refine ql ?_ | refine qk ?_ | ((first | refine qn ?_ | refine qx (by rfl) ?_ | refine qw ?_ | refine qm ?_ | refine qi ?_ | refine qdt ?_ | refine a_Is ?_); simp only [go_sem, ↓reduceIte, Nat.reduceEqDiff, Nat.reduceAdd, Nat.reduceSub, Nat.reduceMul, Nat.reduceLT, Nat.reduceLeDiff, reduceCtorEq, Int.reduceToNat]) | ((first | refine qf ?_ ?_ | refine qd ?_ ?_) <;> intro hc <;> simp only [hc, go_sem, ↓reduceIte, Nat.reduceEqDiff, Nat.reduceAdd, Nat.reduceSub, Nat.reduceMul, Nat.reduceLT, Nat.reduceLeDiff, reduceCtorEq, Int.reduceToNat] <;> (try simp only [qb, qa, decide_eq_true_eq, decide_eq_false_iff_not, Bool.and_eq_true] at hc)) | refine And.intro (by first | assumption | omega | (have := qg (by assumption); omega) | (unfold qq; omega)) ?_ | fail)
  all_goals (unfold qjb; simp_all [enc, encs, N0])
theorem q2x {c : K} {L : List Ent} {Q : List Ent → VO → Prop} (hq : Q (curE c :: L) (.val (resP (qjb c)))) : VApp Tryz.prog (curE c :: L) (.fn 133 [] []) [.ptr 0 0] Q := qdh (q1e c) rfl hq
theorem qt3 (c : K) : qco Tryz.prog 119 (curE c) (curE c) [.ptr 0 0] (.bool (begP c)) := by
  refine qbd c0bg 1 (by simp) (by simp) ?_
  repeat' (first | refine ql ?_ | ((first | refine qn ?_ | refine qm ?_ | refine q2x ?_ | refine a_Is ?_); simp only [go_sem, ↓reduceIte, Nat.reduceEqDiff, Nat.reduceAdd, Nat.reduceSub, Nat.reduceMul, Nat.reduceLT, Nat.reduceLeDiff, reduceCtorEq, Int.reduceToNat]) | ((first | refine qf ?_ ?_ | refine qd ?_ ?_) <;> intro hc <;> simp only [hc, go_sem, ↓reduceIte, Nat.reduceEqDiff, Nat.reduceAdd, Nat.reduceSub, Nat.reduceMul, Nat.reduceLT, Nat.reduceLeDiff, reduceCtorEq, Int.reduceToNat] <;> (try simp only [qb, qa, decide_eq_true_eq, decide_eq_false_iff_not, Bool.and_eq_true] at hc)) | refine And.intro (by first | assumption | omega | (have := qg (by assumption); omega) | (unfold qq; omega)) ?_ | fail)
  all_goals (unfold begP; simp_all)
theorem q9x {c : K} {L : List Ent} {Q : List Ent → VO → Prop} (hq : Q (curE c :: L) (.val (.bool (begP c)))) : VApp Tryz.prog (curE c :: L) (.fn 119 [] []) [.ptr 0 0] Q := qb2 (qt3 c) (qbh _ _) (qbh _ _) rfl rfl fun _ => hq
theorem qmx {rec : K → K × Option N} {b : Nat} (hm : ∀ c, Mon c (rec c).1) (ih : ∀ c, c.good → rest c < b → qco Tryz.prog 91 (curE c) (curE (rec c).1) [.ptr 0 0] (resP (rec c).2)) (c : K) (hg : c.good) (hr : rest c ≤ b) :
    qco Tryz.prog 118 (curE c) (curE (qbz rec c).1) [.ptr 0 0] (resP (qbz rec c).2) := by
  have g1 : (qh c).1.good := (qy c).1 hg
  have g2 : (q8 (qh c).1).good := (qbt _).1 g1
  have g3 : (rec (q8 (qh c).1)).1.good := (hm _).1 g2
  have g4 : (qu (rec (q8 (qh c).1)).1 [41]).1.good := (qp _ _).1 g3
  have hrr : isK c [40] = true → (qh c).2 = true → rest (q8 (qh c).1) < b := fun h1 h2 => by
    have := qbj (c := (qh c).1) (by rw [qeg h2]; exact qdn h1)
    have := (qy c).2.1
    omega
  refine qbd c0bh 1 (by simp) (by simp) ?_
  repeat' (first | refine ql ?_ | ((first | refine qn ?_ | refine qm ?_ | refine qj ?_ | refine qi ?_ | refine q2x ?_ | refine a_Is ?_ | refine qpk ?_ | refine qg9 ?_ | refine qin hg.ok ?_ | refine qin g1.ok ?_ | refine qdh (ih _ g2 (hrr (by assumption) (by assumption))) rfl ?_ | refine qdz g3.ok ?_ | refine qfs g4.2.2 ?_); simp only [go_sem, ↓reduceIte, Nat.reduceEqDiff, Nat.reduceAdd, Nat.reduceSub, Nat.reduceMul, Nat.reduceLT, Nat.reduceLeDiff, reduceCtorEq, Int.reduceToNat]) | ((first | refine qf ?_ ?_ | refine qd ?_ ?_) <;> intro hc <;> simp only [hc, go_sem, ↓reduceIte, Nat.reduceEqDiff, Nat.reduceAdd, Nat.reduceSub, Nat.reduceMul, Nat.reduceLT, Nat.reduceLeDiff, reduceCtorEq, Int.reduceToNat] <;> (try simp only [qb, qa, decide_eq_true_eq, decide_eq_false_iff_not, Bool.and_eq_true] at hc)) | refine And.intro (by first | assumption | omega | (have := qg (by assumption); omega) | (unfold qq; omega)) ?_ | fail)
  all_goals (unfold qbz; simp only [*, qd7, Int.reduceEq, if_true, if_false, reduceIte, Bool.false_eq_true, Option.getD_none, Option.getD_some, Option.isSome_none, Option.isSome_some, and_self, true_and, and_true]; try rfl)
/-- The name's node, as it is made. -/
def conZ (c : K) : AV := .tup [.agg [.int .i64 14, .int .i64 (qbc c).pos, .int .i64 0, .str (qbc c).text, .nils], .bool true]
attribute [go_sem] conZ
theorem q26 (k : Nat) (c : K) : (conZ c).bd k = true := rfl
theorem qyt (c : K) (hc : (qbc c).kind = 2) : qco Tryz.prog 133 (curE c) (curE c) [.ptr 0 0] (conZ c) := by
  refine qi2 c0bf 1 (by simp) (by simp) ?_
  repeat' (first | refine ql ?_ | refine qk ?_ | ((first | refine qn ?_ | refine qx (by rfl) ?_ | refine qw ?_ | refine qm ?_ | refine qi ?_); simp (disch := first | omega | (simp only [List.length_set, List.length_append, List.length_cons, List.length_nil]; done) | (simp only [List.length_set, List.length_append, List.length_cons, List.length_nil]; omega)) only [hc, Int.reduceEq, go_sem, ↓reduceIte, Nat.reduceEqDiff, Nat.reduceAdd, Nat.reduceSub, Nat.reduceMul, Nat.reduceLT, Nat.reduceLeDiff, reduceCtorEq, Int.reduceToNat]) | ((first | refine qf ?_ ?_ | refine qd ?_ ?_) <;> intro hc <;> simp only [hc, go_sem, ↓reduceIte, Nat.reduceEqDiff, Nat.reduceAdd, Nat.reduceSub, Nat.reduceMul, Nat.reduceLT, Nat.reduceLeDiff, reduceCtorEq, Int.reduceToNat] <;> (try simp only [qb, qa, decide_eq_true_eq, decide_eq_false_iff_not, Bool.and_eq_true] at hc)) | refine And.intro (by first | assumption | omega | (have := qg (by assumption); omega) | (unfold qq; omega)) ?_ | fail | ((first | refine qdt ?_ | refine a_Is ?_); simp only [go_sem, ↓reduceIte, Nat.reduceEqDiff, Nat.reduceAdd, Nat.reduceSub, Nat.reduceMul, Nat.reduceLT, Nat.reduceLeDiff, reduceCtorEq, Int.reduceToNat]))
theorem qxc (c : K) (hg : c.good) (hc : (qbc c).kind = 2) : qco Tryz.prog 118 (curE c) (curE (q8 c)) [.ptr 0 0] (conZ c) := by
  refine qi2 c0bh 1 (by simp) (by simp) ?_
  repeat' (first | refine ql ?_ | ((first | refine qn ?_ | refine qm ?_ | refine qj ?_ | refine qi ?_); simp (disch := first | omega | (simp only [List.length_set, List.length_append, List.length_cons, List.length_nil]; done) | (simp only [List.length_set, List.length_append, List.length_cons, List.length_nil]; omega)) only [hc, go_sem, ↓reduceIte, Nat.reduceEqDiff, Nat.reduceAdd, Nat.reduceSub, Nat.reduceMul, Nat.reduceLT, Nat.reduceLeDiff, reduceCtorEq, Int.reduceToNat]) | ((first | refine qf ?_ ?_ | refine qd ?_ ?_) <;> intro hc <;> simp only [hc, go_sem, ↓reduceIte, Nat.reduceEqDiff, Nat.reduceAdd, Nat.reduceSub, Nat.reduceMul, Nat.reduceLT, Nat.reduceLeDiff, reduceCtorEq, Int.reduceToNat] <;> (try simp only [qb, qa, decide_eq_true_eq, decide_eq_false_iff_not, Bool.and_eq_true] at hc)) | refine And.intro (by first | assumption | omega | (have := qg (by assumption); omega) | (unfold qq; omega)) ?_ | fail | ((first | refine qb2 (qyt c hc) (qbh _ _) (qbh _ _) rfl (q26 _ _) fun _ => ?_ | refine qin hg.ok ?_); simp only [go_sem, ↓reduceIte, Nat.reduceEqDiff, Nat.reduceAdd, Nat.reduceSub, Nat.reduceMul, Nat.reduceLT, Nat.reduceLeDiff, reduceCtorEq, Int.reduceToNat]))
def q0q (p : Int) (t : List UInt8) (x : Bool × Nat × K × List N) : AF × List Ent :=
  (⟨[(0, .ptr 0 0), (2, .ptr 1 0), (4, .bool true), (5, .ptr 2 0), (6, .bool x.1)], []⟩,
    curE x.2.2.1 :: .blk [.int .i64 0, .int .i64 0, .int .i64 0, .str [], .nils] :: .blk [.int .i64 14, .int .i64 p, .int .i64 0, .str t, accV 3 (encs x.2.2.2)] :: accE 5 (encs x.2.2.2))
theorem qtc {f : Nat} (ih : ∀ c, c.good → rest c < f → qco Tryz.prog 91 (curE c) (curE (qcv f c).1) [.ptr 0 0] (resP (qcv f c).2)) (c : K) (hg : c.good) (hr : rest c < f + 1) :
    qco Tryz.prog 91 (curE c) (curE (qcv (f + 1) c).1) [.ptr 0 0] (resP (qcv (f + 1) c).2) := by
  have hm := qfh f
  have g1 : (qh c).1.good := (qy c).1 hg
  have hr1 : rest (qh c).1 ≤ f := by have := (qy c).2.1; omega
  refine qbd c0bi 1 (by simp) (by simp) ?_
  by_cases hk : (qh c).2 = true ∧ (qbc (qh c).1).kind = 2
  · obtain ⟨hk1, hk2⟩ := hk
    have g2 : (q8 (qh c).1).good := (qbt _).1 g1
    have hpa : qcv (f + 1) c = (qcg (qhe (qcv f) (rest (qh c).1 + 1) (q8 (qh c).1) []).1, (qhe (qcv f) (rest (qh c).1 + 1) (q8 (qh c).1) []).2.map fun ks => .mk 14 (qbc (qh c).1).pos 0 (qbc (qh c).1).text ks) := by rw [qcv, if_pos hk1, if_pos hk2]
    rw [hpa]
    clear hpa
    generalize htg : qhe (qcv f) (rest (qh c).1 + 1) (q8 (qh c).1) [] = tg
    have hmt : Mon (q8 (qh c).1) tg.1 := htg ▸ qq2 hm _ _ _
    have g3 : tg.1.good := hmt.1 g2
    repeat' (first | refine ql ?_ | refine qk ?_ | ((first | refine qn ?_ | refine qm ?_ | refine qs ?_ | refine qj ?_ | refine qi ?_); simp (disch := first | omega | (simp only [List.length_set, List.length_append, List.length_cons, List.length_nil]; done) | (simp only [List.length_set, List.length_append, List.length_cons, List.length_nil]; omega)) only [hk1, hk2, Int.reduceEq, go_sem, ↓reduceIte, Nat.reduceEqDiff, Nat.reduceAdd, Nat.reduceSub, Nat.reduceMul, Nat.reduceLT, Nat.reduceLeDiff, reduceCtorEq, Int.reduceToNat]) | ((first | refine qf ?_ ?_ | refine qd ?_ ?_) <;> intro hc <;> simp only [hc, go_sem, ↓reduceIte, Nat.reduceEqDiff, Nat.reduceAdd, Nat.reduceSub, Nat.reduceMul, Nat.reduceLT, Nat.reduceLeDiff, reduceCtorEq, Int.reduceToNat] <;> (try simp only [qb, qa, decide_eq_true_eq, decide_eq_false_iff_not, Bool.and_eq_true] at hc)) | refine And.intro (by first | assumption | omega | (have := qg (by assumption); omega) | (unfold qq; omega)) ?_ | fail | ((first | refine qg9 ?_ | refine qdt ?_ | refine qb2 (qxc _ g1 hk2) (qbh _ _) (qbh _ _) rfl (q26 _ _) fun _ => ?_); simp only [go_sem, ↓reduceIte, Nat.reduceEqDiff, Nat.reduceAdd, Nat.reduceSub, Nat.reduceMul, Nat.reduceLT, Nat.reduceLeDiff, reduceCtorEq, Int.reduceToNat]))
    refine qca (S := Bool × Nat × K × List N) (fun x => x.2.2.1.good ∧ rest x.2.2.1 ≤ f ∧ (x.1 = true → qhe (qcv f) x.2.1 x.2.2.1 x.2.2.2 = tg ∧ rest x.2.2.1 < x.2.1) ∧ (x.1 = false → tg = (x.2.2.1, none)) ∧ x.2.2.2.length + rest x.2.2.1 ≤ 1048577)
      (q0q (qbc (qh c).1).pos (qbc (qh c).1).text) (fun x => if x.1 = true then rest x.2.2.1 + 1 else 0) ?_ ?_
    · have hrn := (qbt (qh c).1).2.1
      refine qbq (true, rest (qh c).1 + 1, q8 (qh c).1, []) [0, 1, 2] ⟨g2, by simp only; omega, fun _ => ⟨htg, by simp only; omega⟩, (by intro h; cases h), ?_⟩ rfl (by simp) ?_ ?_ ?_
      · have h9 := g2.rest
        unfold rest
        simp only [List.length_nil]
        omega
      all_goals simp only [q0q, encs, qbs, qbu]
      all_goals simp only [go_sem, ↓reduceIte, Nat.reduceEqDiff, Nat.reduceAdd, Nat.reduceSub, Nat.reduceMul, Nat.reduceLT, Nat.reduceLeDiff, reduceCtorEq, Int.reduceToNat]
    · rintro ⟨b, fu, d, acc⟩ ⟨i1, i2, i3, i4, i5⟩
      simp only at i1 i2 i3 i4 i5
      unfold q0q
      cases b with
      | false =>
        have i4 := i4 rfl
        subst i4
        repeat' (first | refine ql ?_ | refine qk ?_ | ((first | refine qn ?_ | refine qm ?_ | refine qs ?_ | refine qj ?_ | refine qi ?_ | refine qfs i1.2.2 ?_); simp only [go_sem, ↓reduceIte, Nat.reduceEqDiff, Nat.reduceAdd, Nat.reduceSub, Nat.reduceMul, Nat.reduceLT, Nat.reduceLeDiff, reduceCtorEq, Int.reduceToNat]) | ((first | refine qf ?_ ?_ | refine qd ?_ ?_) <;> intro hc <;> simp only [hc, go_sem, ↓reduceIte, Nat.reduceEqDiff, Nat.reduceAdd, Nat.reduceSub, Nat.reduceMul, Nat.reduceLT, Nat.reduceLeDiff, reduceCtorEq, Int.reduceToNat] <;> (try simp only [qb, qa, decide_eq_true_eq, decide_eq_false_iff_not, Bool.and_eq_true] at hc)) | refine And.intro (by first | assumption | omega | (have := qg (by assumption); omega) | (unfold qq; omega)) ?_ | fail)
        simp only [Option.map_none, Option.getD_none, Option.isSome_none, qd7]
      | true =>
        have i6 := (i3 rfl).2
        replace i3 := (i3 rfl).1
        clear i4
        obtain ⟨fu, rfl⟩ : ∃ k, fu = k + 1 := ⟨fu - 1, by omega⟩
        rw [qhe] at i3
        have hcap : qq (acc.length + 1) 64 := capN (by omega)
        have j1 : (qbz (qcv f) d).1.good := (qi3 hm d).1 i1
        have j2 : rest (qbz (qcv f) d).1 ≤ rest d := (qi3 hm d).2.1
        by_cases h0 : acc = []
        · subst h0
          simp only [encs, qbs, qbu]
          repeat' (first | refine ql ?_ | refine qk ?_ | ((first | refine qn ?_ | refine qm ?_ | refine qs ?_ | refine qj ?_ | refine qi ?_ | refine q9x ?_ | refine qdh (qmx hm ih _ i1 i2) rfl ?_ | refine qfs i1.2.2 ?_); simp only [go_sem, ↓reduceIte, Nat.reduceEqDiff, Nat.reduceAdd, Nat.reduceSub, Nat.reduceMul, Nat.reduceLT, Nat.reduceLeDiff, reduceCtorEq, Int.reduceToNat]) | ((first | refine qf ?_ ?_ | refine qd ?_ ?_) <;> intro hc <;> simp only [hc, go_sem, ↓reduceIte, Nat.reduceEqDiff, Nat.reduceAdd, Nat.reduceSub, Nat.reduceMul, Nat.reduceLT, Nat.reduceLeDiff, reduceCtorEq, Int.reduceToNat] <;> (try simp only [qb, qa, decide_eq_true_eq, decide_eq_false_iff_not, Bool.and_eq_true] at hc)) | refine And.intro (by first | assumption | omega | (have := qg (by assumption); omega) | (unfold qq; omega)) ?_ | fail)
          · have hb : begP d = true := by assumption
            have hs : (qbz (qcv f) d).2.isSome = true := by assumption
            rw [if_pos hb, if_pos hs] at i3
            have hlt := qnr hm hs
            refine qbq (true, fu, (qbz (qcv f) d).1, [] ++ [(qbz (qcv f) d).2.getD N0]) [0, 1, 2, 4] ⟨⟨j1, by simp only; omega, fun _ => ⟨i3, by simp only; omega⟩, (by intro h; cases h), ?_⟩, by simp only [if_true]; omega⟩ rfl (by simp) ?_ ?_ ?_
            · simp only [List.length_append, List.length_cons, List.length_nil]; omega
            all_goals simp only [← qz, qcr, qcs, List.nil_append, encs, qdc, qdd]
            all_goals simp only [go_sem, ↓reduceIte, Nat.reduceEqDiff, Nat.reduceAdd, Nat.reduceSub, Nat.reduceMul, Nat.reduceLT, Nat.reduceLeDiff, reduceCtorEq, Int.reduceToNat]
          · have hb : begP d = true := by assumption
            have hs : (qbz (qcv f) d).2.isSome = false := by assumption
            rw [if_pos hb, if_neg (by rw [hs]; simp)] at i3
            refine qbq (false, 0, (qbz (qcv f) d).1, []) [0, 1, 2] ⟨⟨j1, by simp only; omega, (by intro h; cases h), fun _ => i3.symm, by simp only; omega⟩, by simp only [if_true, Bool.false_eq_true, if_false]; omega⟩ rfl (by simp) ?_ ?_ ?_
            all_goals simp only [encs, qbs, qbu]
            all_goals simp only [go_sem, ↓reduceIte, Nat.reduceEqDiff, Nat.reduceAdd, Nat.reduceSub, Nat.reduceMul, Nat.reduceLT, Nat.reduceLeDiff, reduceCtorEq, Int.reduceToNat]
          · have hb : begP d = false := by assumption
            rw [if_neg (by rw [hb]; simp)] at i3
            subst i3
            simp only [Option.map_some, Option.getD_some, Option.isSome_some, enc, encs, and_self]
        · have hne := qch h0
          simp only [qb9 hne, qb7 hne, qb0]
          repeat' (first | refine ql ?_ | refine qk ?_ | ((first | refine qn ?_ | refine qm ?_ | refine qs ?_ | refine qj ?_ | refine qi ?_ | refine q9x ?_ | refine qdh (qmx hm ih _ i1 i2) rfl ?_ | refine qfs i1.2.2 ?_); simp only [go_sem, ↓reduceIte, Nat.reduceEqDiff, Nat.reduceAdd, Nat.reduceSub, Nat.reduceMul, Nat.reduceLT, Nat.reduceLeDiff, reduceCtorEq, Int.reduceToNat]) | ((first | refine qf ?_ ?_ | refine qd ?_ ?_) <;> intro hc <;> simp only [hc, go_sem, ↓reduceIte, Nat.reduceEqDiff, Nat.reduceAdd, Nat.reduceSub, Nat.reduceMul, Nat.reduceLT, Nat.reduceLeDiff, reduceCtorEq, Int.reduceToNat] <;> (try simp only [qb, qa, decide_eq_true_eq, decide_eq_false_iff_not, Bool.and_eq_true] at hc)) | refine And.intro (by first | assumption | omega | (have := qg (by assumption); omega) | (unfold qq; omega)) ?_ | fail)
          · have hb : begP d = true := by assumption
            have hs : (qbz (qcv f) d).2.isSome = true := by assumption
            rw [if_pos hb, if_pos hs] at i3
            have hlt := qnr hm hs
            refine qbq (true, fu, (qbz (qcv f) d).1, acc ++ [(qbz (qcv f) d).2.getD N0]) [0, 1, 2, 5] ⟨⟨j1, by simp only; omega, fun _ => ⟨i3, by simp only; omega⟩, (by intro h; cases h), ?_⟩, by simp only [if_true]; omega⟩ rfl (by simp) ?_ ?_ ?_
            · simp only [List.length_append, List.length_cons, List.length_nil]; omega
            all_goals simp only [← qz, qcr, qcs, List.nil_append, encs, qdc, qdd]
            all_goals simp only [go_sem, ↓reduceIte, Nat.reduceEqDiff, Nat.reduceAdd, Nat.reduceSub, Nat.reduceMul, Nat.reduceLT, Nat.reduceLeDiff, reduceCtorEq, Int.reduceToNat]
            rw [qz, qb8, qc1]; exact ⟨rfl, rfl⟩
          · have hb : begP d = true := by assumption
            have hs : (qbz (qcv f) d).2.isSome = false := by assumption
            rw [if_pos hb, if_neg (by rw [hs]; simp)] at i3
            refine qbq (false, 0, (qbz (qcv f) d).1, acc) [0, 1, 2, 3] ⟨⟨j1, by simp only; omega, (by intro h; cases h), fun _ => i3.symm, by simp only; omega⟩, by simp only [if_true, Bool.false_eq_true, if_false]; omega⟩ rfl (by simp) ?_ ?_ ?_
            all_goals simp only [qb9 hne, qb7 hne, qb0]
            all_goals simp only [go_sem, ↓reduceIte, Nat.reduceEqDiff, Nat.reduceAdd, Nat.reduceSub, Nat.reduceMul, Nat.reduceLT, Nat.reduceLeDiff, reduceCtorEq, Int.reduceToNat]
          · have hb : begP d = false := by assumption
            rw [if_neg (by rw [hb]; simp)] at i3
            subst i3
            simp only [Option.map_some, Option.getD_some, Option.isSome_some, enc, encs, and_self]
  · by_cases hk1 : (qh c).2 = true
    · have hk2 : ¬ (qbc (qh c).1).kind = 2 := fun h => hk ⟨hk1, h⟩
      have j1 : (qbz (qcv f) (qh c).1).1.good := (qi3 hm _).1 g1
      have hpa : qcv (f + 1) c = (qcg (qbz (qcv f) (qh c).1).1, (qbz (qcv f) (qh c).1).2) := by rw [qcv, if_pos hk1, if_neg hk2]
      rw [hpa]
      clear hpa
      repeat' (first | refine ql ?_ | refine qk ?_ | ((first | refine qn ?_ | refine qm ?_ | refine qs ?_ | refine qj ?_ | refine qi ?_); simp (disch := first | omega | (simp only [List.length_set, List.length_append, List.length_cons, List.length_nil]; done) | (simp only [List.length_set, List.length_append, List.length_cons, List.length_nil]; omega)) only [hk1, hk2, go_sem, ↓reduceIte, Nat.reduceEqDiff, Nat.reduceAdd, Nat.reduceSub, Nat.reduceMul, Nat.reduceLT, Nat.reduceLeDiff, reduceCtorEq, Int.reduceToNat]) | ((first | refine qf ?_ ?_ | refine qd ?_ ?_) <;> intro hc <;> simp only [hc, go_sem, ↓reduceIte, Nat.reduceEqDiff, Nat.reduceAdd, Nat.reduceSub, Nat.reduceMul, Nat.reduceLT, Nat.reduceLeDiff, reduceCtorEq, Int.reduceToNat] <;> (try simp only [qb, qa, decide_eq_true_eq, decide_eq_false_iff_not, Bool.and_eq_true] at hc)) | refine And.intro (by first | assumption | omega | (have := qg (by assumption); omega) | (unfold qq; omega)) ?_ | fail | ((first | refine qg9 ?_ | refine qdt ?_ | refine qdh (qmx hm ih _ g1 hr1) rfl ?_); simp only [go_sem, ↓reduceIte, Nat.reduceEqDiff, Nat.reduceAdd, Nat.reduceSub, Nat.reduceMul, Nat.reduceLT, Nat.reduceLeDiff, reduceCtorEq, Int.reduceToNat]))
      generalize hr' : qbz (qcv f) (qh c).1 = r at j1
      refine qca (S := Unit) (fun _ => True) (fun _ => (⟨[(0, .ptr 0 0), (2, .ptr 1 0), (4, .bool false), (5, .ptr 2 0), (6, .bool r.2.isSome)], []⟩, [curE r.1, .blk [.int .i64 0, .int .i64 0, .int .i64 0, .str [], .nils], .blk (enc (r.2.getD N0)).cells])) (fun _ => 0) ?_ ?_
      · refine qbq () [0, 1, 2] trivial rfl (by simp) ?_ ?_ ?_ <;> (try simp only [go_sem, ↓reduceIte, Nat.reduceEqDiff, Nat.reduceAdd, Nat.reduceSub, Nat.reduceMul, Nat.reduceLT, Nat.reduceLeDiff, reduceCtorEq, Int.reduceToNat]) <;> (try simp (disch := omega) only [qbe])
      · intro _ _
        repeat' (first | refine ql ?_ | refine qk ?_ | ((first | refine qn ?_ | refine qm ?_ | refine qs ?_ | refine qj ?_ | refine qi ?_ | refine qfs j1.2.2 ?_); simp only [go_sem, ↓reduceIte, Nat.reduceEqDiff, Nat.reduceAdd, Nat.reduceSub, Nat.reduceMul, Nat.reduceLT, Nat.reduceLeDiff, reduceCtorEq, Int.reduceToNat]) | ((first | refine qf ?_ ?_ | refine qd ?_ ?_) <;> intro hc <;> simp only [hc, go_sem, ↓reduceIte, Nat.reduceEqDiff, Nat.reduceAdd, Nat.reduceSub, Nat.reduceMul, Nat.reduceLT, Nat.reduceLeDiff, reduceCtorEq, Int.reduceToNat] <;> (try simp only [qb, qa, decide_eq_true_eq, decide_eq_false_iff_not, Bool.and_eq_true] at hc)) | refine And.intro (by first | assumption | omega | (have := qg (by assumption); omega) | (unfold qq; omega)) ?_ | fail)
        have hs : r.2 = none := by
          have : r.2.isSome = false := by assumption
          revert this
          cases r.2 <;> simp
        rw [hs, qd7]; rfl
    · have hk1 : (qh c).2 = false := by simpa using hk1
      have hpa : qcv (f + 1) c = ((qh c).1, none) := by rw [qcv, if_neg (by rw [hk1]; simp)]
      rw [hpa]
      repeat' (first | refine ql ?_ | refine qk ?_ | ((first | refine qn ?_ | refine qm ?_ | refine qs ?_ | refine qj ?_ | refine qi ?_); simp (disch := first | omega | (simp only [List.length_set, List.length_append, List.length_cons, List.length_nil]; done) | (simp only [List.length_set, List.length_append, List.length_cons, List.length_nil]; omega)) only [hk1, go_sem, ↓reduceIte, Nat.reduceEqDiff, Nat.reduceAdd, Nat.reduceSub, Nat.reduceMul, Nat.reduceLT, Nat.reduceLeDiff, reduceCtorEq, Int.reduceToNat]) | ((first | refine qf ?_ ?_ | refine qd ?_ ?_) <;> intro hc <;> simp only [hc, go_sem, ↓reduceIte, Nat.reduceEqDiff, Nat.reduceAdd, Nat.reduceSub, Nat.reduceMul, Nat.reduceLT, Nat.reduceLeDiff, reduceCtorEq, Int.reduceToNat] <;> (try simp only [qb, qa, decide_eq_true_eq, decide_eq_false_iff_not, Bool.and_eq_true] at hc)) | refine And.intro (by first | assumption | omega | (have := qg (by assumption); omega) | (unfold qq; omega)) ?_ | fail | ((first | refine qg9 ?_); simp only [go_sem, ↓reduceIte, Nat.reduceEqDiff, Nat.reduceAdd, Nat.reduceSub, Nat.reduceMul, Nat.reduceLT, Nat.reduceLeDiff, reduceCtorEq, Int.reduceToNat]))
      rw [qd7]; rfl
theorem qbqz (f : Nat) : ∀ c : K, c.good → rest c < f → qco Tryz.prog 91 (curE c) (curE (qcv f c).1) [.ptr 0 0] (resP (qcv f c).2) := by
  induction f with
  | zero => exact fun c _ h => absurd h (by omega)
  | succ f ih => exact qtc ih
set_option maxRecDepth 4000

theorem qwd {c : K} (h : (qjb c).isSome = true) : c.err = 0 ∧ rest (q8 c) + 1 = rest c := by
  obtain ⟨n, hn⟩ := Option.isSome_iff_exists.1 h
  exact ⟨(qd0 (qj9 hn)).1, qbj (qj9 hn)⟩
theorem q3j {c : K} (h : begP c = true) : c.err = 0 := by
  simp only [begP, Bool.or_eq_true] at h
  rcases h with h | h
  · exact (qwd h).1
  · exact qqr h
theorem qp0 {c : K} (h : c.err ≠ 0) : begP c = false := by
  cases hb : begP c with
  | false => rfl
  | true => exact absurd (q3j hb) h
def qc7 (rec : K → K × N) (c : K) : K × N :=
  if begP c = true then
    if isK c [40] = true then (qcg (qu (rec (qu (qh c).1 [40]).1).1 [41]).1, (rec (qu (qh c).1 [40]).1).2)
    else (q8 c, (qjb c).getD N0)
  else (qfc c 5, N0)
def qet (rec : K → K × N) : Nat → K → List N → K × List N
  | 0, c, acc => (c, acc)
  | f + 1, c, acc => if begP c = true then qet rec f (qc7 rec c).1 (acc ++ [(qc7 rec c).2]) else (c, acc)
def qd3 : Nat → K → K × N
  | 0, c => (c, N0)
  | f + 1, c =>
    if (qbc (qh c).1).kind = 2 then
      (qcg (qet (qd3 f) (em (q8 (qh c).1) + 1) (q8 (qh c).1) []).1, .mk 14 (qbc (qh c).1).pos 0 (qbc (qh c).1).text (qet (qd3 f) (em (q8 (qh c).1) + 1) (q8 (qh c).1) []).2)
    else (qcg (qc7 (qd3 f) (qh c).1).1, (qc7 (qd3 f) (qh c).1).2)
section
variable {rec : K → K × N} (hm : ∀ c, Mon c (rec c).1)
include hm
theorem qsb (c : K) : Mon (qu (qh c).1 [40]).1 (qcg (qu (rec (qu (qh c).1 [40]).1).1 [41]).1) := ((hm _).trans (qp _ _)).trans (qbv _)
theorem qgh (c : K) : Mon c (qc7 rec c).1 := by
  unfold qc7
  split
  · split
    · exact ((qy c).trans (qp _ _)).trans (qsb hm c)
    · exact qbt c
  · exact qfa c 5
theorem qif {c : K} (h : begP c = true) : em (qc7 rec c).1 < em c := by
  unfold qc7
  rw [if_pos h]
  split
  · have h1 := qem (c := c) (by assumption)
    have h2 := (qsb hm c).em
    simp only; omega
  · rename_i hk
    have h1 := qwd (c := c) (by simpa [begP, hk] using h)
    have h2 := qid (q8 c)
    rw [qbat h1.1]
    simp only; omega
theorem qjt : ∀ (f : Nat) (c : K) (acc : List N), Mon c (qet rec f c acc).1
  | 0, c, acc => Mon.refl c
  | f + 1, c, acc => by
    rw [qet]
    split
    · exact (qgh hm c).trans (qjt f _ _)
    · exact Mon.refl c
end
theorem qgl : ∀ (f : Nat) (c : K), Mon c (qd3 f c).1
  | 0, c => Mon.refl c
  | f + 1, c => by
    rw [qd3]
    split
    · exact (((qy c).trans (qbt _)).trans (qjt (qgl f) _ _ _)).trans (qbv _)
    · exact ((qy c).trans (qgh (qgl f) _)).trans (qbv _)

/-! The program. -/
theorem qeu (c : K) : qbp Tryz.prog 121 [refC c] (.bool (begP c)) := by
  refine qba c0bc (by simp) (by simp only [go_sem]) rfl fun hw => ?_
  repeat' (first | refine ql ?_ | ((first | refine qn ?_ | refine qm ?_ | refine qc (qt c) fun _ => ?_ | refine qc (qc0 c _) fun _ => ?_ | refine qe  (qt c) ?_ | refine qe  (qc0 c _) ?_); simp only [go_sem, ↓reduceIte, Nat.reduceEqDiff, Nat.reduceAdd, Nat.reduceSub, Nat.reduceMul, Nat.reduceLT, Nat.reduceLeDiff, reduceCtorEq, Int.reduceToNat]) | ((first | refine qf ?_ ?_ | refine qd ?_ ?_) <;> intro hc <;> simp only [hc, go_sem, ↓reduceIte, Nat.reduceEqDiff, Nat.reduceAdd, Nat.reduceSub, Nat.reduceMul, Nat.reduceLT, Nat.reduceLeDiff, reduceCtorEq, Int.reduceToNat] <;> (try simp only [qb, qa, decide_eq_true_eq, decide_eq_false_iff_not, Bool.and_eq_true] at hc)) | refine And.intro (by first | assumption | omega | (have := qg (by assumption); omega) | (unfold qq; omega)) ?_ | fail)
  all_goals (have := @qp0 c; unfold begP qjb at *; simp_all)
theorem qgc {rec : K → K × N} {b : Nat} (hm : ∀ c, Mon c (rec c).1) (ih : ∀ c, c.good → em c < b → qbp Tryz.prog 95 [refC c] (.tup [refC (rec c).1, enc (rec c).2])) (c : K) (hg : c.good) (hr : em c ≤ b) :
    qbp Tryz.prog 120 [refC c] (.tup [refC (qc7 rec c).1, enc (qc7 rec c).2]) := by
  have g1 : (qu (qh c).1 [40]).1.good := ((qy c).trans (qp _ _)).1 hg
  have g2 : (qu (rec (qu (qh c).1 [40]).1).1 [41]).1.good := ((hm _).trans (qp _ _)).1 g1
  refine qba c0bd (by simp) (by simp only [go_sem]) (by simp only [go_sem]) fun hw => ?_
  repeat' (first | refine ql ?_ | refine qk ?_ | ((first | refine qn ?_ | refine qx (by rfl) ?_ | refine qw ?_ | refine qm ?_ | refine qj ?_ | refine qi ?_ | refine qc (qt c) fun _ => ?_ | refine qc (qc0 c _) fun _ => ?_ | refine qc (qeu c) fun _ => ?_ | refine qc (qcz c _) fun _ => ?_ | refine qc (qcn c) fun _ => ?_ | refine qc (qbf _ _) fun _ => ?_ | refine qc (ih _ g1 (Nat.lt_of_lt_of_le (qem (by assumption)) hr)) fun _ => ?_ | refine qc (qby _ g2.2.2) fun _ => ?_ | refine qc (qcc c) fun _ => ?_ | refine qe  (qt c) ?_ | refine qe  (qc0 c _) ?_ | refine qe  (qeu c) ?_ | refine qe  (qcz c _) ?_ | refine qe  (qcn c) ?_ | refine qe  (qbf _ _) ?_ | refine qe  (ih _ g1 (Nat.lt_of_lt_of_le (qem (by assumption)) hr)) ?_ | refine qe  (qby _ g2.2.2) ?_ | refine qe  (qcc c) ?_); simp only [go_sem, ↓reduceIte, Nat.reduceEqDiff, Nat.reduceAdd, Nat.reduceSub, Nat.reduceMul, Nat.reduceLT, Nat.reduceLeDiff, reduceCtorEq, Int.reduceToNat]) | ((first | refine qf ?_ ?_ | refine qd ?_ ?_) <;> intro hc <;> simp only [hc, go_sem, ↓reduceIte, Nat.reduceEqDiff, Nat.reduceAdd, Nat.reduceSub, Nat.reduceMul, Nat.reduceLT, Nat.reduceLeDiff, reduceCtorEq, Int.reduceToNat] <;> (try simp only [qb, qa, decide_eq_true_eq, decide_eq_false_iff_not, Bool.and_eq_true] at hc)) | refine And.intro (by first | assumption | omega | (have := qg (by assumption); omega) | (unfold qq; omega)) ?_ | fail)
  all_goals (unfold qc7; simp only [*, qd7, Int.reduceEq, if_true, if_false, reduceIte, Bool.false_eq_true, Option.getD_none, Option.getD_some, Option.isSome_none, Option.isSome_some, and_self, true_and, and_true]; try rfl)
  all_goals
    have hb : begP c = true := by assumption
    have hk : isK c [40] = false := by assumption
    simp only [begP, hk, Bool.or_false] at hb
    unfold qjb at hb ⊢
    clear ih
    simp_all [enc, encs]
def q1s (p : Int) (t : List UInt8) (x : Nat × K × List N) : AF × List Ent :=
  (⟨[(1, .ptr 0 0), (2, .ptr 1 0), (3, .ptr 2 0), (7, .ptr 3 0)], []⟩,
    .blk (refC x.2.1).cells :: .blk [.nils, .int .i64 0, .int .i64 0, .int .i64 0, .str [], .int .i64 0, .int .i64 0, .int .i64 0] :: .blk [.int .i64 0, .int .i64 0, .int .i64 0, .str [], .nils] :: .blk [.int .i64 14, .int .i64 p, .int .i64 0, .str t, accV 4 (encs x.2.2)] :: accE 5 (encs x.2.2))
theorem qri {f : Nat} (ih : ∀ c, c.good → em c < f → qbp Tryz.prog 95 [refC c] (.tup [refC (qd3 f c).1, enc (qd3 f c).2])) (c : K) (hg : c.good) (hr : em c < f + 1) :
    qbp Tryz.prog 95 [refC c] (.tup [refC (qd3 (f + 1) c).1, enc (qd3 (f + 1) c).2]) := by
  have hm := qgl f
  have g1 : (qh c).1.good := (qy c).1 hg
  have hr1 : em (qh c).1 ≤ f := by have := (qy c).em; omega
  refine qba c0be (by simp) (by simp only [go_sem]) (by simp only [go_sem]) fun hw => ?_
  by_cases hk : (qbc (qh c).1).kind = 2
  · have hpa : qd3 (f + 1) c = (qcg (qet (qd3 f) (em (q8 (qh c).1) + 1) (q8 (qh c).1) []).1, .mk 14 (qbc (qh c).1).pos 0 (qbc (qh c).1).text (qet (qd3 f) (em (q8 (qh c).1) + 1) (q8 (qh c).1) []).2) := by rw [qd3, if_pos hk]
    rw [hpa]
    clear hpa
    have g2 : (q8 (qh c).1).good := (qbt _).1 g1
    have hr2 : em (q8 (qh c).1) ≤ f := by have := (qbt (qh c).1).em; omega
    generalize htg : qet (qd3 f) (em (q8 (qh c).1) + 1) (q8 (qh c).1) [] = tg
    have hmt : Mon (q8 (qh c).1) tg.1 := htg ▸ qjt hm _ _ _
    have g3 : tg.1.good := hmt.1 g2
    repeat' (first | refine ql ?_ | refine qk ?_ | ((first | refine qn ?_ | refine qx (by rfl) ?_ | refine qw ?_ | refine qm ?_ | refine qs ?_ | refine qj ?_ | refine qi ?_); simp (disch := first | omega | (simp only [List.length_set, List.length_append, List.length_cons, List.length_nil]; done) | (simp only [List.length_set, List.length_append, List.length_cons, List.length_nil]; omega)) only [hk, go_sem, ↓reduceIte, Nat.reduceEqDiff, Nat.reduceAdd, Nat.reduceSub, Nat.reduceMul, Nat.reduceLT, Nat.reduceLeDiff, reduceCtorEq, Int.reduceToNat]) | ((first | refine qf ?_ ?_ | refine qd ?_ ?_) <;> intro hc <;> simp only [hc, go_sem, ↓reduceIte, Nat.reduceEqDiff, Nat.reduceAdd, Nat.reduceSub, Nat.reduceMul, Nat.reduceLT, Nat.reduceLeDiff, reduceCtorEq, Int.reduceToNat] <;> (try simp only [qb, qa, decide_eq_true_eq, decide_eq_false_iff_not, Bool.and_eq_true] at hc)) | refine And.intro (by first | assumption | omega | (have := qg (by assumption); omega) | (unfold qq; omega)) ?_ | fail | ((first | refine qc (qt _) fun _ => ?_ | refine qc (qcn c) fun _ => ?_ | refine qc (qcc _) fun _ => ?_ | refine qe  (qt _) ?_ | refine qe  (qcn c) ?_ | refine qe  (qcc _) ?_); simp only [go_sem, ↓reduceIte, Nat.reduceEqDiff, Nat.reduceAdd, Nat.reduceSub, Nat.reduceMul, Nat.reduceLT, Nat.reduceLeDiff, reduceCtorEq, Int.reduceToNat]))
    refine qca (S := Nat × K × List N) (fun x => x.2.1.good ∧ em x.2.1 ≤ f ∧ qet (qd3 f) x.1 x.2.1 x.2.2 = tg ∧ em x.2.1 < x.1 ∧ x.2.2.length + em x.2.1 ≤ 1048578)
      (q1s (qbc (qh c).1).pos (qbc (qh c).1).text) (fun x => em x.2.1) ?_ ?_
    · refine qbq (em (q8 (qh c).1) + 1, q8 (qh c).1, []) [0, 1, 2, 4] ⟨g2, hr2, htg, by simp only; omega, ?_⟩ rfl (by simp) ?_ ?_ ?_
      · have h9 := g2.rest
        have h8 := qid (q8 (qh c).1)
        unfold rest at h8
        simp only [List.length_nil]
        omega
      all_goals simp only [q1s, encs, qbs, qbu]
      all_goals simp only [go_sem, ↓reduceIte, Nat.reduceEqDiff, Nat.reduceAdd, Nat.reduceSub, Nat.reduceMul, Nat.reduceLT, Nat.reduceLeDiff, reduceCtorEq, Int.reduceToNat]
    · rintro ⟨fu, d, acc⟩ ⟨i1, i2, i3, i4, i5⟩
      simp only at i1 i2 i3 i4 i5
      unfold q1s
      obtain ⟨fu, rfl⟩ : ∃ k, fu = k + 1 := ⟨fu - 1, by omega⟩
      rw [qet] at i3
      have hcap : qq (acc.length + 1) 64 := capN (by omega)
      have j1 : (qc7 (qd3 f) d).1.good := (qgh hm d).1 i1
      have j2 : em (qc7 (qd3 f) d).1 ≤ em d := (qgh hm d).em
      by_cases h0 : acc = []
      · subst h0
        simp only [encs, qbs, qbu]
        repeat' (first | refine ql ?_ | refine qk ?_ | ((first | refine qn ?_ | refine qx (by rfl) ?_ | refine qw ?_ | refine qm ?_ | refine qs ?_ | refine qj ?_ | refine qi ?_ | refine qc (qeu _) fun _ => ?_ | refine qc (qgc hm ih _ i1 i2) fun _ => ?_ | refine qc (qby _ i1.2.2) fun _ => ?_ | refine qe  (qeu _) ?_ | refine qe  (qgc hm ih _ i1 i2) ?_ | refine qe  (qby _ i1.2.2) ?_); simp only [go_sem, ↓reduceIte, Nat.reduceEqDiff, Nat.reduceAdd, Nat.reduceSub, Nat.reduceMul, Nat.reduceLT, Nat.reduceLeDiff, reduceCtorEq, Int.reduceToNat]) | ((first | refine qf ?_ ?_ | refine qd ?_ ?_) <;> intro hc <;> simp only [hc, go_sem, ↓reduceIte, Nat.reduceEqDiff, Nat.reduceAdd, Nat.reduceSub, Nat.reduceMul, Nat.reduceLT, Nat.reduceLeDiff, reduceCtorEq, Int.reduceToNat] <;> (try simp only [qb, qa, decide_eq_true_eq, decide_eq_false_iff_not, Bool.and_eq_true] at hc)) | refine And.intro (by first | assumption | omega | (have := qg (by assumption); omega) | (unfold qq; omega)) ?_ | fail)
        · have hb : begP d = true := by assumption
          rw [if_pos hb] at i3
          have hlt := qif hm hb
          refine qbq (fu, (qc7 (qd3 f) d).1, [] ++ [(qc7 (qd3 f) d).2]) [0, 1, 2, 3, 6] ⟨⟨j1, by simp only; omega, i3, by simp only; omega, ?_⟩, by simp only; omega⟩ rfl (by simp) ?_ ?_ ?_
          · simp only [List.length_append, List.length_cons, List.length_nil]; omega
          all_goals simp only [q1s, ← qz, qcr, qcs, List.nil_append, encs, qdc, qdd]
          all_goals simp only [go_sem, ↓reduceIte, Nat.reduceEqDiff, Nat.reduceAdd, Nat.reduceSub, Nat.reduceMul, Nat.reduceLT, Nat.reduceLeDiff, reduceCtorEq, Int.reduceToNat]
        · have hb : begP d = false := by assumption
          rw [if_neg (by rw [hb]; simp)] at i3
          subst i3
          rfl
      · have hne := qch h0
        simp only [qb9 hne, qb7 hne, qb0]
        repeat' (first | refine ql ?_ | refine qk ?_ | ((first | refine qn ?_ | refine qx (by rfl) ?_ | refine qw ?_ | refine qm ?_ | refine qs ?_ | refine qj ?_ | refine qi ?_ | refine qc (qeu _) fun _ => ?_ | refine qc (qgc hm ih _ i1 i2) fun _ => ?_ | refine qc (qby _ i1.2.2) fun _ => ?_ | refine qe  (qeu _) ?_ | refine qe  (qgc hm ih _ i1 i2) ?_ | refine qe  (qby _ i1.2.2) ?_); simp only [go_sem, ↓reduceIte, Nat.reduceEqDiff, Nat.reduceAdd, Nat.reduceSub, Nat.reduceMul, Nat.reduceLT, Nat.reduceLeDiff, reduceCtorEq, Int.reduceToNat]) | ((first | refine qf ?_ ?_ | refine qd ?_ ?_) <;> intro hc <;> simp only [hc, go_sem, ↓reduceIte, Nat.reduceEqDiff, Nat.reduceAdd, Nat.reduceSub, Nat.reduceMul, Nat.reduceLT, Nat.reduceLeDiff, reduceCtorEq, Int.reduceToNat] <;> (try simp only [qb, qa, decide_eq_true_eq, decide_eq_false_iff_not, Bool.and_eq_true] at hc)) | refine And.intro (by first | assumption | omega | (have := qg (by assumption); omega) | (unfold qq; omega)) ?_ | fail)
        · have hb : begP d = true := by assumption
          rw [if_pos hb] at i3
          have hlt := qif hm hb
          refine qbq (fu, (qc7 (qd3 f) d).1, acc ++ [(qc7 (qd3 f) d).2]) [0, 1, 2, 3, 7] ⟨⟨j1, by simp only; omega, i3, by simp only; omega, ?_⟩, by simp only; omega⟩ rfl (by simp) ?_ ?_ ?_
          · simp only [List.length_append, List.length_cons, List.length_nil]; omega
          all_goals simp only [q1s, ← qz, qcr, qcs, List.nil_append, encs, qdc, qdd]
          all_goals simp only [go_sem, ↓reduceIte, Nat.reduceEqDiff, Nat.reduceAdd, Nat.reduceSub, Nat.reduceMul, Nat.reduceLT, Nat.reduceLeDiff, reduceCtorEq, Int.reduceToNat]
          rw [qz, qb8, qc1]; exact ⟨rfl, rfl⟩
        · have hb : begP d = false := by assumption
          rw [if_neg (by rw [hb]; simp)] at i3
          subst i3
          rfl
  · have hpa : qd3 (f + 1) c = (qcg (qc7 (qd3 f) (qh c).1).1, (qc7 (qd3 f) (qh c).1).2) := by rw [qd3, if_neg hk]
    rw [hpa]
    have j1 : (qc7 (qd3 f) (qh c).1).1.good := (qgh hm _).1 g1
    repeat' (first | refine ql ?_ | refine qk ?_ | ((first | refine qn ?_ | refine qx (by rfl) ?_ | refine qw ?_ | refine qm ?_ | refine qs ?_ | refine qj ?_ | refine qi ?_); simp (disch := first | omega | (simp only [List.length_set, List.length_append, List.length_cons, List.length_nil]; done) | (simp only [List.length_set, List.length_append, List.length_cons, List.length_nil]; omega)) only [hk, go_sem, ↓reduceIte, Nat.reduceEqDiff, Nat.reduceAdd, Nat.reduceSub, Nat.reduceMul, Nat.reduceLT, Nat.reduceLeDiff, reduceCtorEq, Int.reduceToNat]) | ((first | refine qf ?_ ?_ | refine qd ?_ ?_) <;> intro hc <;> simp only [hc, go_sem, ↓reduceIte, Nat.reduceEqDiff, Nat.reduceAdd, Nat.reduceSub, Nat.reduceMul, Nat.reduceLT, Nat.reduceLeDiff, reduceCtorEq, Int.reduceToNat] <;> (try simp only [qb, qa, decide_eq_true_eq, decide_eq_false_iff_not, Bool.and_eq_true] at hc)) | refine And.intro (by first | assumption | omega | (have := qg (by assumption); omega) | (unfold qq; omega)) ?_ | fail | ((first | refine qc (qt _) fun _ => ?_ | refine qc (qcn c) fun _ => ?_ | refine qc (qgc hm ih _ g1 hr1) fun _ => ?_ | refine qc (qby _ j1.2.2) fun _ => ?_ | refine qe  (qt _) ?_ | refine qe  (qcn c) ?_ | refine qe  (qgc hm ih _ g1 hr1) ?_ | refine qe  (qby _ j1.2.2) ?_); simp only [go_sem, ↓reduceIte, Nat.reduceEqDiff, Nat.reduceAdd, Nat.reduceSub, Nat.reduceMul, Nat.reduceLT, Nat.reduceLeDiff, reduceCtorEq, Int.reduceToNat]))
theorem q3g (f : Nat) : ∀ c : K, c.good → em c < f → qbp Tryz.prog 95 [refC c] (.tup [refC (qd3 f c).1, enc (qd3 f c).2]) := by
  induction f with
  | zero => exact fun c _ h => absurd h (by omega)
  | succ f ih => exact qri ih

/-! What both read. -/
theorem qmz {rec : K → K × N} {c : K} (h : c.err ≠ 0) : qc7 rec c = (c, N0) := by
  rw [qc7, if_neg (by rw [qp0 h]; simp), qfv h]
theorem qty {rec : K → K × N} {c : K} (h : c.err ≠ 0) (f : Nat) (acc : List N) : qet rec f c acc = (c, acc) := by
  cases f with
  | zero => rfl
  | succ f => rw [qet, if_neg (by rw [qp0 h]; simp)]
theorem qr5 (f : Nat) {c : K} (h : c.err ≠ 0) : qd3 f c = (c, N0) := by
  cases f with
  | zero => rfl
  | succ f => rw [qd3, qhh h, qe7 h, if_neg (by decide), qmz h, qcl h]
section
variable {rp : K → K × Option N} {rr : K → K × N} {b : Nat} (hx : ∀ c : K, c.err ≠ 0 → (rr c).1 = c) (ih : ∀ c, em c < b → qee (rp c) (rr c))
include hx ih
theorem qon {c : K} (hr : em c ≤ b) : qee (qbz rp c) (qc7 rr c) := by
  unfold qbz qc7
  by_cases hl : (qjb c).isSome = true
  · have hk : ¬ isK c [40] = true := by
      intro h
      obtain ⟨n, hn⟩ := Option.isSome_iff_exists.1 hl
      simp only [isK, qh3, Bool.and_eq_true, Bool.or_eq_true, decide_eq_true_eq] at h
      unfold qjb at hn
      rw [if_neg (by omega), if_neg (by omega), if_neg (by omega), if_neg (by simp [isK, qh3, h.2.2])] at hn
      cases hn
    rw [if_pos hl, if_pos (show begP c = true by simp [begP, hl]), if_neg hk]
    exact ⟨rfl, fun n h => by simp only at h ⊢; rw [h]; rfl, fun h => by simp only at h; rw [h] at hl; cases hl⟩
  · rw [if_neg hl]
    by_cases hk : isK c [40] = true
    · rw [if_pos hk, if_pos (show begP c = true by simp [begP, hk]), if_pos hk]
      have hem := qem hk
      by_cases he : (qh c).2 = true
      · rw [if_pos he]
        have hk' : isK (qh c).1 [40] = true := by rw [qly he]; exact hk
        rw [qlz hk'] at hem ⊢
        simp only at hem ⊢
        obtain ⟨a1, a2, a3⟩ := ih (q8 (qh c).1) (by omega)
        rw [← a1]
        generalize rp (q8 (qh c).1) = r at *
        obtain ⟨d, o⟩ := r
        simp only at a1 a2 a3 ⊢
        cases o with
        | none =>
          have h3 := a3 rfl
          rw [if_neg (by simp), qb6 h3, qcl h3]
          exact ⟨rfl, (fun n h => by cases h), fun _ => h3⟩
        | some n =>
          rw [if_pos (by rfl)]
          by_cases hw : (qu d [41]).2 = true
          · rw [if_pos hw]
            exact ⟨rfl, fun m h => a2 m h, (fun h => by cases h)⟩
          · rw [if_neg hw]
            have h3 := qd4 (by simpa using hw)
            exact ⟨(qcl h3).symm, (fun n h => by cases h), fun _ => h3⟩
      · have he' : (qh c).2 = false := by simpa using he
        have h1 := qf1 he'
        rw [if_neg he]
        rw [qb6 h1] at hem ⊢
        simp only at hem ⊢
        rw [hx _ h1, qb6 h1, qcl h1]
        exact ⟨rfl, (fun n h => by cases h), fun _ => h1⟩
    · rw [if_neg hk, if_neg (show ¬ begP c = true by simp [begP, hl, hk])]
      exact ⟨rfl, (fun n h => by cases h), fun _ => qg5 c⟩
theorem qpo (hp : ∀ c, Mon c (rp c).1) (hm : ∀ c, Mon c (rr c).1) : ∀ (f g : Nat) (c : K) (acc : List N), rest c < f → em c < g → em c ≤ b →
    (qhe rp f c acc).1 = (qet rr g c acc).1 ∧ (∀ l, (qhe rp f c acc).2 = some l → l = (qet rr g c acc).2) ∧ ((qhe rp f c acc).2 = none → (qhe rp f c acc).1.err ≠ 0)
  | 0, _, _, _ => fun h _ _ => by omega
  | _, 0, _, _ => fun _ h _ => by omega
  | f + 1, g + 1, c, acc => fun hf hg hb => by
    rw [qhe, qet]
    by_cases hk : begP c = true
    · rw [if_pos hk, if_pos hk]
      obtain ⟨a1, a2, a3⟩ := qon hx ih hb
      have hl := qif hm hk
      rw [← a1] at hl ⊢
      cases ho : (qbz rp c).2 with
      | none =>
        have h3 := a3 ho
        rw [if_neg (by simp), qty h3]
        exact ⟨rfl, (fun n h => by cases h), fun _ => h3⟩
      | some n =>
        rw [if_pos (by rfl), ← a2 n ho]
        exact qpo hp hm f g _ _ (by have := qnr hp (c := c) (by rw [ho]; rfl); omega) (by omega) (by omega)
    · rw [if_neg hk, if_neg hk]
      exact ⟨rfl, (fun l h => by cases h; rfl), (fun h => by cases h)⟩
end
theorem qwg : ∀ (f : Nat) (c : K), em c < f → qee (qcv f c) (qd3 f c)
  | 0, _ => fun h => by omega
  | f + 1, c => fun hf => by
    have ih := qwg f
    have hx : ∀ c : K, c.err ≠ 0 → (qd3 f c).1 = c := fun c h => by rw [qr5 f h]
    by_cases he : (qh c).2 = true
    · have h1 := (qy c).em
      rw [qcv, qd3, if_pos he]
      by_cases hk : (qbc (qh c).1).kind = 2
      · rw [if_pos hk, if_pos hk]
        have hr := qbj (c := (qh c).1) (by omega)
        obtain ⟨a1, a2, a3⟩ := qpo hx ih (qfh f) (qgl f) (rest (qh c).1 + 1) (em (q8 (qh c).1) + 1) (q8 (qh c).1) [] (by omega) (by omega) (by have := (qbt (qh c).1).em; omega)
        rw [← a1]
        generalize qhe (qcv f) (rest (qh c).1 + 1) (q8 (qh c).1) [] = r at *
        obtain ⟨d, o⟩ := r
        cases o with
        | none =>
          have h3 := a3 rfl
          simp only at h3
          refine ⟨rfl, (fun n h => by cases h), fun _ => ?_⟩
          simp only
          rwa [qcl h3]
        | some l => exact ⟨rfl, (fun n h => by cases h; rw [a2 l rfl]), (fun h => by cases h)⟩
      · rw [if_neg hk, if_neg hk]
        obtain ⟨a1, a2, a3⟩ := qon hx ih (c := (qh c).1) (by omega)
        rw [← a1]
        exact ⟨rfl, a2, fun h => by simp only at h ⊢; rw [qcl (a3 h)]; exact a3 h⟩
    · have he' : (qh c).2 = false := by simpa using he
      have h1 := qf1 he'
      rw [qcv, if_neg he, qd3, qe7 h1, if_neg (by decide), qmz h1]
      exact ⟨(qcl h1).symm, (fun n h => by cases h), fun _ => h1⟩
end Go.Proofs.YtmekebfgmjaenaaGreat
