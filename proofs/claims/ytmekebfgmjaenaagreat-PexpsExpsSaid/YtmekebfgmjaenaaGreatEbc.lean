/- Texts of this proof, joined. -/
import Derived.Test.YtmekebfgmjaenaaGreatEbb

/- patterns: what is read (plain); the program -/
set_option maxRecDepth 4000
namespace Go.Proofs.YtmekebfgmjaenaaGreat
open Go Go.RowKit Go.V
set_option linter.unusedVariables false
set_option linter.unusedSimpArgs false

/-! Patterns. -/
def qit (c : K) : Option N :=
  if (qbd c).kind = 1 then some (.mk 11 (qbd c).pos 0 (qbd c).text [])
  else if (qbd c).kind = 2 then some (.mk 14 (qbd c).pos 0 (qbd c).text [])
  else if (qbd c).kind = 3 then some (.mk 13 (qbd c).pos (qbd c).num [] [])
  else if isK c [95] = true then some (.mk 12 (qbd c).pos 0 [] [])
  else none
def begP (c : K) : Bool := (qit c).isSome || isK c [40]
def qbx (rec : K → K × Option N) (c : K) : K × Option N :=
  if (qit c).isSome = true then (q9 c, qit c)
  else if isK c [40] = true then
    if (qj c).2 = true then
      if (rec (q9 (qj c).1)).2.isSome = true then
        if (qv (rec (q9 (qj c).1)).1 [41]).2 = true then (qch (qv (rec (q9 (qj c).1)).1 [41]).1, (rec (q9 (qj c).1)).2)
        else ((qv (rec (q9 (qj c).1)).1 [41]).1, none)
      else ((rec (q9 (qj c).1)).1, none)
    else ((qj c).1, none)
  else (qe6 c 5, none)
def qhb (rec : K → K × Option N) : Nat → K → List N → K × Option (List N)
  | 0, c, acc => (c, none)
  | f + 1, c, acc =>
    if begP c = true then
      if (qbx rec c).2.isSome = true then qhb rec f (qbx rec c).1 (acc ++ [(qbx rec c).2.getD N0])
      else ((qbx rec c).1, none)
    else (c, some acc)
def qcu : Nat → K → K × Option N
  | 0, c => (c, none)
  | f + 1, c =>
    if (qj c).2 = true then
      if (qbd (qj c).1).kind = 2 then
        (qch (qhb (qcu f) (rest (qj c).1 + 1) (q9 (qj c).1) []).1, (qhb (qcu f) (rest (qj c).1 + 1) (q9 (qj c).1) []).2.map fun ks => .mk 14 (qbd (qj c).1).pos 0 (qbd (qj c).1).text ks)
      else (qch (qbx (qcu f) (qj c).1).1, (qbx (qcu f) (qj c).1).2)
    else ((qj c).1, none)

theorem qld {c : K} {n : N} (h : qit c = some n) : (qbd c).kind ≠ 0 := by
  unfold qit at h
  split at h
  · omega
  · split at h
    · omega
    · split at h
      · omega
      · split at h
        · exact qdo (by assumption)
        · cases h
section
variable {rec : K → K × Option N} (hm : ∀ c, Mon c (rec c).1)
include hm
theorem qie (c : K) : Mon c (qbx rec c).1 := by
  unfold qbx
  split
  · exact qbs c
  · split
    · split
      · have h1 := ((qx c).trans (qbs _)).trans (hm _)
        split
        · split
          · exact (h1.trans (qq _ _)).trans (qbw _)
          · exact h1.trans (qq _ _)
        · exact h1
      · exact qx c
    · exact qfk c 5
theorem qn5 {c : K} (h : (qbx rec c).2.isSome = true) : rest (qbx rec c).1 < rest c := by
  unfold qbx at h ⊢
  split at h
  · rename_i hl
    rw [if_pos hl]
    obtain ⟨n, hn⟩ := Option.isSome_iff_exists.1 hl
    have := qbo (qld hn)
    simp only; omega
  · rename_i hl
    rw [if_neg hl]
    split at h
    · rename_i hk
      rw [if_pos hk]
      split at h
      · rename_i he
        rw [if_pos he]
        have hp := qbo (c := (qj c).1) (by rw [qeo he]; exact qdo hk)
        have h0 := (qx c).2.1
        have h1 := (hm (q9 (qj c).1)).2.1
        split at h
        · rename_i hr
          rw [if_pos hr]
          have h2 := (qq (rec (q9 (qj c).1)).1 [41]).2.1
          split at h
          · rename_i hw
            rw [if_pos hw]
            have h3 := (qbw (qv (rec (q9 (qj c).1)).1 [41]).1).2.1
            simp only; omega
          · cases h
        · cases h
      · cases h
    · cases h
theorem qrm : ∀ (f : Nat) (c : K) (acc : List N), Mon c (qhb rec f c acc).1
  | 0, c, acc => Mon.refl c
  | f + 1, c, acc => by
    rw [qhb]
    split
    · split
      · exact (qie hm c).trans (qrm f _ _)
      · exact qie hm c
    · exact Mon.refl c
end
theorem qek : ∀ (f : Nat) (c : K), Mon c (qcu f c).1
  | 0, c => Mon.refl c
  | f + 1, c => by
    rw [qcu]
    split
    · split
      · exact (((qx c).trans (qbs _)).trans (qrm (qek f) _ _ _)).trans (qbw _)
      · exact ((qx c).trans (qie (qek f) _)).trans (qbw _)
    · exact qx c
theorem q5b (c : K) : qcp Tryz.prog 133 (curE c) (curE c) [.ptr 0 0] (resP (qit c)) := by
  refine qbe c0bf 1 (by simp) (by simp) ?_
  repeat' (first | refine ql ?_ | refine qk ?_ | ((first | refine qn ?_ | refine qbc (by rfl) ?_ | refine qy ?_ | refine qm ?_ | refine qh ?_ | refine qdv ?_ | refine a_Is ?_); simp only [go_sem, ↓reduceIte, Nat.reduceEqDiff, Nat.reduceAdd, Nat.reduceSub, Nat.reduceMul, Nat.reduceLT, Nat.reduceLeDiff, reduceCtorEq, Int.reduceToNat]) | ((first | refine qf ?_ ?_ | refine qe ?_ ?_) <;> intro hc <;> simp only [hc, go_sem, ↓reduceIte, Nat.reduceEqDiff, Nat.reduceAdd, Nat.reduceSub, Nat.reduceMul, Nat.reduceLT, Nat.reduceLeDiff, reduceCtorEq, Int.reduceToNat] <;> (try simp only [qb, qa, decide_eq_true_eq, decide_eq_false_iff_not, Bool.and_eq_true] at hc)) | refine And.intro (by first | assumption | omega | (have := qg (by assumption); omega) | (unfold qp; omega)) ?_ | fail)
  all_goals (unfold qit; simp_all [enc, encs, N0])
theorem q2g {c : K} {L : List Ent} {Q : List Ent → VO → Prop} (hq : Q (curE c :: L) (.val (resP (qit c)))) : VApp Tryz.prog (curE c :: L) (.fn 133 [] []) [.ptr 0 0] Q := qdt (q5b c) rfl hq
theorem qwq (c : K) : qcp Tryz.prog 119 (curE c) (curE c) [.ptr 0 0] (.bool (begP c)) := by
  refine qbe c0bg 1 (by simp) (by simp) ?_
  repeat' (first | refine ql ?_ | ((first | refine qn ?_ | refine qm ?_ | refine q2g ?_ | refine a_Is ?_); simp only [go_sem, ↓reduceIte, Nat.reduceEqDiff, Nat.reduceAdd, Nat.reduceSub, Nat.reduceMul, Nat.reduceLT, Nat.reduceLeDiff, reduceCtorEq, Int.reduceToNat]) | ((first | refine qf ?_ ?_ | refine qe ?_ ?_) <;> intro hc <;> simp only [hc, go_sem, ↓reduceIte, Nat.reduceEqDiff, Nat.reduceAdd, Nat.reduceSub, Nat.reduceMul, Nat.reduceLT, Nat.reduceLeDiff, reduceCtorEq, Int.reduceToNat] <;> (try simp only [qb, qa, decide_eq_true_eq, decide_eq_false_iff_not, Bool.and_eq_true] at hc)) | refine And.intro (by first | assumption | omega | (have := qg (by assumption); omega) | (unfold qp; omega)) ?_ | fail)
  all_goals (unfold begP; simp_all)
theorem qbdh {c : K} {L : List Ent} {Q : List Ent → VO → Prop} (hq : Q (curE c :: L) (.val (.bool (begP c)))) : VApp Tryz.prog (curE c :: L) (.fn 119 [] []) [.ptr 0 0] Q := qb9 (qwq c) (qbm _ _) (qbm _ _) rfl rfl fun _ => hq
theorem qos {rec : K → K × Option N} {b : Nat} (hm : ∀ c, Mon c (rec c).1) (ih : ∀ c, c.good → rest c < b → qcp Tryz.prog 91 (curE c) (curE (rec c).1) [.ptr 0 0] (resP (rec c).2)) (c : K) (hg : c.good) (hr : rest c ≤ b) :
    qcp Tryz.prog 118 (curE c) (curE (qbx rec c).1) [.ptr 0 0] (resP (qbx rec c).2) := by
  have g1 : (qj c).1.good := (qx c).1 hg
  have g2 : (q9 (qj c).1).good := (qbs _).1 g1
  have g3 : (rec (q9 (qj c).1)).1.good := (hm _).1 g2
  have g4 : (qv (rec (q9 (qj c).1)).1 [41]).1.good := (qq _ _).1 g3
  have hrr : isK c [40] = true → (qj c).2 = true → rest (q9 (qj c).1) < b := fun h1 h2 => by
    have := qbo (c := (qj c).1) (by rw [qeo h2]; exact qdo h1)
    have := (qx c).2.1
    omega
  refine qbe c0bh 1 (by simp) (by simp) ?_
  repeat' (first | refine ql ?_ | ((first | refine qn ?_ | refine qm ?_ | refine qi ?_ | refine qh ?_ | refine q2g ?_ | refine a_Is ?_ | refine qqb ?_ | refine qht ?_ | refine qi8 hg.ok ?_ | refine qi8 g1.ok ?_ | refine qdt (ih _ g2 (hrr (by assumption) (by assumption))) rfl ?_ | refine qd2 g3.ok ?_ | refine qfz g4.2.2 ?_); simp only [go_sem, ↓reduceIte, Nat.reduceEqDiff, Nat.reduceAdd, Nat.reduceSub, Nat.reduceMul, Nat.reduceLT, Nat.reduceLeDiff, reduceCtorEq, Int.reduceToNat]) | ((first | refine qf ?_ ?_ | refine qe ?_ ?_) <;> intro hc <;> simp only [hc, go_sem, ↓reduceIte, Nat.reduceEqDiff, Nat.reduceAdd, Nat.reduceSub, Nat.reduceMul, Nat.reduceLT, Nat.reduceLeDiff, reduceCtorEq, Int.reduceToNat] <;> (try simp only [qb, qa, decide_eq_true_eq, decide_eq_false_iff_not, Bool.and_eq_true] at hc)) | refine And.intro (by first | assumption | omega | (have := qg (by assumption); omega) | (unfold qp; omega)) ?_ | fail)
  all_goals (unfold qbx; simp only [*, qd3, Int.reduceEq, if_true, if_false, reduceIte, Bool.false_eq_true, Option.getD_none, Option.getD_some, Option.isSome_none, Option.isSome_some, and_self, true_and, and_true]; try rfl)
/-- The name's node, as it is made. -/
def conZ (c : K) : AV := .tup [.agg [.int .i64 14, .int .i64 (qbd c).pos, .int .i64 0, .str (qbd c).text, .nils], .bool true]
attribute [go_sem] conZ
theorem q1h (k : Nat) (c : K) : (conZ c).bd k = true := rfl
theorem qyz (c : K) (hc : (qbd c).kind = 2) : qcp Tryz.prog 133 (curE c) (curE c) [.ptr 0 0] (conZ c) := by
  refine qj2 c0bf 1 (by simp) (by simp) ?_
  repeat' (first | refine ql ?_ | refine qk ?_ | ((first | refine qn ?_ | refine qbc (by rfl) ?_ | refine qy ?_ | refine qm ?_ | refine qh ?_); simp (disch := first | omega | (simp only [List.length_set, List.length_append, List.length_cons, List.length_nil]; done) | (simp only [List.length_set, List.length_append, List.length_cons, List.length_nil]; omega)) only [hc, Int.reduceEq, go_sem, ↓reduceIte, Nat.reduceEqDiff, Nat.reduceAdd, Nat.reduceSub, Nat.reduceMul, Nat.reduceLT, Nat.reduceLeDiff, reduceCtorEq, Int.reduceToNat]) | ((first | refine qf ?_ ?_ | refine qe ?_ ?_) <;> intro hc <;> simp only [hc, go_sem, ↓reduceIte, Nat.reduceEqDiff, Nat.reduceAdd, Nat.reduceSub, Nat.reduceMul, Nat.reduceLT, Nat.reduceLeDiff, reduceCtorEq, Int.reduceToNat] <;> (try simp only [qb, qa, decide_eq_true_eq, decide_eq_false_iff_not, Bool.and_eq_true] at hc)) | refine And.intro (by first | assumption | omega | (have := qg (by assumption); omega) | (unfold qp; omega)) ?_ | fail | ((first | refine qdv ?_ | refine a_Is ?_); simp only [go_sem, ↓reduceIte, Nat.reduceEqDiff, Nat.reduceAdd, Nat.reduceSub, Nat.reduceMul, Nat.reduceLT, Nat.reduceLeDiff, reduceCtorEq, Int.reduceToNat]))
theorem qzh (c : K) (hg : c.good) (hc : (qbd c).kind = 2) : qcp Tryz.prog 118 (curE c) (curE (q9 c)) [.ptr 0 0] (conZ c) := by
  refine qj2 c0bh 1 (by simp) (by simp) ?_
  repeat' (first | refine ql ?_ | ((first | refine qn ?_ | refine qm ?_ | refine qi ?_ | refine qh ?_); simp (disch := first | omega | (simp only [List.length_set, List.length_append, List.length_cons, List.length_nil]; done) | (simp only [List.length_set, List.length_append, List.length_cons, List.length_nil]; omega)) only [hc, go_sem, ↓reduceIte, Nat.reduceEqDiff, Nat.reduceAdd, Nat.reduceSub, Nat.reduceMul, Nat.reduceLT, Nat.reduceLeDiff, reduceCtorEq, Int.reduceToNat]) | ((first | refine qf ?_ ?_ | refine qe ?_ ?_) <;> intro hc <;> simp only [hc, go_sem, ↓reduceIte, Nat.reduceEqDiff, Nat.reduceAdd, Nat.reduceSub, Nat.reduceMul, Nat.reduceLT, Nat.reduceLeDiff, reduceCtorEq, Int.reduceToNat] <;> (try simp only [qb, qa, decide_eq_true_eq, decide_eq_false_iff_not, Bool.and_eq_true] at hc)) | refine And.intro (by first | assumption | omega | (have := qg (by assumption); omega) | (unfold qp; omega)) ?_ | fail | ((first | refine qb9 (qyz c hc) (qbm _ _) (qbm _ _) rfl (q1h _ _) fun _ => ?_ | refine qi8 hg.ok ?_); simp only [go_sem, ↓reduceIte, Nat.reduceEqDiff, Nat.reduceAdd, Nat.reduceSub, Nat.reduceMul, Nat.reduceLT, Nat.reduceLeDiff, reduceCtorEq, Int.reduceToNat]))
def q07 (p : Int) (t : List UInt8) (x : Bool × Nat × K × List N) : AF × List Ent :=
  (⟨[(0, .ptr 0 0), (2, .ptr 1 0), (4, .bool true), (5, .ptr 2 0), (6, .bool x.1)], []⟩,
    curE x.2.2.1 :: .blk [.int .i64 0, .int .i64 0, .int .i64 0, .str [], .nils] :: .blk [.int .i64 14, .int .i64 p, .int .i64 0, .str t, accV 3 (encs x.2.2.2)] :: accE 5 (encs x.2.2.2))
theorem qtm {f : Nat} (ih : ∀ c, c.good → rest c < f → qcp Tryz.prog 91 (curE c) (curE (qcu f c).1) [.ptr 0 0] (resP (qcu f c).2)) (c : K) (hg : c.good) (hr : rest c < f + 1) :
    qcp Tryz.prog 91 (curE c) (curE (qcu (f + 1) c).1) [.ptr 0 0] (resP (qcu (f + 1) c).2) := by
  have hm := qek f
  have g1 : (qj c).1.good := (qx c).1 hg
  have hr1 : rest (qj c).1 ≤ f := by have := (qx c).2.1; omega
  refine qbe c0bi 1 (by simp) (by simp) ?_
  by_cases hk : (qj c).2 = true ∧ (qbd (qj c).1).kind = 2
  · obtain ⟨hk1, hk2⟩ := hk
    have g2 : (q9 (qj c).1).good := (qbs _).1 g1
    have hpa : qcu (f + 1) c = (qch (qhb (qcu f) (rest (qj c).1 + 1) (q9 (qj c).1) []).1, (qhb (qcu f) (rest (qj c).1 + 1) (q9 (qj c).1) []).2.map fun ks => .mk 14 (qbd (qj c).1).pos 0 (qbd (qj c).1).text ks) := by rw [qcu, if_pos hk1, if_pos hk2]
    rw [hpa]
    clear hpa
    generalize htg : qhb (qcu f) (rest (qj c).1 + 1) (q9 (qj c).1) [] = tg
    have hmt : Mon (q9 (qj c).1) tg.1 := htg ▸ qrm hm _ _ _
    have g3 : tg.1.good := hmt.1 g2
    repeat' (first | refine ql ?_ | refine qk ?_ | ((first | refine qn ?_ | refine qm ?_ | refine qs ?_ | refine qi ?_ | refine qh ?_); simp (disch := first | omega | (simp only [List.length_set, List.length_append, List.length_cons, List.length_nil]; done) | (simp only [List.length_set, List.length_append, List.length_cons, List.length_nil]; omega)) only [hk1, hk2, Int.reduceEq, go_sem, ↓reduceIte, Nat.reduceEqDiff, Nat.reduceAdd, Nat.reduceSub, Nat.reduceMul, Nat.reduceLT, Nat.reduceLeDiff, reduceCtorEq, Int.reduceToNat]) | ((first | refine qf ?_ ?_ | refine qe ?_ ?_) <;> intro hc <;> simp only [hc, go_sem, ↓reduceIte, Nat.reduceEqDiff, Nat.reduceAdd, Nat.reduceSub, Nat.reduceMul, Nat.reduceLT, Nat.reduceLeDiff, reduceCtorEq, Int.reduceToNat] <;> (try simp only [qb, qa, decide_eq_true_eq, decide_eq_false_iff_not, Bool.and_eq_true] at hc)) | refine And.intro (by first | assumption | omega | (have := qg (by assumption); omega) | (unfold qp; omega)) ?_ | fail | ((first | refine qht ?_ | refine qdv ?_ | refine qb9 (qzh _ g1 hk2) (qbm _ _) (qbm _ _) rfl (q1h _ _) fun _ => ?_); simp only [go_sem, ↓reduceIte, Nat.reduceEqDiff, Nat.reduceAdd, Nat.reduceSub, Nat.reduceMul, Nat.reduceLT, Nat.reduceLeDiff, reduceCtorEq, Int.reduceToNat]))
    refine qby (S := Bool × Nat × K × List N) (fun x => x.2.2.1.good ∧ rest x.2.2.1 ≤ f ∧ (x.1 = true → qhb (qcu f) x.2.1 x.2.2.1 x.2.2.2 = tg ∧ rest x.2.2.1 < x.2.1) ∧ (x.1 = false → tg = (x.2.2.1, none)) ∧ x.2.2.2.length + rest x.2.2.1 ≤ 1048577)
      (q07 (qbd (qj c).1).pos (qbd (qj c).1).text) (fun x => if x.1 = true then rest x.2.2.1 + 1 else 0) ?_ ?_
    · have hrn := (qbs (qj c).1).2.1
      refine qbn (true, rest (qj c).1 + 1, q9 (qj c).1, []) [0, 1, 2] ⟨g2, by simp only; omega, fun _ => ⟨htg, by simp only; omega⟩, (by intro h; cases h), ?_⟩ rfl (by simp) ?_ ?_ ?_
      · have h9 := g2.rest
        unfold rest
        simp only [List.length_nil]
        omega
      all_goals simp only [q07, encs, qbu, qbv]
      all_goals simp only [go_sem, ↓reduceIte, Nat.reduceEqDiff, Nat.reduceAdd, Nat.reduceSub, Nat.reduceMul, Nat.reduceLT, Nat.reduceLeDiff, reduceCtorEq, Int.reduceToNat]
    · rintro ⟨b, fu, d, acc⟩ ⟨i1, i2, i3, i4, i5⟩
      simp only at i1 i2 i3 i4 i5
      unfold q07
      cases b with
      | false =>
        have i4 := i4 rfl
        subst i4
        repeat' (first | refine ql ?_ | refine qk ?_ | ((first | refine qn ?_ | refine qm ?_ | refine qs ?_ | refine qi ?_ | refine qh ?_ | refine qfz i1.2.2 ?_); simp only [go_sem, ↓reduceIte, Nat.reduceEqDiff, Nat.reduceAdd, Nat.reduceSub, Nat.reduceMul, Nat.reduceLT, Nat.reduceLeDiff, reduceCtorEq, Int.reduceToNat]) | ((first | refine qf ?_ ?_ | refine qe ?_ ?_) <;> intro hc <;> simp only [hc, go_sem, ↓reduceIte, Nat.reduceEqDiff, Nat.reduceAdd, Nat.reduceSub, Nat.reduceMul, Nat.reduceLT, Nat.reduceLeDiff, reduceCtorEq, Int.reduceToNat] <;> (try simp only [qb, qa, decide_eq_true_eq, decide_eq_false_iff_not, Bool.and_eq_true] at hc)) | refine And.intro (by first | assumption | omega | (have := qg (by assumption); omega) | (unfold qp; omega)) ?_ | fail)
        simp only [Option.map_none, Option.getD_none, Option.isSome_none, qd3]
      | true =>
        have i6 := (i3 rfl).2
        replace i3 := (i3 rfl).1
        clear i4
        obtain ⟨fu, rfl⟩ : ∃ k, fu = k + 1 := ⟨fu - 1, by omega⟩
        rw [qhb] at i3
        have hcap : qp (acc.length + 1) 64 := capN (by omega)
        have j1 : (qbx (qcu f) d).1.good := (qie hm d).1 i1
        have j2 : rest (qbx (qcu f) d).1 ≤ rest d := (qie hm d).2.1
        by_cases h0 : acc = []
        · subst h0
          simp only [encs, qbu, qbv]
          repeat' (first | refine ql ?_ | refine qk ?_ | ((first | refine qn ?_ | refine qm ?_ | refine qs ?_ | refine qi ?_ | refine qh ?_ | refine qbdh ?_ | refine qdt (qos hm ih _ i1 i2) rfl ?_ | refine qfz i1.2.2 ?_); simp only [go_sem, ↓reduceIte, Nat.reduceEqDiff, Nat.reduceAdd, Nat.reduceSub, Nat.reduceMul, Nat.reduceLT, Nat.reduceLeDiff, reduceCtorEq, Int.reduceToNat]) | ((first | refine qf ?_ ?_ | refine qe ?_ ?_) <;> intro hc <;> simp only [hc, go_sem, ↓reduceIte, Nat.reduceEqDiff, Nat.reduceAdd, Nat.reduceSub, Nat.reduceMul, Nat.reduceLT, Nat.reduceLeDiff, reduceCtorEq, Int.reduceToNat] <;> (try simp only [qb, qa, decide_eq_true_eq, decide_eq_false_iff_not, Bool.and_eq_true] at hc)) | refine And.intro (by first | assumption | omega | (have := qg (by assumption); omega) | (unfold qp; omega)) ?_ | fail)
          · have hb : begP d = true := by assumption
            have hs : (qbx (qcu f) d).2.isSome = true := by assumption
            rw [if_pos hb, if_pos hs] at i3
            have hlt := qn5 hm hs
            refine qbn (true, fu, (qbx (qcu f) d).1, [] ++ [(qbx (qcu f) d).2.getD N0]) [0, 1, 2, 4] ⟨⟨j1, by simp only; omega, fun _ => ⟨i3, by simp only; omega⟩, (by intro h; cases h), ?_⟩, by simp only [if_true]; omega⟩ rfl (by simp) ?_ ?_ ?_
            · simp only [List.length_append, List.length_cons, List.length_nil]; omega
            all_goals simp only [← qz, qct, qcs, List.nil_append, encs, qdg, qdh]
            all_goals simp only [go_sem, ↓reduceIte, Nat.reduceEqDiff, Nat.reduceAdd, Nat.reduceSub, Nat.reduceMul, Nat.reduceLT, Nat.reduceLeDiff, reduceCtorEq, Int.reduceToNat]
          · have hb : begP d = true := by assumption
            have hs : (qbx (qcu f) d).2.isSome = false := by assumption
            rw [if_pos hb, if_neg (by rw [hs]; simp)] at i3
            refine qbn (false, 0, (qbx (qcu f) d).1, []) [0, 1, 2] ⟨⟨j1, by simp only; omega, (by intro h; cases h), fun _ => i3.symm, by simp only; omega⟩, by simp only [if_true, Bool.false_eq_true, if_false]; omega⟩ rfl (by simp) ?_ ?_ ?_
            all_goals simp only [encs, qbu, qbv]
            all_goals simp only [go_sem, ↓reduceIte, Nat.reduceEqDiff, Nat.reduceAdd, Nat.reduceSub, Nat.reduceMul, Nat.reduceLT, Nat.reduceLeDiff, reduceCtorEq, Int.reduceToNat]
          · have hb : begP d = false := by assumption
            rw [if_neg (by rw [hb]; simp)] at i3
            subst i3
            simp only [Option.map_some, Option.getD_some, Option.isSome_some, enc, encs, and_self]
        · have hne := qci h0
          simp only [qb4 hne, qb3 hne, qbz]
          repeat' (first | refine ql ?_ | refine qk ?_ | ((first | refine qn ?_ | refine qm ?_ | refine qs ?_ | refine qi ?_ | refine qh ?_ | refine qbdh ?_ | refine qdt (qos hm ih _ i1 i2) rfl ?_ | refine qfz i1.2.2 ?_); simp only [go_sem, ↓reduceIte, Nat.reduceEqDiff, Nat.reduceAdd, Nat.reduceSub, Nat.reduceMul, Nat.reduceLT, Nat.reduceLeDiff, reduceCtorEq, Int.reduceToNat]) | ((first | refine qf ?_ ?_ | refine qe ?_ ?_) <;> intro hc <;> simp only [hc, go_sem, ↓reduceIte, Nat.reduceEqDiff, Nat.reduceAdd, Nat.reduceSub, Nat.reduceMul, Nat.reduceLT, Nat.reduceLeDiff, reduceCtorEq, Int.reduceToNat] <;> (try simp only [qb, qa, decide_eq_true_eq, decide_eq_false_iff_not, Bool.and_eq_true] at hc)) | refine And.intro (by first | assumption | omega | (have := qg (by assumption); omega) | (unfold qp; omega)) ?_ | fail)
          · have hb : begP d = true := by assumption
            have hs : (qbx (qcu f) d).2.isSome = true := by assumption
            rw [if_pos hb, if_pos hs] at i3
            have hlt := qn5 hm hs
            refine qbn (true, fu, (qbx (qcu f) d).1, acc ++ [(qbx (qcu f) d).2.getD N0]) [0, 1, 2, 5] ⟨⟨j1, by simp only; omega, fun _ => ⟨i3, by simp only; omega⟩, (by intro h; cases h), ?_⟩, by simp only [if_true]; omega⟩ rfl (by simp) ?_ ?_ ?_
            · simp only [List.length_append, List.length_cons, List.length_nil]; omega
            all_goals simp only [← qz, qct, qcs, List.nil_append, encs, qdg, qdh]
            all_goals simp only [go_sem, ↓reduceIte, Nat.reduceEqDiff, Nat.reduceAdd, Nat.reduceSub, Nat.reduceMul, Nat.reduceLT, Nat.reduceLeDiff, reduceCtorEq, Int.reduceToNat]
            rw [qz, qcb, qc5]; exact ⟨rfl, rfl⟩
          · have hb : begP d = true := by assumption
            have hs : (qbx (qcu f) d).2.isSome = false := by assumption
            rw [if_pos hb, if_neg (by rw [hs]; simp)] at i3
            refine qbn (false, 0, (qbx (qcu f) d).1, acc) [0, 1, 2, 3] ⟨⟨j1, by simp only; omega, (by intro h; cases h), fun _ => i3.symm, by simp only; omega⟩, by simp only [if_true, Bool.false_eq_true, if_false]; omega⟩ rfl (by simp) ?_ ?_ ?_
            all_goals simp only [qb4 hne, qb3 hne, qbz]
            all_goals simp only [go_sem, ↓reduceIte, Nat.reduceEqDiff, Nat.reduceAdd, Nat.reduceSub, Nat.reduceMul, Nat.reduceLT, Nat.reduceLeDiff, reduceCtorEq, Int.reduceToNat]
          · have hb : begP d = false := by assumption
            rw [if_neg (by rw [hb]; simp)] at i3
            subst i3
            simp only [Option.map_some, Option.getD_some, Option.isSome_some, enc, encs, and_self]
  · by_cases hk1 : (qj c).2 = true
    · have hk2 : ¬ (qbd (qj c).1).kind = 2 := fun h => hk ⟨hk1, h⟩
      have j1 : (qbx (qcu f) (qj c).1).1.good := (qie hm _).1 g1
      have hpa : qcu (f + 1) c = (qch (qbx (qcu f) (qj c).1).1, (qbx (qcu f) (qj c).1).2) := by rw [qcu, if_pos hk1, if_neg hk2]
      rw [hpa]
      clear hpa
      repeat' (first | refine ql ?_ | refine qk ?_ | ((first | refine qn ?_ | refine qm ?_ | refine qs ?_ | refine qi ?_ | refine qh ?_); simp (disch := first | omega | (simp only [List.length_set, List.length_append, List.length_cons, List.length_nil]; done) | (simp only [List.length_set, List.length_append, List.length_cons, List.length_nil]; omega)) only [hk1, hk2, go_sem, ↓reduceIte, Nat.reduceEqDiff, Nat.reduceAdd, Nat.reduceSub, Nat.reduceMul, Nat.reduceLT, Nat.reduceLeDiff, reduceCtorEq, Int.reduceToNat]) | ((first | refine qf ?_ ?_ | refine qe ?_ ?_) <;> intro hc <;> simp only [hc, go_sem, ↓reduceIte, Nat.reduceEqDiff, Nat.reduceAdd, Nat.reduceSub, Nat.reduceMul, Nat.reduceLT, Nat.reduceLeDiff, reduceCtorEq, Int.reduceToNat] <;> (try simp only [qb, qa, decide_eq_true_eq, decide_eq_false_iff_not, Bool.and_eq_true] at hc)) | refine And.intro (by first | assumption | omega | (have := qg (by assumption); omega) | (unfold qp; omega)) ?_ | fail | ((first | refine qht ?_ | refine qdv ?_ | refine qdt (qos hm ih _ g1 hr1) rfl ?_); simp only [go_sem, ↓reduceIte, Nat.reduceEqDiff, Nat.reduceAdd, Nat.reduceSub, Nat.reduceMul, Nat.reduceLT, Nat.reduceLeDiff, reduceCtorEq, Int.reduceToNat]))
      generalize hr' : qbx (qcu f) (qj c).1 = r at j1
      refine qby (S := Unit) (fun _ => True) (fun _ => (⟨[(0, .ptr 0 0), (2, .ptr 1 0), (4, .bool false), (5, .ptr 2 0), (6, .bool r.2.isSome)], []⟩, [curE r.1, .blk [.int .i64 0, .int .i64 0, .int .i64 0, .str [], .nils], .blk (enc (r.2.getD N0)).cells])) (fun _ => 0) ?_ ?_
      · refine qbn () [0, 1, 2] trivial rfl (by simp) ?_ ?_ ?_ <;> (try simp only [go_sem, ↓reduceIte, Nat.reduceEqDiff, Nat.reduceAdd, Nat.reduceSub, Nat.reduceMul, Nat.reduceLT, Nat.reduceLeDiff, reduceCtorEq, Int.reduceToNat]) <;> (try simp (disch := omega) only [qbb])
      · intro _ _
        repeat' (first | refine ql ?_ | refine qk ?_ | ((first | refine qn ?_ | refine qm ?_ | refine qs ?_ | refine qi ?_ | refine qh ?_ | refine qfz j1.2.2 ?_); simp only [go_sem, ↓reduceIte, Nat.reduceEqDiff, Nat.reduceAdd, Nat.reduceSub, Nat.reduceMul, Nat.reduceLT, Nat.reduceLeDiff, reduceCtorEq, Int.reduceToNat]) | ((first | refine qf ?_ ?_ | refine qe ?_ ?_) <;> intro hc <;> simp only [hc, go_sem, ↓reduceIte, Nat.reduceEqDiff, Nat.reduceAdd, Nat.reduceSub, Nat.reduceMul, Nat.reduceLT, Nat.reduceLeDiff, reduceCtorEq, Int.reduceToNat] <;> (try simp only [qb, qa, decide_eq_true_eq, decide_eq_false_iff_not, Bool.and_eq_true] at hc)) | refine And.intro (by first | assumption | omega | (have := qg (by assumption); omega) | (unfold qp; omega)) ?_ | fail)
        have hs : r.2 = none := by
          have : r.2.isSome = false := by assumption
          revert this
          cases r.2 <;> simp
        rw [hs, qd3]; rfl
    · have hk1 : (qj c).2 = false := by simpa using hk1
      have hpa : qcu (f + 1) c = ((qj c).1, none) := by rw [qcu, if_neg (by rw [hk1]; simp)]
      rw [hpa]
      repeat' (first | refine ql ?_ | refine qk ?_ | ((first | refine qn ?_ | refine qm ?_ | refine qs ?_ | refine qi ?_ | refine qh ?_); simp (disch := first | omega | (simp only [List.length_set, List.length_append, List.length_cons, List.length_nil]; done) | (simp only [List.length_set, List.length_append, List.length_cons, List.length_nil]; omega)) only [hk1, go_sem, ↓reduceIte, Nat.reduceEqDiff, Nat.reduceAdd, Nat.reduceSub, Nat.reduceMul, Nat.reduceLT, Nat.reduceLeDiff, reduceCtorEq, Int.reduceToNat]) | ((first | refine qf ?_ ?_ | refine qe ?_ ?_) <;> intro hc <;> simp only [hc, go_sem, ↓reduceIte, Nat.reduceEqDiff, Nat.reduceAdd, Nat.reduceSub, Nat.reduceMul, Nat.reduceLT, Nat.reduceLeDiff, reduceCtorEq, Int.reduceToNat] <;> (try simp only [qb, qa, decide_eq_true_eq, decide_eq_false_iff_not, Bool.and_eq_true] at hc)) | refine And.intro (by first | assumption | omega | (have := qg (by assumption); omega) | (unfold qp; omega)) ?_ | fail | ((first | refine qht ?_); simp only [go_sem, ↓reduceIte, Nat.reduceEqDiff, Nat.reduceAdd, Nat.reduceSub, Nat.reduceMul, Nat.reduceLT, Nat.reduceLeDiff, reduceCtorEq, Int.reduceToNat]))
      rw [qd3]; rfl
theorem qbgh (f : Nat) : ∀ c : K, c.good → rest c < f → qcp Tryz.prog 91 (curE c) (curE (qcu f c).1) [.ptr 0 0] (resP (qcu f c).2) := by
  induction f with
  | zero => exact fun c _ h => absurd h (by omega)
  | succ f ih => exact qtm ih
set_option maxRecDepth 4000

theorem qw5 {c : K} (h : (qit c).isSome = true) : c.err = 0 ∧ rest (q9 c) + 1 = rest c := by
  obtain ⟨n, hn⟩ := Option.isSome_iff_exists.1 h
  exact ⟨(qgw (qld hn)).1, qbo (qld hn)⟩
theorem qbbx {c : K} (h : begP c = true) : c.err = 0 := by
  simp only [begP, Bool.or_eq_true] at h
  rcases h with h | h
  · exact (qw5 h).1
  · exact qvm h
theorem qss {c : K} (h : c.err ≠ 0) : begP c = false := by
  cases hb : begP c with
  | false => rfl
  | true => exact absurd (qbbx hb) h
def qda (rec : K → K × N) (c : K) : K × N :=
  if begP c = true then
    if isK c [40] = true then (qch (qv (rec (qv (qj c).1 [40]).1).1 [41]).1, (rec (qv (qj c).1 [40]).1).2)
    else (q9 c, (qit c).getD N0)
  else (qe6 c 5, N0)
def qe2 (rec : K → K × N) : Nat → K → List N → K × List N
  | 0, c, acc => (c, acc)
  | f + 1, c, acc => if begP c = true then qe2 rec f (qda rec c).1 (acc ++ [(qda rec c).2]) else (c, acc)
def qd9 : Nat → K → K × N
  | 0, c => (c, N0)
  | f + 1, c =>
    if (qbd (qj c).1).kind = 2 then
      (qch (qe2 (qd9 f) (em (q9 (qj c).1) + 1) (q9 (qj c).1) []).1, .mk 14 (qbd (qj c).1).pos 0 (qbd (qj c).1).text (qe2 (qd9 f) (em (q9 (qj c).1) + 1) (q9 (qj c).1) []).2)
    else (qch (qda (qd9 f) (qj c).1).1, (qda (qd9 f) (qj c).1).2)
section
variable {rec : K → K × N} (hm : ∀ c, Mon c (rec c).1)
include hm
theorem qt1 (c : K) : Mon (qv (qj c).1 [40]).1 (qch (qv (rec (qv (qj c).1 [40]).1).1 [41]).1) := ((hm _).trans (qq _ _)).trans (qbw _)
theorem qg2 (c : K) : Mon c (qda rec c).1 := by
  unfold qda
  split
  · split
    · exact ((qx c).trans (qq _ _)).trans (qt1 hm c)
    · exact qbs c
  · exact qfk c 5
theorem qjj {c : K} (h : begP c = true) : em (qda rec c).1 < em c := by
  unfold qda
  rw [if_pos h]
  split
  · have h1 := qez (c := c) (by assumption)
    have h2 := (qt1 hm c).em
    simp only; omega
  · rename_i hk
    have h1 := qw5 (c := c) (by simpa [begP, hk] using h)
    have h2 := qji (q9 c)
    rw [qbj5 h1.1]
    simp only; omega
theorem qkf : ∀ (f : Nat) (c : K) (acc : List N), Mon c (qe2 rec f c acc).1
  | 0, c, acc => Mon.refl c
  | f + 1, c, acc => by
    rw [qe2]
    split
    · exact (qg2 hm c).trans (qkf f _ _)
    · exact Mon.refl c
end
theorem qg1 : ∀ (f : Nat) (c : K), Mon c (qd9 f c).1
  | 0, c => Mon.refl c
  | f + 1, c => by
    rw [qd9]
    split
    · exact (((qx c).trans (qbs _)).trans (qkf (qg1 f) _ _ _)).trans (qbw _)
    · exact ((qx c).trans (qg2 (qg1 f) _)).trans (qbw _)

/-! The program. -/
theorem qfe (c : K) : qbf Tryz.prog 121 [refC c] (.bool (begP c)) := by
  refine qu c0bc (by simp) (by simp only [go_sem]) rfl fun hw => ?_
  repeat' (first | refine ql ?_ | ((first | refine qn ?_ | refine qm ?_ | refine qc (qw c) fun _ => ?_ | refine qc (qc4 c _) fun _ => ?_ | refine qd  (qw c) ?_ | refine qd  (qc4 c _) ?_); simp only [go_sem, ↓reduceIte, Nat.reduceEqDiff, Nat.reduceAdd, Nat.reduceSub, Nat.reduceMul, Nat.reduceLT, Nat.reduceLeDiff, reduceCtorEq, Int.reduceToNat]) | ((first | refine qf ?_ ?_ | refine qe ?_ ?_) <;> intro hc <;> simp only [hc, go_sem, ↓reduceIte, Nat.reduceEqDiff, Nat.reduceAdd, Nat.reduceSub, Nat.reduceMul, Nat.reduceLT, Nat.reduceLeDiff, reduceCtorEq, Int.reduceToNat] <;> (try simp only [qb, qa, decide_eq_true_eq, decide_eq_false_iff_not, Bool.and_eq_true] at hc)) | refine And.intro (by first | assumption | omega | (have := qg (by assumption); omega) | (unfold qp; omega)) ?_ | fail)
  all_goals (have := @qss c; unfold begP qit at *; simp_all)
theorem qgt {rec : K → K × N} {b : Nat} (hm : ∀ c, Mon c (rec c).1) (ih : ∀ c, c.good → em c < b → qbf Tryz.prog 95 [refC c] (.tup [refC (rec c).1, enc (rec c).2])) (c : K) (hg : c.good) (hr : em c ≤ b) :
    qbf Tryz.prog 120 [refC c] (.tup [refC (qda rec c).1, enc (qda rec c).2]) := by
  have g1 : (qv (qj c).1 [40]).1.good := ((qx c).trans (qq _ _)).1 hg
  have g2 : (qv (rec (qv (qj c).1 [40]).1).1 [41]).1.good := ((hm _).trans (qq _ _)).1 g1
  refine qu c0bd (by simp) (by simp only [go_sem]) (by simp only [go_sem]) fun hw => ?_
  repeat' (first | refine ql ?_ | refine qk ?_ | ((first | refine qn ?_ | refine qbc (by rfl) ?_ | refine qy ?_ | refine qm ?_ | refine qi ?_ | refine qh ?_ | refine qc (qw c) fun _ => ?_ | refine qc (qc4 c _) fun _ => ?_ | refine qc (qfe c) fun _ => ?_ | refine qc (qc3 c _) fun _ => ?_ | refine qc (qco c) fun _ => ?_ | refine qc (qbg _ _) fun _ => ?_ | refine qc (ih _ g1 (Nat.lt_of_lt_of_le (qez (by assumption)) hr)) fun _ => ?_ | refine qc (qb1 _ g2.2.2) fun _ => ?_ | refine qc (qcf c) fun _ => ?_ | refine qd  (qw c) ?_ | refine qd  (qc4 c _) ?_ | refine qd  (qfe c) ?_ | refine qd  (qc3 c _) ?_ | refine qd  (qco c) ?_ | refine qd  (qbg _ _) ?_ | refine qd  (ih _ g1 (Nat.lt_of_lt_of_le (qez (by assumption)) hr)) ?_ | refine qd  (qb1 _ g2.2.2) ?_ | refine qd  (qcf c) ?_); simp only [go_sem, ↓reduceIte, Nat.reduceEqDiff, Nat.reduceAdd, Nat.reduceSub, Nat.reduceMul, Nat.reduceLT, Nat.reduceLeDiff, reduceCtorEq, Int.reduceToNat]) | ((first | refine qf ?_ ?_ | refine qe ?_ ?_) <;> intro hc <;> simp only [hc, go_sem, ↓reduceIte, Nat.reduceEqDiff, Nat.reduceAdd, Nat.reduceSub, Nat.reduceMul, Nat.reduceLT, Nat.reduceLeDiff, reduceCtorEq, Int.reduceToNat] <;> (try simp only [qb, qa, decide_eq_true_eq, decide_eq_false_iff_not, Bool.and_eq_true] at hc)) | refine And.intro (by first | assumption | omega | (have := qg (by assumption); omega) | (unfold qp; omega)) ?_ | fail)
  all_goals (unfold qda; simp only [*, qd3, Int.reduceEq, if_true, if_false, reduceIte, Bool.false_eq_true, Option.getD_none, Option.getD_some, Option.isSome_none, Option.isSome_some, and_self, true_and, and_true]; try rfl)
  all_goals
    have hb : begP c = true := by assumption
    have hk : isK c [40] = false := by assumption
    simp only [begP, hk, Bool.or_false] at hb
    unfold qit at hb ⊢
    clear ih
    simp_all [enc, encs]
def q2u (p : Int) (t : List UInt8) (x : Nat × K × List N) : AF × List Ent :=
  (⟨[(1, .ptr 0 0), (2, .ptr 1 0), (3, .ptr 2 0), (7, .ptr 3 0)], []⟩,
    .blk (refC x.2.1).cells :: .blk [.nils, .int .i64 0, .int .i64 0, .int .i64 0, .str [], .int .i64 0, .int .i64 0, .int .i64 0] :: .blk [.int .i64 0, .int .i64 0, .int .i64 0, .str [], .nils] :: .blk [.int .i64 14, .int .i64 p, .int .i64 0, .str t, accV 4 (encs x.2.2)] :: accE 5 (encs x.2.2))
theorem qrb {f : Nat} (ih : ∀ c, c.good → em c < f → qbf Tryz.prog 95 [refC c] (.tup [refC (qd9 f c).1, enc (qd9 f c).2])) (c : K) (hg : c.good) (hr : em c < f + 1) :
    qbf Tryz.prog 95 [refC c] (.tup [refC (qd9 (f + 1) c).1, enc (qd9 (f + 1) c).2]) := by
  have hm := qg1 f
  have g1 : (qj c).1.good := (qx c).1 hg
  have hr1 : em (qj c).1 ≤ f := by have := (qx c).em; omega
  refine qu c0be (by simp) (by simp only [go_sem]) (by simp only [go_sem]) fun hw => ?_
  by_cases hk : (qbd (qj c).1).kind = 2
  · have hpa : qd9 (f + 1) c = (qch (qe2 (qd9 f) (em (q9 (qj c).1) + 1) (q9 (qj c).1) []).1, .mk 14 (qbd (qj c).1).pos 0 (qbd (qj c).1).text (qe2 (qd9 f) (em (q9 (qj c).1) + 1) (q9 (qj c).1) []).2) := by rw [qd9, if_pos hk]
    rw [hpa]
    clear hpa
    have g2 : (q9 (qj c).1).good := (qbs _).1 g1
    have hr2 : em (q9 (qj c).1) ≤ f := by have := (qbs (qj c).1).em; omega
    generalize htg : qe2 (qd9 f) (em (q9 (qj c).1) + 1) (q9 (qj c).1) [] = tg
    have hmt : Mon (q9 (qj c).1) tg.1 := htg ▸ qkf hm _ _ _
    have g3 : tg.1.good := hmt.1 g2
    repeat' (first | refine ql ?_ | refine qk ?_ | ((first | refine qn ?_ | refine qbc (by rfl) ?_ | refine qy ?_ | refine qm ?_ | refine qs ?_ | refine qi ?_ | refine qh ?_); simp (disch := first | omega | (simp only [List.length_set, List.length_append, List.length_cons, List.length_nil]; done) | (simp only [List.length_set, List.length_append, List.length_cons, List.length_nil]; omega)) only [hk, go_sem, ↓reduceIte, Nat.reduceEqDiff, Nat.reduceAdd, Nat.reduceSub, Nat.reduceMul, Nat.reduceLT, Nat.reduceLeDiff, reduceCtorEq, Int.reduceToNat]) | ((first | refine qf ?_ ?_ | refine qe ?_ ?_) <;> intro hc <;> simp only [hc, go_sem, ↓reduceIte, Nat.reduceEqDiff, Nat.reduceAdd, Nat.reduceSub, Nat.reduceMul, Nat.reduceLT, Nat.reduceLeDiff, reduceCtorEq, Int.reduceToNat] <;> (try simp only [qb, qa, decide_eq_true_eq, decide_eq_false_iff_not, Bool.and_eq_true] at hc)) | refine And.intro (by first | assumption | omega | (have := qg (by assumption); omega) | (unfold qp; omega)) ?_ | fail | ((first | refine qc (qw _) fun _ => ?_ | refine qc (qco c) fun _ => ?_ | refine qc (qcf _) fun _ => ?_ | refine qd  (qw _) ?_ | refine qd  (qco c) ?_ | refine qd  (qcf _) ?_); simp only [go_sem, ↓reduceIte, Nat.reduceEqDiff, Nat.reduceAdd, Nat.reduceSub, Nat.reduceMul, Nat.reduceLT, Nat.reduceLeDiff, reduceCtorEq, Int.reduceToNat]))
    refine qby (S := Nat × K × List N) (fun x => x.2.1.good ∧ em x.2.1 ≤ f ∧ qe2 (qd9 f) x.1 x.2.1 x.2.2 = tg ∧ em x.2.1 < x.1 ∧ x.2.2.length + em x.2.1 ≤ 1048578)
      (q2u (qbd (qj c).1).pos (qbd (qj c).1).text) (fun x => em x.2.1) ?_ ?_
    · refine qbn (em (q9 (qj c).1) + 1, q9 (qj c).1, []) [0, 1, 2, 4] ⟨g2, hr2, htg, by simp only; omega, ?_⟩ rfl (by simp) ?_ ?_ ?_
      · have h9 := g2.rest
        have h8 := qji (q9 (qj c).1)
        unfold rest at h8
        simp only [List.length_nil]
        omega
      all_goals simp only [q2u, encs, qbu, qbv]
      all_goals simp only [go_sem, ↓reduceIte, Nat.reduceEqDiff, Nat.reduceAdd, Nat.reduceSub, Nat.reduceMul, Nat.reduceLT, Nat.reduceLeDiff, reduceCtorEq, Int.reduceToNat]
    · rintro ⟨fu, d, acc⟩ ⟨i1, i2, i3, i4, i5⟩
      simp only at i1 i2 i3 i4 i5
      unfold q2u
      obtain ⟨fu, rfl⟩ : ∃ k, fu = k + 1 := ⟨fu - 1, by omega⟩
      rw [qe2] at i3
      have hcap : qp (acc.length + 1) 64 := capN (by omega)
      have j1 : (qda (qd9 f) d).1.good := (qg2 hm d).1 i1
      have j2 : em (qda (qd9 f) d).1 ≤ em d := (qg2 hm d).em
      by_cases h0 : acc = []
      · subst h0
        simp only [encs, qbu, qbv]
        repeat' (first | refine ql ?_ | refine qk ?_ | ((first | refine qn ?_ | refine qbc (by rfl) ?_ | refine qy ?_ | refine qm ?_ | refine qs ?_ | refine qi ?_ | refine qh ?_ | refine qc (qfe _) fun _ => ?_ | refine qc (qgt hm ih _ i1 i2) fun _ => ?_ | refine qc (qb1 _ i1.2.2) fun _ => ?_ | refine qd  (qfe _) ?_ | refine qd  (qgt hm ih _ i1 i2) ?_ | refine qd  (qb1 _ i1.2.2) ?_); simp only [go_sem, ↓reduceIte, Nat.reduceEqDiff, Nat.reduceAdd, Nat.reduceSub, Nat.reduceMul, Nat.reduceLT, Nat.reduceLeDiff, reduceCtorEq, Int.reduceToNat]) | ((first | refine qf ?_ ?_ | refine qe ?_ ?_) <;> intro hc <;> simp only [hc, go_sem, ↓reduceIte, Nat.reduceEqDiff, Nat.reduceAdd, Nat.reduceSub, Nat.reduceMul, Nat.reduceLT, Nat.reduceLeDiff, reduceCtorEq, Int.reduceToNat] <;> (try simp only [qb, qa, decide_eq_true_eq, decide_eq_false_iff_not, Bool.and_eq_true] at hc)) | refine And.intro (by first | assumption | omega | (have := qg (by assumption); omega) | (unfold qp; omega)) ?_ | fail)
        · have hb : begP d = true := by assumption
          rw [if_pos hb] at i3
          have hlt := qjj hm hb
          refine qbn (fu, (qda (qd9 f) d).1, [] ++ [(qda (qd9 f) d).2]) [0, 1, 2, 3, 6] ⟨⟨j1, by simp only; omega, i3, by simp only; omega, ?_⟩, by simp only; omega⟩ rfl (by simp) ?_ ?_ ?_
          · simp only [List.length_append, List.length_cons, List.length_nil]; omega
          all_goals simp only [q2u, ← qz, qct, qcs, List.nil_append, encs, qdg, qdh]
          all_goals simp only [go_sem, ↓reduceIte, Nat.reduceEqDiff, Nat.reduceAdd, Nat.reduceSub, Nat.reduceMul, Nat.reduceLT, Nat.reduceLeDiff, reduceCtorEq, Int.reduceToNat]
        · have hb : begP d = false := by assumption
          rw [if_neg (by rw [hb]; simp)] at i3
          subst i3
          rfl
      · have hne := qci h0
        simp only [qb4 hne, qb3 hne, qbz]
        repeat' (first | refine ql ?_ | refine qk ?_ | ((first | refine qn ?_ | refine qbc (by rfl) ?_ | refine qy ?_ | refine qm ?_ | refine qs ?_ | refine qi ?_ | refine qh ?_ | refine qc (qfe _) fun _ => ?_ | refine qc (qgt hm ih _ i1 i2) fun _ => ?_ | refine qc (qb1 _ i1.2.2) fun _ => ?_ | refine qd  (qfe _) ?_ | refine qd  (qgt hm ih _ i1 i2) ?_ | refine qd  (qb1 _ i1.2.2) ?_); simp only [go_sem, ↓reduceIte, Nat.reduceEqDiff, Nat.reduceAdd, Nat.reduceSub, Nat.reduceMul, Nat.reduceLT, Nat.reduceLeDiff, reduceCtorEq, Int.reduceToNat]) | ((first | refine qf ?_ ?_ | refine qe ?_ ?_) <;> intro hc <;> simp only [hc, go_sem, ↓reduceIte, Nat.reduceEqDiff, Nat.reduceAdd, Nat.reduceSub, Nat.reduceMul, Nat.reduceLT, Nat.reduceLeDiff, reduceCtorEq, Int.reduceToNat] <;> (try simp only [qb, qa, decide_eq_true_eq, decide_eq_false_iff_not, Bool.and_eq_true] at hc)) | refine And.intro (by first | assumption | omega | (have := qg (by assumption); omega) | (unfold qp; omega)) ?_ | fail)
        · have hb : begP d = true := by assumption
          rw [if_pos hb] at i3
          have hlt := qjj hm hb
          refine qbn (fu, (qda (qd9 f) d).1, acc ++ [(qda (qd9 f) d).2]) [0, 1, 2, 3, 7] ⟨⟨j1, by simp only; omega, i3, by simp only; omega, ?_⟩, by simp only; omega⟩ rfl (by simp) ?_ ?_ ?_
          · simp only [List.length_append, List.length_cons, List.length_nil]; omega
          all_goals simp only [q2u, ← qz, qct, qcs, List.nil_append, encs, qdg, qdh]
          all_goals simp only [go_sem, ↓reduceIte, Nat.reduceEqDiff, Nat.reduceAdd, Nat.reduceSub, Nat.reduceMul, Nat.reduceLT, Nat.reduceLeDiff, reduceCtorEq, Int.reduceToNat]
          rw [qz, qcb, qc5]; exact ⟨rfl, rfl⟩
        · have hb : begP d = false := by assumption
          rw [if_neg (by rw [hb]; simp)] at i3
          subst i3
          rfl
  · have hpa : qd9 (f + 1) c = (qch (qda (qd9 f) (qj c).1).1, (qda (qd9 f) (qj c).1).2) := by rw [qd9, if_neg hk]
    rw [hpa]
    have j1 : (qda (qd9 f) (qj c).1).1.good := (qg2 hm _).1 g1
    repeat' (first | refine ql ?_ | refine qk ?_ | ((first | refine qn ?_ | refine qbc (by rfl) ?_ | refine qy ?_ | refine qm ?_ | refine qs ?_ | refine qi ?_ | refine qh ?_); simp (disch := first | omega | (simp only [List.length_set, List.length_append, List.length_cons, List.length_nil]; done) | (simp only [List.length_set, List.length_append, List.length_cons, List.length_nil]; omega)) only [hk, go_sem, ↓reduceIte, Nat.reduceEqDiff, Nat.reduceAdd, Nat.reduceSub, Nat.reduceMul, Nat.reduceLT, Nat.reduceLeDiff, reduceCtorEq, Int.reduceToNat]) | ((first | refine qf ?_ ?_ | refine qe ?_ ?_) <;> intro hc <;> simp only [hc, go_sem, ↓reduceIte, Nat.reduceEqDiff, Nat.reduceAdd, Nat.reduceSub, Nat.reduceMul, Nat.reduceLT, Nat.reduceLeDiff, reduceCtorEq, Int.reduceToNat] <;> (try simp only [qb, qa, decide_eq_true_eq, decide_eq_false_iff_not, Bool.and_eq_true] at hc)) | refine And.intro (by first | assumption | omega | (have := qg (by assumption); omega) | (unfold qp; omega)) ?_ | fail | ((first | refine qc (qw _) fun _ => ?_ | refine qc (qco c) fun _ => ?_ | refine qc (qgt hm ih _ g1 hr1) fun _ => ?_ | refine qc (qb1 _ j1.2.2) fun _ => ?_ | refine qd  (qw _) ?_ | refine qd  (qco c) ?_ | refine qd  (qgt hm ih _ g1 hr1) ?_ | refine qd  (qb1 _ j1.2.2) ?_); simp only [go_sem, ↓reduceIte, Nat.reduceEqDiff, Nat.reduceAdd, Nat.reduceSub, Nat.reduceMul, Nat.reduceLT, Nat.reduceLeDiff, reduceCtorEq, Int.reduceToNat]))
theorem qba2 (f : Nat) : ∀ c : K, c.good → em c < f → qbf Tryz.prog 95 [refC c] (.tup [refC (qd9 f c).1, enc (qd9 f c).2]) := by
  induction f with
  | zero => exact fun c _ h => absurd h (by omega)
  | succ f ih => exact qrb ih

/-! What both read. -/
theorem qnr {rec : K → K × N} {c : K} (h : c.err ≠ 0) : qda rec c = (c, N0) := by
  rw [qda, if_neg (by rw [qss h]; simp), qf8 h]
theorem qv3 {rec : K → K × N} {c : K} (h : c.err ≠ 0) (f : Nat) (acc : List N) : qe2 rec f c acc = (c, acc) := by
  cases f with
  | zero => rfl
  | succ f => rw [qe2, if_neg (by rw [qss h]; simp)]
theorem qua (f : Nat) {c : K} (h : c.err ≠ 0) : qd9 f c = (c, N0) := by
  cases f with
  | zero => rfl
  | succ f => rw [qd9, qh0 h, qfo h, if_neg (by decide), qnr h, qcl h]
section
variable {rp : K → K × Option N} {rr : K → K × N} {b : Nat} (hx : ∀ c : K, c.err ≠ 0 → (rr c).1 = c) (ih : ∀ c, em c < b → qed (rp c) (rr c))
include hx ih
theorem qpx {c : K} (hr : em c ≤ b) : qed (qbx rp c) (qda rr c) := by
  unfold qbx qda
  by_cases hl : (qit c).isSome = true
  · have hk : ¬ isK c [40] = true := by
      intro h
      obtain ⟨n, hn⟩ := Option.isSome_iff_exists.1 hl
      simp only [isK, qiv, Bool.and_eq_true, Bool.or_eq_true, decide_eq_true_eq] at h
      unfold qit at hn
      rw [if_neg (by omega), if_neg (by omega), if_neg (by omega), if_neg (by simp [isK, qiv, h.2.2])] at hn
      cases hn
    rw [if_pos hl, if_pos (show begP c = true by simp [begP, hl]), if_neg hk]
    exact ⟨rfl, fun n h => by simp only at h ⊢; rw [h]; rfl, fun h => by simp only at h; rw [h] at hl; cases hl⟩
  · rw [if_neg hl]
    by_cases hk : isK c [40] = true
    · rw [if_pos hk, if_pos (show begP c = true by simp [begP, hk]), if_pos hk]
      have hem := qez hk
      by_cases he : (qj c).2 = true
      · rw [if_pos he]
        have hk' : isK (qj c).1 [40] = true := by rw [qm5 he]; exact hk
        rw [qnm hk'] at hem ⊢
        simp only at hem ⊢
        obtain ⟨a1, a2, a3⟩ := ih (q9 (qj c).1) (by omega)
        rw [← a1]
        generalize rp (q9 (qj c).1) = r at *
        obtain ⟨d, o⟩ := r
        simp only at a1 a2 a3 ⊢
        cases o with
        | none =>
          have h3 := a3 rfl
          rw [if_neg (by simp), qb8 h3, qcl h3]
          exact ⟨rfl, (fun n h => by cases h), fun _ => h3⟩
        | some n =>
          rw [if_pos (by rfl)]
          by_cases hw : (qv d [41]).2 = true
          · rw [if_pos hw]
            exact ⟨rfl, fun m h => a2 m h, (fun h => by cases h)⟩
          · rw [if_neg hw]
            have h3 := qec (by simpa using hw)
            exact ⟨(qcl h3).symm, (fun n h => by cases h), fun _ => h3⟩
      · have he' : (qj c).2 = false := by simpa using he
        have h1 := qf9 he'
        rw [if_neg he]
        rw [qb8 h1] at hem ⊢
        simp only at hem ⊢
        rw [hx _ h1, qb8 h1, qcl h1]
        exact ⟨rfl, (fun n h => by cases h), fun _ => h1⟩
    · rw [if_neg hk, if_neg (show ¬ begP c = true by simp [begP, hl, hk])]
      exact ⟨rfl, (fun n h => by cases h), fun _ => qhf c⟩
theorem qq4 (hp : ∀ c, Mon c (rp c).1) (hm : ∀ c, Mon c (rr c).1) : ∀ (f g : Nat) (c : K) (acc : List N), rest c < f → em c < g → em c ≤ b →
    (qhb rp f c acc).1 = (qe2 rr g c acc).1 ∧ (∀ l, (qhb rp f c acc).2 = some l → l = (qe2 rr g c acc).2) ∧ ((qhb rp f c acc).2 = none → (qhb rp f c acc).1.err ≠ 0)
  | 0, _, _, _ => fun h _ _ => by omega
  | _, 0, _, _ => fun _ h _ => by omega
  | f + 1, g + 1, c, acc => fun hf hg hb => by
    rw [qhb, qe2]
    by_cases hk : begP c = true
    · rw [if_pos hk, if_pos hk]
      obtain ⟨a1, a2, a3⟩ := qpx hx ih hb
      have hl := qjj hm hk
      rw [← a1] at hl ⊢
      cases ho : (qbx rp c).2 with
      | none =>
        have h3 := a3 ho
        rw [if_neg (by simp), qv3 h3]
        exact ⟨rfl, (fun n h => by cases h), fun _ => h3⟩
      | some n =>
        rw [if_pos (by rfl), ← a2 n ho]
        exact qq4 hp hm f g _ _ (by have := qn5 hp (c := c) (by rw [ho]; rfl); omega) (by omega) (by omega)
    · rw [if_neg hk, if_neg hk]
      exact ⟨rfl, (fun l h => by cases h; rfl), (fun h => by cases h)⟩
end
theorem qxe : ∀ (f : Nat) (c : K), em c < f → qed (qcu f c) (qd9 f c)
  | 0, _ => fun h => by omega
  | f + 1, c => fun hf => by
    have ih := qxe f
    have hx : ∀ c : K, c.err ≠ 0 → (qd9 f c).1 = c := fun c h => by rw [qua f h]
    by_cases he : (qj c).2 = true
    · have h1 := (qx c).em
      rw [qcu, qd9, if_pos he]
      by_cases hk : (qbd (qj c).1).kind = 2
      · rw [if_pos hk, if_pos hk]
        have hr := qbo (c := (qj c).1) (by omega)
        obtain ⟨a1, a2, a3⟩ := qq4 hx ih (qek f) (qg1 f) (rest (qj c).1 + 1) (em (q9 (qj c).1) + 1) (q9 (qj c).1) [] (by omega) (by omega) (by have := (qbs (qj c).1).em; omega)
        rw [← a1]
        generalize qhb (qcu f) (rest (qj c).1 + 1) (q9 (qj c).1) [] = r at *
        obtain ⟨d, o⟩ := r
        cases o with
        | none =>
          have h3 := a3 rfl
          simp only at h3
          refine ⟨rfl, (fun n h => by cases h), fun _ => ?_⟩
          simp only
          rwa [qcl h3]
        | some l => exact ⟨rfl, (fun n h => by cases h; rw [a2 l rfl]), (fun h => by cases h)⟩
      · rw [if_neg hk, if_neg hk]
        obtain ⟨a1, a2, a3⟩ := qpx hx ih (c := (qj c).1) (by omega)
        rw [← a1]
        exact ⟨rfl, a2, fun h => by simp only at h ⊢; rw [qcl (a3 h)]; exact a3 h⟩
    · have he' : (qj c).2 = false := by simpa using he
      have h1 := qf9 he'
      rw [qcu, if_neg he, qd9, qfo h1, if_neg (by decide), qnr h1]
      exact ⟨(qcl h1).symm, (fun n h => by cases h), fun _ => h1⟩
end Go.Proofs.YtmekebfgmjaenaaGreat
