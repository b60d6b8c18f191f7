/- A text of this proof. -/
import Derived.Test.YtfjbmjplnmaclaaObb

/- patterns: what is read (plain); the program -/
set_option maxRecDepth 4000
namespace Go.Proofs.Ytfjbmjplnmaclaa
open Go Go.RowKit Go.V
set_option linter.unusedVariables false
set_option linter.unusedSimpArgs false

/-! Patterns. -/
def leafP (c : K) : Option N :=
  if (qw c).kind = 1 then some (.mk 11 (qw c).pos 0 (qw c).text [])
  else if (qw c).kind = 2 then some (.mk 14 (qw c).pos 0 (qw c).text [])
  else if (qw c).kind = 3 then some (.mk 13 (qw c).pos (qw c).num [] [])
  else if isK c [95] = true then some (.mk 12 (qw c).pos 0 [] [])
  else none
def begP (c : K) : Bool := (leafP c).isSome || isK c [40]
def qbp (rec : K → K × Option N) (c : K) : K × Option N :=
  if (leafP c).isSome = true then (q7 c, leafP c)
  else if isK c [40] = true then
    if (qi c).2 = true then
      if (rec (q7 (qi c).1)).2.isSome = true then
        if (qq (rec (q7 (qi c).1)).1 [41]).2 = true then (qci (qq (rec (q7 (qi c).1)).1 [41]).1, (rec (q7 (qi c).1)).2)
        else ((qq (rec (q7 (qi c).1)).1 [41]).1, none)
      else ((rec (q7 (qi c).1)).1, none)
    else ((qi c).1, none)
  else (qd3 c 5, none)
def qfg (rec : K → K × Option N) : Nat → K → List N → K × Option (List N)
  | 0, c, acc => (c, none)
  | f + 1, c, acc =>
    if begP c = true then
      if (qbp rec c).2.isSome = true then qfg rec f (qbp rec c).1 (acc ++ [(qbp rec c).2.getD N0])
      else ((qbp rec c).1, none)
    else (c, some acc)
def qcf : Nat → K → K × Option N
  | 0, c => (c, none)
  | f + 1, c =>
    if (qi c).2 = true then
      if (qw (qi c).1).kind = 2 then
        (qci (qfg (qcf f) (rest (qi c).1 + 1) (q7 (qi c).1) []).1, (qfg (qcf f) (rest (qi c).1 + 1) (q7 (qi c).1) []).2.map fun ks => .mk 14 (qw (qi c).1).pos 0 (qw (qi c).1).text ks)
      else (qci (qbp (qcf f) (qi c).1).1, (qbp (qcf f) (qi c).1).2)
    else ((qi c).1, none)

theorem qiz {c : K} {n : N} (h : leafP c = some n) : (qw c).kind ≠ 0 := by
  unfold leafP at h
  split at h
  · omega
  · split at h
    · omega
    · split at h
      · omega
      · split at h
        · exact qcv (by assumption)
        · cases h
section
variable {rec : K → K × Option N} (hm : ∀ c, Mon c (rec c).1)
include hm
theorem qj5 (c : K) : Mon c (qbp rec c).1 := by
  unfold qbp
  split
  · exact qb1 c
  · split
    · split
      · have h1 := ((q8 c).trans (qb1 _)).trans (hm _)
        split
        · split
          · exact (h1.trans (qr _ _)).trans (qbh _)
          · exact h1.trans (qr _ _)
        · exact h1
      · exact q8 c
    · exact qd9 c 5
theorem qog {c : K} (h : (qbp rec c).2.isSome = true) : rest (qbp rec c).1 < rest c := by
  unfold qbp at h ⊢
  split at h
  · rename_i hl
    rw [if_pos hl]
    obtain ⟨n, hn⟩ := Option.isSome_iff_exists.1 hl
    have := qbj (qiz hn)
    simp only; omega
  · rename_i hl
    rw [if_neg hl]
    split at h
    · rename_i hk
      rw [if_pos hk]
      split at h
      · rename_i he
        rw [if_pos he]
        have hp := qbj (c := (qi c).1) (by rw [qc1 he]; exact qcv hk)
        have h0 := (q8 c).2.1
        have h1 := (hm (q7 (qi c).1)).2.1
        split at h
        · rename_i hr
          rw [if_pos hr]
          have h2 := (qr (rec (q7 (qi c).1)).1 [41]).2.1
          split at h
          · rename_i hw
            rw [if_pos hw]
            have h3 := (qbh (qq (rec (q7 (qi c).1)).1 [41]).1).2.1
            simp only; omega
          · cases h
        · cases h
      · cases h
    · cases h
theorem qt1 : ∀ (f : Nat) (c : K) (acc : List N), Mon c (qfg rec f c acc).1
  | 0, c, acc => Mon.refl c
  | f + 1, c, acc => by
    rw [qfg]
    split
    · split
      · exact (qj5 hm c).trans (qt1 f _ _)
      · exact qj5 hm c
    · exact Mon.refl c
end
theorem qe0 : ∀ (f : Nat) (c : K), Mon c (qcf f c).1
  | 0, c => Mon.refl c
  | f + 1, c => by
    rw [qcf]
    split
    · split
      · exact (((q8 c).trans (qb1 _)).trans (qt1 (qe0 f) _ _ _)).trans (qbh _)
      · exact ((q8 c).trans (qj5 (qe0 f) _)).trans (qbh _)
    · exact q8 c
theorem q3u (c : K) : qcc Try.prog 97 (curE c) (curE c) [.ptr 0 0] (resP (leafP c)) := by
  refine qx c0o 1 (by simp) (by simp) ?_
  repeat' (first | refine qj ?_ | refine ql ?_ | ((first | refine qn ?_ | refine qcm (by rfl) ?_ | refine qba ?_ | refine qk ?_ | refine qg ?_ | refine qb4 ?_ | refine a_Is ?_ | ((first | refine qe ?_ ?_ | refine qd ?_ ?_) <;> intro hc <;> (try simp only [hc]) <;> (try simp only [qb, qa, decide_eq_true_eq, decide_eq_false_iff_not, Bool.and_eq_true] at hc)) | refine And.intro (by first | assumption | omega | (have := qf (by assumption); omega) | (unfold qp; omega)) ?_ | simp (disch := omega) only [qc] | simp (disch := omega) only [qo]) <;> (try simp only [go_sem, ↓reduceIte, Nat.reduceEqDiff, Nat.reduceAdd, Nat.reduceSub, Nat.reduceMul, Nat.reduceLT, Nat.reduceLeDiff, reduceCtorEq, Int.reduceToNat])))
  all_goals (unfold leafP; simp_all [enc, encs, N0])
theorem q5e {c : K} {L : List Ent} {Q : List Ent → VO → Prop} (hq : Q (curE c :: L) (.val (resP (leafP c)))) : VApp Try.prog (curE c :: L) (.fn 97 [] []) [.ptr 0 0] Q := qcp (q3u c) rfl hq
theorem qxb (c : K) : qcc Try.prog 96 (curE c) (curE c) [.ptr 0 0] (.bool (begP c)) := by
  refine qx c0p 1 (by simp) (by simp) ?_
  repeat' (first | refine qj ?_ | ((first | refine qn ?_ | refine qk ?_ | refine q5e ?_ | refine a_Is ?_ | ((first | refine qe ?_ ?_ | refine qd ?_ ?_) <;> intro hc <;> (try simp only [hc]) <;> (try simp only [qb, qa, decide_eq_true_eq, decide_eq_false_iff_not, Bool.and_eq_true] at hc)) | refine And.intro (by first | assumption | omega | (have := qf (by assumption); omega) | (unfold qp; omega)) ?_ | simp (disch := omega) only [qc] | simp (disch := omega) only [qo]) <;> (try simp only [go_sem, ↓reduceIte, Nat.reduceEqDiff, Nat.reduceAdd, Nat.reduceSub, Nat.reduceMul, Nat.reduceLT, Nat.reduceLeDiff, reduceCtorEq, Int.reduceToNat])))
  all_goals (unfold begP; simp_all)
theorem qbdg {c : K} {L : List Ent} {Q : List Ent → VO → Prop} (hq : Q (curE c :: L) (.val (.bool (begP c)))) : VApp Try.prog (curE c :: L) (.fn 96 [] []) [.ptr 0 0] Q := qb9 (qxb c) (qbe _ _) (qbe _ _) rfl rfl fun _ => hq
theorem qqf {rec : K → K × Option N} {b : Nat} (hm : ∀ c, Mon c (rec c).1) (ih : ∀ c, c.good → rest c < b → qcc Try.prog 91 (curE c) (curE (rec c).1) [.ptr 0 0] (resP (rec c).2)) (c : K) (hg : c.good) (hr : rest c ≤ b) :
    qcc Try.prog 95 (curE c) (curE (qbp rec c).1) [.ptr 0 0] (resP (qbp rec c).2) := by
  have g1 : (qi c).1.good := (q8 c).1 hg
  have g2 : (q7 (qi c).1).good := (qb1 _).1 g1
  have g3 : (rec (q7 (qi c).1)).1.good := (hm _).1 g2
  have g4 : (qq (rec (q7 (qi c).1)).1 [41]).1.good := (qr _ _).1 g3
  have hrr : isK c [40] = true → (qi c).2 = true → rest (q7 (qi c).1) < b := fun h1 h2 => by
    have := qbj (c := (qi c).1) (by rw [qc1 h2]; exact qcv h1)
    have := (q8 c).2.1
    omega
  refine qx c0q 1 (by simp) (by simp) ?_
  repeat' (first | refine qj ?_ | ((first | refine qn ?_ | refine qk ?_ | refine qh ?_ | refine qg ?_ | refine q5e ?_ | refine a_Is ?_ | refine qse ?_ | refine qhh ?_ | refine qjb hg.ok ?_ | refine qjb g1.ok ?_ | refine qcp (ih _ g2 (hrr (by assumption) (by assumption))) rfl ?_ | refine qce g3.ok ?_ | refine qfi g4.2.2 ?_ | ((first | refine qe ?_ ?_ | refine qd ?_ ?_) <;> intro hc <;> (try simp only [hc]) <;> (try simp only [qb, qa, decide_eq_true_eq, decide_eq_false_iff_not, Bool.and_eq_true] at hc)) | refine And.intro (by first | assumption | omega | (have := qf (by assumption); omega) | (unfold qp; omega)) ?_ | simp (disch := omega) only [qc] | simp (disch := omega) only [qo]) <;> (try simp only [go_sem, ↓reduceIte, Nat.reduceEqDiff, Nat.reduceAdd, Nat.reduceSub, Nat.reduceMul, Nat.reduceLT, Nat.reduceLeDiff, reduceCtorEq, Int.reduceToNat])))
  all_goals (unfold qbp; simp only [*, qd2, Int.reduceEq, if_true, if_false, reduceIte, Bool.false_eq_true, Option.getD_none, Option.getD_some, Option.isSome_none, Option.isSome_some, and_self, true_and, and_true]; try rfl)
/-- The name's node, as it is made. -/
def conZ (c : K) : AV := .tup [.agg [.int .i64 14, .int .i64 (qw c).pos, .int .i64 0, .str (qw c).text, .nils], .bool true]
attribute [go_sem] conZ
theorem q32 (k : Nat) (c : K) : (conZ c).bd k = true := rfl
theorem q1s (c : K) (hc : (qw c).kind = 2) : qcc Try.prog 97 (curE c) (curE c) [.ptr 0 0] (conZ c) := by
  refine qdm c0o 1 (by simp) (by simp) ?_
  repeat' (first | refine qj ?_ | refine ql ?_ | ((first | refine qn ?_ | refine qcm (by rfl) ?_ | refine qba ?_ | refine qk ?_ | refine qg ?_) <;> (try simp (disch := first | omega | (simp only [List.length_set, List.length_append, List.length_cons, List.length_nil]; done) | (simp only [List.length_set, List.length_append, List.length_cons, List.length_nil]; omega)) only [hc, Int.reduceEq, go_sem, ↓reduceIte, Nat.reduceEqDiff, Nat.reduceAdd, Nat.reduceSub, Nat.reduceMul, Nat.reduceLT, Nat.reduceLeDiff, reduceCtorEq, Int.reduceToNat])) | ((first | ((first | refine qe ?_ ?_ | refine qd ?_ ?_) <;> intro hc <;> (try simp only [hc]) <;> (try simp only [qb, qa, decide_eq_true_eq, decide_eq_false_iff_not, Bool.and_eq_true] at hc)) | refine And.intro (by first | assumption | omega | (have := qf (by assumption); omega) | (unfold qp; omega)) ?_ | simp (disch := omega) only [qc] | simp (disch := omega) only [qo] | refine qb4 ?_ | refine a_Is ?_) <;> (try simp only [go_sem, ↓reduceIte, Nat.reduceEqDiff, Nat.reduceAdd, Nat.reduceSub, Nat.reduceMul, Nat.reduceLT, Nat.reduceLeDiff, reduceCtorEq, Int.reduceToNat])))
theorem q0x (c : K) (hg : c.good) (hc : (qw c).kind = 2) : qcc Try.prog 95 (curE c) (curE (q7 c)) [.ptr 0 0] (conZ c) := by
  refine qdm c0q 1 (by simp) (by simp) ?_
  repeat' (first | refine qj ?_ | ((first | refine qn ?_ | refine qk ?_ | refine qh ?_ | refine qg ?_) <;> (try simp (disch := first | omega | (simp only [List.length_set, List.length_append, List.length_cons, List.length_nil]; done) | (simp only [List.length_set, List.length_append, List.length_cons, List.length_nil]; omega)) only [hc, go_sem, ↓reduceIte, Nat.reduceEqDiff, Nat.reduceAdd, Nat.reduceSub, Nat.reduceMul, Nat.reduceLT, Nat.reduceLeDiff, reduceCtorEq, Int.reduceToNat])) | ((first | ((first | refine qe ?_ ?_ | refine qd ?_ ?_) <;> intro hc <;> (try simp only [hc]) <;> (try simp only [qb, qa, decide_eq_true_eq, decide_eq_false_iff_not, Bool.and_eq_true] at hc)) | refine And.intro (by first | assumption | omega | (have := qf (by assumption); omega) | (unfold qp; omega)) ?_ | simp (disch := omega) only [qc] | simp (disch := omega) only [qo] | refine qb9 (q1s c hc) (qbe _ _) (qbe _ _) rfl (q32 _ _) fun _ => ?_ | refine qjb hg.ok ?_) <;> (try simp only [go_sem, ↓reduceIte, Nat.reduceEqDiff, Nat.reduceAdd, Nat.reduceSub, Nat.reduceMul, Nat.reduceLT, Nat.reduceLeDiff, reduceCtorEq, Int.reduceToNat])))
def q66 (p : Int) (t : List UInt8) (x : Bool × Nat × K × List N) : AF × List Ent :=
  (⟨[(0, .ptr 0 0), (2, .ptr 1 0), (4, .bool true), (5, .ptr 2 0), (6, .bool x.1)], []⟩,
    curE x.2.2.1 :: .blk [.int .i64 0, .int .i64 0, .int .i64 0, .str [], .nils] :: .blk [.int .i64 14, .int .i64 p, .int .i64 0, .str t, accV 3 (encs x.2.2.2)] :: accE 5 (encs x.2.2.2))
theorem qvz {f : Nat} (ih : ∀ c, c.good → rest c < f → qcc Try.prog 91 (curE c) (curE (qcf f c).1) [.ptr 0 0] (resP (qcf f c).2)) (c : K) (hg : c.good) (hr : rest c < f + 1) :
    qcc Try.prog 91 (curE c) (curE (qcf (f + 1) c).1) [.ptr 0 0] (resP (qcf (f + 1) c).2) := by
  have hm := qe0 f
  have g1 : (qi c).1.good := (q8 c).1 hg
  have hr1 : rest (qi c).1 ≤ f := by have := (q8 c).2.1; omega
  refine qx c0r 1 (by simp) (by simp) ?_
  by_cases hk : (qi c).2 = true ∧ (qw (qi c).1).kind = 2
  · obtain ⟨hk1, hk2⟩ := hk
    have g2 : (q7 (qi c).1).good := (qb1 _).1 g1
    have hpa : qcf (f + 1) c = (qci (qfg (qcf f) (rest (qi c).1 + 1) (q7 (qi c).1) []).1, (qfg (qcf f) (rest (qi c).1 + 1) (q7 (qi c).1) []).2.map fun ks => .mk 14 (qw (qi c).1).pos 0 (qw (qi c).1).text ks) := by rw [qcf, if_pos hk1, if_pos hk2]
    rw [hpa]
    clear hpa
    generalize htg : qfg (qcf f) (rest (qi c).1 + 1) (q7 (qi c).1) [] = tg
    have hmt : Mon (q7 (qi c).1) tg.1 := htg ▸ qt1 hm _ _ _
    have g3 : tg.1.good := hmt.1 g2
    repeat' (first | refine qj ?_ | refine ql ?_ | ((first | refine qn ?_ | refine qk ?_ | refine qu ?_ | refine qh ?_ | refine qg ?_) <;> (try simp (disch := first | omega | (simp only [List.length_set, List.length_append, List.length_cons, List.length_nil]; done) | (simp only [List.length_set, List.length_append, List.length_cons, List.length_nil]; omega)) only [hk1, hk2, Int.reduceEq, go_sem, ↓reduceIte, Nat.reduceEqDiff, Nat.reduceAdd, Nat.reduceSub, Nat.reduceMul, Nat.reduceLT, Nat.reduceLeDiff, reduceCtorEq, Int.reduceToNat])) | ((first | ((first | refine qe ?_ ?_ | refine qd ?_ ?_) <;> intro hc <;> (try simp only [hc]) <;> (try simp only [qb, qa, decide_eq_true_eq, decide_eq_false_iff_not, Bool.and_eq_true] at hc)) | refine And.intro (by first | assumption | omega | (have := qf (by assumption); omega) | (unfold qp; omega)) ?_ | simp (disch := omega) only [qc] | simp (disch := omega) only [qo] | refine qhh ?_ | refine qb4 ?_ | refine qb9 (q0x _ g1 hk2) (qbe _ _) (qbe _ _) rfl (q32 _ _) fun _ => ?_) <;> (try simp only [go_sem, ↓reduceIte, Nat.reduceEqDiff, Nat.reduceAdd, Nat.reduceSub, Nat.reduceMul, Nat.reduceLT, Nat.reduceLeDiff, reduceCtorEq, Int.reduceToNat])))
    refine qcy (S := Bool × Nat × K × List N) (fun x => x.2.2.1.good ∧ rest x.2.2.1 ≤ f ∧ (x.1 = true → qfg (qcf f) x.2.1 x.2.2.1 x.2.2.2 = tg ∧ rest x.2.2.1 < x.2.1) ∧ (x.1 = false → tg = (x.2.2.1, none)) ∧ x.2.2.2.length + rest x.2.2.1 ≤ 1048577)
      (q66 (qw (qi c).1).pos (qw (qi c).1).text) (fun x => if x.1 = true then rest x.2.2.1 + 1 else 0) ?_ ?_
    · have hrn := (qb1 (qi c).1).2.1
      refine qcd (true, rest (qi c).1 + 1, q7 (qi c).1, []) [0, 1, 2] ⟨g2, by simp only; omega, fun _ => ⟨htg, by simp only; omega⟩, (by intro h; cases h), ?_⟩ rfl (by simp) ?_ ?_ ?_
      · have h9 := g2.rest
        unfold rest
        simp only [List.length_nil]
        omega
      all_goals simp only [q66, encs, qbq, qbt]
      all_goals simp only [go_sem, ↓reduceIte, Nat.reduceEqDiff, Nat.reduceAdd, Nat.reduceSub, Nat.reduceMul, Nat.reduceLT, Nat.reduceLeDiff, reduceCtorEq, Int.reduceToNat]
    · rintro ⟨b, fu, d, acc⟩ ⟨i1, i2, i3, i4, i5⟩
      simp only at i1 i2 i3 i4 i5
      unfold q66
      cases b with
      | false =>
        have i4 := i4 rfl
        subst i4
        repeat' (first | refine qj ?_ | refine ql ?_ | ((first | refine qn ?_ | refine qk ?_ | refine qu ?_ | refine qh ?_ | refine qg ?_ | refine qfi i1.2.2 ?_ | ((first | refine qe ?_ ?_ | refine qd ?_ ?_) <;> intro hc <;> (try simp only [hc]) <;> (try simp only [qb, qa, decide_eq_true_eq, decide_eq_false_iff_not, Bool.and_eq_true] at hc)) | refine And.intro (by first | assumption | omega | (have := qf (by assumption); omega) | (unfold qp; omega)) ?_ | simp (disch := omega) only [qc] | simp (disch := omega) only [qo]) <;> (try simp only [go_sem, ↓reduceIte, Nat.reduceEqDiff, Nat.reduceAdd, Nat.reduceSub, Nat.reduceMul, Nat.reduceLT, Nat.reduceLeDiff, reduceCtorEq, Int.reduceToNat])))
        simp only [Option.map_none, Option.getD_none, Option.isSome_none, qd2]
      | true =>
        have i6 := (i3 rfl).2
        replace i3 := (i3 rfl).1
        clear i4
        obtain ⟨fu, rfl⟩ : ∃ k, fu = k + 1 := ⟨fu - 1, by omega⟩
        rw [qfg] at i3
        have hcap : qp (acc.length + 1) 64 := capN (by omega)
        have j1 : (qbp (qcf f) d).1.good := (qj5 hm d).1 i1
        have j2 : rest (qbp (qcf f) d).1 ≤ rest d := (qj5 hm d).2.1
        by_cases h0 : acc = []
        · subst h0
          simp only [encs, qbq, qbt]
          repeat' (first | refine qj ?_ | refine ql ?_ | ((first | refine qn ?_ | refine qk ?_ | refine qu ?_ | refine qh ?_ | refine qg ?_ | refine qbdg ?_ | refine qcp (qqf hm ih _ i1 i2) rfl ?_ | refine qfi i1.2.2 ?_ | ((first | refine qe ?_ ?_ | refine qd ?_ ?_) <;> intro hc <;> (try simp only [hc]) <;> (try simp only [qb, qa, decide_eq_true_eq, decide_eq_false_iff_not, Bool.and_eq_true] at hc)) | refine And.intro (by first | assumption | omega | (have := qf (by assumption); omega) | (unfold qp; omega)) ?_ | simp (disch := omega) only [qc] | simp (disch := omega) only [qo]) <;> (try simp only [go_sem, ↓reduceIte, Nat.reduceEqDiff, Nat.reduceAdd, Nat.reduceSub, Nat.reduceMul, Nat.reduceLT, Nat.reduceLeDiff, reduceCtorEq, Int.reduceToNat])))
          · have hb : begP d = true := by assumption
            have hs : (qbp (qcf f) d).2.isSome = true := by assumption
            rw [if_pos hb, if_pos hs] at i3
            have hlt := qog hm hs
            refine qcd (true, fu, (qbp (qcf f) d).1, [] ++ [(qbp (qcf f) d).2.getD N0]) [0, 1, 2, 4] ⟨⟨j1, by simp only; omega, fun _ => ⟨i3, by simp only; omega⟩, (by intro h; cases h), ?_⟩, by simp only [if_true]; omega⟩ rfl (by simp) ?_ ?_ ?_
            · simp only [List.length_append, List.length_cons, List.length_nil]; omega
            all_goals simp only [← qt, qfs, qft, List.nil_append, encs, qg1, qgw]
            all_goals simp only [go_sem, ↓reduceIte, Nat.reduceEqDiff, Nat.reduceAdd, Nat.reduceSub, Nat.reduceMul, Nat.reduceLT, Nat.reduceLeDiff, reduceCtorEq, Int.reduceToNat]
          · have hb : begP d = true := by assumption
            have hs : (qbp (qcf f) d).2.isSome = false := by assumption
            rw [if_pos hb, if_neg (by rw [hs]; simp)] at i3
            refine qcd (false, 0, (qbp (qcf f) d).1, []) [0, 1, 2] ⟨⟨j1, by simp only; omega, (by intro h; cases h), fun _ => i3.symm, by simp only; omega⟩, by simp only [if_true, Bool.false_eq_true, if_false]; omega⟩ rfl (by simp) ?_ ?_ ?_
            all_goals simp only [encs, qbq, qbt]
            all_goals simp only [go_sem, ↓reduceIte, Nat.reduceEqDiff, Nat.reduceAdd, Nat.reduceSub, Nat.reduceMul, Nat.reduceLT, Nat.reduceLeDiff, reduceCtorEq, Int.reduceToNat]
          · have hb : begP d = false := by assumption
            rw [if_neg (by rw [hb]; simp)] at i3
            subst i3
            simp only [Option.map_some, Option.getD_some, Option.isSome_some, enc, encs, and_self]
        · have hne := qbl h0
          simp only [qby hne, qbz hne, qbm]
          repeat' (first | refine qj ?_ | refine ql ?_ | ((first | refine qn ?_ | refine qk ?_ | refine qu ?_ | refine qh ?_ | refine qg ?_ | refine qbdg ?_ | refine qcp (qqf hm ih _ i1 i2) rfl ?_ | refine qfi i1.2.2 ?_ | ((first | refine qe ?_ ?_ | refine qd ?_ ?_) <;> intro hc <;> (try simp only [hc]) <;> (try simp only [qb, qa, decide_eq_true_eq, decide_eq_false_iff_not, Bool.and_eq_true] at hc)) | refine And.intro (by first | assumption | omega | (have := qf (by assumption); omega) | (unfold qp; omega)) ?_ | simp (disch := omega) only [qc] | simp (disch := omega) only [qo]) <;> (try simp only [go_sem, ↓reduceIte, Nat.reduceEqDiff, Nat.reduceAdd, Nat.reduceSub, Nat.reduceMul, Nat.reduceLT, Nat.reduceLeDiff, reduceCtorEq, Int.reduceToNat])))
          · have hb : begP d = true := by assumption
            have hs : (qbp (qcf f) d).2.isSome = true := by assumption
            rw [if_pos hb, if_pos hs] at i3
            have hlt := qog hm hs
            refine qcd (true, fu, (qbp (qcf f) d).1, acc ++ [(qbp (qcf f) d).2.getD N0]) [0, 1, 2, 5] ⟨⟨j1, by simp only; omega, fun _ => ⟨i3, by simp only; omega⟩, (by intro h; cases h), ?_⟩, by simp only [if_true]; omega⟩ rfl (by simp) ?_ ?_ ?_
            · simp only [List.length_append, List.length_cons, List.length_nil]; omega
            all_goals simp only [← qt, qfs, qft, List.nil_append, encs, qg1, qgw]
            all_goals simp only [go_sem, ↓reduceIte, Nat.reduceEqDiff, Nat.reduceAdd, Nat.reduceSub, Nat.reduceMul, Nat.reduceLT, Nat.reduceLeDiff, reduceCtorEq, Int.reduceToNat]
            rw [qt, qbc, qbw]; exact ⟨rfl, rfl⟩
          · have hb : begP d = true := by assumption
            have hs : (qbp (qcf f) d).2.isSome = false := by assumption
            rw [if_pos hb, if_neg (by rw [hs]; simp)] at i3
            refine qcd (false, 0, (qbp (qcf f) d).1, acc) [0, 1, 2, 3] ⟨⟨j1, by simp only; omega, (by intro h; cases h), fun _ => i3.symm, by simp only; omega⟩, by simp only [if_true, Bool.false_eq_true, if_false]; omega⟩ rfl (by simp) ?_ ?_ ?_
            all_goals simp only [qby hne, qbz hne, qbm]
            all_goals simp only [go_sem, ↓reduceIte, Nat.reduceEqDiff, Nat.reduceAdd, Nat.reduceSub, Nat.reduceMul, Nat.reduceLT, Nat.reduceLeDiff, reduceCtorEq, Int.reduceToNat]
          · have hb : begP d = false := by assumption
            rw [if_neg (by rw [hb]; simp)] at i3
            subst i3
            simp only [Option.map_some, Option.getD_some, Option.isSome_some, enc, encs, and_self]
  · by_cases hk1 : (qi c).2 = true
    · have hk2 : ¬ (qw (qi c).1).kind = 2 := fun h => hk ⟨hk1, h⟩
      have j1 : (qbp (qcf f) (qi c).1).1.good := (qj5 hm _).1 g1
      have hpa : qcf (f + 1) c = (qci (qbp (qcf f) (qi c).1).1, (qbp (qcf f) (qi c).1).2) := by rw [qcf, if_pos hk1, if_neg hk2]
      rw [hpa]
      clear hpa
      repeat' (first | refine qj ?_ | refine ql ?_ | ((first | refine qn ?_ | refine qk ?_ | refine qu ?_ | refine qh ?_ | refine qg ?_) <;> (try simp (disch := first | omega | (simp only [List.length_set, List.length_append, List.length_cons, List.length_nil]; done) | (simp only [List.length_set, List.length_append, List.length_cons, List.length_nil]; omega)) only [hk1, hk2, go_sem, ↓reduceIte, Nat.reduceEqDiff, Nat.reduceAdd, Nat.reduceSub, Nat.reduceMul, Nat.reduceLT, Nat.reduceLeDiff, reduceCtorEq, Int.reduceToNat])) | ((first | ((first | refine qe ?_ ?_ | refine qd ?_ ?_) <;> intro hc <;> (try simp only [hc]) <;> (try simp only [qb, qa, decide_eq_true_eq, decide_eq_false_iff_not, Bool.and_eq_true] at hc)) | refine And.intro (by first | assumption | omega | (have := qf (by assumption); omega) | (unfold qp; omega)) ?_ | simp (disch := omega) only [qc] | simp (disch := omega) only [qo] | refine qhh ?_ | refine qb4 ?_ | refine qcp (qqf hm ih _ g1 hr1) rfl ?_) <;> (try simp only [go_sem, ↓reduceIte, Nat.reduceEqDiff, Nat.reduceAdd, Nat.reduceSub, Nat.reduceMul, Nat.reduceLT, Nat.reduceLeDiff, reduceCtorEq, Int.reduceToNat])))
      generalize hr' : qbp (qcf f) (qi c).1 = r at j1
      refine qcy (S := Unit) (fun _ => True) (fun _ => (⟨[(0, .ptr 0 0), (2, .ptr 1 0), (4, .bool false), (5, .ptr 2 0), (6, .bool r.2.isSome)], []⟩, [curE r.1, .blk [.int .i64 0, .int .i64 0, .int .i64 0, .str [], .nils], .blk (enc (r.2.getD N0)).cells])) (fun _ => 0) ?_ ?_
      · refine qcd () [0, 1, 2] trivial rfl (by simp) ?_ ?_ ?_ <;> (try simp only [go_sem, ↓reduceIte, Nat.reduceEqDiff, Nat.reduceAdd, Nat.reduceSub, Nat.reduceMul, Nat.reduceLT, Nat.reduceLeDiff, reduceCtorEq, Int.reduceToNat]) <;> (try simp (disch := omega) only [qo])
      · intro _ _
        repeat' (first | refine qj ?_ | refine ql ?_ | ((first | refine qn ?_ | refine qk ?_ | refine qu ?_ | refine qh ?_ | refine qg ?_ | refine qfi j1.2.2 ?_ | ((first | refine qe ?_ ?_ | refine qd ?_ ?_) <;> intro hc <;> (try simp only [hc]) <;> (try simp only [qb, qa, decide_eq_true_eq, decide_eq_false_iff_not, Bool.and_eq_true] at hc)) | refine And.intro (by first | assumption | omega | (have := qf (by assumption); omega) | (unfold qp; omega)) ?_ | simp (disch := omega) only [qc] | simp (disch := omega) only [qo]) <;> (try simp only [go_sem, ↓reduceIte, Nat.reduceEqDiff, Nat.reduceAdd, Nat.reduceSub, Nat.reduceMul, Nat.reduceLT, Nat.reduceLeDiff, reduceCtorEq, Int.reduceToNat])))
        have hs : r.2 = none := by
          have : r.2.isSome = false := by assumption
          revert this
          cases r.2 <;> simp
        rw [hs, qd2]; rfl
    · have hk1 : (qi c).2 = false := by simpa using hk1
      have hpa : qcf (f + 1) c = ((qi c).1, none) := by rw [qcf, if_neg (by rw [hk1]; simp)]
      rw [hpa]
      repeat' (first | refine qj ?_ | refine ql ?_ | ((first | refine qn ?_ | refine qk ?_ | refine qu ?_ | refine qh ?_ | refine qg ?_) <;> (try simp (disch := first | omega | (simp only [List.length_set, List.length_append, List.length_cons, List.length_nil]; done) | (simp only [List.length_set, List.length_append, List.length_cons, List.length_nil]; omega)) only [hk1, go_sem, ↓reduceIte, Nat.reduceEqDiff, Nat.reduceAdd, Nat.reduceSub, Nat.reduceMul, Nat.reduceLT, Nat.reduceLeDiff, reduceCtorEq, Int.reduceToNat])) | ((first | ((first | refine qe ?_ ?_ | refine qd ?_ ?_) <;> intro hc <;> (try simp only [hc]) <;> (try simp only [qb, qa, decide_eq_true_eq, decide_eq_false_iff_not, Bool.and_eq_true] at hc)) | refine And.intro (by first | assumption | omega | (have := qf (by assumption); omega) | (unfold qp; omega)) ?_ | simp (disch := omega) only [qc] | simp (disch := omega) only [qo] | refine qhh ?_) <;> (try simp only [go_sem, ↓reduceIte, Nat.reduceEqDiff, Nat.reduceAdd, Nat.reduceSub, Nat.reduceMul, Nat.reduceLT, Nat.reduceLeDiff, reduceCtorEq, Int.reduceToNat])))
      rw [qd2]; rfl
theorem qbq6 (f : Nat) : ∀ c : K, c.good → rest c < f → qcc Try.prog 91 (curE c) (curE (qcf f c).1) [.ptr 0 0] (resP (qcf f c).2) := by
  induction f with
  | zero => exact fun c _ h => absurd h (by omega)
  | succ f ih => exact qvz ih
end Go.Proofs.Ytfjbmjplnmaclaa
