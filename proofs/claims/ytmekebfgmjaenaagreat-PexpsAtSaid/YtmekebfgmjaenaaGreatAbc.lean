/- Texts of this proof, joined. -/
import Derived.Test.YtmekebfgmjaenaaGreatAaz
import Derived.Test.YtmekebfgmjaenaaGreatAba
import Derived.Test.YtmekebfgmjaenaaGreatAbb

/- types: contexts: the program -/
set_option maxRecDepth 4000
namespace Go.Proofs.YtmekebfgmjaenaaGreat
open Go Go.RowKit Go.V
set_option linter.unusedVariables false
set_option linter.unusedSimpArgs false

theorem qdb (c : K) (k : Int) : Mon c (qbn c k).1 := by
  unfold qbn
  split
  · exact qbw c
  · exact qfh c 5
theorem qrg {c : K} {k : Int} (h : (qbn c k).2 = true) : c.err = 0 ∧ (qbg c).kind = k := by
  unfold qbn at h
  split at h
  · rename_i h1
    simp only [Bool.and_eq_true, decide_eq_true_eq] at h1
    exact h1
  · cases h
theorem q1v {c : K} {k : Int} (h : (qbn c k).2 = true) : qbn c k = (qbc c, true) ∧ qin c k = qbg c := by
  obtain ⟨h1, h2⟩ := qrg h
  exact ⟨qqq h1 h2, qt8 h1 h2⟩
theorem qvs {c : K} {k : Int} (h : (qbn c k).2 = false) : (qbn c k).1.err ≠ 0 := by
  unfold qbn at h ⊢
  split at h
  · cases h
  · rename_i h1; rw [if_neg h1]; exact qgz c
def qod (c : K) : Bool := !decide ((qjc c).2 = 0) && (!decide ((qjc c).2 = 5) || decide ((qbg c).kind = 0))
theorem qx0 (c : K) (hk : c.ok) : qcs Tryz.prog 81 (curE c) (curE c) [.ptr 0 0] (.bool (qod c)) := by
  refine qbh c0bs 1 (by simp) (by simp) ?_
  repeat' (first | refine qs ?_ | refine qg ?_ | refine qi ?_ | ((first | refine qu ?_ | refine qq (by rfl) ?_ | refine ql ?_ | refine qj ?_ | refine qo ?_ | refine qt ?_ | refine qn ?_ | refine qm ?_ | refine qp ?_ | refine qse hk ?_ | refine qdw ?_); simp only [go_sem, ↓reduceIte, Nat.reduceEqDiff, Nat.reduceAdd, Nat.reduceSub, Nat.reduceMul, Nat.reduceLT, Nat.reduceLeDiff, reduceCtorEq, Int.reduceToNat]) | ((first | refine qh ?_ ?_ | refine qe ?_ ?_) <;> intro hc <;> simp only [hc, go_sem, ↓reduceIte, Nat.reduceEqDiff, Nat.reduceAdd, Nat.reduceSub, Nat.reduceMul, Nat.reduceLT, Nat.reduceLeDiff, reduceCtorEq, Int.reduceToNat] <;> (try simp only [qb, qa, decide_eq_true_eq, decide_eq_false_iff_not, Bool.and_eq_true] at hc)) | refine And.intro (by first | assumption | omega | (have := qk (by assumption); omega) | (unfold qy; omega)) ?_ | ((first | simp (disch := omega) only [qd] | simp (disch := omega) only [qw]); (try simp only [go_sem, ↓reduceIte, Nat.reduceEqDiff, Nat.reduceAdd, Nat.reduceSub, Nat.reduceMul, Nat.reduceLT, Nat.reduceLeDiff, reduceCtorEq, Int.reduceToNat])))
  all_goals (unfold qod; simp_all)
theorem qbc4 {c : K} {L : List Ent} {Q : List Ent → VO → Prop} (hk : c.ok) (hq : Q (curE c :: L) (.val (.bool (qod c)))) : VApp Tryz.prog (curE c :: L) (.fn 81 [] []) [.ptr 0 0] Q := qb4 (qx0 c hk) (qbk _ _) (qbk _ _) rfl rfl fun _ => hq
def qoe (t : T) (n : N) : N := .mk 3 t.pos 0 t.text [n]
def qbu (rec : K → K × Option N) (c : K) : K × Option N :=
  if (qbn c 2).2 = true then ((qb8 rec (qbn c 2).1).1, (qb8 rec (qbn c 2).1).2.map (qoe (qin c 2)))
  else ((qbn c 2).1, none)
theorem qxu {c : K} {L : List Ent} {t : T} {n : N} {b : Bool} {Q : List Ent → VO → Prop} (hq : Q (curE c :: L) (.val (resP (qk8 (qoe t n) b)))) :
    VApp Tryz.prog (curE c :: L) (.fn 48 [] []) [.ptr 0 0, .agg [.int .i64 3, .int .i64 t.pos, .int .i64 0, .str t.text, .sl 5 [enc n]], .bool b] Q := by
  have h := qs5 (n := qoe t n) hq
  simpa only [qoe, enc, encs] using h
theorem q0e {r : Option N} {t : T} : qk8 (qoe t (r.getD N0)) r.isSome = r.map (qoe t) := qpx
section
variable {rec : K → K × Option N} {b : Nat} (hm : ∀ c, Mon c (rec c).1) (ih : ∀ c, c.good → rest c < b → qcs Tryz.prog 47 (curE c) (curE (rec c).1) [.ptr 0 0] (resP (rec c).2))
include hm ih
theorem ql0 (c : K) (hg : c.good) (hr : rest c ≤ b) : qcs Tryz.prog 82 (curE c) (curE (qbu rec c).1) [.ptr 0 0] (resP (qbu rec c).2) := by
  have g1 : (qbn c 2).1.good := (qdb c 2).1 hg
  have hr1 : rest (qbn c 2).1 ≤ b := by have := (qdb c 2).2.1; omega
  refine qbh c0bt 1 (by simp) (by simp) ?_
  repeat' (first | refine qs ?_ | refine qg ?_ | refine qi ?_ | ((first | refine qu ?_ | refine qq (by rfl) ?_ | refine ql ?_ | refine qj ?_ | refine qo ?_ | refine qt ?_ | refine qn ?_ | refine qm ?_ | refine qp ?_ | refine qpd hg.ok ?_ | refine qdk (qiz hm ih _ g1 hr1) rfl ?_ | refine qxu ?_); simp only [go_sem, ↓reduceIte, Nat.reduceEqDiff, Nat.reduceAdd, Nat.reduceSub, Nat.reduceMul, Nat.reduceLT, Nat.reduceLeDiff, reduceCtorEq, Int.reduceToNat]) | ((first | refine qh ?_ ?_ | refine qe ?_ ?_) <;> intro hc <;> simp only [hc, go_sem, ↓reduceIte, Nat.reduceEqDiff, Nat.reduceAdd, Nat.reduceSub, Nat.reduceMul, Nat.reduceLT, Nat.reduceLeDiff, reduceCtorEq, Int.reduceToNat] <;> (try simp only [qb, qa, decide_eq_true_eq, decide_eq_false_iff_not, Bool.and_eq_true] at hc)) | refine And.intro (by first | assumption | omega | (have := qk (by assumption); omega) | (unfold qy; omega)) ?_ | ((first | simp (disch := omega) only [qd] | simp (disch := omega) only [qw]); (try simp only [go_sem, ↓reduceIte, Nat.reduceEqDiff, Nat.reduceAdd, Nat.reduceSub, Nat.reduceMul, Nat.reduceLT, Nat.reduceLeDiff, reduceCtorEq, Int.reduceToNat])))
  all_goals (try simp only [q0e])
  all_goals (unfold qbu; simp only [*, qea, Int.reduceEq, if_true, if_false, reduceIte, Bool.false_eq_true, Option.getD_none, Option.getD_some, Option.isSome_none, Option.isSome_some, and_self, true_and, and_true]; try rfl)
end
end Go.Proofs.YtmekebfgmjaenaaGreat

/- types: contexts: a row of predicates -/
set_option maxRecDepth 4000
namespace Go.Proofs.YtmekebfgmjaenaaGreat
open Go Go.RowKit Go.V
set_option linter.unusedVariables false
set_option linter.unusedSimpArgs false

def qfc (rec : K → K × Option N) (many : Bool) : Nat → K → List N → K × Option (List N)
  | 0, c, _ => (c, none)
  | f + 1, c, acc =>
    if (qbu rec c).2.isSome = true then
      if (many && (qz (qbu rec c).1 [44]).2) = true then qfc rec many f (qz (qbu rec c).1 [44]).1 (acc ++ [(qbu rec c).2.getD N0])
      else ((qbu rec c).1, some (acc ++ [(qbu rec c).2.getD N0]))
    else ((qbu rec c).1, none)
def qf5 (many : Bool) (r : K × Option (List N)) : K × Option (List N) :=
  if r.2.isSome = true then
    if many = true then
      if (q9 r.1 [41]).2 = true then ((q9 (q9 r.1 [41]).1 [61, 62]).1, if (q9 (q9 r.1 [41]).1 [61, 62]).2 = true then r.2 else none)
      else ((q9 r.1 [41]).1, none)
    else ((q9 r.1 [61, 62]).1, if (q9 r.1 [61, 62]).2 = true then r.2 else none)
  else (r.1, none)
def qh6 (rec : K → K × Option N) (c : K) : K × Option (List N) :=
  if ((qz c [40]).2 && isK (qz c [40]).1 [41]) = true then ((qz c [40]).1, some []) else qfc rec (qz c [40]).2 (rest (qz c [40]).1 + 1) (qz c [40]).1 []
def qbq (rec : K → K × Option N) (c : K) : K × Option (List N) :=
  if qh2 c [61, 62] = true then qf5 (qz c [40]).2 (qh6 rec c)
  else (c, if qod c = true then none else some [])
section
variable {rec : K → K × Option N} (hm : ∀ c, Mon c (rec c).1)
include hm
theorem qgq (c : K) : Mon c (qbu rec c).1 := by
  unfold qbu
  split
  · exact (qdb c 2).trans (qfm hm _)
  · exact qdb c 2
theorem qia {c : K} (h : (qbu rec c).2.isSome = true) : rest (qbu rec c).1 < rest c := by
  unfold qbu at h ⊢
  split at h
  · rename_i h1
    rw [if_pos h1]
    have h2 := (qdb c 2).2.1
    have h3 := qf2 hm (c := (qbn c 2).1) (by simpa using h)
    simp only; omega
  · cases h
theorem qow (many : Bool) : ∀ (f : Nat) (c : K) (acc : List N), Mon c (qfc rec many f c acc).1
  | 0, c, acc => Mon.refl c
  | f + 1, c, acc => by
    rw [qfc]
    split
    · split
      · exact ((qgq hm c).trans (qbf _ _)).trans (qow many f _ _)
      · exact qgq hm c
    · exact qgq hm c
theorem qyg (c : K) : Mon c (qh6 rec c).1 := by
  unfold qh6
  split
  · exact qbf c _
  · exact (qbf c _).trans (qow hm _ _ _ _)
theorem qg5 (c : K) : Mon c (qbq rec c).1 := by
  unfold qbq qf5
  have h := qyg hm c
  split
  · split
    · split
      · split
        · exact (h.trans (qx _ _)).trans (qx _ _)
        · exact h.trans (qx _ _)
      · exact h.trans (qx _ _)
    · exact h
  · exact Mon.refl c
end
def qqa (p : Nat) (r : Option (List N)) : AV := .tup [accV p (encs (r.getD [])), .bool r.isSome]
def qh7 (rec : K → K × Option N) (c : K) : Prop := VCalls Tryz.prog 46 [curE c] [.ptr 0 0] fun H' o => H' = curE (qbq rec c).1 :: accE 5 (encs ((qbq rec c).2.getD [])) ∧ o = .val (qqa 1 (qbq rec c).2)
def q2m (many : Bool) (x : Bool × Nat × K × List N) : AF × List Ent :=
  (⟨[(0, .ptr 0 0), (4, accV 1 (encs x.2.2.2)), (5, .bool many), (6, .bool x.1)], []⟩, curE x.2.2.1 :: accE 5 (encs x.2.2.2))
section
variable {rec : K → K × Option N} {b : Nat} (hm : ∀ c, Mon c (rec c).1) (ih : ∀ c, c.good → rest c < b → qcs Tryz.prog 47 (curE c) (curE (rec c).1) [.ptr 0 0] (resP (rec c).2))
include hm ih
theorem qus (c : K) (hg : c.good) (hr : rest c ≤ b) : qh7 rec c := by
  unfold qh7
  obtain ⟨kk, hk1, hk2, hk0⟩ : ∃ k : Nat, ((qbq rec c).2.getD [] = [] → k = 1) ∧ ((qbq rec c).2.getD [] ≠ [] → k = 2) ∧ 1 ≤ k := by
    by_cases h : (qbq rec c).2.getD [] = []
    · exact ⟨1, fun _ => rfl, fun g => absurd h g, by omega⟩
    · exact ⟨2, fun g => absurd g h, fun _ => rfl, by omega⟩
  refine qi8 c0br kk (by simpa using hk0) (by simp) ?_
  have g1 : (qz c [40]).1.good := (qbf c _).1 hg
  have hr1 : rest (qz c [40]).1 ≤ b := by have := (qbf c [40]).2.1; omega
  by_cases ha : qh2 c [61, 62] = true
  · have hpa : qbq rec c = qf5 (qz c [40]).2 (qh6 rec c) := by rw [qbq, if_pos ha]
    rw [hpa] at hk1 hk2 ⊢
    clear hpa
    unfold qh6 at hk1 hk2 ⊢
    generalize htg : (if ((qz c [40]).2 && isK (qz c [40]).1 [41]) = true then ((qz c [40]).1, some []) else qfc rec (qz c [40]).2 (rest (qz c [40]).1 + 1) (qz c [40]).1 []) = tg at hk1 hk2 ⊢
    generalize hd0 : (qz c [40]).1 = d0 at *
    generalize hmn : (qz c [40]).2 = many at *
    have h0t : (!(many && isK d0 [41])) = true → qfc rec many (rest d0 + 1) d0 [] = tg := fun h => by
      rw [Bool.not_eq_true'] at h
      rw [← htg, if_neg (by rw [h]; simp)]
    have h0f : (!(many && isK d0 [41])) = false → tg = (d0, some []) := fun h => by
      rw [Bool.not_eq_false'] at h
      rw [← htg, if_pos h]
    clear htg
    obtain ⟨mm, hmm⟩ : ∃ mm, mm = many := ⟨_, rfl⟩
    cases many <;> (
      repeat' (first | refine qs ?_ | refine qg ?_ | refine qi ?_ | ((first | refine qu ?_ | refine qq (by rfl) ?_ | refine ql ?_ | refine qj ?_ | refine qo ?_ | refine qt ?_ | refine qn ?_ | refine qm ?_ | refine qp ?_); simp (disch := first | omega | (simp only [List.length_set, List.length_append, List.length_cons, List.length_nil]; done) | (simp only [List.length_set, List.length_append, List.length_cons, List.length_nil]; omega)) only [ha, hd0, hmn, go_sem, ↓reduceIte, Nat.reduceEqDiff, Nat.reduceAdd, Nat.reduceSub, Nat.reduceMul, Nat.reduceLT, Nat.reduceLeDiff, reduceCtorEq, Int.reduceToNat]) | ((first | refine qh ?_ ?_ | refine qe ?_ ?_) <;> intro hc <;> simp only [hc, go_sem, ↓reduceIte, Nat.reduceEqDiff, Nat.reduceAdd, Nat.reduceSub, Nat.reduceMul, Nat.reduceLT, Nat.reduceLeDiff, reduceCtorEq, Int.reduceToNat] <;> (try simp only [qb, qa, decide_eq_true_eq, decide_eq_false_iff_not, Bool.and_eq_true] at hc)) | refine And.intro (by first | assumption | omega | (have := qk (by assumption); omega) | (unfold qy; omega)) ?_ | ((first | simp (disch := omega) only [qd] | simp (disch := omega) only [qw]); (try simp only [go_sem, ↓reduceIte, Nat.reduceEqDiff, Nat.reduceAdd, Nat.reduceSub, Nat.reduceMul, Nat.reduceLT, Nat.reduceLeDiff, reduceCtorEq, Int.reduceToNat])) | ((first | refine q0b hg.ok hg.2.1 ?_ | refine qff hg.ok ?_ | refine a_Is ?_); simp only [go_sem, ↓reduceIte, Nat.reduceEqDiff, Nat.reduceAdd, Nat.reduceSub, Nat.reduceMul, Nat.reduceLT, Nat.reduceLeDiff, reduceCtorEq, Int.reduceToNat]))
      refine qca (S := Bool × Nat × K × List N) (fun x => x.2.2.1.good ∧ rest x.2.2.1 ≤ b ∧ (x.1 = true → qfc rec mm x.2.1 x.2.2.1 x.2.2.2 = tg ∧ rest x.2.2.1 < x.2.1) ∧ (x.1 = false → tg = (x.2.2.1, some x.2.2.2)) ∧ x.2.2.2.length + rest x.2.2.1 ≤ 1048577)
        (q2m mm) (fun x => if x.1 = true then rest x.2.2.1 + 1 else 0) ?_ ?_
      · refine qbt (!(mm && isK d0 [41]), rest d0 + 1, d0, []) [0] ⟨g1, hr1, fun h => ⟨by rw [hmm]; exact h0t (by simp only [hmm] at h; exact h), Nat.lt_succ_self _⟩, fun h => h0f (by simp only [hmm] at h; exact h), ?_⟩ rfl (by simp) ?_ ?_ ?_
        · have h9 := g1.rest
          unfold rest
          simp only [List.length_nil]
          omega
        all_goals simp only [q2m, encs, qbv, qbx, hmm, Bool.false_and, Bool.true_and, Bool.not_false]
        all_goals simp only [go_sem, ↓reduceIte, Nat.reduceEqDiff, Nat.reduceAdd, Nat.reduceSub, Nat.reduceMul, Nat.reduceLT, Nat.reduceLeDiff, reduceCtorEq, Int.reduceToNat]
      · rintro ⟨more, fu, d, acc⟩ ⟨i1, i2, i3, i4, i5⟩
        simp only at i1 i2 i3 i4 i5
        unfold q2m
        have hcap : qy (acc.length + 1) 64 := capN (by omega)
        cases more with
        | false =>
          have i4 := i4 rfl
          subst i4
          clear i3
          by_cases hE : (qf5 mm (d, some acc)).2.getD [] = []
          · simp only [hmm] at hE
            obtain rfl := hk1 hE
            by_cases h0 : acc = []
            · subst h0
              simp only [encs, qbv, qbx, hmm]
              repeat' (first | refine qs ?_ | refine qg ?_ | refine qi ?_ | ((first | refine qu ?_ | refine qq (by rfl) ?_ | refine ql ?_ | refine qj ?_ | refine qo ?_ | refine qt ?_ | refine qn ?_ | refine qm ?_ | refine qp ?_); simp (disch := first | omega | (simp only [List.length_set, List.length_append, List.length_cons, List.length_nil]; done) | (simp only [List.length_set, List.length_append, List.length_cons, List.length_nil]; omega)) only [hmm, go_sem, ↓reduceIte, Nat.reduceEqDiff, Nat.reduceAdd, Nat.reduceSub, Nat.reduceMul, Nat.reduceLT, Nat.reduceLeDiff, reduceCtorEq, Int.reduceToNat]) | ((first | refine qh ?_ ?_ | refine qe ?_ ?_) <;> intro hc <;> simp only [hc, go_sem, ↓reduceIte, Nat.reduceEqDiff, Nat.reduceAdd, Nat.reduceSub, Nat.reduceMul, Nat.reduceLT, Nat.reduceLeDiff, reduceCtorEq, Int.reduceToNat] <;> (try simp only [qb, qa, decide_eq_true_eq, decide_eq_false_iff_not, Bool.and_eq_true] at hc)) | refine And.intro (by first | assumption | omega | (have := qk (by assumption); omega) | (unfold qy; omega)) ?_ | ((first | simp (disch := omega) only [qd] | simp (disch := omega) only [qw]); (try simp only [go_sem, ↓reduceIte, Nat.reduceEqDiff, Nat.reduceAdd, Nat.reduceSub, Nat.reduceMul, Nat.reduceLT, Nat.reduceLeDiff, reduceCtorEq, Int.reduceToNat])) | ((first | refine qd2 i1.ok ?_ | refine qd2 ((qx d _).1 i1).ok ?_); simp only [go_sem, ↓reduceIte, Nat.reduceEqDiff, Nat.reduceAdd, Nat.reduceSub, Nat.reduceMul, Nat.reduceLT, Nat.reduceLeDiff, reduceCtorEq, Int.reduceToNat]))
              all_goals (unfold qf5; simp only [*, qqa, encs, qbv, qbx, if_true, if_false, reduceIte, Bool.false_eq_true, Option.isSome_some, Option.isSome_none, Option.getD_some, Option.getD_none, and_self, true_and, and_true, Bool.true_and, Bool.false_and, not_true_eq_false])
            · have hne := qcm h0
              simp only [qcb hne, qcc hne, qb3, hmm]
              repeat' (first | refine qs ?_ | refine qg ?_ | refine qi ?_ | ((first | refine qu ?_ | refine qq (by rfl) ?_ | refine ql ?_ | refine qj ?_ | refine qo ?_ | refine qt ?_ | refine qn ?_ | refine qm ?_ | refine qp ?_); simp (disch := first | omega | (simp only [List.length_set, List.length_append, List.length_cons, List.length_nil]; done) | (simp only [List.length_set, List.length_append, List.length_cons, List.length_nil]; omega)) only [hmm, go_sem, ↓reduceIte, Nat.reduceEqDiff, Nat.reduceAdd, Nat.reduceSub, Nat.reduceMul, Nat.reduceLT, Nat.reduceLeDiff, reduceCtorEq, Int.reduceToNat]) | ((first | refine qh ?_ ?_ | refine qe ?_ ?_) <;> intro hc <;> simp only [hc, go_sem, ↓reduceIte, Nat.reduceEqDiff, Nat.reduceAdd, Nat.reduceSub, Nat.reduceMul, Nat.reduceLT, Nat.reduceLeDiff, reduceCtorEq, Int.reduceToNat] <;> (try simp only [qb, qa, decide_eq_true_eq, decide_eq_false_iff_not, Bool.and_eq_true] at hc)) | refine And.intro (by first | assumption | omega | (have := qk (by assumption); omega) | (unfold qy; omega)) ?_ | ((first | simp (disch := omega) only [qd] | simp (disch := omega) only [qw]); (try simp only [go_sem, ↓reduceIte, Nat.reduceEqDiff, Nat.reduceAdd, Nat.reduceSub, Nat.reduceMul, Nat.reduceLT, Nat.reduceLeDiff, reduceCtorEq, Int.reduceToNat])) | ((first | refine qd2 i1.ok ?_ | refine qd2 ((qx d _).1 i1).ok ?_); simp only [go_sem, ↓reduceIte, Nat.reduceEqDiff, Nat.reduceAdd, Nat.reduceSub, Nat.reduceMul, Nat.reduceLT, Nat.reduceLeDiff, reduceCtorEq, Int.reduceToNat]))
              all_goals first | (exfalso; unfold qf5 at hE; simp only [*, qqa, encs, qbv, qbx, if_true, if_false, reduceIte, Bool.false_eq_true, Option.isSome_some, Option.isSome_none, Option.getD_some, Option.getD_none, and_self, true_and, and_true, Bool.true_and, Bool.false_and, not_true_eq_false] at hE; done) | (unfold qf5; simp only [*, qqa, encs, qbv, qbx, if_true, if_false, reduceIte, Bool.false_eq_true, Option.isSome_some, Option.isSome_none, Option.getD_some, Option.getD_none, and_self, true_and, and_true, Bool.true_and, Bool.false_and, not_true_eq_false])
          · simp only [hmm] at hE
            obtain rfl := hk2 hE
            have h0 : ¬ acc = [] := by
              intro h
              subst h
              apply hE
              unfold qf5
              repeat' split
              all_goals rfl
            have hne := qcm h0
            simp only [qcb hne, qcc hne, qb3, hmm]
            repeat' (first | refine qs ?_ | refine qg ?_ | refine qi ?_ | ((first | refine qu ?_ | refine qq (by rfl) ?_ | refine ql ?_ | refine qj ?_ | refine qo ?_ | refine qt ?_ | refine qn ?_ | refine qm ?_ | refine qp ?_); simp (disch := first | omega | (simp only [List.length_set, List.length_append, List.length_cons, List.length_nil]; done) | (simp only [List.length_set, List.length_append, List.length_cons, List.length_nil]; omega)) only [hmm, go_sem, ↓reduceIte, Nat.reduceEqDiff, Nat.reduceAdd, Nat.reduceSub, Nat.reduceMul, Nat.reduceLT, Nat.reduceLeDiff, reduceCtorEq, Int.reduceToNat]) | ((first | refine qh ?_ ?_ | refine qe ?_ ?_) <;> intro hc <;> simp only [hc, go_sem, ↓reduceIte, Nat.reduceEqDiff, Nat.reduceAdd, Nat.reduceSub, Nat.reduceMul, Nat.reduceLT, Nat.reduceLeDiff, reduceCtorEq, Int.reduceToNat] <;> (try simp only [qb, qa, decide_eq_true_eq, decide_eq_false_iff_not, Bool.and_eq_true] at hc)) | refine And.intro (by first | assumption | omega | (have := qk (by assumption); omega) | (unfold qy; omega)) ?_ | ((first | simp (disch := omega) only [qd] | simp (disch := omega) only [qw]); (try simp only [go_sem, ↓reduceIte, Nat.reduceEqDiff, Nat.reduceAdd, Nat.reduceSub, Nat.reduceMul, Nat.reduceLT, Nat.reduceLeDiff, reduceCtorEq, Int.reduceToNat])) | ((first | refine qd2 i1.ok ?_ | refine qd2 ((qx d _).1 i1).ok ?_); simp only [go_sem, ↓reduceIte, Nat.reduceEqDiff, Nat.reduceAdd, Nat.reduceSub, Nat.reduceMul, Nat.reduceLT, Nat.reduceLeDiff, reduceCtorEq, Int.reduceToNat]))
            all_goals first | (exfalso; unfold qf5 at hE; simp only [*, qqa, encs, qbv, qbx, if_true, if_false, reduceIte, Bool.false_eq_true, Option.isSome_some, Option.isSome_none, Option.getD_some, Option.getD_none, and_self, true_and, and_true, Bool.true_and, Bool.false_and, not_true_eq_false] at hE; done) | (unfold qf5; simp only [*, qqa, encs, qbv, qbx, if_true, if_false, reduceIte, Bool.false_eq_true, Option.isSome_some, Option.isSome_none, Option.getD_some, Option.getD_none, and_self, true_and, and_true, Bool.true_and, Bool.false_and, not_true_eq_false]; rw [qcc hne, qcb hne, qb3]; exact ⟨rfl, rfl⟩)
        | true =>
          have i6 := (i3 rfl).2
          replace i3 := (i3 rfl).1
          clear i4
          obtain ⟨fu, rfl⟩ : ∃ k, fu = k + 1 := ⟨fu - 1, by omega⟩
          rw [qfc] at i3
          have j1 : (qbu rec d).1.good := (qgq hm d).1 i1
          have j2 : rest (qbu rec d).1 ≤ rest d := (qgq hm d).2.1
          have j3 : (qz (qbu rec d).1 [44]).1.good := (qbf _ _).1 j1
          have j4 := (qbf (qbu rec d).1 [44]).2.1
          by_cases hs : (qbu rec d).2.isSome = true
          · rw [if_pos hs] at i3
            have hlt := qia hm hs
            obtain ⟨d', hd', k1, k2, k3, k4⟩ : ∃ d', d' = (if mm = true then (qz (qbu rec d).1 [44]).1 else (qbu rec d).1) ∧ d'.good ∧ rest d' ≤ rest (qbu rec d).1 ∧ ((mm && (qz (qbu rec d).1 [44]).2) = true → qfc rec mm fu d' (acc ++ [(qbu rec d).2.getD N0]) = tg) ∧ ((mm && (qz (qbu rec d).1 [44]).2) = false → tg = (d', some (acc ++ [(qbu rec d).2.getD N0]))) := by
              refine ⟨_, rfl, ?_, ?_, fun h => ?_, fun h => ?_⟩
              · cases mm
                · exact j1
                · exact j3
              · cases mm
                · exact Nat.le_refl _
                · exact j4
              · rw [if_pos h] at i3
                rw [if_pos (by simp only [Bool.and_eq_true] at h; exact h.1)]
                exact i3
              · rw [if_neg (by rw [h]; simp)] at i3
                rw [← i3]
                clear hmm
                cases mm
                · rfl
                · rw [Bool.true_and] at h
                  rw [if_pos rfl, qdm h]
            by_cases h0 : acc = []
            · subst h0
              simp only [encs, qbv, qbx, hmm]
              repeat' (first | refine qs ?_ | refine qg ?_ | refine qi ?_ | ((first | refine qu ?_ | refine qq (by rfl) ?_ | refine ql ?_ | refine qj ?_ | refine qo ?_ | refine qt ?_ | refine qn ?_ | refine qm ?_ | refine qp ?_); simp (disch := first | omega | (simp only [List.length_set, List.length_append, List.length_cons, List.length_nil]; done) | (simp only [List.length_set, List.length_append, List.length_cons, List.length_nil]; omega)) only [hmm, hs, go_sem, ↓reduceIte, Nat.reduceEqDiff, Nat.reduceAdd, Nat.reduceSub, Nat.reduceMul, Nat.reduceLT, Nat.reduceLeDiff, reduceCtorEq, Int.reduceToNat]) | ((first | refine qh ?_ ?_ | refine qe ?_ ?_) <;> intro hc <;> simp only [hc, go_sem, ↓reduceIte, Nat.reduceEqDiff, Nat.reduceAdd, Nat.reduceSub, Nat.reduceMul, Nat.reduceLT, Nat.reduceLeDiff, reduceCtorEq, Int.reduceToNat] <;> (try simp only [qb, qa, decide_eq_true_eq, decide_eq_false_iff_not, Bool.and_eq_true] at hc)) | refine And.intro (by first | assumption | omega | (have := qk (by assumption); omega) | (unfold qy; omega)) ?_ | ((first | simp (disch := omega) only [qd] | simp (disch := omega) only [qw]); (try simp only [go_sem, ↓reduceIte, Nat.reduceEqDiff, Nat.reduceAdd, Nat.reduceSub, Nat.reduceMul, Nat.reduceLT, Nat.reduceLeDiff, reduceCtorEq, Int.reduceToNat])) | ((first | refine qdk (ql0 hm ih d i1 i2) rfl ?_ | refine qff j1.ok ?_); simp only [go_sem, ↓reduceIte, Nat.reduceEqDiff, Nat.reduceAdd, Nat.reduceSub, Nat.reduceMul, Nat.reduceLT, Nat.reduceLeDiff, reduceCtorEq, Int.reduceToNat]))
              · refine qbt (mm && (qz (qbu rec d).1 [44]).2, fu, d', [] ++ [(qbu rec d).2.getD N0]) [0, 2] ⟨⟨k1, by simp only; omega, fun h => ⟨by first | exact k3 h | (have := k3 h; simpa only [hmm] using this), by simp only; omega⟩, fun h => k4 h, ?_⟩, ?_⟩ rfl (by simp) ?_ ?_ ?_
                · simp only [List.length_append, List.length_cons, List.length_nil]; omega
                · simp only; split <;> omega
                all_goals simp only [hd', hmm, if_true, if_false, reduceIte, Bool.false_eq_true, Bool.true_and, Bool.false_and, q2m, ← qba, qct, qcv, List.nil_append, encs, qdg, qde]
                all_goals simp only [go_sem, ↓reduceIte, Nat.reduceEqDiff, Nat.reduceAdd, Nat.reduceSub, Nat.reduceMul, Nat.reduceLT, Nat.reduceLeDiff, reduceCtorEq, Int.reduceToNat]
            · have hne := qcm h0
              simp only [qcb hne, qcc hne, qb3, hmm]
              repeat' (first | refine qs ?_ | refine qg ?_ | refine qi ?_ | ((first | refine qu ?_ | refine qq (by rfl) ?_ | refine ql ?_ | refine qj ?_ | refine qo ?_ | refine qt ?_ | refine qn ?_ | refine qm ?_ | refine qp ?_); simp (disch := first | omega | (simp only [List.length_set, List.length_append, List.length_cons, List.length_nil]; done) | (simp only [List.length_set, List.length_append, List.length_cons, List.length_nil]; omega)) only [hmm, hs, go_sem, ↓reduceIte, Nat.reduceEqDiff, Nat.reduceAdd, Nat.reduceSub, Nat.reduceMul, Nat.reduceLT, Nat.reduceLeDiff, reduceCtorEq, Int.reduceToNat]) | ((first | refine qh ?_ ?_ | refine qe ?_ ?_) <;> intro hc <;> simp only [hc, go_sem, ↓reduceIte, Nat.reduceEqDiff, Nat.reduceAdd, Nat.reduceSub, Nat.reduceMul, Nat.reduceLT, Nat.reduceLeDiff, reduceCtorEq, Int.reduceToNat] <;> (try simp only [qb, qa, decide_eq_true_eq, decide_eq_false_iff_not, Bool.and_eq_true] at hc)) | refine And.intro (by first | assumption | omega | (have := qk (by assumption); omega) | (unfold qy; omega)) ?_ | ((first | simp (disch := omega) only [qd] | simp (disch := omega) only [qw]); (try simp only [go_sem, ↓reduceIte, Nat.reduceEqDiff, Nat.reduceAdd, Nat.reduceSub, Nat.reduceMul, Nat.reduceLT, Nat.reduceLeDiff, reduceCtorEq, Int.reduceToNat])) | ((first | refine qdk (ql0 hm ih d i1 i2) rfl ?_ | refine qff j1.ok ?_); simp only [go_sem, ↓reduceIte, Nat.reduceEqDiff, Nat.reduceAdd, Nat.reduceSub, Nat.reduceMul, Nat.reduceLT, Nat.reduceLeDiff, reduceCtorEq, Int.reduceToNat]))
              · refine qbt (mm && (qz (qbu rec d).1 [44]).2, fu, d', acc ++ [(qbu rec d).2.getD N0]) [0, 3] ⟨⟨k1, by simp only; omega, fun h => ⟨by first | exact k3 h | (have := k3 h; simpa only [hmm] using this), by simp only; omega⟩, fun h => k4 h, ?_⟩, ?_⟩ rfl (by simp) ?_ ?_ ?_
                · simp only [List.length_append, List.length_cons, List.length_nil]; omega
                · simp only; split <;> omega
                all_goals simp only [hd', hmm, if_true, if_false, reduceIte, Bool.false_eq_true, Bool.true_and, Bool.false_and, q2m, ← qba, qct, qcv, List.nil_append, encs, qdg, qde]
                all_goals simp only [go_sem, ↓reduceIte, Nat.reduceEqDiff, Nat.reduceAdd, Nat.reduceSub, Nat.reduceMul, Nat.reduceLT, Nat.reduceLeDiff, reduceCtorEq, Int.reduceToNat]
                all_goals (try (rw [qba, qcd, qc4]; exact ⟨rfl, rfl⟩))
          · have hs : (qbu rec d).2.isSome = false := by simpa using hs
            rw [if_neg (by rw [hs]; simp)] at i3
            subst i3
            obtain rfl := hk1 rfl
            by_cases h0 : acc = []
            · subst h0
              simp only [encs, qbv, qbx, hmm]
              repeat' (first | refine qs ?_ | refine qg ?_ | refine qi ?_ | ((first | refine qu ?_ | refine qq (by rfl) ?_ | refine ql ?_ | refine qj ?_ | refine qo ?_ | refine qt ?_ | refine qn ?_ | refine qm ?_ | refine qp ?_); simp (disch := first | omega | (simp only [List.length_set, List.length_append, List.length_cons, List.length_nil]; done) | (simp only [List.length_set, List.length_append, List.length_cons, List.length_nil]; omega)) only [hmm, hs, go_sem, ↓reduceIte, Nat.reduceEqDiff, Nat.reduceAdd, Nat.reduceSub, Nat.reduceMul, Nat.reduceLT, Nat.reduceLeDiff, reduceCtorEq, Int.reduceToNat]) | ((first | refine qh ?_ ?_ | refine qe ?_ ?_) <;> intro hc <;> simp only [hc, go_sem, ↓reduceIte, Nat.reduceEqDiff, Nat.reduceAdd, Nat.reduceSub, Nat.reduceMul, Nat.reduceLT, Nat.reduceLeDiff, reduceCtorEq, Int.reduceToNat] <;> (try simp only [qb, qa, decide_eq_true_eq, decide_eq_false_iff_not, Bool.and_eq_true] at hc)) | refine And.intro (by first | assumption | omega | (have := qk (by assumption); omega) | (unfold qy; omega)) ?_ | ((first | simp (disch := omega) only [qd] | simp (disch := omega) only [qw]); (try simp only [go_sem, ↓reduceIte, Nat.reduceEqDiff, Nat.reduceAdd, Nat.reduceSub, Nat.reduceMul, Nat.reduceLT, Nat.reduceLeDiff, reduceCtorEq, Int.reduceToNat])) | ((first | refine qdk (ql0 hm ih d i1 i2) rfl ?_ | refine qff j1.ok ?_); simp only [go_sem, ↓reduceIte, Nat.reduceEqDiff, Nat.reduceAdd, Nat.reduceSub, Nat.reduceMul, Nat.reduceLT, Nat.reduceLeDiff, reduceCtorEq, Int.reduceToNat]))
              exact ⟨rfl, rfl⟩
            · have hne := qcm h0
              simp only [qcb hne, qcc hne, qb3, hmm]
              repeat' (first | refine qs ?_ | refine qg ?_ | refine qi ?_ | ((first | refine qu ?_ | refine qq (by rfl) ?_ | refine ql ?_ | refine qj ?_ | refine qo ?_ | refine qt ?_ | refine qn ?_ | refine qm ?_ | refine qp ?_); simp (disch := first | omega | (simp only [List.length_set, List.length_append, List.length_cons, List.length_nil]; done) | (simp only [List.length_set, List.length_append, List.length_cons, List.length_nil]; omega)) only [hmm, hs, go_sem, ↓reduceIte, Nat.reduceEqDiff, Nat.reduceAdd, Nat.reduceSub, Nat.reduceMul, Nat.reduceLT, Nat.reduceLeDiff, reduceCtorEq, Int.reduceToNat]) | ((first | refine qh ?_ ?_ | refine qe ?_ ?_) <;> intro hc <;> simp only [hc, go_sem, ↓reduceIte, Nat.reduceEqDiff, Nat.reduceAdd, Nat.reduceSub, Nat.reduceMul, Nat.reduceLT, Nat.reduceLeDiff, reduceCtorEq, Int.reduceToNat] <;> (try simp only [qb, qa, decide_eq_true_eq, decide_eq_false_iff_not, Bool.and_eq_true] at hc)) | refine And.intro (by first | assumption | omega | (have := qk (by assumption); omega) | (unfold qy; omega)) ?_ | ((first | simp (disch := omega) only [qd] | simp (disch := omega) only [qw]); (try simp only [go_sem, ↓reduceIte, Nat.reduceEqDiff, Nat.reduceAdd, Nat.reduceSub, Nat.reduceMul, Nat.reduceLT, Nat.reduceLeDiff, reduceCtorEq, Int.reduceToNat])) | ((first | refine qdk (ql0 hm ih d i1 i2) rfl ?_ | refine qff j1.ok ?_); simp only [go_sem, ↓reduceIte, Nat.reduceEqDiff, Nat.reduceAdd, Nat.reduceSub, Nat.reduceMul, Nat.reduceLT, Nat.reduceLeDiff, reduceCtorEq, Int.reduceToNat]))
              exact ⟨rfl, rfl⟩
      )
  · have hpa : qbq rec c = (c, if qod c = true then none else some []) := by rw [qbq, if_neg ha]
    rw [hpa] at hk1 hk2 ⊢
    obtain rfl := hk1 (by simp only; split <;> rfl)
    repeat' (first | refine qs ?_ | refine qg ?_ | refine qi ?_ | ((first | refine qu ?_ | refine qq (by rfl) ?_ | refine ql ?_ | refine qj ?_ | refine qo ?_ | refine qt ?_ | refine qn ?_ | refine qm ?_ | refine qp ?_); simp (disch := first | omega | (simp only [List.length_set, List.length_append, List.length_cons, List.length_nil]; done) | (simp only [List.length_set, List.length_append, List.length_cons, List.length_nil]; omega)) only [ha, go_sem, ↓reduceIte, Nat.reduceEqDiff, Nat.reduceAdd, Nat.reduceSub, Nat.reduceMul, Nat.reduceLT, Nat.reduceLeDiff, reduceCtorEq, Int.reduceToNat]) | ((first | refine qh ?_ ?_ | refine qe ?_ ?_) <;> intro hc <;> simp only [hc, go_sem, ↓reduceIte, Nat.reduceEqDiff, Nat.reduceAdd, Nat.reduceSub, Nat.reduceMul, Nat.reduceLT, Nat.reduceLeDiff, reduceCtorEq, Int.reduceToNat] <;> (try simp only [qb, qa, decide_eq_true_eq, decide_eq_false_iff_not, Bool.and_eq_true] at hc)) | refine And.intro (by first | assumption | omega | (have := qk (by assumption); omega) | (unfold qy; omega)) ?_ | ((first | simp (disch := omega) only [qd] | simp (disch := omega) only [qw]); (try simp only [go_sem, ↓reduceIte, Nat.reduceEqDiff, Nat.reduceAdd, Nat.reduceSub, Nat.reduceMul, Nat.reduceLT, Nat.reduceLeDiff, reduceCtorEq, Int.reduceToNat])) | ((first | refine q0b hg.ok hg.2.1 ?_ | refine qbc4 hg.ok ?_); simp only [go_sem, ↓reduceIte, Nat.reduceEqDiff, Nat.reduceAdd, Nat.reduceSub, Nat.reduceMul, Nat.reduceLT, Nat.reduceLeDiff, reduceCtorEq, Int.reduceToNat]))
    cases qod c <;> exact ⟨rfl, rfl⟩
end
end Go.Proofs.YtmekebfgmjaenaaGreat

/- types: a context and a type; of a text: the program -/
set_option maxRecDepth 4000
namespace Go.Proofs.YtmekebfgmjaenaaGreat
open Go Go.RowKit Go.V
set_option linter.unusedVariables false
set_option linter.unusedSimpArgs false

theorem qor {rec : K → K × Option N} {c : K} (h : qh7 rec c) (h0 : (qbq rec c).2.getD [] = []) {L : List Ent} {Q : List Ent → VO → Prop} (hq : Q (curE (qbq rec c).1 :: L) (.val (.tup [.nils, .bool (qbq rec c).2.isSome]))) :
    VApp Tryz.prog (curE c :: L) (.fn 46 [] []) [.ptr 0 0] Q :=
  qb4 (r := .tup [.nils, .bool (qbq rec c).2.isSome]) (e' := curE (qbq rec c).1) (by
    unfold qh7 at h
    rw [h0] at h
    unfold qcs
    have hr : qqa 1 (qbq rec c).2 = .tup [.nils, .bool (qbq rec c).2.isSome] := by rw [qqa, h0]; rfl
    rw [hr] at h
    exact h) (qbk _ _) (qbk _ _) rfl rfl fun _ => hq
theorem qyd {rec : K → K × Option N} {c : K} (h : qh7 rec c) {l : List N} (hl : (qbq rec c).2 = some l) (h0 : l ≠ []) {L : List Ent} {Q : List Ent → VO → Prop}
    (hq : Q (curE (qbq rec c).1 :: (L ++ [.app 5 (encs l)])) (.val (.tup [.row (L.length + 1) l.length, .bool true]))) :
    VApp Tryz.prog (curE c :: L) (.fn 46 [] []) [.ptr 0 0] Q :=
  qhc (first := []) (caps := []) (by
    simp only [List.nil_append, List.append_nil]
    have hne := qcm h0
    have hs : AV.rens (sg [0]) [.ptr 0 0] = [.ptr 0 0] := rfl
    rw [← hs]
    have ha : AV.bds 1 [.ptr 0 0] = true := rfl
    have napp_ren : ∀ σ : Nat → Nat, (Ent.app 5 (encs l)).ren σ = .app 5 (encs l) := fun σ => Ent.ren_same (m := 0) (fun i hi => by omega) _ (by simp [Ent.bd, qcd])
    refine qgf (H0 := [curE c]) [0] h (by simp) (by simp) rfl ?_ ha ?_
    · intro j e2 hj
      obtain rfl : j = 0 := by have := (List.getElem?_eq_some_iff.1 hj).1; simp at this; omega
      simp only [List.getElem?_cons_zero, Option.some.injEq] at hj
      subst hj
      exact .inr ⟨qbk _ _, by rw [qme]; rfl⟩
    rintro H1 o ⟨rfl, rfl⟩
    rw [hl]
    simp only [Option.getD_some, qcc hne, qqa, qcb hne, qb3, Option.isSome_some, List.length_cons, List.length_nil, List.take_succ_cons, List.take_zero, List.map_nil, qcp, List.drop_zero, List.drop_succ_cons, List.map_cons, qme, napp_ren, VO.ren, AV.ren, AV.rens, sg', List.set_cons_zero]
    exact hq)
def qlu (p : Int) (l : List N) (t : N) : N := .mk 4 p 0 [] (l ++ [t])
def qes (f : Nat) (c : K) : K × Option N :=
  if (qbq (qce f) c).2.isSome = true then ((qce f (qbq (qce f) c).1).1, (qce f (qbq (qce f) c).1).2.map (qlu (qbg c).pos ((qbq (qce f) c).2.getD [])))
  else ((qbq (qce f) c).1, none)
theorem qpm {c : K} {L : List Ent} {p : Int} {l : List N} {t : N} {b : Bool} {Q : List Ent → VO → Prop} (hq : Q (curE c :: L) (.val (resP (qk8 (qlu p l t) b)))) :
    VApp Tryz.prog (curE c :: L) (.fn 48 [] []) [.ptr 0 0, .agg [.int .i64 4, .int .i64 p, .int .i64 0, .str [], .sl 5 (encs l ++ [enc t])], .bool b] Q := by
  have h := qs5 (n := qlu p l t) hq
  simpa only [qlu, enc, qba] using h
theorem qut {c : K} {L : List Ent} {p : Int} {t : N} {b : Bool} {Q : List Ent → VO → Prop} (hq : Q (curE c :: L) (.val (resP (qk8 (qlu p [] t) b)))) :
    VApp Tryz.prog (curE c :: L) (.fn 48 [] []) [.ptr 0 0, .agg [.int .i64 4, .int .i64 p, .int .i64 0, .str [], .sl 5 [enc t]], .bool b] Q := qpm (l := []) hq
theorem qsz {r : Option N} {p : Int} {l : List N} : qk8 (qlu p l (r.getD N0)) r.isSome = r.map (qlu p l) := qpx
theorem qs1 {rec : K → K × Option N} (hm : ∀ c, Mon c (rec c).1) (many : Bool) : ∀ (f : Nat) (c : K) (acc l : List N), (qfc rec many f c acc).2 = some l → l.length ≤ acc.length + rest c
  | 0, c, acc, l => fun h => by cases h
  | f + 1, c, acc, l => fun h => by
    rw [qfc] at h
    split at h
    · rename_i hs
      have h1 := qia hm hs
      split at h
      · have h2 := qs1 hm many f _ _ _ h
        have h3 := (qbf (qbu rec c).1 [44]).2.1
        simp only [List.length_append, List.length_cons, List.length_nil] at h2
        omega
      · cases h
        simp only [List.length_append, List.length_cons, List.length_nil]
        omega
    · cases h
theorem qnu {m : Bool} {r : K × Option (List N)} {l : List N} (h : (qf5 m r).2 = some l) : r.2 = some l := by
  unfold qf5 at h
  repeat' split at h
  all_goals first | exact h | cases h
theorem qrm {rec : K → K × Option N} (hm : ∀ c, Mon c (rec c).1) {c : K} {l : List N} (h : (qbq rec c).2 = some l) : l.length ≤ rest c := by
  unfold qbq at h
  split at h
  · have h := qnu h
    unfold qh6 at h
    split at h
    · cases h; exact Nat.zero_le _
    · have h1 := qs1 hm _ _ _ _ _ h
      have h2 := (qbf c [40]).2.1
      simp only [List.length_nil] at h1
      omega
  · simp only at h
    split at h
    · cases h
    · cases h; exact Nat.zero_le _
theorem qxe (f : Nat) (c : K) (hg : c.good) (hr : rest c < f) : qcs Tryz.prog 22 (curE c) (curE (qes f c).1) [.ptr 0 0] (resP (qes f c).2) := by
  have hm := qgl f
  have hP := qus hm (q0a f) c hg (by omega)
  have g1 : (qbq (qce f) c).1.good := (qg5 hm c).1 hg
  have hr1 : rest (qbq (qce f) c).1 < f := by have := (qg5 hm c).2.1; omega
  refine qbh c0bq 1 (by simp) (by simp) ?_
  unfold qes
  cases ho : (qbq (qce f) c).2 with
  | none =>
    have h0 : (qbq (qce f) c).2.getD [] = [] := by rw [ho]; rfl
    repeat' (first | refine qs ?_ | refine qg ?_ | refine qi ?_ | ((first | refine qu ?_ | refine qq (by rfl) ?_ | refine ql ?_ | refine qj ?_ | refine qo ?_ | refine qt ?_ | refine qn ?_ | refine qm ?_ | refine qp ?_); simp (disch := first | omega | (simp only [List.length_set, List.length_append, List.length_cons, List.length_nil]; done) | (simp only [List.length_set, List.length_append, List.length_cons, List.length_nil]; omega)) only [ho, Option.isSome_none, go_sem, ↓reduceIte, Nat.reduceEqDiff, Nat.reduceAdd, Nat.reduceSub, Nat.reduceMul, Nat.reduceLT, Nat.reduceLeDiff, reduceCtorEq, Int.reduceToNat]) | ((first | refine qh ?_ ?_ | refine qe ?_ ?_) <;> intro hc <;> simp only [hc, go_sem, ↓reduceIte, Nat.reduceEqDiff, Nat.reduceAdd, Nat.reduceSub, Nat.reduceMul, Nat.reduceLT, Nat.reduceLeDiff, reduceCtorEq, Int.reduceToNat] <;> (try simp only [qb, qa, decide_eq_true_eq, decide_eq_false_iff_not, Bool.and_eq_true] at hc)) | refine And.intro (by first | assumption | omega | (have := qk (by assumption); omega) | (unfold qy; omega)) ?_ | ((first | simp (disch := omega) only [qd] | simp (disch := omega) only [qw]); (try simp only [go_sem, ↓reduceIte, Nat.reduceEqDiff, Nat.reduceAdd, Nat.reduceSub, Nat.reduceMul, Nat.reduceLT, Nat.reduceLeDiff, reduceCtorEq, Int.reduceToNat])) | ((first | refine qdw ?_ | refine qor hP h0 ?_); simp only [go_sem, ↓reduceIte, Nat.reduceEqDiff, Nat.reduceAdd, Nat.reduceSub, Nat.reduceMul, Nat.reduceLT, Nat.reduceLeDiff, reduceCtorEq, Int.reduceToNat]))
    rw [qea]; rfl
  | some l =>
    have hlen := qrm hm ho
    have hlen2 := hg.rest
    by_cases h0 : l = []
    · subst h0
      have h0 : (qbq (qce f) c).2.getD [] = [] := by rw [ho]; rfl
      have hcap : qy 1 64 := capN (by omega)
      repeat' (first | refine qs ?_ | refine qg ?_ | refine qi ?_ | ((first | refine qu ?_ | refine qq (by rfl) ?_ | refine ql ?_ | refine qj ?_ | refine qo ?_ | refine qt ?_ | refine qn ?_ | refine qm ?_ | refine qp ?_); simp (disch := first | omega | (simp only [List.length_set, List.length_append, List.length_cons, List.length_nil]; done) | (simp only [List.length_set, List.length_append, List.length_cons, List.length_nil]; omega)) only [ho, Option.isSome_some, go_sem, ↓reduceIte, Nat.reduceEqDiff, Nat.reduceAdd, Nat.reduceSub, Nat.reduceMul, Nat.reduceLT, Nat.reduceLeDiff, reduceCtorEq, Int.reduceToNat]) | ((first | refine qh ?_ ?_ | refine qe ?_ ?_) <;> intro hc <;> simp only [hc, go_sem, ↓reduceIte, Nat.reduceEqDiff, Nat.reduceAdd, Nat.reduceSub, Nat.reduceMul, Nat.reduceLT, Nat.reduceLeDiff, reduceCtorEq, Int.reduceToNat] <;> (try simp only [qb, qa, decide_eq_true_eq, decide_eq_false_iff_not, Bool.and_eq_true] at hc)) | refine And.intro (by first | assumption | omega | (have := qk (by assumption); omega) | (unfold qy; omega)) ?_ | ((first | simp (disch := omega) only [qd] | simp (disch := omega) only [qw]); (try simp only [go_sem, ↓reduceIte, Nat.reduceEqDiff, Nat.reduceAdd, Nat.reduceSub, Nat.reduceMul, Nat.reduceLT, Nat.reduceLeDiff, reduceCtorEq, Int.reduceToNat])) | ((first | refine qdw ?_ | refine qor hP h0 ?_ | refine qdk (q0a f _ g1 hr1) rfl ?_ | refine qut ?_); simp only [go_sem, ↓reduceIte, Nat.reduceEqDiff, Nat.reduceAdd, Nat.reduceSub, Nat.reduceMul, Nat.reduceLT, Nat.reduceLeDiff, reduceCtorEq, Int.reduceToNat]))
      rw [qsz]; rfl
    · have hcap : qy (l.length + 1) 64 := capN (by unfold rest at hlen; omega)
      repeat' (first | refine qs ?_ | refine qg ?_ | refine qi ?_ | ((first | refine qu ?_ | refine qq (by rfl) ?_ | refine ql ?_ | refine qj ?_ | refine qo ?_ | refine qt ?_ | refine qn ?_ | refine qm ?_ | refine qp ?_); simp (disch := first | omega | (simp only [List.length_set, List.length_append, List.length_cons, List.length_nil]; done) | (simp only [List.length_set, List.length_append, List.length_cons, List.length_nil]; omega)) only [ho, Option.isSome_some, go_sem, ↓reduceIte, Nat.reduceEqDiff, Nat.reduceAdd, Nat.reduceSub, Nat.reduceMul, Nat.reduceLT, Nat.reduceLeDiff, reduceCtorEq, Int.reduceToNat]) | ((first | refine qh ?_ ?_ | refine qe ?_ ?_) <;> intro hc <;> simp only [hc, go_sem, ↓reduceIte, Nat.reduceEqDiff, Nat.reduceAdd, Nat.reduceSub, Nat.reduceMul, Nat.reduceLT, Nat.reduceLeDiff, reduceCtorEq, Int.reduceToNat] <;> (try simp only [qb, qa, decide_eq_true_eq, decide_eq_false_iff_not, Bool.and_eq_true] at hc)) | refine And.intro (by first | assumption | omega | (have := qk (by assumption); omega) | (unfold qy; omega)) ?_ | ((first | simp (disch := omega) only [qd] | simp (disch := omega) only [qw]); (try simp only [go_sem, ↓reduceIte, Nat.reduceEqDiff, Nat.reduceAdd, Nat.reduceSub, Nat.reduceMul, Nat.reduceLT, Nat.reduceLeDiff, reduceCtorEq, Int.reduceToNat])) | ((first | refine qdw ?_ | refine qyd hP ho h0 ?_ | refine qdk (q0a f _ g1 hr1) rfl ?_ | refine qpm ?_); simp only [go_sem, ↓reduceIte, Nat.reduceEqDiff, Nat.reduceAdd, Nat.reduceSub, Nat.reduceMul, Nat.reduceLT, Nat.reduceLeDiff, reduceCtorEq, Int.reduceToNat]))
      rw [qsz]; rfl
end Go.Proofs.YtmekebfgmjaenaaGreat

/- types: of a text -/
namespace Go.Proofs.YtmekebfgmjaenaaGreat
open Go Go.RowKit Go.V
set_option linter.unusedVariables false
set_option linter.unusedSimpArgs false

/-! The size of what is read. -/
theorem qg8 : ∀ (a b : List N), szs (a ++ b) = szs a + szs b
  | [], b => by simp [szs]
  | x :: a, b => by rw [List.cons_append, szs, szs, qg8 a b]; omega
theorem qud (c : K) (k : Int) (ks : List N) : sz (qh4 c k ks) = szs ks + 1 := by rw [qjd]; rfl
section
variable {rec : K → K × Option N} (hm : ∀ c, Mon c (rec c).1) (ih : ∀ c n, (rec c).2 = some n → sz n + rest (rec c).1 ≤ rest c)
include hm ih
omit hm in
theorem qky {c : K} {n : N} (h : (qb8 rec c).2 = some n) : sz n + rest (qb8 rec c).1 ≤ rest c := by
  unfold qb8 at h ⊢
  split at h
  · rename_i h1
    rw [if_pos h1]
    cases h
    have := qbm (c := c) (by omega)
    rw [qud]; simp only [szs]; omega
  · rename_i h1
    rw [if_neg h1]
    split at h
    · rename_i h2
      rw [if_pos h2]
      cases h
      have := qbm (c := c) (by omega)
      rw [qud]; simp only [szs]; omega
    · rename_i h2
      rw [if_neg h2]
      split at h
      · rename_i h3
        rw [if_pos h3]
        split at h
        · rename_i h4
          rw [if_pos h4]
          have hp := qbm (c := (qr c).1) (by rw [qei h4]; exact qdp h3)
          have h0 := (qbb c).2.1
          split at h
          · rename_i h5
            rw [if_pos h5]
            simp only at h ⊢
            split at h
            · have h6 := ih _ _ h
              have h7 := (qx (rec (qbc (qr c).1)).1 [41]).2.1
              have h8 := (qby (q9 (rec (qbc (qr c).1)).1 [41]).1).2.1
              omega
            · cases h
          · cases h
        · cases h
      · cases h
omit hm in
theorem qos : ∀ (f : Nat) (c : K) (acc l : List N), (qeg rec f c acc).2 = some l → szs l + rest (qeg rec f c acc).1 ≤ szs acc + rest c
  | 0, c, acc, l => fun h => by cases h
  | f + 1, c, acc, l => fun h => by
    rw [qeg] at h ⊢
    split at h
    · rename_i h1
      rw [if_pos h1]
      split at h
      · rename_i h2
        rw [if_pos h2]
        obtain ⟨n, hn⟩ := Option.isSome_iff_exists.1 h2
        have h3 := qos f _ _ _ h
        have h4 := qky ih hn
        rw [qg8, hn] at h3
        simp only [Option.getD_some, szs] at h3
        rw [hn]
        simp only [Option.getD_some]
        omega
      · cases h
    · rename_i h1
      rw [if_neg h1]
      cases h
      exact Nat.le_refl _
omit hm in
theorem qss {c : K} {n : N} (h : (qcj rec c).2 = some n) : sz n + rest (qcj rec c).1 ≤ rest c := by
  unfold qcj at h ⊢
  split at h
  · rename_i h1
    rw [if_pos h1]
    obtain ⟨l, hl, rfl⟩ := Option.map_eq_some_iff.1 h
    have h2 := qos ih _ _ _ _ hl
    have h3 := qbm (c := c) (by omega)
    rw [qud]
    simp only [szs] at h2 ⊢
    omega
  · rename_i h1
    rw [if_neg h1]
    exact qky ih h
omit hm in
theorem qxh {c : K} {n : N} (h : (qbu rec c).2 = some n) : sz n + rest (qbu rec c).1 ≤ rest c := by
  unfold qbu at h ⊢
  split at h
  · rename_i h1
    rw [if_pos h1]
    obtain ⟨m, hk, rfl⟩ := Option.map_eq_some_iff.1 h
    have h2 := qky ih hk
    obtain ⟨e1, e2⟩ := qrg h1
    rw [(q1v h1).1] at h2 ⊢
    have h3 := qbm (c := c) (by omega)
    have : sz (qoe (qin c 2) m) = sz m + 1 := by rw [qjd]; simp [qoe, N.kids, szs]
    simp only at h2 ⊢
    omega
  · cases h
omit hm in
theorem qr3 (many : Bool) : ∀ (f : Nat) (c : K) (acc l : List N), (qfc rec many f c acc).2 = some l → szs l + rest (qfc rec many f c acc).1 ≤ szs acc + rest c
  | 0, c, acc, l => fun h => by cases h
  | f + 1, c, acc, l => fun h => by
    rw [qfc] at h ⊢
    split at h
    · rename_i h1
      rw [if_pos h1]
      obtain ⟨n, hn⟩ := Option.isSome_iff_exists.1 h1
      have h4 := qxh ih hn
      split at h
      · rename_i h2
        rw [if_pos h2]
        have h3 := qr3 many f _ _ _ h
        have h5 := (qbf (qbu rec c).1 [44]).2.1
        rw [qg8, hn] at h3
        simp only [Option.getD_some, szs] at h3
        rw [hn]
        simp only [Option.getD_some]
        omega
      · rename_i h2
        rw [if_neg h2]
        cases h
        rw [hn, qg8]
        simp only [Option.getD_some, szs]
        omega
    · cases h
end
theorem qre : ∀ (f : Nat) (c : K) (n : N), (qce f c).2 = some n → sz n + rest (qce f c).1 ≤ rest c
  | 0, _, _ => fun h => by cases h
  | f + 1, c, n => fun h => by
    have ih := qre f
    have h0 := (qbb c).2.1
    rw [qce] at h ⊢
    split at h
    · rename_i h1
      rw [if_pos h1]
      split at h
      · rename_i h2
        rw [if_pos h2]
        obtain ⟨m, hm⟩ := Option.isSome_iff_exists.1 h2
        have h3 := qss ih hm
        split at h
        · rename_i h4
          rw [if_pos h4]
          obtain ⟨q, hq, rfl⟩ := Option.map_eq_some_iff.1 h
          have h5 := ih _ _ hq
          have h6 := (qby (qce f (qz (qcj (qce f) (qr c).1).1 [45, 62]).1).1).2.1
          have h7 : rest (qz (qcj (qce f) (qr c).1).1 [45, 62]).1 + 1 ≤ rest (qcj (qce f) (qr c).1).1 := by
            unfold qz at h4 ⊢
            split at h4
            · rename_i h8
              rw [if_pos h8]
              have := qbm (qdp h8)
              simp only; omega
            · cases h4
          have : sz (qh1 ((qcj (qce f) (qr c).1).2.getD N0) q) = sz m + sz q + 1 := by rw [qjd, hm]; simp [qh1, N.kids, szs]
          simp only
          omega
        · rename_i h4
          rw [if_neg h4]
          have h5 := (qby (qcj (qce f) (qr c).1).1).2.1
          have h6 := qss ih h
          simp only
          omega
      · cases h
    · cases h
theorem qw4 {f : Nat} {c : K} {n : N} (h : (qes f c).2 = some n) : sz n + rest (qes f c).1 ≤ rest c + 1 := by
  unfold qes at h ⊢
  split at h
  · rename_i h1
    rw [if_pos h1]
    obtain ⟨l, hl⟩ := Option.isSome_iff_exists.1 h1
    obtain ⟨q, hq, rfl⟩ := Option.map_eq_some_iff.1 h
    have h2 := qre f _ _ hq
    rw [hl]
    have h3 : szs l + rest (qbq (qce f) c).1 ≤ rest c := by
      have hx := hl
      unfold qbq at hx ⊢
      split at hx
      · rename_i ha
        rw [if_pos ha]
        have h5 := qnu hx
        have h6 : szs l + rest (qh6 (qce f) c).1 ≤ rest c := by
          unfold qh6 at h5 ⊢
          have ht := (qbf c [40]).2.1
          split at h5
          · rename_i hb
            rw [if_pos hb]
            cases h5
            simp only [szs]; omega
          · rename_i hb
            rw [if_neg hb]
            have := qr3 (qre f) _ _ _ _ _ h5
            simp only [szs] at this
            omega
        have h7 : rest (qf5 (qz c [40]).2 (qh6 (qce f) c)).1 ≤ rest (qh6 (qce f) c).1 := by
          unfold qf5
          split
          · split
            · split
              · exact Nat.le_trans (qx _ _).2.1 (qx _ _).2.1
              · exact (qx _ _).2.1
            · exact (qx _ _).2.1
          · exact Nat.le_refl _
        omega
      · rename_i ha
        rw [if_neg ha]
        simp only at hx ⊢
        split at hx
        · cases hx
        · cases hx; simp only [szs]; omega
    have : sz (qlu (qbg c).pos l q) = szs l + sz q + 1 := by rw [qjd]; simp [qlu, N.kids, qg8, szs]
    simp only [Option.getD_some]
    omega
  · cases h
theorem qmk {l : List T} (h : l.length ≤ 1048577) : (newK l).good := ⟨Nat.zero_le _, Nat.le_trans (qku l) h, Nat.zero_le _⟩
end Go.Proofs.YtmekebfgmjaenaaGreat

/- types: of a text: the program -/
namespace Go.Proofs.YtmekebfgmjaenaaGreat
open Go Go.RowKit Go.V
set_option linter.unusedVariables false
set_option linter.unusedSimpArgs false

/-- What is all there is. -/
def q9w (c : K) (n : N) : N × Int × Int :=
  if (qjc c).2 = 0 then if depR n > 100 then (N0, n.pos, 2) else (n, 0, 0) else (N0, (qjc c).1, (qjc c).2)
def qbwl (rd : K → K × Option N) (s : List UInt8) : N × Int × Int :=
  if (lexV s).2.2 = 0 then q9w (rd (newK (lexV s).1)).1 ((rd (newK (lexV s).1)).2.getD N0)
  else (N0, (lexV s).2.1, (lexV s).2.2)
def resV (r : N × Int × Int) : AV := .tup [enc r.1, .int .i64 r.2.1, .int .i64 r.2.2]
attribute [go_sem] resV lexR
theorem qji (f : Nat) (c : K) : Mon c (qes f c).1 := by
  have hm := qgl f
  unfold qes
  split
  · exact (qg5 hm c).trans (hm _)
  · exact qg5 hm c
end Go.Proofs.YtmekebfgmjaenaaGreat

/- types: the reference -/
set_option maxRecDepth 4000
namespace Go.Proofs.YtmekebfgmjaenaaGreat
open Go Go.RowKit Go.V
set_option linter.unusedVariables false
set_option linter.unusedSimpArgs false

theorem qil {c : K} (h : (qbg c).kind ≠ 0) : em (qbc c) < em c := by
  have h1 := qbm h
  rw [qbql (qd4 h).1]
  have := qip (qbc c)
  omega
theorem qed {c : K} {x : List UInt8} (h : (qz c x).2 = true) : em (qz c x).1 < em c := by
  unfold qz at h ⊢
  split at h
  · rename_i h1
    rw [if_pos h1]
    exact qil (qdp h1)
  · cases h
theorem qeq {c : K} (h : isK c [40] = true) : em (q9 (qr c).1 [40]).1 < em c := by
  rw [qbql (qqm h)]
  cases he : (qr c).2 with
  | false => rw [qb9 (qf1 he), qbs6 (qf1 he)]; omega
  | true =>
    have h1 : isK (qr c).1 [40] = true := by rw [ql2 he]; exact h
    have h2 := qbm (qdp h1)
    have h3 := (qbb c).2.1
    have h4 := qip (qbc (qr c).1)
    rw [ql4 h1]
    simp only; omega
def qcx (rec : K → K × N) (c : K) : K × N :=
  if c.err = 0 then
    if (qbg c).kind = 1 then (qbc c, qh4 c 1 [])
    else if (qbg c).kind = 2 then (qbc c, qh4 c 2 [])
    else if isK c [40] = true then (qci (q9 (rec (q9 (qr c).1 [40]).1).1 [41]).1, (rec (q9 (qr c).1 [40]).1).2)
    else (qe9 c 5, N0)
  else (c, N0)
def qd8 (rec : K → K × N) : Nat → K → List N → K × List N
  | 0, c, acc => (c, acc)
  | f + 1, c, acc => if begT c = true then qd8 rec f (qcx rec c).1 (acc ++ [(qcx rec c).2]) else (c, acc)
def qc9 (rec : K → K × N) (c : K) : K × N :=
  if (qbg c).kind = 2 then ((qd8 rec (em (qbc c) + 1) (qbc c) []).1, qh4 c 2 (qd8 rec (em (qbc c) + 1) (qbc c) []).2) else qcx rec c
def qch : Nat → K → K × N
  | 0, c => (c, N0)
  | f + 1, c =>
    if (qz (qc9 (qch f) (qr c).1).1 [45, 62]).2 = true then
      (qci (qch f (qz (qc9 (qch f) (qr c).1).1 [45, 62]).1).1, qh1 (qc9 (qch f) (qr c).1).2 (qch f (qz (qc9 (qch f) (qr c).1).1 [45, 62]).1).2)
    else (qci (qc9 (qch f) (qr c).1).1, (qc9 (qch f) (qr c).1).2)
section
variable {rec : K → K × N} (hm : ∀ c, Mon c (rec c).1)
include hm
theorem qlz (c : K) : Mon (q9 (qr c).1 [40]).1 (qci (q9 (rec (q9 (qr c).1 [40]).1).1 [41]).1) := ((hm _).trans (qx _ _)).trans (qby _)
theorem qfy (c : K) : Mon c (qcx rec c).1 := by
  unfold qcx
  split
  · split
    · exact qbw c
    · split
      · exact qbw c
      · split
        · exact ((qbb c).trans (qx _ _)).trans (qlz hm c)
        · exact qfh c 5
  · exact Mon.refl c
theorem qhw {c : K} (h : begT c = true) : em (qcx rec c).1 < em c := by
  unfold qcx
  rw [if_pos (qzq h)]
  split
  · exact qil (by omega)
  · split
    · exact qil (by omega)
    · rename_i h1 h2
      have hk : isK c [40] = true := by simpa only [begT, decide_eq_false h1, decide_eq_false h2, Bool.false_or] using h
      rw [if_pos hk]
      have h3 := qeq hk
      have h4 := (qlz hm c).em
      simp only; omega
theorem qll : ∀ (f : Nat) (c : K) (acc : List N), Mon c (qd8 rec f c acc).1
  | 0, c, acc => Mon.refl c
  | f + 1, c, acc => by
    rw [qd8]
    split
    · exact (qfy hm c).trans (qll f _ _)
    · exact Mon.refl c
theorem qj0 (c : K) : Mon c (qc9 rec c).1 := by
  unfold qc9
  split
  · exact (qbw c).trans (qll hm _ _ _)
  · exact qfy hm c
end
theorem qd5 : ∀ (f : Nat) (c : K), Mon c (qch f c).1
  | 0, c => Mon.refl c
  | f + 1, c => by
    have hr := (qbb c).trans (qj0 (qd5 f) (qr c).1)
    rw [qch]
    split
    · exact ((hr.trans (qbf _ _)).trans (qd5 f _)).trans (qby _)
    · exact hr.trans (qby _)

/-! The program. -/
theorem qg6 (c : K) : qbs Tryz.prog 117 [refC c] (.bool (begT c)) := by
  refine qbe c0bm (by simp) (by simp only [go_sem]) rfl fun hw => ?_
  repeat' (first | refine qs ?_ | refine qg ?_ | refine qi ?_ | ((first | refine qu ?_ | refine qq (by rfl) ?_ | refine ql ?_ | refine qj ?_ | refine qo ?_ | refine qt ?_ | refine qn ?_ | refine qm ?_ | refine qp ?_ | refine qc (q8 c) fun _ => ?_ | refine qc (qc3 c _) fun _ => ?_ | refine qf  (q8 c) ?_ | refine qf  (qc3 c _) ?_); simp only [go_sem, ↓reduceIte, Nat.reduceEqDiff, Nat.reduceAdd, Nat.reduceSub, Nat.reduceMul, Nat.reduceLT, Nat.reduceLeDiff, reduceCtorEq, Int.reduceToNat]) | ((first | refine qh ?_ ?_ | refine qe ?_ ?_) <;> intro hc <;> simp only [hc, go_sem, ↓reduceIte, Nat.reduceEqDiff, Nat.reduceAdd, Nat.reduceSub, Nat.reduceMul, Nat.reduceLT, Nat.reduceLeDiff, reduceCtorEq, Int.reduceToNat] <;> (try simp only [qb, qa, decide_eq_true_eq, decide_eq_false_iff_not, Bool.and_eq_true] at hc)) | refine And.intro (by first | assumption | omega | (have := qk (by assumption); omega) | (unfold qy; omega)) ?_ | ((first | simp (disch := omega) only [qd] | simp (disch := omega) only [qw]); (try simp only [go_sem, ↓reduceIte, Nat.reduceEqDiff, Nat.reduceAdd, Nat.reduceSub, Nat.reduceMul, Nat.reduceLT, Nat.reduceLeDiff, reduceCtorEq, Int.reduceToNat])))
  all_goals (have := @qzz c; unfold begT at *; simp_all)
def qtn (p : Int) (t : List UInt8) (c : K) (acc : List N) : AF × List Ent :=
  (⟨[(1, .ptr 0 0), (2, .ptr 1 0), (3, .ptr 2 0), (5, .ptr 3 0)], []⟩,
    .blk (refC c).cells :: .blk [.nils, .int .i64 0, .int .i64 0, .int .i64 0, .str [], .int .i64 0, .int .i64 0, .int .i64 0] :: .blk [.int .i64 0, .int .i64 0, .int .i64 0, .str [], .nils] :: .blk [.int .i64 2, .int .i64 p, .int .i64 0, .str t, accV 4 (encs acc)] :: accE 5 (encs acc))
section
variable {rec : K → K × N} {b : Nat} (hm : ∀ c, Mon c (rec c).1) (ih : ∀ c, c.good → em c < b → qbs Tryz.prog 54 [refC c] (.tup [refC (rec c).1, enc (rec c).2]))
include hm ih
theorem qex (c : K) (hg : c.good) (hr : em c ≤ b) : qbs Tryz.prog 116 [refC c] (.tup [refC (qcx rec c).1, enc (qcx rec c).2]) := by
  have g1 : (q9 (qr c).1 [40]).1.good := ((qbb c).trans (qx _ _)).1 hg
  have g2 : (q9 (rec (q9 (qr c).1 [40]).1).1 [41]).1.good := ((hm _).trans (qx _ _)).1 g1
  refine qbe c0bn (by simp) (by simp only [go_sem]) (by simp only [go_sem]) fun hw => ?_
  repeat' (first | refine qs ?_ | refine qg ?_ | refine qi ?_ | ((first | refine qu ?_ | refine qq (by rfl) ?_ | refine ql ?_ | refine qj ?_ | refine qo ?_ | refine qt ?_ | refine qn ?_ | refine qm ?_ | refine qp ?_ | refine qc (q8 c) fun _ => ?_ | refine qc (qc3 c _) fun _ => ?_ | refine qc (qc2 c _) fun _ => ?_ | refine qc (qcq c) fun _ => ?_ | refine qc (qbi _ _) fun _ => ?_ | refine qc (ih _ g1 (Nat.lt_of_lt_of_le (qeq (by assumption)) hr)) fun _ => ?_ | refine qc (qb2 _ g2.2.2) fun _ => ?_ | refine qc (qcf c) fun _ => ?_ | refine qf  (q8 c) ?_ | refine qf  (qc3 c _) ?_ | refine qf  (qc2 c _) ?_ | refine qf  (qcq c) ?_ | refine qf  (qbi _ _) ?_ | refine qf  (ih _ g1 (Nat.lt_of_lt_of_le (qeq (by assumption)) hr)) ?_ | refine qf  (qb2 _ g2.2.2) ?_ | refine qf  (qcf c) ?_); simp only [go_sem, ↓reduceIte, Nat.reduceEqDiff, Nat.reduceAdd, Nat.reduceSub, Nat.reduceMul, Nat.reduceLT, Nat.reduceLeDiff, reduceCtorEq, Int.reduceToNat]) | ((first | refine qh ?_ ?_ | refine qe ?_ ?_) <;> intro hc <;> simp only [hc, go_sem, ↓reduceIte, Nat.reduceEqDiff, Nat.reduceAdd, Nat.reduceSub, Nat.reduceMul, Nat.reduceLT, Nat.reduceLeDiff, reduceCtorEq, Int.reduceToNat] <;> (try simp only [qb, qa, decide_eq_true_eq, decide_eq_false_iff_not, Bool.and_eq_true] at hc)) | refine And.intro (by first | assumption | omega | (have := qk (by assumption); omega) | (unfold qy; omega)) ?_ | ((first | simp (disch := omega) only [qd] | simp (disch := omega) only [qw]); (try simp only [go_sem, ↓reduceIte, Nat.reduceEqDiff, Nat.reduceAdd, Nat.reduceSub, Nat.reduceMul, Nat.reduceLT, Nat.reduceLeDiff, reduceCtorEq, Int.reduceToNat])))
  all_goals (unfold qcx qh4; simp only [*, qea, Int.reduceEq, if_true, if_false, reduceIte, Bool.false_eq_true, Option.getD_none, Option.getD_some, Option.isSome_none, Option.isSome_some, and_self, true_and, and_true]; try rfl)
theorem q1r (c : K) (hg : c.good) (hr : em c ≤ b) : qbs Tryz.prog 87 [refC c] (.tup [refC (qc9 rec c).1, enc (qc9 rec c).2]) := by
  refine qbe c0bo (by simp) (by simp only [go_sem]) (by simp only [go_sem]) fun hw => ?_
  by_cases hk : (qbg c).kind = 2
  · have hpa : qc9 rec c = ((qd8 rec (em (qbc c) + 1) (qbc c) []).1, qh4 c 2 (qd8 rec (em (qbc c) + 1) (qbc c) []).2) := by rw [qc9, if_pos hk]
    rw [hpa]
    clear hpa
    have g1 : (qbc c).good := (qbw _).1 hg
    have hr1 : em (qbc c) ≤ b := by have := (qbw c).em; omega
    generalize htg : qd8 rec (em (qbc c) + 1) (qbc c) [] = tg
    repeat' (first | refine qs ?_ | refine qg ?_ | refine qi ?_ | ((first | refine qu ?_ | refine qq (by rfl) ?_ | refine ql ?_ | refine qj ?_ | refine qo ?_ | refine qt ?_ | refine qn ?_ | refine qm ?_ | refine qp ?_); simp (disch := first | omega | (simp only [List.length_set, List.length_append, List.length_cons, List.length_nil]; done) | (simp only [List.length_set, List.length_append, List.length_cons, List.length_nil]; omega)) only [hk, Int.reduceEq, go_sem, ↓reduceIte, Nat.reduceEqDiff, Nat.reduceAdd, Nat.reduceSub, Nat.reduceMul, Nat.reduceLT, Nat.reduceLeDiff, reduceCtorEq, Int.reduceToNat]) | ((first | refine qh ?_ ?_ | refine qe ?_ ?_) <;> intro hc <;> simp only [hc, go_sem, ↓reduceIte, Nat.reduceEqDiff, Nat.reduceAdd, Nat.reduceSub, Nat.reduceMul, Nat.reduceLT, Nat.reduceLeDiff, reduceCtorEq, Int.reduceToNat] <;> (try simp only [qb, qa, decide_eq_true_eq, decide_eq_false_iff_not, Bool.and_eq_true] at hc)) | refine And.intro (by first | assumption | omega | (have := qk (by assumption); omega) | (unfold qy; omega)) ?_ | ((first | simp (disch := omega) only [qd] | simp (disch := omega) only [qw]); (try simp only [go_sem, ↓reduceIte, Nat.reduceEqDiff, Nat.reduceAdd, Nat.reduceSub, Nat.reduceMul, Nat.reduceLT, Nat.reduceLeDiff, reduceCtorEq, Int.reduceToNat])) | ((first | refine qc (q8 _) fun _ => ?_ | refine qc (qcf _) fun _ => ?_ | refine qf  (q8 _) ?_ | refine qf  (qcf _) ?_); simp only [go_sem, ↓reduceIte, Nat.reduceEqDiff, Nat.reduceAdd, Nat.reduceSub, Nat.reduceMul, Nat.reduceLT, Nat.reduceLeDiff, reduceCtorEq, Int.reduceToNat]))
    refine qca (S := Nat × K × List N) (fun x => x.2.1.good ∧ em x.2.1 ≤ b ∧ qd8 rec x.1 x.2.1 x.2.2 = tg ∧ em x.2.1 < x.1 ∧ x.2.2.length + em x.2.1 ≤ 1048578)
      (fun x => qtn (qbg c).pos (qbg c).text x.2.1 x.2.2) (fun x => em x.2.1) ?_ ?_
    · refine qbt (em (qbc c) + 1, qbc c, []) [0, 1, 2, 4] ⟨g1, hr1, htg, by simp only; omega, ?_⟩ rfl (by simp) ?_ ?_ ?_
      · have h9 := g1.rest
        have h8 := qip (qbc c)
        unfold rest at h8
        simp only [List.length_nil]
        omega
      all_goals simp only [qtn, encs, qbv, qbx]
      all_goals simp only [go_sem, ↓reduceIte, Nat.reduceEqDiff, Nat.reduceAdd, Nat.reduceSub, Nat.reduceMul, Nat.reduceLT, Nat.reduceLeDiff, reduceCtorEq, Int.reduceToNat]
    · rintro ⟨fu, d, acc⟩ ⟨i1, i2, i3, i4, i5⟩
      simp only at i1 i2 i3 i4 i5
      unfold qtn
      obtain ⟨fu, rfl⟩ : ∃ k, fu = k + 1 := ⟨fu - 1, by omega⟩
      rw [qd8] at i3
      have hcap : qy (acc.length + 1) 64 := capN (by omega)
      have j1 : (qcx rec d).1.good := (qfy hm d).1 i1
      have j2 : em (qcx rec d).1 ≤ em d := (qfy hm d).em
      by_cases h0 : acc = []
      · subst h0
        simp only [encs, qbv, qbx]
        repeat' (first | refine qs ?_ | refine qg ?_ | refine qi ?_ | ((first | refine qu ?_ | refine qq (by rfl) ?_ | refine ql ?_ | refine qj ?_ | refine qo ?_ | refine qt ?_ | refine qn ?_ | refine qm ?_ | refine qp ?_ | refine qc (qg6 _) fun _ => ?_ | refine qc (qex hm ih _ i1 i2) fun _ => ?_ | refine qf  (qg6 _) ?_ | refine qf  (qex hm ih _ i1 i2) ?_); simp only [go_sem, ↓reduceIte, Nat.reduceEqDiff, Nat.reduceAdd, Nat.reduceSub, Nat.reduceMul, Nat.reduceLT, Nat.reduceLeDiff, reduceCtorEq, Int.reduceToNat]) | ((first | refine qh ?_ ?_ | refine qe ?_ ?_) <;> intro hc <;> simp only [hc, go_sem, ↓reduceIte, Nat.reduceEqDiff, Nat.reduceAdd, Nat.reduceSub, Nat.reduceMul, Nat.reduceLT, Nat.reduceLeDiff, reduceCtorEq, Int.reduceToNat] <;> (try simp only [qb, qa, decide_eq_true_eq, decide_eq_false_iff_not, Bool.and_eq_true] at hc)) | refine And.intro (by first | assumption | omega | (have := qk (by assumption); omega) | (unfold qy; omega)) ?_ | ((first | simp (disch := omega) only [qd] | simp (disch := omega) only [qw]); (try simp only [go_sem, ↓reduceIte, Nat.reduceEqDiff, Nat.reduceAdd, Nat.reduceSub, Nat.reduceMul, Nat.reduceLT, Nat.reduceLeDiff, reduceCtorEq, Int.reduceToNat])))
        · have hb : begT d = true := by assumption
          rw [if_pos hb] at i3
          have hlt := qhw hm hb
          refine qbt (fu, (qcx rec d).1, [] ++ [(qcx rec d).2]) [0, 1, 2, 3, 6] ⟨⟨j1, by simp only; omega, i3, by simp only; omega, ?_⟩, by simp only; omega⟩ rfl (by simp) ?_ ?_ ?_
          · simp only [List.length_append, List.length_cons, List.length_nil]; omega
          all_goals simp only [qtn, ← qba, qct, qcv, List.nil_append, encs, qdg, qde]
          all_goals simp only [go_sem, ↓reduceIte, Nat.reduceEqDiff, Nat.reduceAdd, Nat.reduceSub, Nat.reduceMul, Nat.reduceLT, Nat.reduceLeDiff, reduceCtorEq, Int.reduceToNat]
        · have hb : begT d = false := by assumption
          rw [if_neg (by rw [hb]; simp)] at i3
          subst i3
          rfl
      · have hne := qcm h0
        simp only [qcb hne, qcc hne, qb3]
        repeat' (first | refine qs ?_ | refine qg ?_ | refine qi ?_ | ((first | refine qu ?_ | refine qq (by rfl) ?_ | refine ql ?_ | refine qj ?_ | refine qo ?_ | refine qt ?_ | refine qn ?_ | refine qm ?_ | refine qp ?_ | refine qc (qg6 _) fun _ => ?_ | refine qc (qex hm ih _ i1 i2) fun _ => ?_ | refine qf  (qg6 _) ?_ | refine qf  (qex hm ih _ i1 i2) ?_); simp only [go_sem, ↓reduceIte, Nat.reduceEqDiff, Nat.reduceAdd, Nat.reduceSub, Nat.reduceMul, Nat.reduceLT, Nat.reduceLeDiff, reduceCtorEq, Int.reduceToNat]) | ((first | refine qh ?_ ?_ | refine qe ?_ ?_) <;> intro hc <;> simp only [hc, go_sem, ↓reduceIte, Nat.reduceEqDiff, Nat.reduceAdd, Nat.reduceSub, Nat.reduceMul, Nat.reduceLT, Nat.reduceLeDiff, reduceCtorEq, Int.reduceToNat] <;> (try simp only [qb, qa, decide_eq_true_eq, decide_eq_false_iff_not, Bool.and_eq_true] at hc)) | refine And.intro (by first | assumption | omega | (have := qk (by assumption); omega) | (unfold qy; omega)) ?_ | ((first | simp (disch := omega) only [qd] | simp (disch := omega) only [qw]); (try simp only [go_sem, ↓reduceIte, Nat.reduceEqDiff, Nat.reduceAdd, Nat.reduceSub, Nat.reduceMul, Nat.reduceLT, Nat.reduceLeDiff, reduceCtorEq, Int.reduceToNat])))
        · have hb : begT d = true := by assumption
          rw [if_pos hb] at i3
          have hlt := qhw hm hb
          refine qbt (fu, (qcx rec d).1, acc ++ [(qcx rec d).2]) [0, 1, 2, 3, 7] ⟨⟨j1, by simp only; omega, i3, by simp only; omega, ?_⟩, by simp only; omega⟩ rfl (by simp) ?_ ?_ ?_
          · simp only [List.length_append, List.length_cons, List.length_nil]; omega
          all_goals simp only [qtn, ← qba, qct, qcv, List.nil_append, encs, qdg, qde]
          all_goals simp only [go_sem, ↓reduceIte, Nat.reduceEqDiff, Nat.reduceAdd, Nat.reduceSub, Nat.reduceMul, Nat.reduceLT, Nat.reduceLeDiff, reduceCtorEq, Int.reduceToNat]
          rw [qba, qcd, qc4]; exact ⟨rfl, rfl⟩
        · have hb : begT d = false := by assumption
          rw [if_neg (by rw [hb]; simp)] at i3
          subst i3
          rfl
  · repeat' (first | refine qs ?_ | refine qg ?_ | refine qi ?_ | ((first | refine qu ?_ | refine qq (by rfl) ?_ | refine ql ?_ | refine qj ?_ | refine qo ?_ | refine qt ?_ | refine qn ?_ | refine qm ?_ | refine qp ?_); simp (disch := first | omega | (simp only [List.length_set, List.length_append, List.length_cons, List.length_nil]; done) | (simp only [List.length_set, List.length_append, List.length_cons, List.length_nil]; omega)) only [hk, go_sem, ↓reduceIte, Nat.reduceEqDiff, Nat.reduceAdd, Nat.reduceSub, Nat.reduceMul, Nat.reduceLT, Nat.reduceLeDiff, reduceCtorEq, Int.reduceToNat]) | ((first | refine qh ?_ ?_ | refine qe ?_ ?_) <;> intro hc <;> simp only [hc, go_sem, ↓reduceIte, Nat.reduceEqDiff, Nat.reduceAdd, Nat.reduceSub, Nat.reduceMul, Nat.reduceLT, Nat.reduceLeDiff, reduceCtorEq, Int.reduceToNat] <;> (try simp only [qb, qa, decide_eq_true_eq, decide_eq_false_iff_not, Bool.and_eq_true] at hc)) | refine And.intro (by first | assumption | omega | (have := qk (by assumption); omega) | (unfold qy; omega)) ?_ | ((first | simp (disch := omega) only [qd] | simp (disch := omega) only [qw]); (try simp only [go_sem, ↓reduceIte, Nat.reduceEqDiff, Nat.reduceAdd, Nat.reduceSub, Nat.reduceMul, Nat.reduceLT, Nat.reduceLeDiff, reduceCtorEq, Int.reduceToNat])) | ((first | refine qc (q8 _) fun _ => ?_ | refine qc (qex hm ih c hg hr) fun _ => ?_ | refine qf  (q8 _) ?_ | refine qf  (qex hm ih c hg hr) ?_); simp only [go_sem, ↓reduceIte, Nat.reduceEqDiff, Nat.reduceAdd, Nat.reduceSub, Nat.reduceMul, Nat.reduceLT, Nat.reduceLeDiff, reduceCtorEq, Int.reduceToNat]))
    rw [qc9, if_neg hk]
end
theorem qqz {f : Nat} (ih : ∀ c, c.good → em c < f → qbs Tryz.prog 54 [refC c] (.tup [refC (qch f c).1, enc (qch f c).2])) (c : K) (hg : c.good) (hr : em c < f + 1) :
    qbs Tryz.prog 54 [refC c] (.tup [refC (qch (f + 1) c).1, enc (qch (f + 1) c).2]) := by
  have hm := qd5 f
  have g1 : (qr c).1.good := (qbb c).1 hg
  have hr1 : em (qr c).1 ≤ f := by have := (qbb c).em; omega
  have hrow := q1r hm ih _ g1 hr1
  have mrow := qj0 hm (qr c).1
  have hpa : qch (f + 1) c = if (qz (qc9 (qch f) (qr c).1).1 [45, 62]).2 = true then
      (qci (qch f (qz (qc9 (qch f) (qr c).1).1 [45, 62]).1).1, qh1 (qc9 (qch f) (qr c).1).2 (qch f (qz (qc9 (qch f) (qr c).1).1 [45, 62]).1).2)
    else (qci (qc9 (qch f) (qr c).1).1, (qc9 (qch f) (qr c).1).2) := by rw [qch]
  rw [hpa]
  clear hpa
  generalize qc9 (qch f) (qr c).1 = r at *
  have g2 : r.1.good := mrow.1 g1
  have g3 : (qz r.1 [45, 62]).1.good := (qbf _ _).1 g2
  have g4 : (qch f (qz r.1 [45, 62]).1).1.good := (hm _).1 g3
  have hlt : (qz r.1 [45, 62]).2 = true → em (qz r.1 [45, 62]).1 < f := fun h => by
    have := qed h
    have := mrow.em
    omega
  refine qbe c0bp (by simp) (by simp only [go_sem]) (by simp only [go_sem]) fun hw => ?_
  repeat' (first | refine qs ?_ | refine qg ?_ | refine qi ?_ | ((first | refine qu ?_ | refine qq (by rfl) ?_ | refine ql ?_ | refine qj ?_ | refine qo ?_ | refine qt ?_ | refine qn ?_ | refine qm ?_ | refine qp ?_ | refine qc (qcq c) fun _ => ?_ | refine qc hrow fun _ => ?_ | refine qc (qbl _ _) fun _ => ?_ | refine qc (ih _ g3 (hlt (by assumption))) fun _ => ?_ | refine qc (qb2 _ g4.2.2) fun _ => ?_ | refine qc (qb2 _ g3.2.2) fun _ => ?_ | refine qf  (qcq c) ?_ | refine qf  hrow ?_ | refine qf  (qbl _ _) ?_ | refine qf  (ih _ g3 (hlt (by assumption))) ?_ | refine qf  (qb2 _ g4.2.2) ?_ | refine qf  (qb2 _ g3.2.2) ?_); simp only [go_sem, ↓reduceIte, Nat.reduceEqDiff, Nat.reduceAdd, Nat.reduceSub, Nat.reduceMul, Nat.reduceLT, Nat.reduceLeDiff, reduceCtorEq, Int.reduceToNat]) | ((first | refine qh ?_ ?_ | refine qe ?_ ?_) <;> intro hc <;> simp only [hc, go_sem, ↓reduceIte, Nat.reduceEqDiff, Nat.reduceAdd, Nat.reduceSub, Nat.reduceMul, Nat.reduceLT, Nat.reduceLeDiff, reduceCtorEq, Int.reduceToNat] <;> (try simp only [qb, qa, decide_eq_true_eq, decide_eq_false_iff_not, Bool.and_eq_true] at hc)) | refine And.intro (by first | assumption | omega | (have := qk (by assumption); omega) | (unfold qy; omega)) ?_ | ((first | simp (disch := omega) only [qd] | simp (disch := omega) only [qw]); (try simp only [go_sem, ↓reduceIte, Nat.reduceEqDiff, Nat.reduceAdd, Nat.reduceSub, Nat.reduceMul, Nat.reduceLT, Nat.reduceLeDiff, reduceCtorEq, Int.reduceToNat])))
  · simp only [qh1, enc, encs]
  · rw [qdm (by assumption)]
theorem qwr (f : Nat) : ∀ c : K, c.good → em c < f → qbs Tryz.prog 54 [refC c] (.tup [refC (qch f c).1, enc (qch f c).2]) := by
  induction f with
  | zero => exact fun c _ h => absurd h (by omega)
  | succ f ih => exact qqz ih
end Go.Proofs.YtmekebfgmjaenaaGreat

/- types: contexts: the reference -/
set_option maxRecDepth 4000
namespace Go.Proofs.YtmekebfgmjaenaaGreat
open Go Go.RowKit Go.V
set_option linter.unusedVariables false
set_option linter.unusedSimpArgs false

def qb5 (rec : K → K × N) (c : K) : K × N := ((qcx rec (qbn c 2).1).1, qoe (qin c 2) (qcx rec (qbn c 2).1).2)
def qd0 (rec : K → K × N) : Nat → K → List N → K × List N
  | 0, c, acc => (c, acc)
  | f + 1, c, acc =>
    if (qz (qb5 rec c).1 [44]).2 = true then qd0 rec f (qz (qb5 rec c).1 [44]).1 (acc ++ [(qb5 rec c).2])
    else ((qb5 rec c).1, acc ++ [(qb5 rec c).2])
def qfd (rec : K → K × N) (c : K) : K × List N :=
  if isK c [41] = true then (c, []) else qd0 rec (em c + 2) c []
def qdx (rec : K → K × N) (c : K) : K × List N :=
  if qh2 c [61, 62] = true then
    if (qz c [40]).2 = true then ((q9 (q9 (qfd rec (qz c [40]).1).1 [41]).1 [61, 62]).1, (qfd rec (qz c [40]).1).2)
    else ((q9 (qb5 rec c).1 [61, 62]).1, [(qb5 rec c).2])
  else (c, [])
section
variable {rec : K → K × N} (hm : ∀ c, Mon c (rec c).1)
include hm
theorem qeu (c : K) : Mon c (qb5 rec c).1 := (qdb c 2).trans (qfy hm _)
theorem qkl : ∀ (f : Nat) (c : K) (acc : List N), Mon c (qd0 rec f c acc).1
  | 0, c, acc => Mon.refl c
  | f + 1, c, acc => by
    rw [qd0]
    split
    · exact ((qeu hm c).trans (qbf _ _)).trans (qkl f _ _)
    · exact qeu hm c
theorem qko (c : K) : Mon c (qfd rec c).1 := by
  unfold qfd
  split
  · exact Mon.refl c
  · exact qkl hm _ _ _
theorem qgw (c : K) : Mon c (qdx rec c).1 := by
  unfold qdx
  split
  · split
    · exact (((qbf c _).trans (qko hm _)).trans (qx _ _)).trans (qx _ _)
    · exact (qeu hm c).trans (qx _ _)
  · exact Mon.refl c
end
def qst (x : Bool × Nat × K × List N) : AF × List Ent :=
  (⟨[(2, .ptr 0 0), (4, accV 2 (encs x.2.2.2)), (5, .ptr 1 0), (9, .bool x.1)], []⟩,
    .blk [.nils, .int .i64 0, .int .i64 0, .int .i64 0, .str [], .int .i64 0, .int .i64 0, .int .i64 0] :: .blk (refC x.2.2.1).cells :: accE 5 (encs x.2.2.2))
section
variable {rec : K → K × N} {b : Nat} (hm : ∀ c, Mon c (rec c).1) (ih : ∀ c, c.good → em c < b → qbs Tryz.prog 54 [refC c] (.tup [refC (rec c).1, enc (rec c).2]))
include hm ih
theorem qgg (c : K) (hg : c.good) (hr : em c ≤ b) : qbs Tryz.prog 86 [refC c] (.tup [refC (qb5 rec c).1, enc (qb5 rec c).2]) := by
  have g1 : (qbn c 2).1.good := (qdb c 2).1 hg
  have hr1 : em (qbn c 2).1 ≤ b := by have := (qdb c 2).em; omega
  refine qbe c0bj (by simp) (by simp only [go_sem]) (by simp only [go_sem]) fun hw => ?_
  repeat' (first | refine qs ?_ | refine qg ?_ | refine qi ?_ | ((first | refine qu ?_ | refine qq (by rfl) ?_ | refine ql ?_ | refine qj ?_ | refine qo ?_ | refine qt ?_ | refine qn ?_ | refine qm ?_ | refine qp ?_ | refine qc (qge c 2) fun _ => ?_ | refine qc (qex hm ih _ g1 hr1) fun _ => ?_ | refine qf  (qge c 2) ?_ | refine qf  (qex hm ih _ g1 hr1) ?_); simp only [go_sem, ↓reduceIte, Nat.reduceEqDiff, Nat.reduceAdd, Nat.reduceSub, Nat.reduceMul, Nat.reduceLT, Nat.reduceLeDiff, reduceCtorEq, Int.reduceToNat]) | ((first | refine qh ?_ ?_ | refine qe ?_ ?_) <;> intro hc <;> simp only [hc, go_sem, ↓reduceIte, Nat.reduceEqDiff, Nat.reduceAdd, Nat.reduceSub, Nat.reduceMul, Nat.reduceLT, Nat.reduceLeDiff, reduceCtorEq, Int.reduceToNat] <;> (try simp only [qb, qa, decide_eq_true_eq, decide_eq_false_iff_not, Bool.and_eq_true] at hc)) | refine And.intro (by first | assumption | omega | (have := qk (by assumption); omega) | (unfold qy; omega)) ?_ | ((first | simp (disch := omega) only [qd] | simp (disch := omega) only [qw]); (try simp only [go_sem, ↓reduceIte, Nat.reduceEqDiff, Nat.reduceAdd, Nat.reduceSub, Nat.reduceMul, Nat.reduceLT, Nat.reduceLeDiff, reduceCtorEq, Int.reduceToNat])))
  all_goals (simp only [qb5, qoe, enc, encs])
theorem qva (c : K) (hg : c.good) (hr : em c ≤ b) : qbs Tryz.prog 53 [refC c] (.tup [refC (qdx rec c).1, .sl 5 (encs (qdx rec c).2)]) := by
  refine qbe c0bk (by simp) (by simp only [go_sem]) (by simp only [go_sem]) fun hw => ?_
  have g1 : (qz c [40]).1.good := (qbf c _).1 hg
  have hr1 : em (qz c [40]).1 ≤ b := by have := (qbf c [40]).em; omega
  unfold qdx
  by_cases ha : qh2 c [61, 62] = true
  · rw [if_pos ha]
    by_cases ht : (qz c [40]).2 = true
    · rw [if_pos ht]
      generalize htg : qfd rec (qz c [40]).1 = tg
      have gt : tg.1.good := htg ▸ (qko hm _).1 g1
      unfold qfd at htg
      by_cases hi : isK (qz c [40]).1 [41] = true
      · rw [if_pos hi] at htg
        subst htg
        repeat' (first | refine qs ?_ | refine qg ?_ | refine qi ?_ | ((first | refine qu ?_ | refine qq (by rfl) ?_ | refine ql ?_ | refine qj ?_ | refine qo ?_ | refine qt ?_ | refine qn ?_ | refine qm ?_ | refine qp ?_); simp (disch := first | omega | (simp only [List.length_set, List.length_append, List.length_cons, List.length_nil]; done) | (simp only [List.length_set, List.length_append, List.length_cons, List.length_nil]; omega)) only [ha, ht, hi, go_sem, ↓reduceIte, Nat.reduceEqDiff, Nat.reduceAdd, Nat.reduceSub, Nat.reduceMul, Nat.reduceLT, Nat.reduceLeDiff, reduceCtorEq, Int.reduceToNat]) | ((first | refine qh ?_ ?_ | refine qe ?_ ?_) <;> intro hc <;> simp only [hc, go_sem, ↓reduceIte, Nat.reduceEqDiff, Nat.reduceAdd, Nat.reduceSub, Nat.reduceMul, Nat.reduceLT, Nat.reduceLeDiff, reduceCtorEq, Int.reduceToNat] <;> (try simp only [qb, qa, decide_eq_true_eq, decide_eq_false_iff_not, Bool.and_eq_true] at hc)) | refine And.intro (by first | assumption | omega | (have := qk (by assumption); omega) | (unfold qy; omega)) ?_ | ((first | simp (disch := omega) only [qd] | simp (disch := omega) only [qw]); (try simp only [go_sem, ↓reduceIte, Nat.reduceEqDiff, Nat.reduceAdd, Nat.reduceSub, Nat.reduceMul, Nat.reduceLT, Nat.reduceLeDiff, reduceCtorEq, Int.reduceToNat])) | ((first | refine qc (qeb c hg.2.1 _) fun _ => ?_ | refine qc (qbl c _) fun _ => ?_ | refine qc (qc3 _ _) fun _ => ?_ | refine qc (qbi _ _) fun _ => ?_ | refine qf  (qeb c hg.2.1 _) ?_ | refine qf  (qbl c _) ?_ | refine qf  (qc3 _ _) ?_ | refine qf  (qbi _ _) ?_); simp only [go_sem, ↓reduceIte, Nat.reduceEqDiff, Nat.reduceAdd, Nat.reduceSub, Nat.reduceMul, Nat.reduceLT, Nat.reduceLeDiff, reduceCtorEq, Int.reduceToNat]))
        rfl
      · rw [if_neg hi] at htg
        repeat' (first | refine qs ?_ | refine qg ?_ | refine qi ?_ | ((first | refine qu ?_ | refine qq (by rfl) ?_ | refine ql ?_ | refine qj ?_ | refine qo ?_ | refine qt ?_ | refine qn ?_ | refine qm ?_ | refine qp ?_); simp (disch := first | omega | (simp only [List.length_set, List.length_append, List.length_cons, List.length_nil]; done) | (simp only [List.length_set, List.length_append, List.length_cons, List.length_nil]; omega)) only [ha, ht, hi, go_sem, ↓reduceIte, Nat.reduceEqDiff, Nat.reduceAdd, Nat.reduceSub, Nat.reduceMul, Nat.reduceLT, Nat.reduceLeDiff, reduceCtorEq, Int.reduceToNat]) | ((first | refine qh ?_ ?_ | refine qe ?_ ?_) <;> intro hc <;> simp only [hc, go_sem, ↓reduceIte, Nat.reduceEqDiff, Nat.reduceAdd, Nat.reduceSub, Nat.reduceMul, Nat.reduceLT, Nat.reduceLeDiff, reduceCtorEq, Int.reduceToNat] <;> (try simp only [qb, qa, decide_eq_true_eq, decide_eq_false_iff_not, Bool.and_eq_true] at hc)) | refine And.intro (by first | assumption | omega | (have := qk (by assumption); omega) | (unfold qy; omega)) ?_ | ((first | simp (disch := omega) only [qd] | simp (disch := omega) only [qw]); (try simp only [go_sem, ↓reduceIte, Nat.reduceEqDiff, Nat.reduceAdd, Nat.reduceSub, Nat.reduceMul, Nat.reduceLT, Nat.reduceLeDiff, reduceCtorEq, Int.reduceToNat])) | ((first | refine qc (qeb c hg.2.1 _) fun _ => ?_ | refine qc (qbl c _) fun _ => ?_ | refine qc (qc3 _ _) fun _ => ?_ | refine qc (qbi _ _) fun _ => ?_ | refine qf  (qeb c hg.2.1 _) ?_ | refine qf  (qbl c _) ?_ | refine qf  (qc3 _ _) ?_ | refine qf  (qbi _ _) ?_); simp only [go_sem, ↓reduceIte, Nat.reduceEqDiff, Nat.reduceAdd, Nat.reduceSub, Nat.reduceMul, Nat.reduceLT, Nat.reduceLeDiff, reduceCtorEq, Int.reduceToNat]))
        refine qca (S := Bool × Nat × K × List N) (fun x => x.2.2.1.good ∧ em x.2.2.1 ≤ b ∧ (x.1 = true → qd0 rec x.2.1 x.2.2.1 x.2.2.2 = tg ∧ em x.2.2.1 < x.2.1 ∧ x.2.2.2.length + em x.2.2.1 ≤ 1048578) ∧ (x.1 = false → tg = (x.2.2.1, x.2.2.2)))
          qst (fun x => if x.1 = true then em x.2.2.1 + 1 else 0) ?_ ?_
        · refine qbt (true, em (qz c [40]).1 + 2, (qz c [40]).1, []) [1, 2] ⟨g1, hr1, fun _ => ⟨htg, by simp only; omega, ?_⟩, (by intro h; cases h)⟩ rfl (by simp) ?_ ?_ ?_
          · have h9 := g1.rest
            have h8 := qip (qz c [40]).1
            unfold rest at h8
            simp only [List.length_nil]
            omega
          all_goals simp only [qst, encs, qbv, qbx]
          all_goals simp only [go_sem, ↓reduceIte, Nat.reduceEqDiff, Nat.reduceAdd, Nat.reduceSub, Nat.reduceMul, Nat.reduceLT, Nat.reduceLeDiff, reduceCtorEq, Int.reduceToNat]
        · rintro ⟨more, fu, d, acc⟩ ⟨i1, i2, i3, i4⟩
          simp only at i1 i2 i3 i4
          unfold qst
          cases more with
          | false =>
            have i4 := i4 rfl
            subst i4
            clear i3
            by_cases h0 : acc = []
            · subst h0
              simp only [encs, qbv, qbx]
              repeat' (first | refine qs ?_ | refine qg ?_ | refine qi ?_ | ((first | refine qu ?_ | refine qq (by rfl) ?_ | refine ql ?_ | refine qj ?_ | refine qo ?_ | refine qt ?_ | refine qn ?_ | refine qm ?_ | refine qp ?_ | refine qc (qbi _ _) fun _ => ?_ | refine qf  (qbi _ _) ?_); simp only [go_sem, ↓reduceIte, Nat.reduceEqDiff, Nat.reduceAdd, Nat.reduceSub, Nat.reduceMul, Nat.reduceLT, Nat.reduceLeDiff, reduceCtorEq, Int.reduceToNat]) | ((first | refine qh ?_ ?_ | refine qe ?_ ?_) <;> intro hc <;> simp only [hc, go_sem, ↓reduceIte, Nat.reduceEqDiff, Nat.reduceAdd, Nat.reduceSub, Nat.reduceMul, Nat.reduceLT, Nat.reduceLeDiff, reduceCtorEq, Int.reduceToNat] <;> (try simp only [qb, qa, decide_eq_true_eq, decide_eq_false_iff_not, Bool.and_eq_true] at hc)) | refine And.intro (by first | assumption | omega | (have := qk (by assumption); omega) | (unfold qy; omega)) ?_ | ((first | simp (disch := omega) only [qd] | simp (disch := omega) only [qw]); (try simp only [go_sem, ↓reduceIte, Nat.reduceEqDiff, Nat.reduceAdd, Nat.reduceSub, Nat.reduceMul, Nat.reduceLT, Nat.reduceLeDiff, reduceCtorEq, Int.reduceToNat])))
            · have hne := qcm h0
              simp only [qcb hne, qcc hne, qb3]
              repeat' (first | refine qs ?_ | refine qg ?_ | refine qi ?_ | ((first | refine qu ?_ | refine qq (by rfl) ?_ | refine ql ?_ | refine qj ?_ | refine qo ?_ | refine qt ?_ | refine qn ?_ | refine qm ?_ | refine qp ?_ | refine qc (qbi _ _) fun _ => ?_ | refine qf  (qbi _ _) ?_); simp only [go_sem, ↓reduceIte, Nat.reduceEqDiff, Nat.reduceAdd, Nat.reduceSub, Nat.reduceMul, Nat.reduceLT, Nat.reduceLeDiff, reduceCtorEq, Int.reduceToNat]) | ((first | refine qh ?_ ?_ | refine qe ?_ ?_) <;> intro hc <;> simp only [hc, go_sem, ↓reduceIte, Nat.reduceEqDiff, Nat.reduceAdd, Nat.reduceSub, Nat.reduceMul, Nat.reduceLT, Nat.reduceLeDiff, reduceCtorEq, Int.reduceToNat] <;> (try simp only [qb, qa, decide_eq_true_eq, decide_eq_false_iff_not, Bool.and_eq_true] at hc)) | refine And.intro (by first | assumption | omega | (have := qk (by assumption); omega) | (unfold qy; omega)) ?_ | ((first | simp (disch := omega) only [qd] | simp (disch := omega) only [qw]); (try simp only [go_sem, ↓reduceIte, Nat.reduceEqDiff, Nat.reduceAdd, Nat.reduceSub, Nat.reduceMul, Nat.reduceLT, Nat.reduceLeDiff, reduceCtorEq, Int.reduceToNat])))
          | true =>
            obtain ⟨i3, i5, i6⟩ := i3 rfl
            clear i4
            obtain ⟨fu, rfl⟩ : ∃ k, fu = k + 1 := ⟨fu - 1, by omega⟩
            rw [qd0] at i3
            have hcap : qy (acc.length + 1) 64 := capN (by omega)
            have j1 : (qb5 rec d).1.good := (qeu hm d).1 i1
            have j2 := (qeu hm d).em
            have j3 : (qz (qb5 rec d).1 [44]).1.good := (qbf _ _).1 j1
            have j4 := (qbf (qb5 rec d).1 [44]).em
            have k3 : (qz (qb5 rec d).1 [44]).2 = true → qd0 rec fu (qz (qb5 rec d).1 [44]).1 (acc ++ [(qb5 rec d).2]) = tg ∧ em (qz (qb5 rec d).1 [44]).1 < fu ∧ (acc ++ [(qb5 rec d).2]).length + em (qz (qb5 rec d).1 [44]).1 ≤ 1048578 := fun h => by
              rw [if_pos h] at i3
              have := qed h
              refine ⟨i3, by omega, ?_⟩
              simp only [List.length_append, List.length_cons, List.length_nil]; omega
            have k4 : (qz (qb5 rec d).1 [44]).2 = false → tg = ((qz (qb5 rec d).1 [44]).1, acc ++ [(qb5 rec d).2]) := fun h => by
              rw [if_neg (by rw [h]; simp)] at i3
              rw [qdm h, ← i3]
            have k5 : (if (qz (qb5 rec d).1 [44]).2 = true then em (qz (qb5 rec d).1 [44]).1 + 1 else 0) < em d + 1 := by
              split
              · rename_i h
                have := qed h
                omega
              · omega
            by_cases h0 : acc = []
            · subst h0
              simp only [encs, qbv, qbx]
              repeat' (first | refine qs ?_ | refine qg ?_ | refine qi ?_ | ((first | refine qu ?_ | refine qq (by rfl) ?_ | refine ql ?_ | refine qj ?_ | refine qo ?_ | refine qt ?_ | refine qn ?_ | refine qm ?_ | refine qp ?_ | refine qc (qgg hm ih d i1 i2) fun _ => ?_ | refine qc (qbl _ _) fun _ => ?_ | refine qf  (qgg hm ih d i1 i2) ?_ | refine qf  (qbl _ _) ?_); simp only [go_sem, ↓reduceIte, Nat.reduceEqDiff, Nat.reduceAdd, Nat.reduceSub, Nat.reduceMul, Nat.reduceLT, Nat.reduceLeDiff, reduceCtorEq, Int.reduceToNat]) | ((first | refine qh ?_ ?_ | refine qe ?_ ?_) <;> intro hc <;> simp only [hc, go_sem, ↓reduceIte, Nat.reduceEqDiff, Nat.reduceAdd, Nat.reduceSub, Nat.reduceMul, Nat.reduceLT, Nat.reduceLeDiff, reduceCtorEq, Int.reduceToNat] <;> (try simp only [qb, qa, decide_eq_true_eq, decide_eq_false_iff_not, Bool.and_eq_true] at hc)) | refine And.intro (by first | assumption | omega | (have := qk (by assumption); omega) | (unfold qy; omega)) ?_ | ((first | simp (disch := omega) only [qd] | simp (disch := omega) only [qw]); (try simp only [go_sem, ↓reduceIte, Nat.reduceEqDiff, Nat.reduceAdd, Nat.reduceSub, Nat.reduceMul, Nat.reduceLT, Nat.reduceLeDiff, reduceCtorEq, Int.reduceToNat])))
              refine qbt ((qz (qb5 rec d).1 [44]).2, fu, (qz (qb5 rec d).1 [44]).1, [] ++ [(qb5 rec d).2]) [0, 1, 4] ⟨⟨j3, by simp only; omega, k3, k4⟩, k5⟩ rfl (by simp) ?_ ?_ ?_
              all_goals simp only [qst, ← qba, qct, qcv, List.nil_append, encs, qdg, qde]
              all_goals simp only [go_sem, ↓reduceIte, Nat.reduceEqDiff, Nat.reduceAdd, Nat.reduceSub, Nat.reduceMul, Nat.reduceLT, Nat.reduceLeDiff, reduceCtorEq, Int.reduceToNat]
            · have hne := qcm h0
              simp only [qcb hne, qcc hne, qb3]
              repeat' (first | refine qs ?_ | refine qg ?_ | refine qi ?_ | ((first | refine qu ?_ | refine qq (by rfl) ?_ | refine ql ?_ | refine qj ?_ | refine qo ?_ | refine qt ?_ | refine qn ?_ | refine qm ?_ | refine qp ?_ | refine qc (qgg hm ih d i1 i2) fun _ => ?_ | refine qc (qbl _ _) fun _ => ?_ | refine qf  (qgg hm ih d i1 i2) ?_ | refine qf  (qbl _ _) ?_); simp only [go_sem, ↓reduceIte, Nat.reduceEqDiff, Nat.reduceAdd, Nat.reduceSub, Nat.reduceMul, Nat.reduceLT, Nat.reduceLeDiff, reduceCtorEq, Int.reduceToNat]) | ((first | refine qh ?_ ?_ | refine qe ?_ ?_) <;> intro hc <;> simp only [hc, go_sem, ↓reduceIte, Nat.reduceEqDiff, Nat.reduceAdd, Nat.reduceSub, Nat.reduceMul, Nat.reduceLT, Nat.reduceLeDiff, reduceCtorEq, Int.reduceToNat] <;> (try simp only [qb, qa, decide_eq_true_eq, decide_eq_false_iff_not, Bool.and_eq_true] at hc)) | refine And.intro (by first | assumption | omega | (have := qk (by assumption); omega) | (unfold qy; omega)) ?_ | ((first | simp (disch := omega) only [qd] | simp (disch := omega) only [qw]); (try simp only [go_sem, ↓reduceIte, Nat.reduceEqDiff, Nat.reduceAdd, Nat.reduceSub, Nat.reduceMul, Nat.reduceLT, Nat.reduceLeDiff, reduceCtorEq, Int.reduceToNat])))
              refine qbt ((qz (qb5 rec d).1 [44]).2, fu, (qz (qb5 rec d).1 [44]).1, acc ++ [(qb5 rec d).2]) [0, 1, 5] ⟨⟨j3, by simp only; omega, k3, k4⟩, k5⟩ rfl (by simp) ?_ ?_ ?_
              all_goals simp only [qst, ← qba, qct, qcv, List.nil_append, encs, qdg, qde]
              all_goals simp only [go_sem, ↓reduceIte, Nat.reduceEqDiff, Nat.reduceAdd, Nat.reduceSub, Nat.reduceMul, Nat.reduceLT, Nat.reduceLeDiff, reduceCtorEq, Int.reduceToNat]
              rw [qba, qcd, qc4]; exact ⟨rfl, rfl⟩
    · rw [if_neg ht]
      repeat' (first | refine qs ?_ | refine qg ?_ | refine qi ?_ | ((first | refine qu ?_ | refine qq (by rfl) ?_ | refine ql ?_ | refine qj ?_ | refine qo ?_ | refine qt ?_ | refine qn ?_ | refine qm ?_ | refine qp ?_); simp (disch := first | omega | (simp only [List.length_set, List.length_append, List.length_cons, List.length_nil]; done) | (simp only [List.length_set, List.length_append, List.length_cons, List.length_nil]; omega)) only [ha, ht, go_sem, ↓reduceIte, Nat.reduceEqDiff, Nat.reduceAdd, Nat.reduceSub, Nat.reduceMul, Nat.reduceLT, Nat.reduceLeDiff, reduceCtorEq, Int.reduceToNat]) | ((first | refine qh ?_ ?_ | refine qe ?_ ?_) <;> intro hc <;> simp only [hc, go_sem, ↓reduceIte, Nat.reduceEqDiff, Nat.reduceAdd, Nat.reduceSub, Nat.reduceMul, Nat.reduceLT, Nat.reduceLeDiff, reduceCtorEq, Int.reduceToNat] <;> (try simp only [qb, qa, decide_eq_true_eq, decide_eq_false_iff_not, Bool.and_eq_true] at hc)) | refine And.intro (by first | assumption | omega | (have := qk (by assumption); omega) | (unfold qy; omega)) ?_ | ((first | simp (disch := omega) only [qd] | simp (disch := omega) only [qw]); (try simp only [go_sem, ↓reduceIte, Nat.reduceEqDiff, Nat.reduceAdd, Nat.reduceSub, Nat.reduceMul, Nat.reduceLT, Nat.reduceLeDiff, reduceCtorEq, Int.reduceToNat])) | ((first | refine qc (qeb c hg.2.1 _) fun _ => ?_ | refine qc (qbl c _) fun _ => ?_ | refine qc (qbi _ _) fun _ => ?_ | refine qc (qgg hm ih c hg hr) fun _ => ?_ | refine qf  (qeb c hg.2.1 _) ?_ | refine qf  (qbl c _) ?_ | refine qf  (qbi _ _) ?_ | refine qf  (qgg hm ih c hg hr) ?_); simp only [go_sem, ↓reduceIte, Nat.reduceEqDiff, Nat.reduceAdd, Nat.reduceSub, Nat.reduceMul, Nat.reduceLT, Nat.reduceLeDiff, reduceCtorEq, Int.reduceToNat]))
      rfl
  · rw [if_neg ha]
    repeat' (first | refine qs ?_ | refine qg ?_ | refine qi ?_ | ((first | refine qu ?_ | refine qq (by rfl) ?_ | refine ql ?_ | refine qj ?_ | refine qo ?_ | refine qt ?_ | refine qn ?_ | refine qm ?_ | refine qp ?_); simp (disch := first | omega | (simp only [List.length_set, List.length_append, List.length_cons, List.length_nil]; done) | (simp only [List.length_set, List.length_append, List.length_cons, List.length_nil]; omega)) only [ha, go_sem, ↓reduceIte, Nat.reduceEqDiff, Nat.reduceAdd, Nat.reduceSub, Nat.reduceMul, Nat.reduceLT, Nat.reduceLeDiff, reduceCtorEq, Int.reduceToNat]) | ((first | refine qh ?_ ?_ | refine qe ?_ ?_) <;> intro hc <;> simp only [hc, go_sem, ↓reduceIte, Nat.reduceEqDiff, Nat.reduceAdd, Nat.reduceSub, Nat.reduceMul, Nat.reduceLT, Nat.reduceLeDiff, reduceCtorEq, Int.reduceToNat] <;> (try simp only [qb, qa, decide_eq_true_eq, decide_eq_false_iff_not, Bool.and_eq_true] at hc)) | refine And.intro (by first | assumption | omega | (have := qk (by assumption); omega) | (unfold qy; omega)) ?_ | ((first | simp (disch := omega) only [qd] | simp (disch := omega) only [qw]); (try simp only [go_sem, ↓reduceIte, Nat.reduceEqDiff, Nat.reduceAdd, Nat.reduceSub, Nat.reduceMul, Nat.reduceLT, Nat.reduceLeDiff, reduceCtorEq, Int.reduceToNat])) | ((first | refine qc (qeb c hg.2.1 _) fun _ => ?_ | refine qf  (qeb c hg.2.1 _) ?_); simp only [go_sem, ↓reduceIte, Nat.reduceEqDiff, Nat.reduceAdd, Nat.reduceSub, Nat.reduceMul, Nat.reduceLT, Nat.reduceLeDiff, reduceCtorEq, Int.reduceToNat]))
    rfl
end
def qii (f : Nat) (c : K) : K × N := ((qch f (qdx (qch f) c).1).1, qlu (qbg c).pos (qdx (qch f) c).2 (qch f (qdx (qch f) c).1).2)
theorem qkh {rec : K → K × N} (hm : ∀ c, Mon c (rec c).1) : ∀ (f : Nat) (c : K) (acc : List N), (qd0 rec f c acc).2.length ≤ acc.length + em c + 1
  | 0, c, acc => by simp only [qd0]; omega
  | f + 1, c, acc => by
    rw [qd0]
    split
    · rename_i h
      have h1 := qkh hm f (qz (qb5 rec c).1 [44]).1 (acc ++ [(qb5 rec c).2])
      have h2 := qed h
      have h3 := (qeu hm c).em
      simp only [List.length_append, List.length_cons, List.length_nil] at h1
      omega
    · simp only [List.length_append, List.length_cons, List.length_nil]; omega
theorem qs4 {rec : K → K × N} (hm : ∀ c, Mon c (rec c).1) (c : K) : (qdx rec c).2.length ≤ em c + 1 := by
  unfold qdx
  split
  · split
    · rename_i h
      have h2 := qed h
      unfold qfd
      split
      · simp
      · have := qkh hm (em (qz c [40]).1 + 2) (qz c [40]).1 []
        simp only [List.length_nil] at this
        simp only; omega
    · simp
  · simp
theorem qwz (f : Nat) (c : K) (hg : c.good) (hr : em c < f) : qbs Tryz.prog 26 [refC c] (.tup [refC (qii f c).1, enc (qii f c).2]) := by
  have hm := qd5 f
  have g1 : (qdx (qch f) c).1.good := (qgw hm c).1 hg
  have hr1 : em (qdx (qch f) c).1 < f := by have := (qgw hm c).em; omega
  have hP := qva hm (qwr f) c hg (by omega)
  have hA := qwr f _ g1 hr1
  have hln := qs4 hm c
  have hem := qip c
  have hrs := hg.rest
  unfold rest at hem
  unfold qii
  refine qbe c0bl (by simp) (by simp only [go_sem]) (by simp only [go_sem]) fun hw => ?_
  generalize hp : qdx (qch f) c = p at *
  by_cases h0 : p.2 = []
  · rw [h0] at hP ⊢
    repeat' (first | refine qs ?_ | refine qg ?_ | refine qi ?_ | ((first | refine qu ?_ | refine qq (by rfl) ?_ | refine ql ?_ | refine qj ?_ | refine qo ?_ | refine qt ?_ | refine qn ?_ | refine qm ?_ | refine qp ?_); simp (disch := first | omega | (simp only [List.length_set, List.length_append, List.length_cons, List.length_nil]; done) | (simp only [List.length_set, List.length_append, List.length_cons, List.length_nil]; omega)) only [List.length_nil, go_sem, ↓reduceIte, Nat.reduceEqDiff, Nat.reduceAdd, Nat.reduceSub, Nat.reduceMul, Nat.reduceLT, Nat.reduceLeDiff, reduceCtorEq, Int.reduceToNat]) | ((first | refine qh ?_ ?_ | refine qe ?_ ?_) <;> intro hc <;> simp only [hc, go_sem, ↓reduceIte, Nat.reduceEqDiff, Nat.reduceAdd, Nat.reduceSub, Nat.reduceMul, Nat.reduceLT, Nat.reduceLeDiff, reduceCtorEq, Int.reduceToNat] <;> (try simp only [qb, qa, decide_eq_true_eq, decide_eq_false_iff_not, Bool.and_eq_true] at hc)) | refine And.intro (by first | assumption | omega | (have := qk (by assumption); omega) | (unfold qy; omega)) ?_ | ((first | simp (disch := omega) only [qd] | simp (disch := omega) only [qw]); (try simp only [go_sem, ↓reduceIte, Nat.reduceEqDiff, Nat.reduceAdd, Nat.reduceSub, Nat.reduceMul, Nat.reduceLT, Nat.reduceLeDiff, reduceCtorEq, Int.reduceToNat])) | ((first | refine qc (q8 c) fun _ => ?_ | refine qc hP fun _ => ?_ | refine qc hA fun _ => ?_ | refine qf  (q8 c) ?_ | refine qf  hP ?_ | refine qf  hA ?_); simp only [go_sem, ↓reduceIte, Nat.reduceEqDiff, Nat.reduceAdd, Nat.reduceSub, Nat.reduceMul, Nat.reduceLT, Nat.reduceLeDiff, reduceCtorEq, Int.reduceToNat]))
    simp only [qlu, enc, encs, List.nil_append]
  · have hne := qcm h0
    have hnl : ¬ p.2.length = 0 := fun h => h0 (List.length_eq_zero_iff.1 h)
    have hc1 : qy p.2.length 64 := capN (by omega)
    have hc2 : qy (p.2.length + 1) 64 := capN (by omega)
    repeat' (first | refine qs ?_ | refine qg ?_ | refine qi ?_ | ((first | refine qu ?_ | refine qq (by rfl) ?_ | refine ql ?_ | refine qj ?_ | refine qo ?_ | refine qt ?_ | refine qn ?_ | refine qm ?_ | refine qp ?_); simp (disch := first | omega | (simp only [List.length_set, List.length_append, List.length_cons, List.length_nil]; done) | (simp only [List.length_set, List.length_append, List.length_cons, List.length_nil]; omega)) only [hnl, hc1, hc2, go_sem, ↓reduceIte, Nat.reduceEqDiff, Nat.reduceAdd, Nat.reduceSub, Nat.reduceMul, Nat.reduceLT, Nat.reduceLeDiff, reduceCtorEq, Int.reduceToNat]) | ((first | refine qh ?_ ?_ | refine qe ?_ ?_) <;> intro hc <;> simp only [hc, go_sem, ↓reduceIte, Nat.reduceEqDiff, Nat.reduceAdd, Nat.reduceSub, Nat.reduceMul, Nat.reduceLT, Nat.reduceLeDiff, reduceCtorEq, Int.reduceToNat] <;> (try simp only [qb, qa, decide_eq_true_eq, decide_eq_false_iff_not, Bool.and_eq_true] at hc)) | refine And.intro (by first | assumption | omega | (have := qk (by assumption); omega) | (unfold qy; omega)) ?_ | ((first | simp (disch := omega) only [qd] | simp (disch := omega) only [qw]); (try simp only [go_sem, ↓reduceIte, Nat.reduceEqDiff, Nat.reduceAdd, Nat.reduceSub, Nat.reduceMul, Nat.reduceLT, Nat.reduceLeDiff, reduceCtorEq, Int.reduceToNat])) | ((first | refine qc (q8 c) fun _ => ?_ | refine qc hP fun _ => ?_ | refine qc hA fun _ => ?_ | refine qf  (q8 c) ?_ | refine qf  hP ?_ | refine qf  hA ?_); simp only [go_sem, ↓reduceIte, Nat.reduceEqDiff, Nat.reduceAdd, Nat.reduceSub, Nat.reduceMul, Nat.reduceLT, Nat.reduceLeDiff, reduceCtorEq, Int.reduceToNat]))
    simp only [qlu, enc, qba, qcd, and_self]
end Go.Proofs.YtmekebfgmjaenaaGreat

/- types: both read alike -/
namespace Go.Proofs.YtmekebfgmjaenaaGreat
open Go Go.RowKit Go.V
set_option linter.unusedVariables false
set_option linter.unusedSimpArgs false

/-- The program's state is the reference's, and so is what is read, if there is something; else something failed. -/
def qec {α : Type} (p : K × Option α) (r : K × α) : Prop := p.1 = r.1 ∧ (∀ n, p.2 = some n → n = r.2) ∧ (p.2 = none → p.1.err ≠ 0)
theorem qih {rec : K → K × N} {c : K} (h : c.err ≠ 0) : qcx rec c = (c, N0) := if_neg h
theorem qsw {rec : K → K × N} {c : K} (h : c.err ≠ 0) (f : Nat) (acc : List N) : qd8 rec f c acc = (c, acc) := by
  cases f with
  | zero => rfl
  | succ f => rw [qd8, if_neg (by rw [qzz h]; simp)]
theorem qn2 {rec : K → K × N} {c : K} (h : c.err ≠ 0) : qc9 rec c = (c, N0) := by
  rw [qc9, qe8 h, if_neg (by decide), qih h]
theorem qk5 (f : Nat) {c : K} (h : c.err ≠ 0) : qch f c = (c, N0) := by
  cases f with
  | zero => rfl
  | succ f => rw [qch, qhd h, qn2 h, qfs h, if_neg (by simp), qco h]
section
variable {rp : K → K × Option N} {rr : K → K × N} {b : Nat} (hx : ∀ c : K, c.err ≠ 0 → (rr c).1 = c) (ih : ∀ c, em c < b → qec (rp c) (rr c))
include hx ih
theorem qjr {c : K} (hr : em c ≤ b) : qec (qb8 rp c) (qcx rr c) := by
  by_cases h0 : c.err = 0
  · unfold qb8 qcx
    rw [if_pos h0]
    by_cases h1 : (qbg c).kind = 1
    · rw [if_pos h1, if_pos h1]; exact ⟨rfl, (fun n h => by cases h; rfl), (fun h => by cases h)⟩
    · rw [if_neg h1, if_neg h1]
      by_cases h2 : (qbg c).kind = 2
      · rw [if_pos h2, if_pos h2]; exact ⟨rfl, (fun n h => by cases h; rfl), (fun h => by cases h)⟩
      · rw [if_neg h2, if_neg h2]
        by_cases hk : isK c [40] = true
        · rw [if_pos hk, if_pos hk]
          have hem := qeq hk
          by_cases he : (qr c).2 = true
          · rw [if_pos he]
            have hk' : isK (qr c).1 [40] = true := by rw [ql2 he]; exact hk
            rw [ql4 hk'] at hem ⊢
            simp only at hem ⊢
            obtain ⟨a1, a2, a3⟩ := ih (qbc (qr c).1) (by omega)
            rw [← a1]
            generalize rp (qbc (qr c).1) = r at *
            obtain ⟨d, o⟩ := r
            simp only at a1 a2 a3 ⊢
            cases o with
            | none =>
              have h3 := a3 rfl
              rw [if_neg (by simp), qb9 h3, qco h3]
              exact ⟨rfl, (fun n h => by cases h), fun _ => h3⟩
            | some n =>
              rw [if_pos (by rfl)]
              by_cases hw : (q9 d [41]).2 = true
              · rw [if_pos hw]
                exact ⟨rfl, fun m h => a2 m h, (fun h => by cases h)⟩
              · rw [if_neg hw]
                have h3 := qd7 (by simpa using hw)
                exact ⟨rfl, (fun n h => by cases h), fun _ => by simp only; rw [qco h3]; exact h3⟩
          · have he' : (qr c).2 = false := by simpa using he
            have h1 := qf1 he'
            rw [if_neg he]
            rw [qb9 h1] at hem ⊢
            simp only at hem ⊢
            rw [hx _ h1, qb9 h1, qco h1]
            exact ⟨rfl, (fun n h => by cases h), fun _ => h1⟩
        · rw [if_neg hk, if_neg hk]
          exact ⟨rfl, (fun n h => by cases h), fun _ => qgz c⟩
  · rw [qih h0, qb8, qe8 h0, if_neg (by decide), if_neg (by decide), if_neg (by rw [qu0 h0]; simp), qfx h0]
    exact ⟨rfl, (fun n h => by cases h), fun _ => h0⟩
theorem qm1 (hp : ∀ c, Mon c (rp c).1) (hm : ∀ c, Mon c (rr c).1) : ∀ (f g : Nat) (c : K) (acc : List N), rest c < f → em c < g → em c ≤ b → qec (qeg rp f c acc) (qd8 rr g c acc)
  | 0, _, _, _ => fun h _ _ => by omega
  | _, 0, _, _ => fun _ h _ => by omega
  | f + 1, g + 1, c, acc => fun hf hg hb => by
    rw [qeg, qd8]
    by_cases hk : begT c = true
    · rw [if_pos hk, if_pos hk]
      obtain ⟨a1, a2, a3⟩ := qjr hx ih hb
      have hl := qhw hm hk
      rw [← a1] at hl ⊢
      cases ho : (qb8 rp c).2 with
      | none =>
        have h3 := a3 ho
        rw [if_neg (by simp), qsw h3]
        exact ⟨rfl, (fun n h => by cases h), fun _ => h3⟩
      | some n =>
        rw [if_pos (by rfl), ← a2 n ho]
        exact qm1 hp hm f g _ _ (by have := qf2 hp (c := c) (by rw [ho]; rfl); omega) (by omega) (by omega)
    · rw [if_neg hk, if_neg hk]
      exact ⟨rfl, (fun l h => by cases h; rfl), (fun h => by cases h)⟩
theorem qyt (hp : ∀ c, Mon c (rp c).1) (hm : ∀ c, Mon c (rr c).1) {c : K} (hr : em c ≤ b) : qec (qcj rp c) (qc9 rr c) := by
  unfold qcj qc9
  by_cases hk : (qbg c).kind = 2
  · rw [if_pos hk, if_pos hk]
    have h1 := qbm (c := c) (by omega)
    have h2 := qil (c := c) (by omega)
    obtain ⟨a1, a2, a3⟩ := qm1 hx ih hp hm (rest c + 1) (em (qbc c) + 1) (qbc c) [] (by omega) (by omega) (by omega)
    refine ⟨a1, fun n h => ?_, fun h => a3 (by simpa using h)⟩
    obtain ⟨l, hl, rfl⟩ := Option.map_eq_some_iff.1 h
    rw [a2 l hl]
  · rw [if_neg hk, if_neg hk]
    exact qjr hx ih hr
theorem qoi {c : K} (hr : em c ≤ b) : qec (qbu rp c) (qb5 rr c) := by
  have h1 := (qdb c 2).em
  obtain ⟨a1, a2, a3⟩ := qjr hx ih (c := (qbn c 2).1) (by omega)
  unfold qbu qb5
  by_cases hk : (qbn c 2).2 = true
  · rw [if_pos hk]
    refine ⟨a1, fun n h => ?_, fun h => a3 (by simpa using h)⟩
    obtain ⟨m, hm, rfl⟩ := Option.map_eq_some_iff.1 h
    rw [a2 m hm]
  · rw [if_neg hk]
    have h2 := qvs (c := c) (k := 2) (by simpa using hk)
    rw [qih h2]
    exact ⟨rfl, (fun n h => by cases h), fun _ => h2⟩
end
theorem qnn : ∀ (f : Nat) (c : K), em c < f → qec (qce f c) (qch f c)
  | 0, _ => fun h => by omega
  | f + 1, c => fun hf => by
    have ih := qnn f
    have hx : ∀ c : K, c.err ≠ 0 → (qch f c).1 = c := fun c h => by rw [qk5 f h]
    rw [qce, qch]
    by_cases he : (qr c).2 = true
    · have h1 := (qbb c).em
      rw [if_pos he]
      obtain ⟨a1, a2, a3⟩ := qyt hx ih (qgl f) (qd5 f) (c := (qr c).1) (by omega)
      have hl := (qj0 (qd5 f) (qr c).1).em
      rw [← a1] at hl ⊢
      cases ho : (qcj (qce f) (qr c).1).2 with
      | none =>
        have h3 := a3 ho
        rw [if_neg (by simp), qfs h3, if_neg (by simp)]
        exact ⟨rfl, (fun n h => by cases h), fun _ => by simp only; rw [qco h3]; exact h3⟩
      | some n =>
        rw [if_pos (by rfl), ← a2 n ho]
        by_cases ht : (qz (qcj (qce f) (qr c).1).1 [45, 62]).2 = true
        · rw [if_pos ht, if_pos ht]
          have h5 := qed ht
          obtain ⟨b1, b2, b3⟩ := ih (qz (qcj (qce f) (qr c).1).1 [45, 62]).1 (by omega)
          refine ⟨by simp only; rw [b1], fun m h => ?_, fun h => ?_⟩
          · obtain ⟨q, hq, rfl⟩ := Option.map_eq_some_iff.1 h
            rw [b2 q hq]; rfl
          · have h6 := b3 (by simpa using h)
            simp only
            rw [qco h6]; exact h6
        · rw [if_neg ht, if_neg ht]
          exact ⟨rfl, (fun m h => by cases h; rfl), (fun h => by cases h)⟩
    · have he' : (qr c).2 = false := by simpa using he
      have h1 := qf1 he'
      rw [if_neg he, qn2 h1, qfs h1, if_neg (by simp), qco h1]
      exact ⟨rfl, (fun n h => by cases h), fun _ => h1⟩
section
variable {rp : K → K × Option N} {rr : K → K × N} {b : Nat} (hx : ∀ c : K, c.err ≠ 0 → (rr c).1 = c) (ih : ∀ c, em c < b → qec (rp c) (rr c)) (hp : ∀ c, Mon c (rp c).1) (hm : ∀ c, Mon c (rr c).1)
include hx ih hp hm
theorem qlh : ∀ (f g : Nat) (c : K) (acc : List N), rest c < f → em c < g → em c ≤ b → qec (qfc rp true f c acc) (qd0 rr g c acc)
  | 0, _, _, _ => fun h _ _ => by omega
  | _, 0, _, _ => fun _ h _ => by omega
  | f + 1, g + 1, c, acc => fun hf hg hb => by
    rw [qfc, qd0]
    obtain ⟨a1, a2, a3⟩ := qoi hx ih hb
    have hl := (qeu hm c).em
    rw [← a1] at hl ⊢
    cases ho : (qbu rp c).2 with
    | none =>
      have h3 := a3 ho
      rw [if_neg (by simp), qfs h3, if_neg (by simp)]
      exact ⟨rfl, (fun n h => by cases h), fun _ => h3⟩
    | some n =>
      rw [if_pos (by rfl), Bool.true_and, ← a2 n ho]
      by_cases ht : (qz (qbu rp c).1 [44]).2 = true
      · rw [if_pos ht, if_pos ht]
        have h5 := qed ht
        have h6 := qia hp (c := c) (by rw [ho]; rfl)
        have h7 := (qbf (qbu rp c).1 [44]).2.1
        exact qlh f g _ _ (by omega) (by omega) (by omega)
      · rw [if_neg ht, if_neg ht]
        exact ⟨rfl, (fun l h => by cases h; rfl), (fun h => by cases h)⟩
/-- The ends of a context. -/
theorem quh {c : K} (hg : ∀ t ∈ c.l, t.kind ≠ 0) (hr : em c ≤ b) : qec (qbq rp c) (qdx rr c) := by
  unfold qbq qdx
  by_cases ha : qh2 c [61, 62] = true
  · rw [if_pos ha, if_pos ha]
    unfold qh6
    by_cases ht : (qz c [40]).2 = true
    · rw [if_pos ht, ht, Bool.true_and]
      have h5 := qed ht
      have hB : qec (if isK (qz c [40]).1 [41] = true then ((qz c [40]).1, some []) else qfc rp true (rest (qz c [40]).1 + 1) (qz c [40]).1 []) (qfd rr (qz c [40]).1) := by
        unfold qfd
        split
        · exact ⟨rfl, (fun l h => by cases h; rfl), (fun h => by cases h)⟩
        · exact qlh hx ih hp hm _ _ _ _ (by omega) (by omega) (by omega)
      obtain ⟨a1, a2, a3⟩ := hB
      generalize (if isK (qz c [40]).1 [41] = true then ((qz c [40]).1, some []) else qfc rp true (rest (qz c [40]).1 + 1) (qz c [40]).1 []) = p at *
      rw [← a1]
      unfold qf5
      cases ho : p.2 with
      | none =>
        have h3 := a3 ho
        rw [if_neg (by simp), qb9 h3, qb9 h3]
        exact ⟨rfl, (fun n h => by cases h), fun _ => h3⟩
      | some l =>
        rw [if_pos (by rfl), if_pos rfl, ← a2 l ho]
        by_cases hw : (q9 p.1 [41]).2 = true
        · rw [if_pos hw]
          by_cases hw2 : (q9 (q9 p.1 [41]).1 [61, 62]).2 = true
          · rw [if_pos hw2]; exact ⟨rfl, (fun m h => by cases h; rfl), (fun h => by cases h)⟩
          · rw [if_neg hw2]
            exact ⟨rfl, (fun n h => by cases h), fun _ => qd7 (by simpa using hw2)⟩
        · rw [if_neg hw]
          have h3 := qd7 (c := p.1) (x := [41]) (by simpa using hw)
          rw [qb9 h3]
          exact ⟨rfl, (fun n h => by cases h), fun _ => h3⟩
    · have ht' : (qz c [40]).2 = false := by simpa using ht
      have hsm := qdm ht'
      rw [if_neg ht, ht', hsm, Bool.false_and, if_neg (by simp)]
      unfold qf5
      obtain ⟨a1, a2, a3⟩ := qoi hx ih hr
      rw [qfc, ← a1]
      cases ho : (qbu rp c).2 with
      | none =>
        have h3 := a3 ho
        rw [if_neg (by simp), if_neg (by simp), qb9 h3]
        exact ⟨rfl, (fun n h => by cases h), fun _ => h3⟩
      | some n =>
        rw [if_pos (by rfl), Bool.false_and, if_neg (by simp), if_pos (by rfl), if_neg (by simp), ← a2 n ho]
        simp only [Option.getD_some, List.nil_append]
        by_cases hw : (q9 (qbu rp c).1 [61, 62]).2 = true
        · rw [if_pos hw]; exact ⟨rfl, (fun m h => by cases h; rfl), (fun h => by cases h)⟩
        · rw [if_neg hw]
          exact ⟨rfl, (fun n h => by cases h), fun _ => qd7 (by simpa using hw)⟩
  · rw [if_neg ha, if_neg ha]
    by_cases he : c.err = 0
    · have hf : qod c = false := by
        unfold qod
        by_cases hl : c.at' < c.l.length
        · have hk : (qbg c).kind ≠ 0 := by rw [qq4 he (by omega)]; exact hg _ (q5x hl)
          rw [qqj he (by omega), decide_eq_false hk]; rfl
        · rw [qn0 he (by omega)]; rfl
      rw [hf]
      exact ⟨rfl, (fun m h => by cases h; rfl), (fun h => by cases h)⟩
    · have hf : qod c = true := by
        unfold qod
        rw [qm0 he, qe8 he]
        simp [he, T0]
      rw [hf]
      exact ⟨rfl, (fun m h => by cases h), fun _ => he⟩
end
theorem qwv (f : Nat) (c : K) (hg : ∀ t ∈ c.l, t.kind ≠ 0) (hr : em c < f) : qec (qes f c) (qii f c) := by
  have hx : ∀ c : K, c.err ≠ 0 → (qch f c).1 = c := fun c h => by rw [qk5 f h]
  obtain ⟨a1, a2, a3⟩ := quh hx (qnn f) (qgl f) (qd5 f) hg (b := f) (by omega)
  have hl := (qgw (qd5 f) c).em
  unfold qes qii
  rw [← a1] at hl ⊢
  cases ho : (qbq (qce f) c).2 with
  | none =>
    have h3 := a3 ho
    rw [if_neg (by simp), qk5 f h3]
    exact ⟨rfl, (fun n h => by cases h), fun _ => h3⟩
  | some l =>
    rw [if_pos (by rfl), ← a2 l ho]
    obtain ⟨b1, b2, b3⟩ := qnn f (qbq (qce f) c).1 (by omega)
    refine ⟨b1, fun m h => ?_, fun h => b3 (by simpa using h)⟩
    obtain ⟨q, hq, rfl⟩ := Option.map_eq_some_iff.1 h
    rw [b2 q hq]; rfl
theorem qjo : ∀ {l : List T} {t : T}, t ∈ qhj l → t.kind ≠ 0
  | [], t, h => by simp [qhj] at h
  | u :: r, t, h => by
    rw [qhj] at h
    split at h
    · simp at h
    · rename_i hk
      rcases List.mem_cons.1 h with rfl | h
      · exact hk
      · exact qjo h
end Go.Proofs.YtmekebfgmjaenaaGreat
