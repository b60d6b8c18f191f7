/- Texts of this proof, joined. -/
import Derived.Test.YtfjbmjplnmaclaaWay
import Derived.Test.YtfjbmjplnmaclaaWaz
import Derived.Test.YtfjbmjplnmaclaaWba

/- types: contexts: the program -/
set_option maxRecDepth 4000
namespace Go.Proofs.Ytfjbmjplnmaclaa
open Go Go.RowKit Go.V
set_option linter.unusedVariables false
set_option linter.unusedSimpArgs false

theorem qca (c : K) (k : Int) : Mon c (qbe c k).1 := by
  unfold qbe
  split
  · exact qcj c
  · exact qeb c 5
theorem qjv {c : K} {k : Int} (h : (qbe c k).2 = true) : c.err = 0 ∧ (qba c).kind = k := by
  unfold qbe at h
  split at h
  · rename_i h1
    simp only [Bool.and_eq_true, decide_eq_true_eq] at h1
    exact h1
  · cases h
theorem qqs {c : K} {k : Int} (h : (qbe c k).2 = true) : qbe c k = (qbg c, true) ∧ qhc c k = qba c := by
  obtain ⟨h1, h2⟩ := qjv h
  exact ⟨qrc h1 h2, qvr h1 h2⟩
def qtc (c : K) : Bool := !decide ((qek c).2 = 0) && (!decide ((qek c).2 = 5) || decide ((qba c).kind = 0))
theorem quu (c : K) (hk : c.ok) : qbz Try.prog 61 (curE c) (curE c) [.ptr 0 0] (.bool (qtc c)) := by
  refine qs c0bt 1 (by simp) (by simp) ?_
  repeat' (first | refine qi ?_ | ((first | refine qm ?_ | refine qj ?_ | refine qbo7 hk ?_ | refine qbu ?_ | ((first | refine qe ?_ ?_ | refine qc ?_ ?_) <;> intro hc <;> (try simp only [hc]) <;> (try simp only [qb, qa, decide_eq_true_eq, decide_eq_false_iff_not, Bool.and_eq_true] at hc)) | refine And.intro (by first | assumption | omega | (have := qf (by assumption); omega) | (unfold qo; omega)) ?_ | simp (disch := omega) only [qd] | simp (disch := omega) only [qn]) <;> (try simp only [go_sem, ↓reduceIte, Nat.reduceEqDiff, Nat.reduceAdd, Nat.reduceSub, Nat.reduceMul, Nat.reduceLT, Nat.reduceLeDiff, reduceCtorEq, Int.reduceToNat])))
  all_goals (unfold qtc; simp_all)
theorem qbcw {c : K} {L : List Ent} {Q : List Ent → VO → Prop} (hk : c.ok) (hq : Q (curE c :: L) (.val (.bool (qtc c)))) : VApp Try.prog (curE c :: L) (.fn 61 [] []) [.ptr 0 0] Q := qbv (quu c hk) (q7 _ _) (q7 _ _) rfl rfl fun _ => hq
def qpd (t : T) (n : N) : N := .mk 3 t.pos 0 t.text [n]
def qbt (rec : K → K × Option N) (c : K) : K × Option N :=
  if (qbe c 2).2 = true then ((qb6 rec (qbe c 2).1).1, (qb6 rec (qbe c 2).1).2.map (qpd (qhc c 2)))
  else ((qbe c 2).1, none)
theorem qtf {c : K} {L : List Ent} {t : T} {n : N} {b : Bool} {Q : List Ent → VO → Prop} (hq : Q (curE c :: L) (.val (resP (qio (qpd t n) b)))) :
    VApp Try.prog (curE c :: L) (.fn 56 [] []) [.ptr 0 0, .agg [.int .i64 3, .int .i64 t.pos, .int .i64 0, .str t.text, .sl 5 [enc n]], .bool b] Q := by
  have h := qo4 (n := qpd t n) hq
  simpa only [qpd, enc, encs] using h
theorem qwe {r : Option N} {t : T} : qio (qpd t (r.getD N0)) r.isSome = r.map (qpd t) := qn5
section
variable {rec : K → K × Option N} {b : Nat} (hm : ∀ c, Mon c (rec c).1) (ih : ∀ c, c.good → rest c < b → qbz Try.prog 54 (curE c) (curE (rec c).1) [.ptr 0 0] (resP (rec c).2))
include hm ih
theorem qju (c : K) (hg : c.good) (hr : rest c ≤ b) : qbz Try.prog 62 (curE c) (curE (qbt rec c).1) [.ptr 0 0] (resP (qbt rec c).2) := by
  have g1 : (qbe c 2).1.good := (qca c 2).1 hg
  have hr1 : rest (qbe c 2).1 ≤ b := by have := (qca c 2).2.1; omega
  refine qs c0bu 1 (by simp) (by simp) ?_
  repeat' (first | refine qi ?_ | ((first | refine qm ?_ | refine qj ?_ | refine qh ?_ | refine qg ?_ | refine qcr hg.ok ?_ | refine qb7 (qfu hm ih _ g1 hr1) rfl ?_ | refine qtf ?_ | ((first | refine qe ?_ ?_ | refine qc ?_ ?_) <;> intro hc <;> (try simp only [hc]) <;> (try simp only [qb, qa, decide_eq_true_eq, decide_eq_false_iff_not, Bool.and_eq_true] at hc)) | refine And.intro (by first | assumption | omega | (have := qf (by assumption); omega) | (unfold qo; omega)) ?_ | simp (disch := omega) only [qd] | simp (disch := omega) only [qn]) <;> (try simp only [go_sem, ↓reduceIte, Nat.reduceEqDiff, Nat.reduceAdd, Nat.reduceSub, Nat.reduceMul, Nat.reduceLT, Nat.reduceLeDiff, reduceCtorEq, Int.reduceToNat])))
  all_goals (try simp only [qwe])
  all_goals (unfold qbt; simp only [*, qdf, Int.reduceEq, if_true, if_false, reduceIte, Bool.false_eq_true, Option.getD_none, Option.getD_some, Option.isSome_none, Option.isSome_some, and_self, true_and, and_true]; try rfl)
end
set_option maxRecDepth 4000

def qfj (rec : K → K × Option N) (many : Bool) : Nat → K → List N → K × Option (List N)
  | 0, c, _ => (c, none)
  | f + 1, c, acc =>
    if (qbt rec c).2.isSome = true then
      if (many && (qw (qbt rec c).1 [44]).2) = true then qfj rec many f (qw (qbt rec c).1 [44]).1 (acc ++ [(qbt rec c).2.getD N0])
      else ((qbt rec c).1, some (acc ++ [(qbt rec c).2.getD N0]))
    else ((qbt rec c).1, none)
def qe1 (many : Bool) (r : K × Option (List N)) : K × Option (List N) :=
  if r.2.isSome = true then
    if many = true then
      if (qx r.1 [41]).2 = true then ((qx (qx r.1 [41]).1 [61, 62]).1, if (qx (qx r.1 [41]).1 [61, 62]).2 = true then r.2 else none)
      else ((qx r.1 [41]).1, none)
    else ((qx r.1 [61, 62]).1, if (qx r.1 [61, 62]).2 = true then r.2 else none)
  else (r.1, none)
def qfq (rec : K → K × Option N) (c : K) : K × Option (List N) :=
  if ((qw c [40]).2 && isK (qw c [40]).1 [41]) = true then ((qw c [40]).1, some []) else qfj rec (qw c [40]).2 (rest (qw c [40]).1 + 1) (qw c [40]).1 []
def qbf (rec : K → K × Option N) (c : K) : K × Option (List N) :=
  if qmn c [61, 62] = true then qe1 (qw c [40]).2 (qfq rec c)
  else (c, if qtc c = true then none else some [])
section
variable {rec : K → K × Option N} (hm : ∀ c, Mon c (rec c).1)
include hm
theorem qe5 (c : K) : Mon c (qbt rec c).1 := by
  unfold qbt
  split
  · exact (qca c 2).trans (qdj hm _)
  · exact qca c 2
theorem qi6 {c : K} (h : (qbt rec c).2.isSome = true) : rest (qbt rec c).1 < rest c := by
  unfold qbt at h ⊢
  split at h
  · rename_i h1
    rw [if_pos h1]
    have h2 := (qca c 2).2.1
    have h3 := qdi hm (c := (qbe c 2).1) (by simpa using h)
    simp only; omega
  · cases h
theorem qm2 (many : Bool) : ∀ (f : Nat) (c : K) (acc : List N), Mon c (qfj rec many f c acc).1
  | 0, c, acc => Mon.refl c
  | f + 1, c, acc => by
    rw [qfj]
    split
    · split
      · exact ((qe5 hm c).trans (q8 _ _)).trans (qm2 many f _ _)
      · exact qe5 hm c
    · exact qe5 hm c
theorem quz (c : K) : Mon c (qfq rec c).1 := by
  unfold qfq
  split
  · exact q8 c _
  · exact (q8 c _).trans (qm2 hm _ _ _ _)
theorem qeg (c : K) : Mon c (qbf rec c).1 := by
  unfold qbf qe1
  have h := quz hm c
  split
  · split
    · split
      · split
        · exact (h.trans (qt _ _)).trans (qt _ _)
        · exact h.trans (qt _ _)
      · exact h.trans (qt _ _)
    · exact h
  · exact Mon.refl c
end
def qm9 (p : Nat) (r : Option (List N)) : AV := .tup [accV p (encs (r.getD [])), .bool r.isSome]
def qf0 (rec : K → K × Option N) (c : K) : Prop := VCalls Try.prog 42 [curE c] [.ptr 0 0] fun H' o => H' = curE (qbf rec c).1 :: accE 5 (encs ((qbf rec c).2.getD [])) ∧ o = .val (qm9 1 (qbf rec c).2)
def qw4 (many : Bool) (x : Bool × Nat × K × List N) : AF × List Ent :=
  (⟨[(0, .ptr 0 0), (4, accV 1 (encs x.2.2.2)), (5, .bool many), (6, .bool x.1)], []⟩, curE x.2.2.1 :: accE 5 (encs x.2.2.2))
section
variable {rec : K → K × Option N} {b : Nat} (hm : ∀ c, Mon c (rec c).1) (ih : ∀ c, c.good → rest c < b → qbz Try.prog 54 (curE c) (curE (rec c).1) [.ptr 0 0] (resP (rec c).2))
include hm ih
theorem qka (c : K) (hg : c.good) (hr : rest c ≤ b) : qf0 rec c := by
  unfold qf0
  obtain ⟨kk, hk1, hk2, hk0⟩ : ∃ k : Nat, ((qbf rec c).2.getD [] = [] → k = 1) ∧ ((qbf rec c).2.getD [] ≠ [] → k = 2) ∧ 1 ≤ k := by
    by_cases h : (qbf rec c).2.getD [] = []
    · exact ⟨1, fun _ => rfl, fun g => absurd h g, by omega⟩
    · exact ⟨2, fun g => absurd g h, fun _ => rfl, by omega⟩
  refine qc7 c0bs kk (by simpa using hk0) (by simp) ?_
  have g1 : (qw c [40]).1.good := (q8 c _).1 hg
  have hr1 : rest (qw c [40]).1 ≤ b := by have := (q8 c [40]).2.1; omega
  by_cases ha : qmn c [61, 62] = true
  · have hpa : qbf rec c = qe1 (qw c [40]).2 (qfq rec c) := by rw [qbf, if_pos ha]
    rw [hpa] at hk1 hk2 ⊢
    clear hpa
    unfold qfq at hk1 hk2 ⊢
    generalize htg : (if ((qw c [40]).2 && isK (qw c [40]).1 [41]) = true then ((qw c [40]).1, some []) else qfj rec (qw c [40]).2 (rest (qw c [40]).1 + 1) (qw c [40]).1 []) = tg at hk1 hk2 ⊢
    generalize hd0 : (qw c [40]).1 = d0 at *
    generalize hmn : (qw c [40]).2 = many at *
    have h0t : (!(many && isK d0 [41])) = true → qfj rec many (rest d0 + 1) d0 [] = tg := fun h => by
      rw [Bool.not_eq_true'] at h
      rw [← htg, if_neg (by rw [h]; simp)]
    have h0f : (!(many && isK d0 [41])) = false → tg = (d0, some []) := fun h => by
      rw [Bool.not_eq_false'] at h
      rw [← htg, if_pos h]
    clear htg
    obtain ⟨mm, hmm⟩ : ∃ mm, mm = many := ⟨_, rfl⟩
    cases many <;> (
      repeat' (first | refine qi ?_ | refine qk ?_ | ((first | refine qm ?_ | refine qj ?_ | refine qr ?_ | refine qh ?_ | refine qg ?_) <;> (try simp (disch := first | omega | (simp only [List.length_set, List.length_append, List.length_cons, List.length_nil]; done) | (simp only [List.length_set, List.length_append, List.length_cons, List.length_nil]; omega)) only [ha, hd0, hmn, go_sem, ↓reduceIte, Nat.reduceEqDiff, Nat.reduceAdd, Nat.reduceSub, Nat.reduceMul, Nat.reduceLT, Nat.reduceLeDiff, reduceCtorEq, Int.reduceToNat])) | ((first | ((first | refine qe ?_ ?_ | refine qc ?_ ?_) <;> intro hc <;> (try simp only [hc]) <;> (try simp only [qb, qa, decide_eq_true_eq, decide_eq_false_iff_not, Bool.and_eq_true] at hc)) | refine And.intro (by first | assumption | omega | (have := qf (by assumption); omega) | (unfold qo; omega)) ?_ | simp (disch := omega) only [qd] | simp (disch := omega) only [qn] | refine qyz hg.ok hg.2.1 ?_ | refine qdh hg.ok ?_ | refine a_Is ?_) <;> (try simp only [go_sem, ↓reduceIte, Nat.reduceEqDiff, Nat.reduceAdd, Nat.reduceSub, Nat.reduceMul, Nat.reduceLT, Nat.reduceLeDiff, reduceCtorEq, Int.reduceToNat])))
      refine qcx (S := Bool × Nat × K × List N) (fun x => x.2.2.1.good ∧ rest x.2.2.1 ≤ b ∧ (x.1 = true → qfj rec mm x.2.1 x.2.2.1 x.2.2.2 = tg ∧ rest x.2.2.1 < x.2.1) ∧ (x.1 = false → tg = (x.2.2.1, some x.2.2.2)) ∧ x.2.2.2.length + rest x.2.2.1 ≤ 1048577)
        (qw4 mm) (fun x => if x.1 = true then rest x.2.2.1 + 1 else 0) ?_ ?_
      · refine qb5 (!(mm && isK d0 [41]), rest d0 + 1, d0, []) [0] ⟨g1, hr1, fun h => ⟨by rw [hmm]; exact h0t (by simp only [hmm] at h; exact h), Nat.lt_succ_self _⟩, fun h => h0f (by simp only [hmm] at h; exact h), ?_⟩ rfl (by simp) ?_ ?_ ?_
        · have h9 := g1.rest
          unfold rest
          simp only [List.length_nil]
          omega
        all_goals simp only [qw4, encs, qbh, qbj, hmm, Bool.false_and, Bool.true_and, Bool.not_false]
        all_goals simp only [go_sem, ↓reduceIte, Nat.reduceEqDiff, Nat.reduceAdd, Nat.reduceSub, Nat.reduceMul, Nat.reduceLT, Nat.reduceLeDiff, reduceCtorEq, Int.reduceToNat]
      · rintro ⟨more, fu, d, acc⟩ ⟨i1, i2, i3, i4, i5⟩
        simp only at i1 i2 i3 i4 i5
        unfold qw4
        have hcap : qo (acc.length + 1) 64 := capN (by omega)
        cases more with
        | false =>
          have i4 := i4 rfl
          subst i4
          clear i3
          by_cases hE : (qe1 mm (d, some acc)).2.getD [] = []
          · simp only [hmm] at hE
            obtain rfl := hk1 hE
            by_cases h0 : acc = []
            · subst h0
              simp only [encs, qbh, qbj, hmm]
              repeat' (first | refine qi ?_ | refine qk ?_ | ((first | refine qm ?_ | refine qj ?_ | refine qr ?_ | refine qh ?_ | refine qg ?_) <;> (try simp (disch := first | omega | (simp only [List.length_set, List.length_append, List.length_cons, List.length_nil]; done) | (simp only [List.length_set, List.length_append, List.length_cons, List.length_nil]; omega)) only [hmm, go_sem, ↓reduceIte, Nat.reduceEqDiff, Nat.reduceAdd, Nat.reduceSub, Nat.reduceMul, Nat.reduceLT, Nat.reduceLeDiff, reduceCtorEq, Int.reduceToNat])) | ((first | ((first | refine qe ?_ ?_ | refine qc ?_ ?_) <;> intro hc <;> (try simp only [hc]) <;> (try simp only [qb, qa, decide_eq_true_eq, decide_eq_false_iff_not, Bool.and_eq_true] at hc)) | refine And.intro (by first | assumption | omega | (have := qf (by assumption); omega) | (unfold qo; omega)) ?_ | simp (disch := omega) only [qd] | simp (disch := omega) only [qn] | refine qb0 i1.ok ?_ | refine qb0 ((qt d _).1 i1).ok ?_) <;> (try simp only [go_sem, ↓reduceIte, Nat.reduceEqDiff, Nat.reduceAdd, Nat.reduceSub, Nat.reduceMul, Nat.reduceLT, Nat.reduceLeDiff, reduceCtorEq, Int.reduceToNat])))
              all_goals (unfold qe1; simp only [*, qm9, encs, qbh, qbj, if_true, if_false, reduceIte, Bool.false_eq_true, Option.isSome_some, Option.isSome_none, Option.getD_some, Option.getD_none, and_self, true_and, and_true, Bool.true_and, Bool.false_and, not_true_eq_false])
            · have hne := qbc h0
              simp only [qbo hne, qbp hne, qbd, hmm]
              repeat' (first | refine qi ?_ | refine qk ?_ | ((first | refine qm ?_ | refine qj ?_ | refine qr ?_ | refine qh ?_ | refine qg ?_) <;> (try simp (disch := first | omega | (simp only [List.length_set, List.length_append, List.length_cons, List.length_nil]; done) | (simp only [List.length_set, List.length_append, List.length_cons, List.length_nil]; omega)) only [hmm, go_sem, ↓reduceIte, Nat.reduceEqDiff, Nat.reduceAdd, Nat.reduceSub, Nat.reduceMul, Nat.reduceLT, Nat.reduceLeDiff, reduceCtorEq, Int.reduceToNat])) | ((first | ((first | refine qe ?_ ?_ | refine qc ?_ ?_) <;> intro hc <;> (try simp only [hc]) <;> (try simp only [qb, qa, decide_eq_true_eq, decide_eq_false_iff_not, Bool.and_eq_true] at hc)) | refine And.intro (by first | assumption | omega | (have := qf (by assumption); omega) | (unfold qo; omega)) ?_ | simp (disch := omega) only [qd] | simp (disch := omega) only [qn] | refine qb0 i1.ok ?_ | refine qb0 ((qt d _).1 i1).ok ?_) <;> (try simp only [go_sem, ↓reduceIte, Nat.reduceEqDiff, Nat.reduceAdd, Nat.reduceSub, Nat.reduceMul, Nat.reduceLT, Nat.reduceLeDiff, reduceCtorEq, Int.reduceToNat])))
              all_goals first | (exfalso; unfold qe1 at hE; simp only [*, qm9, encs, qbh, qbj, if_true, if_false, reduceIte, Bool.false_eq_true, Option.isSome_some, Option.isSome_none, Option.getD_some, Option.getD_none, and_self, true_and, and_true, Bool.true_and, Bool.false_and, not_true_eq_false] at hE; done) | (unfold qe1; simp only [*, qm9, encs, qbh, qbj, if_true, if_false, reduceIte, Bool.false_eq_true, Option.isSome_some, Option.isSome_none, Option.getD_some, Option.getD_none, and_self, true_and, and_true, Bool.true_and, Bool.false_and, not_true_eq_false])
          · simp only [hmm] at hE
            obtain rfl := hk2 hE
            have h0 : ¬ acc = [] := by
              intro h
              subst h
              apply hE
              unfold qe1
              repeat' split
              all_goals rfl
            have hne := qbc h0
            simp only [qbo hne, qbp hne, qbd, hmm]
            repeat' (first | refine qi ?_ | refine qk ?_ | ((first | refine qm ?_ | refine qj ?_ | refine qr ?_ | refine qh ?_ | refine qg ?_) <;> (try simp (disch := first | omega | (simp only [List.length_set, List.length_append, List.length_cons, List.length_nil]; done) | (simp only [List.length_set, List.length_append, List.length_cons, List.length_nil]; omega)) only [hmm, go_sem, ↓reduceIte, Nat.reduceEqDiff, Nat.reduceAdd, Nat.reduceSub, Nat.reduceMul, Nat.reduceLT, Nat.reduceLeDiff, reduceCtorEq, Int.reduceToNat])) | ((first | ((first | refine qe ?_ ?_ | refine qc ?_ ?_) <;> intro hc <;> (try simp only [hc]) <;> (try simp only [qb, qa, decide_eq_true_eq, decide_eq_false_iff_not, Bool.and_eq_true] at hc)) | refine And.intro (by first | assumption | omega | (have := qf (by assumption); omega) | (unfold qo; omega)) ?_ | simp (disch := omega) only [qd] | simp (disch := omega) only [qn] | refine qb0 i1.ok ?_ | refine qb0 ((qt d _).1 i1).ok ?_) <;> (try simp only [go_sem, ↓reduceIte, Nat.reduceEqDiff, Nat.reduceAdd, Nat.reduceSub, Nat.reduceMul, Nat.reduceLT, Nat.reduceLeDiff, reduceCtorEq, Int.reduceToNat])))
            all_goals first | (exfalso; unfold qe1 at hE; simp only [*, qm9, encs, qbh, qbj, if_true, if_false, reduceIte, Bool.false_eq_true, Option.isSome_some, Option.isSome_none, Option.getD_some, Option.getD_none, and_self, true_and, and_true, Bool.true_and, Bool.false_and, not_true_eq_false] at hE; done) | (unfold qe1; simp only [*, qm9, encs, qbh, qbj, if_true, if_false, reduceIte, Bool.false_eq_true, Option.isSome_some, Option.isSome_none, Option.getD_some, Option.getD_none, and_self, true_and, and_true, Bool.true_and, Bool.false_and, not_true_eq_false]; rw [qbp hne, qbo hne, qbd]; exact ⟨rfl, rfl⟩)
        | true =>
          have i6 := (i3 rfl).2
          replace i3 := (i3 rfl).1
          clear i4
          obtain ⟨fu, rfl⟩ : ∃ k, fu = k + 1 := ⟨fu - 1, by omega⟩
          rw [qfj] at i3
          have j1 : (qbt rec d).1.good := (qe5 hm d).1 i1
          have j2 : rest (qbt rec d).1 ≤ rest d := (qe5 hm d).2.1
          have j3 : (qw (qbt rec d).1 [44]).1.good := (q8 _ _).1 j1
          have j4 := (q8 (qbt rec d).1 [44]).2.1
          by_cases hs : (qbt rec d).2.isSome = true
          · rw [if_pos hs] at i3
            have hlt := qi6 hm hs
            obtain ⟨d', hd', k1, k2, k3, k4⟩ : ∃ d', d' = (if mm = true then (qw (qbt rec d).1 [44]).1 else (qbt rec d).1) ∧ d'.good ∧ rest d' ≤ rest (qbt rec d).1 ∧ ((mm && (qw (qbt rec d).1 [44]).2) = true → qfj rec mm fu d' (acc ++ [(qbt rec d).2.getD N0]) = tg) ∧ ((mm && (qw (qbt rec d).1 [44]).2) = false → tg = (d', some (acc ++ [(qbt rec d).2.getD N0]))) := by
              refine ⟨_, rfl, ?_, ?_, fun h => ?_, fun h => ?_⟩
              · cases mm
                · exact j1
                · exact j3
              · cases mm
                · exact Nat.le_refl _
                · exact j4
              · rw [if_pos h] at i3
                rw [if_pos (by simp only [Bool.and_eq_true] at h; exact h.1)]
                exact i3
              · rw [if_neg (by rw [h]; simp)] at i3
                rw [← i3]
                clear hmm
                cases mm
                · rfl
                · rw [Bool.true_and] at h
                  rw [if_pos rfl, qc1 h]
            by_cases h0 : acc = []
            · subst h0
              simp only [encs, qbh, qbj, hmm]
              repeat' (first | refine qi ?_ | refine qk ?_ | ((first | refine qm ?_ | refine qj ?_ | refine qr ?_ | refine qh ?_ | refine qg ?_) <;> (try simp (disch := first | omega | (simp only [List.length_set, List.length_append, List.length_cons, List.length_nil]; done) | (simp only [List.length_set, List.length_append, List.length_cons, List.length_nil]; omega)) only [hmm, hs, go_sem, ↓reduceIte, Nat.reduceEqDiff, Nat.reduceAdd, Nat.reduceSub, Nat.reduceMul, Nat.reduceLT, Nat.reduceLeDiff, reduceCtorEq, Int.reduceToNat])) | ((first | ((first | refine qe ?_ ?_ | refine qc ?_ ?_) <;> intro hc <;> (try simp only [hc]) <;> (try simp only [qb, qa, decide_eq_true_eq, decide_eq_false_iff_not, Bool.and_eq_true] at hc)) | refine And.intro (by first | assumption | omega | (have := qf (by assumption); omega) | (unfold qo; omega)) ?_ | simp (disch := omega) only [qd] | simp (disch := omega) only [qn] | refine qb7 (qju hm ih d i1 i2) rfl ?_ | refine qdh j1.ok ?_) <;> (try simp only [go_sem, ↓reduceIte, Nat.reduceEqDiff, Nat.reduceAdd, Nat.reduceSub, Nat.reduceMul, Nat.reduceLT, Nat.reduceLeDiff, reduceCtorEq, Int.reduceToNat])))
              · refine qb5 (mm && (qw (qbt rec d).1 [44]).2, fu, d', [] ++ [(qbt rec d).2.getD N0]) [0, 2] ⟨⟨k1, by simp only; omega, fun h => ⟨by first | exact k3 h | (have := k3 h; simpa only [hmm] using this), by simp only; omega⟩, fun h => k4 h, ?_⟩, ?_⟩ rfl (by simp) ?_ ?_ ?_
                · simp only [List.length_append, List.length_cons, List.length_nil]; omega
                · simp only; split <;> omega
                all_goals simp only [hd', hmm, if_true, if_false, reduceIte, Bool.false_eq_true, Bool.true_and, Bool.false_and, qw4, ← qq, qee, qed, List.nil_append, encs, qfe, qfl]
                all_goals simp only [go_sem, ↓reduceIte, Nat.reduceEqDiff, Nat.reduceAdd, Nat.reduceSub, Nat.reduceMul, Nat.reduceLT, Nat.reduceLeDiff, reduceCtorEq, Int.reduceToNat]
            · have hne := qbc h0
              simp only [qbo hne, qbp hne, qbd, hmm]
              repeat' (first | refine qi ?_ | refine qk ?_ | ((first | refine qm ?_ | refine qj ?_ | refine qr ?_ | refine qh ?_ | refine qg ?_) <;> (try simp (disch := first | omega | (simp only [List.length_set, List.length_append, List.length_cons, List.length_nil]; done) | (simp only [List.length_set, List.length_append, List.length_cons, List.length_nil]; omega)) only [hmm, hs, go_sem, ↓reduceIte, Nat.reduceEqDiff, Nat.reduceAdd, Nat.reduceSub, Nat.reduceMul, Nat.reduceLT, Nat.reduceLeDiff, reduceCtorEq, Int.reduceToNat])) | ((first | ((first | refine qe ?_ ?_ | refine qc ?_ ?_) <;> intro hc <;> (try simp only [hc]) <;> (try simp only [qb, qa, decide_eq_true_eq, decide_eq_false_iff_not, Bool.and_eq_true] at hc)) | refine And.intro (by first | assumption | omega | (have := qf (by assumption); omega) | (unfold qo; omega)) ?_ | simp (disch := omega) only [qd] | simp (disch := omega) only [qn] | refine qb7 (qju hm ih d i1 i2) rfl ?_ | refine qdh j1.ok ?_) <;> (try simp only [go_sem, ↓reduceIte, Nat.reduceEqDiff, Nat.reduceAdd, Nat.reduceSub, Nat.reduceMul, Nat.reduceLT, Nat.reduceLeDiff, reduceCtorEq, Int.reduceToNat])))
              · refine qb5 (mm && (qw (qbt rec d).1 [44]).2, fu, d', acc ++ [(qbt rec d).2.getD N0]) [0, 3] ⟨⟨k1, by simp only; omega, fun h => ⟨by first | exact k3 h | (have := k3 h; simpa only [hmm] using this), by simp only; omega⟩, fun h => k4 h, ?_⟩, ?_⟩ rfl (by simp) ?_ ?_ ?_
                · simp only [List.length_append, List.length_cons, List.length_nil]; omega
                · simp only; split <;> omega
                all_goals simp only [hd', hmm, if_true, if_false, reduceIte, Bool.false_eq_true, Bool.true_and, Bool.false_and, qw4, ← qq, qee, qed, List.nil_append, encs, qfe, qfl]
                all_goals simp only [go_sem, ↓reduceIte, Nat.reduceEqDiff, Nat.reduceAdd, Nat.reduceSub, Nat.reduceMul, Nat.reduceLT, Nat.reduceLeDiff, reduceCtorEq, Int.reduceToNat]
                all_goals (try (rw [qq, q6, qbn]; exact ⟨rfl, rfl⟩))
          · have hs : (qbt rec d).2.isSome = false := by simpa using hs
            rw [if_neg (by rw [hs]; simp)] at i3
            subst i3
            obtain rfl := hk1 rfl
            by_cases h0 : acc = []
            · subst h0
              simp only [encs, qbh, qbj, hmm]
              repeat' (first | refine qi ?_ | refine qk ?_ | ((first | refine qm ?_ | refine qj ?_ | refine qr ?_ | refine qh ?_ | refine qg ?_) <;> (try simp (disch := first | omega | (simp only [List.length_set, List.length_append, List.length_cons, List.length_nil]; done) | (simp only [List.length_set, List.length_append, List.length_cons, List.length_nil]; omega)) only [hmm, hs, go_sem, ↓reduceIte, Nat.reduceEqDiff, Nat.reduceAdd, Nat.reduceSub, Nat.reduceMul, Nat.reduceLT, Nat.reduceLeDiff, reduceCtorEq, Int.reduceToNat])) | ((first | ((first | refine qe ?_ ?_ | refine qc ?_ ?_) <;> intro hc <;> (try simp only [hc]) <;> (try simp only [qb, qa, decide_eq_true_eq, decide_eq_false_iff_not, Bool.and_eq_true] at hc)) | refine And.intro (by first | assumption | omega | (have := qf (by assumption); omega) | (unfold qo; omega)) ?_ | simp (disch := omega) only [qd] | simp (disch := omega) only [qn] | refine qb7 (qju hm ih d i1 i2) rfl ?_ | refine qdh j1.ok ?_) <;> (try simp only [go_sem, ↓reduceIte, Nat.reduceEqDiff, Nat.reduceAdd, Nat.reduceSub, Nat.reduceMul, Nat.reduceLT, Nat.reduceLeDiff, reduceCtorEq, Int.reduceToNat])))
              exact ⟨rfl, rfl⟩
            · have hne := qbc h0
              simp only [qbo hne, qbp hne, qbd, hmm]
              repeat' (first | refine qi ?_ | refine qk ?_ | ((first | refine qm ?_ | refine qj ?_ | refine qr ?_ | refine qh ?_ | refine qg ?_) <;> (try simp (disch := first | omega | (simp only [List.length_set, List.length_append, List.length_cons, List.length_nil]; done) | (simp only [List.length_set, List.length_append, List.length_cons, List.length_nil]; omega)) only [hmm, hs, go_sem, ↓reduceIte, Nat.reduceEqDiff, Nat.reduceAdd, Nat.reduceSub, Nat.reduceMul, Nat.reduceLT, Nat.reduceLeDiff, reduceCtorEq, Int.reduceToNat])) | ((first | ((first | refine qe ?_ ?_ | refine qc ?_ ?_) <;> intro hc <;> (try simp only [hc]) <;> (try simp only [qb, qa, decide_eq_true_eq, decide_eq_false_iff_not, Bool.and_eq_true] at hc)) | refine And.intro (by first | assumption | omega | (have := qf (by assumption); omega) | (unfold qo; omega)) ?_ | simp (disch := omega) only [qd] | simp (disch := omega) only [qn] | refine qb7 (qju hm ih d i1 i2) rfl ?_ | refine qdh j1.ok ?_) <;> (try simp only [go_sem, ↓reduceIte, Nat.reduceEqDiff, Nat.reduceAdd, Nat.reduceSub, Nat.reduceMul, Nat.reduceLT, Nat.reduceLeDiff, reduceCtorEq, Int.reduceToNat])))
              exact ⟨rfl, rfl⟩
      )
  · have hpa : qbf rec c = (c, if qtc c = true then none else some []) := by rw [qbf, if_neg ha]
    rw [hpa] at hk1 hk2 ⊢
    obtain rfl := hk1 (by simp only; split <;> rfl)
    repeat' (first | refine qi ?_ | refine qk ?_ | ((first | refine qm ?_ | refine qj ?_ | refine qr ?_ | refine qh ?_ | refine qg ?_) <;> (try simp (disch := first | omega | (simp only [List.length_set, List.length_append, List.length_cons, List.length_nil]; done) | (simp only [List.length_set, List.length_append, List.length_cons, List.length_nil]; omega)) only [ha, go_sem, ↓reduceIte, Nat.reduceEqDiff, Nat.reduceAdd, Nat.reduceSub, Nat.reduceMul, Nat.reduceLT, Nat.reduceLeDiff, reduceCtorEq, Int.reduceToNat])) | ((first | ((first | refine qe ?_ ?_ | refine qc ?_ ?_) <;> intro hc <;> (try simp only [hc]) <;> (try simp only [qb, qa, decide_eq_true_eq, decide_eq_false_iff_not, Bool.and_eq_true] at hc)) | refine And.intro (by first | assumption | omega | (have := qf (by assumption); omega) | (unfold qo; omega)) ?_ | simp (disch := omega) only [qd] | simp (disch := omega) only [qn] | refine qyz hg.ok hg.2.1 ?_ | refine qbcw hg.ok ?_) <;> (try simp only [go_sem, ↓reduceIte, Nat.reduceEqDiff, Nat.reduceAdd, Nat.reduceSub, Nat.reduceMul, Nat.reduceLT, Nat.reduceLeDiff, reduceCtorEq, Int.reduceToNat])))
    cases qtc c <;> exact ⟨rfl, rfl⟩
end
set_option maxRecDepth 4000

theorem qiy {rec : K → K × Option N} {c : K} (h : qf0 rec c) (h0 : (qbf rec c).2.getD [] = []) {L : List Ent} {Q : List Ent → VO → Prop} (hq : Q (curE (qbf rec c).1 :: L) (.val (.tup [.nils, .bool (qbf rec c).2.isSome]))) :
    VApp Try.prog (curE c :: L) (.fn 42 [] []) [.ptr 0 0] Q :=
  qbv (r := .tup [.nils, .bool (qbf rec c).2.isSome]) (e' := curE (qbf rec c).1) (by
    unfold qf0 at h
    rw [h0] at h
    unfold qbz
    have hr : qm9 1 (qbf rec c).2 = .tup [.nils, .bool (qbf rec c).2.isSome] := by rw [qm9, h0]; rfl
    rw [hr] at h
    exact h) (q7 _ _) (q7 _ _) rfl rfl fun _ => hq
theorem qmw {rec : K → K × Option N} {c : K} (h : qf0 rec c) {l : List N} (hl : (qbf rec c).2 = some l) (h0 : l ≠ []) {L : List Ent} {Q : List Ent → VO → Prop}
    (hq : Q (curE (qbf rec c).1 :: (L ++ [.app 5 (encs l)])) (.val (.tup [.row (L.length + 1) l.length, .bool true]))) :
    VApp Try.prog (curE c :: L) (.fn 42 [] []) [.ptr 0 0] Q :=
  qby (first := []) (caps := []) (by
    simp only [List.nil_append, List.append_nil]
    have hne := qbc h0
    have hs : AV.rens (sg [0]) [.ptr 0 0] = [.ptr 0 0] := rfl
    rw [← hs]
    have ha : AV.bds 1 [.ptr 0 0] = true := rfl
    have napp_ren : ∀ σ : Nat → Nat, (Ent.app 5 (encs l)).ren σ = .app 5 (encs l) := fun σ => Ent.ren_same (m := 0) (fun i hi => by omega) _ (by simp [Ent.bd, q6])
    refine qeu (H0 := [curE c]) [0] h (by simp) (by simp) rfl ?_ ha ?_
    · intro j e2 hj
      obtain rfl : j = 0 := by have := (List.getElem?_eq_some_iff.1 hj).1; simp at this; omega
      simp only [List.getElem?_cons_zero, Option.some.injEq] at hj
      subst hj
      exact .inr ⟨q7 _ _, by rw [qci]; rfl⟩
    rintro H1 o ⟨rfl, rfl⟩
    rw [hl]
    simp only [Option.getD_some, qbp hne, qm9, qbo hne, qbd, Option.isSome_some, List.length_cons, List.length_nil, List.take_succ_cons, List.take_zero, List.map_nil, qbq, List.drop_zero, List.drop_succ_cons, List.map_cons, qci, napp_ren, VO.ren, AV.ren, AV.rens, sg', List.set_cons_zero]
    exact hq)
def qnr (p : Int) (l : List N) (t : N) : N := .mk 4 p 0 [] (l ++ [t])
def qe3 (f : Nat) (c : K) : K × Option N :=
  if (qbf (qb2 f) c).2.isSome = true then ((qb2 f (qbf (qb2 f) c).1).1, (qb2 f (qbf (qb2 f) c).1).2.map (qnr (qba c).pos ((qbf (qb2 f) c).2.getD [])))
  else ((qbf (qb2 f) c).1, none)
theorem qmq {c : K} {L : List Ent} {p : Int} {l : List N} {t : N} {b : Bool} {Q : List Ent → VO → Prop} (hq : Q (curE c :: L) (.val (resP (qio (qnr p l t) b)))) :
    VApp Try.prog (curE c :: L) (.fn 56 [] []) [.ptr 0 0, .agg [.int .i64 4, .int .i64 p, .int .i64 0, .str [], .sl 5 (encs l ++ [enc t])], .bool b] Q := by
  have h := qo4 (n := qnr p l t) hq
  simpa only [qnr, enc, qq] using h
theorem qrb {c : K} {L : List Ent} {p : Int} {t : N} {b : Bool} {Q : List Ent → VO → Prop} (hq : Q (curE c :: L) (.val (resP (qio (qnr p [] t) b)))) :
    VApp Try.prog (curE c :: L) (.fn 56 [] []) [.ptr 0 0, .agg [.int .i64 4, .int .i64 p, .int .i64 0, .str [], .sl 5 [enc t]], .bool b] Q := qmq (l := []) hq
theorem qo3 {r : Option N} {p : Int} {l : List N} : qio (qnr p l (r.getD N0)) r.isSome = r.map (qnr p l) := qn5
theorem qp0 {rec : K → K × Option N} (hm : ∀ c, Mon c (rec c).1) (many : Bool) : ∀ (f : Nat) (c : K) (acc l : List N), (qfj rec many f c acc).2 = some l → l.length ≤ acc.length + rest c
  | 0, c, acc, l => fun h => by cases h
  | f + 1, c, acc, l => fun h => by
    rw [qfj] at h
    split at h
    · rename_i hs
      have h1 := qi6 hm hs
      split at h
      · have h2 := qp0 hm many f _ _ _ h
        have h3 := (q8 (qbt rec c).1 [44]).2.1
        simp only [List.length_append, List.length_cons, List.length_nil] at h2
        omega
      · cases h
        simp only [List.length_append, List.length_cons, List.length_nil]
        omega
    · cases h
theorem qhn {m : Bool} {r : K × Option (List N)} {l : List N} (h : (qe1 m r).2 = some l) : r.2 = some l := by
  unfold qe1 at h
  repeat' split at h
  all_goals first | exact h | cases h
theorem qi8 {rec : K → K × Option N} (hm : ∀ c, Mon c (rec c).1) {c : K} {l : List N} (h : (qbf rec c).2 = some l) : l.length ≤ rest c := by
  unfold qbf at h
  split at h
  · have h := qhn h
    unfold qfq at h
    split at h
    · cases h; exact Nat.zero_le _
    · have h1 := qp0 hm _ _ _ _ _ h
      have h2 := (q8 c [40]).2.1
      simp only [List.length_nil] at h1
      omega
  · simp only at h
    split at h
    · cases h
    · cases h; exact Nat.zero_le _
theorem qto (f : Nat) (c : K) (hg : c.good) (hr : rest c < f) : qbz Try.prog 45 (curE c) (curE (qe3 f c).1) [.ptr 0 0] (resP (qe3 f c).2) := by
  have hm := qcv f
  have hP := qka hm (qpz f) c hg (by omega)
  have g1 : (qbf (qb2 f) c).1.good := (qeg hm c).1 hg
  have hr1 : rest (qbf (qb2 f) c).1 < f := by have := (qeg hm c).2.1; omega
  refine qs c0br 1 (by simp) (by simp) ?_
  unfold qe3
  cases ho : (qbf (qb2 f) c).2 with
  | none =>
    have h0 : (qbf (qb2 f) c).2.getD [] = [] := by rw [ho]; rfl
    repeat' (first | refine qi ?_ | ((first | refine qm ?_ | refine qj ?_ | refine qh ?_ | refine qg ?_) <;> (try simp (disch := first | omega | (simp only [List.length_set, List.length_append, List.length_cons, List.length_nil]; done) | (simp only [List.length_set, List.length_append, List.length_cons, List.length_nil]; omega)) only [ho, Option.isSome_none, go_sem, ↓reduceIte, Nat.reduceEqDiff, Nat.reduceAdd, Nat.reduceSub, Nat.reduceMul, Nat.reduceLT, Nat.reduceLeDiff, reduceCtorEq, Int.reduceToNat])) | ((first | ((first | refine qe ?_ ?_ | refine qc ?_ ?_) <;> intro hc <;> (try simp only [hc]) <;> (try simp only [qb, qa, decide_eq_true_eq, decide_eq_false_iff_not, Bool.and_eq_true] at hc)) | refine And.intro (by first | assumption | omega | (have := qf (by assumption); omega) | (unfold qo; omega)) ?_ | simp (disch := omega) only [qd] | simp (disch := omega) only [qn] | refine qbu ?_ | refine qiy hP h0 ?_) <;> (try simp only [go_sem, ↓reduceIte, Nat.reduceEqDiff, Nat.reduceAdd, Nat.reduceSub, Nat.reduceMul, Nat.reduceLT, Nat.reduceLeDiff, reduceCtorEq, Int.reduceToNat])))
    rw [qdf]; rfl
  | some l =>
    have hlen := qi8 hm ho
    have hlen2 := hg.rest
    by_cases h0 : l = []
    · subst h0
      have h0 : (qbf (qb2 f) c).2.getD [] = [] := by rw [ho]; rfl
      have hcap : qo 1 64 := capN (by omega)
      repeat' (first | refine qi ?_ | ((first | refine qm ?_ | refine qj ?_ | refine qh ?_ | refine qg ?_) <;> (try simp (disch := first | omega | (simp only [List.length_set, List.length_append, List.length_cons, List.length_nil]; done) | (simp only [List.length_set, List.length_append, List.length_cons, List.length_nil]; omega)) only [ho, Option.isSome_some, go_sem, ↓reduceIte, Nat.reduceEqDiff, Nat.reduceAdd, Nat.reduceSub, Nat.reduceMul, Nat.reduceLT, Nat.reduceLeDiff, reduceCtorEq, Int.reduceToNat])) | ((first | ((first | refine qe ?_ ?_ | refine qc ?_ ?_) <;> intro hc <;> (try simp only [hc]) <;> (try simp only [qb, qa, decide_eq_true_eq, decide_eq_false_iff_not, Bool.and_eq_true] at hc)) | refine And.intro (by first | assumption | omega | (have := qf (by assumption); omega) | (unfold qo; omega)) ?_ | simp (disch := omega) only [qd] | simp (disch := omega) only [qn] | refine qbu ?_ | refine qiy hP h0 ?_ | refine qb7 (qpz f _ g1 hr1) rfl ?_ | refine qrb ?_) <;> (try simp only [go_sem, ↓reduceIte, Nat.reduceEqDiff, Nat.reduceAdd, Nat.reduceSub, Nat.reduceMul, Nat.reduceLT, Nat.reduceLeDiff, reduceCtorEq, Int.reduceToNat])))
      rw [qo3]; rfl
    · have hcap : qo (l.length + 1) 64 := capN (by unfold rest at hlen; omega)
      repeat' (first | refine qi ?_ | ((first | refine qm ?_ | refine qj ?_ | refine qh ?_ | refine qg ?_) <;> (try simp (disch := first | omega | (simp only [List.length_set, List.length_append, List.length_cons, List.length_nil]; done) | (simp only [List.length_set, List.length_append, List.length_cons, List.length_nil]; omega)) only [ho, Option.isSome_some, go_sem, ↓reduceIte, Nat.reduceEqDiff, Nat.reduceAdd, Nat.reduceSub, Nat.reduceMul, Nat.reduceLT, Nat.reduceLeDiff, reduceCtorEq, Int.reduceToNat])) | ((first | ((first | refine qe ?_ ?_ | refine qc ?_ ?_) <;> intro hc <;> (try simp only [hc]) <;> (try simp only [qb, qa, decide_eq_true_eq, decide_eq_false_iff_not, Bool.and_eq_true] at hc)) | refine And.intro (by first | assumption | omega | (have := qf (by assumption); omega) | (unfold qo; omega)) ?_ | simp (disch := omega) only [qd] | simp (disch := omega) only [qn] | refine qbu ?_ | refine qmw hP ho h0 ?_ | refine qb7 (qpz f _ g1 hr1) rfl ?_ | refine qmq ?_) <;> (try simp only [go_sem, ↓reduceIte, Nat.reduceEqDiff, Nat.reduceAdd, Nat.reduceSub, Nat.reduceMul, Nat.reduceLT, Nat.reduceLeDiff, reduceCtorEq, Int.reduceToNat])))
      rw [qo3]; rfl

/-! The size of what is read. -/
theorem qej : ∀ (a b : List N), szs (a ++ b) = szs a + szs b
  | [], b => by simp [szs]
  | x :: a, b => by rw [List.cons_append, szs, szs, qej a b]; omega
theorem qrh (c : K) (k : Int) (ks : List N) : sz (qjk c k ks) = szs ks + 1 := by rw [qgw]; rfl
section
variable {rec : K → K × Option N} (hm : ∀ c, Mon c (rec c).1) (ih : ∀ c n, (rec c).2 = some n → sz n + rest (rec c).1 ≤ rest c)
include hm ih
omit hm in
theorem qgy {c : K} {n : N} (h : (qb6 rec c).2 = some n) : sz n + rest (qb6 rec c).1 ≤ rest c := by
  unfold qb6 at h ⊢
  split at h
  · rename_i h1
    rw [if_pos h1]
    cases h
    have := qbm (c := c) (by omega)
    rw [qrh]; simp only [szs]; omega
  · rename_i h1
    rw [if_neg h1]
    split at h
    · rename_i h2
      rw [if_pos h2]
      cases h
      have := qbm (c := c) (by omega)
      rw [qrh]; simp only [szs]; omega
    · rename_i h2
      rw [if_neg h2]
      split at h
      · rename_i h3
        rw [if_pos h3]
        split at h
        · rename_i h4
          rw [if_pos h4]
          have hp := qbm (c := (qp c).1) (by rw [qdo h4]; exact qdm h3)
          have h0 := (qbb c).2.1
          split at h
          · rename_i h5
            rw [if_pos h5]
            simp only at h ⊢
            split at h
            · have h6 := ih _ _ h
              have h7 := (qt (rec (qbg (qp c).1)).1 [41]).2.1
              have h8 := (qb1 (qx (rec (qbg (qp c).1)).1 [41]).1).2.1
              omega
            · cases h
          · cases h
        · cases h
      · cases h
omit hm in
theorem qmg : ∀ (f : Nat) (c : K) (acc l : List N), (qd6 rec f c acc).2 = some l → szs l + rest (qd6 rec f c acc).1 ≤ szs acc + rest c
  | 0, c, acc, l => fun h => by cases h
  | f + 1, c, acc, l => fun h => by
    rw [qd6] at h ⊢
    split at h
    · rename_i h1
      rw [if_pos h1]
      split at h
      · rename_i h2
        rw [if_pos h2]
        obtain ⟨n, hn⟩ := Option.isSome_iff_exists.1 h2
        have h3 := qmg f _ _ _ h
        have h4 := qgy ih hn
        rw [qej, hn] at h3
        simp only [Option.getD_some, szs] at h3
        rw [hn]
        simp only [Option.getD_some]
        omega
      · cases h
    · rename_i h1
      rw [if_neg h1]
      cases h
      exact Nat.le_refl _
omit hm in
theorem qp5 {c : K} {n : N} (h : (qcd rec c).2 = some n) : sz n + rest (qcd rec c).1 ≤ rest c := by
  unfold qcd at h ⊢
  split at h
  · rename_i h1
    rw [if_pos h1]
    obtain ⟨l, hl, rfl⟩ := Option.map_eq_some_iff.1 h
    have h2 := qmg ih _ _ _ _ hl
    have h3 := qbm (c := c) (by omega)
    rw [qrh]
    simp only [szs] at h2 ⊢
    omega
  · rename_i h1
    rw [if_neg h1]
    exact qgy ih h
omit hm in
theorem qup {c : K} {n : N} (h : (qbt rec c).2 = some n) : sz n + rest (qbt rec c).1 ≤ rest c := by
  unfold qbt at h ⊢
  split at h
  · rename_i h1
    rw [if_pos h1]
    obtain ⟨m, hk, rfl⟩ := Option.map_eq_some_iff.1 h
    have h2 := qgy ih hk
    obtain ⟨e1, e2⟩ := qjv h1
    rw [(qqs h1).1] at h2 ⊢
    have h3 := qbm (c := c) (by omega)
    have : sz (qpd (qhc c 2) m) = sz m + 1 := by rw [qgw]; simp [qpd, N.kids, szs]
    simp only at h2 ⊢
    omega
  · cases h
omit hm in
theorem qkn (many : Bool) : ∀ (f : Nat) (c : K) (acc l : List N), (qfj rec many f c acc).2 = some l → szs l + rest (qfj rec many f c acc).1 ≤ szs acc + rest c
  | 0, c, acc, l => fun h => by cases h
  | f + 1, c, acc, l => fun h => by
    rw [qfj] at h ⊢
    split at h
    · rename_i h1
      rw [if_pos h1]
      obtain ⟨n, hn⟩ := Option.isSome_iff_exists.1 h1
      have h4 := qup ih hn
      split at h
      · rename_i h2
        rw [if_pos h2]
        have h3 := qkn many f _ _ _ h
        have h5 := (q8 (qbt rec c).1 [44]).2.1
        rw [qej, hn] at h3
        simp only [Option.getD_some, szs] at h3
        rw [hn]
        simp only [Option.getD_some]
        omega
      · rename_i h2
        rw [if_neg h2]
        cases h
        rw [hn, qej]
        simp only [Option.getD_some, szs]
        omega
    · cases h
end
theorem qii : ∀ (f : Nat) (c : K) (n : N), (qb2 f c).2 = some n → sz n + rest (qb2 f c).1 ≤ rest c
  | 0, _, _ => fun h => by cases h
  | f + 1, c, n => fun h => by
    have ih := qii f
    have h0 := (qbb c).2.1
    rw [qb2] at h ⊢
    split at h
    · rename_i h1
      rw [if_pos h1]
      split at h
      · rename_i h2
        rw [if_pos h2]
        obtain ⟨m, hm⟩ := Option.isSome_iff_exists.1 h2
        have h3 := qp5 ih hm
        split at h
        · rename_i h4
          rw [if_pos h4]
          obtain ⟨q, hq, rfl⟩ := Option.map_eq_some_iff.1 h
          have h5 := ih _ _ hq
          have h6 := (qb1 (qb2 f (qw (qcd (qb2 f) (qp c).1).1 [45, 62]).1).1).2.1
          have h7 : rest (qw (qcd (qb2 f) (qp c).1).1 [45, 62]).1 + 1 ≤ rest (qcd (qb2 f) (qp c).1).1 := by
            unfold qw at h4 ⊢
            split at h4
            · rename_i h8
              rw [if_pos h8]
              have := qbm (qdm h8)
              simp only; omega
            · cases h4
          have : sz (qih ((qcd (qb2 f) (qp c).1).2.getD N0) q) = sz m + sz q + 1 := by rw [qgw, hm]; simp [qih, N.kids, szs]
          simp only
          omega
        · rename_i h4
          rw [if_neg h4]
          have h5 := (qb1 (qcd (qb2 f) (qp c).1).1).2.1
          have h6 := qp5 ih h
          simp only
          omega
      · cases h
    · cases h
theorem quc {f : Nat} {c : K} {n : N} (h : (qe3 f c).2 = some n) : sz n + rest (qe3 f c).1 ≤ rest c + 1 := by
  unfold qe3 at h ⊢
  split at h
  · rename_i h1
    rw [if_pos h1]
    obtain ⟨l, hl⟩ := Option.isSome_iff_exists.1 h1
    obtain ⟨q, hq, rfl⟩ := Option.map_eq_some_iff.1 h
    have h2 := qii f _ _ hq
    rw [hl]
    have h3 : szs l + rest (qbf (qb2 f) c).1 ≤ rest c := by
      have hx := hl
      unfold qbf at hx ⊢
      split at hx
      · rename_i ha
        rw [if_pos ha]
        have h5 := qhn hx
        have h6 : szs l + rest (qfq (qb2 f) c).1 ≤ rest c := by
          unfold qfq at h5 ⊢
          have ht := (q8 c [40]).2.1
          split at h5
          · rename_i hb
            rw [if_pos hb]
            cases h5
            simp only [szs]; omega
          · rename_i hb
            rw [if_neg hb]
            have := qkn (qii f) _ _ _ _ _ h5
            simp only [szs] at this
            omega
        have h7 : rest (qe1 (qw c [40]).2 (qfq (qb2 f) c)).1 ≤ rest (qfq (qb2 f) c).1 := by
          unfold qe1
          split
          · split
            · split
              · exact Nat.le_trans (qt _ _).2.1 (qt _ _).2.1
              · exact (qt _ _).2.1
            · exact (qt _ _).2.1
          · exact Nat.le_refl _
        omega
      · rename_i ha
        rw [if_neg ha]
        simp only at hx ⊢
        split at hx
        · cases hx
        · cases hx; simp only [szs]; omega
    have : sz (qnr (qba c).pos l q) = szs l + sz q + 1 := by rw [qgw]; simp [qnr, N.kids, qej, szs]
    simp only [Option.getD_some]
    omega
  · cases h
theorem qy6 {l : List T} (h : l.length ≤ 1048577) : (newK l).good := ⟨Nat.zero_le _, Nat.le_trans (qix l) h, Nat.zero_le _⟩

/-- What is all there is. -/
def qzl (c : K) (n : N) : N × Int × Int :=
  if (qek c).2 = 0 then if depR n > 100 then (N0, n.pos, 2) else (n, 0, 0) else (N0, (qek c).1, (qek c).2)
def qvz (rd : K → K × Option N) (s : List UInt8) : N × Int × Int :=
  if (lexV s).2.2 = 0 then qzl (rd (newK (lexV s).1)).1 ((rd (newK (lexV s).1)).2.getD N0)
  else (N0, (lexV s).2.1, (lexV s).2.2)
def resV (r : N × Int × Int) : AV := .tup [enc r.1, .int .i64 r.2.1, .int .i64 r.2.2]
attribute [go_sem] resV lexR
theorem qhq (f : Nat) (c : K) : Mon c (qe3 f c).1 := by
  have hm := qcv f
  unfold qe3
  split
  · exact (qeg hm c).trans (hm _)
  · exact qeg hm c
set_option maxRecDepth 4000

/-! Patterns. -/
def qlx (c : K) : Option N :=
  if (qba c).kind = 1 then some (.mk 11 (qba c).pos 0 (qba c).text [])
  else if (qba c).kind = 2 then some (.mk 14 (qba c).pos 0 (qba c).text [])
  else if (qba c).kind = 3 then some (.mk 13 (qba c).pos (qba c).num [] [])
  else if isK c [95] = true then some (.mk 12 (qba c).pos 0 [] [])
  else none
def begP (c : K) : Bool := (qlx c).isSome || isK c [40]
def qbx (rec : K → K × Option N) (c : K) : K × Option N :=
  if (qlx c).isSome = true then (qbg c, qlx c)
  else if isK c [40] = true then
    if (qp c).2 = true then
      if (rec (qbg (qp c).1)).2.isSome = true then
        if (qx (rec (qbg (qp c).1)).1 [41]).2 = true then (qdg (qx (rec (qbg (qp c).1)).1 [41]).1, (rec (qbg (qp c).1)).2)
        else ((qx (rec (qbg (qp c).1)).1 [41]).1, none)
      else ((rec (qbg (qp c).1)).1, none)
    else ((qp c).1, none)
  else (qea c 5, none)
def qhx (rec : K → K × Option N) : Nat → K → List N → K × Option (List N)
  | 0, c, acc => (c, none)
  | f + 1, c, acc =>
    if begP c = true then
      if (qbx rec c).2.isSome = true then qhx rec f (qbx rec c).1 (acc ++ [(qbx rec c).2.getD N0])
      else ((qbx rec c).1, none)
    else (c, some acc)
def qcq : Nat → K → K × Option N
  | 0, c => (c, none)
  | f + 1, c =>
    if (qp c).2 = true then
      if (qba (qp c).1).kind = 2 then
        (qdg (qhx (qcq f) (rest (qp c).1 + 1) (qbg (qp c).1) []).1, (qhx (qcq f) (rest (qp c).1 + 1) (qbg (qp c).1) []).2.map fun ks => .mk 14 (qba (qp c).1).pos 0 (qba (qp c).1).text ks)
      else (qdg (qbx (qcq f) (qp c).1).1, (qbx (qcq f) (qp c).1).2)
    else ((qp c).1, none)

theorem qpm {c : K} {n : N} (h : qlx c = some n) : (qba c).kind ≠ 0 := by
  unfold qlx at h
  split at h
  · omega
  · split at h
    · omega
    · split at h
      · omega
      · split at h
        · exact qdm (by assumption)
        · cases h
section
variable {rec : K → K × Option N} (hm : ∀ c, Mon c (rec c).1)
include hm
theorem qg7 (c : K) : Mon c (qbx rec c).1 := by
  unfold qbx
  split
  · exact qcj c
  · split
    · split
      · have h1 := ((qbb c).trans (qcj _)).trans (hm _)
        split
        · split
          · exact (h1.trans (qt _ _)).trans (qb1 _)
          · exact h1.trans (qt _ _)
        · exact h1
      · exact qbb c
    · exact qeb c 5
theorem qo1 {c : K} (h : (qbx rec c).2.isSome = true) : rest (qbx rec c).1 < rest c := by
  unfold qbx at h ⊢
  split at h
  · rename_i hl
    rw [if_pos hl]
    obtain ⟨n, hn⟩ := Option.isSome_iff_exists.1 hl
    have := qbm (qpm hn)
    simp only; omega
  · rename_i hl
    rw [if_neg hl]
    split at h
    · rename_i hk
      rw [if_pos hk]
      split at h
      · rename_i he
        rw [if_pos he]
        have hp := qbm (c := (qp c).1) (by rw [qdo he]; exact qdm hk)
        have h0 := (qbb c).2.1
        have h1 := (hm (qbg (qp c).1)).2.1
        split at h
        · rename_i hr
          rw [if_pos hr]
          have h2 := (qt (rec (qbg (qp c).1)).1 [41]).2.1
          split at h
          · rename_i hw
            rw [if_pos hw]
            have h3 := (qb1 (qx (rec (qbg (qp c).1)).1 [41]).1).2.1
            simp only; omega
          · cases h
        · cases h
      · cases h
    · cases h
theorem qnk : ∀ (f : Nat) (c : K) (acc : List N), Mon c (qhx rec f c acc).1
  | 0, c, acc => Mon.refl c
  | f + 1, c, acc => by
    rw [qhx]
    split
    · split
      · exact (qg7 hm c).trans (qnk f _ _)
      · exact qg7 hm c
    · exact Mon.refl c
end
theorem qe7 : ∀ (f : Nat) (c : K), Mon c (qcq f c).1
  | 0, c => Mon.refl c
  | f + 1, c => by
    rw [qcq]
    split
    · split
      · exact (((qbb c).trans (qcj _)).trans (qnk (qe7 f) _ _ _)).trans (qb1 _)
      · exact ((qbb c).trans (qg7 (qe7 f) _)).trans (qb1 _)
    · exact qbb c
theorem qwb (c : K) : qbz Try.prog 97 (curE c) (curE c) [.ptr 0 0] (resP (qlx c)) := by
  refine qs c0bn 1 (by simp) (by simp) ?_
  repeat' (first | refine qi ?_ | refine qk ?_ | ((first | refine qm ?_ | refine qcm (by rfl) ?_ | refine q9 ?_ | refine qj ?_ | refine qg ?_ | refine qbu ?_ | refine a_Is ?_ | ((first | refine qe ?_ ?_ | refine qc ?_ ?_) <;> intro hc <;> (try simp only [hc]) <;> (try simp only [qb, qa, decide_eq_true_eq, decide_eq_false_iff_not, Bool.and_eq_true] at hc)) | refine And.intro (by first | assumption | omega | (have := qf (by assumption); omega) | (unfold qo; omega)) ?_ | simp (disch := omega) only [qd] | simp (disch := omega) only [qn]) <;> (try simp only [go_sem, ↓reduceIte, Nat.reduceEqDiff, Nat.reduceAdd, Nat.reduceSub, Nat.reduceMul, Nat.reduceLT, Nat.reduceLeDiff, reduceCtorEq, Int.reduceToNat])))
  all_goals (unfold qlx; simp_all [enc, encs, N0])
theorem qzn {c : K} {L : List Ent} {Q : List Ent → VO → Prop} (hq : Q (curE c :: L) (.val (resP (qlx c)))) : VApp Try.prog (curE c :: L) (.fn 97 [] []) [.ptr 0 0] Q := qb7 (qwb c) rfl hq
theorem qri (c : K) : qbz Try.prog 96 (curE c) (curE c) [.ptr 0 0] (.bool (begP c)) := by
  refine qs c0bo 1 (by simp) (by simp) ?_
  repeat' (first | refine qi ?_ | ((first | refine qm ?_ | refine qj ?_ | refine qzn ?_ | refine a_Is ?_ | ((first | refine qe ?_ ?_ | refine qc ?_ ?_) <;> intro hc <;> (try simp only [hc]) <;> (try simp only [qb, qa, decide_eq_true_eq, decide_eq_false_iff_not, Bool.and_eq_true] at hc)) | refine And.intro (by first | assumption | omega | (have := qf (by assumption); omega) | (unfold qo; omega)) ?_ | simp (disch := omega) only [qd] | simp (disch := omega) only [qn]) <;> (try simp only [go_sem, ↓reduceIte, Nat.reduceEqDiff, Nat.reduceAdd, Nat.reduceSub, Nat.reduceMul, Nat.reduceLT, Nat.reduceLeDiff, reduceCtorEq, Int.reduceToNat])))
  all_goals (unfold begP; simp_all)
theorem q5j {c : K} {L : List Ent} {Q : List Ent → VO → Prop} (hq : Q (curE c :: L) (.val (.bool (begP c)))) : VApp Try.prog (curE c :: L) (.fn 96 [] []) [.ptr 0 0] Q := qbv (qri c) (q7 _ _) (q7 _ _) rfl rfl fun _ => hq
theorem qk8 {rec : K → K × Option N} {b : Nat} (hm : ∀ c, Mon c (rec c).1) (ih : ∀ c, c.good → rest c < b → qbz Try.prog 91 (curE c) (curE (rec c).1) [.ptr 0 0] (resP (rec c).2)) (c : K) (hg : c.good) (hr : rest c ≤ b) :
    qbz Try.prog 95 (curE c) (curE (qbx rec c).1) [.ptr 0 0] (resP (qbx rec c).2) := by
  have g1 : (qp c).1.good := (qbb c).1 hg
  have g2 : (qbg (qp c).1).good := (qcj _).1 g1
  have g3 : (rec (qbg (qp c).1)).1.good := (hm _).1 g2
  have g4 : (qx (rec (qbg (qp c).1)).1 [41]).1.good := (qt _ _).1 g3
  have hrr : isK c [40] = true → (qp c).2 = true → rest (qbg (qp c).1) < b := fun h1 h2 => by
    have := qbm (c := (qp c).1) (by rw [qdo h2]; exact qdm h1)
    have := (qbb c).2.1
    omega
  refine qs c0bp 1 (by simp) (by simp) ?_
  repeat' (first | refine qi ?_ | ((first | refine qm ?_ | refine qj ?_ | refine qh ?_ | refine qg ?_ | refine qzn ?_ | refine a_Is ?_ | refine qmx ?_ | refine qfp ?_ | refine qgq hg.ok ?_ | refine qgq g1.ok ?_ | refine qb7 (ih _ g2 (hrr (by assumption) (by assumption))) rfl ?_ | refine qb0 g3.ok ?_ | refine qd3 g4.2.2 ?_ | ((first | refine qe ?_ ?_ | refine qc ?_ ?_) <;> intro hc <;> (try simp only [hc]) <;> (try simp only [qb, qa, decide_eq_true_eq, decide_eq_false_iff_not, Bool.and_eq_true] at hc)) | refine And.intro (by first | assumption | omega | (have := qf (by assumption); omega) | (unfold qo; omega)) ?_ | simp (disch := omega) only [qd] | simp (disch := omega) only [qn]) <;> (try simp only [go_sem, ↓reduceIte, Nat.reduceEqDiff, Nat.reduceAdd, Nat.reduceSub, Nat.reduceMul, Nat.reduceLT, Nat.reduceLeDiff, reduceCtorEq, Int.reduceToNat])))
  all_goals (unfold qbx; simp only [*, qdf, Int.reduceEq, if_true, if_false, reduceIte, Bool.false_eq_true, Option.getD_none, Option.getD_some, Option.isSome_none, Option.isSome_some, and_self, true_and, and_true]; try rfl)
/-- The name's node, as it is made. -/
def conZ (c : K) : AV := .tup [.agg [.int .i64 14, .int .i64 (qba c).pos, .int .i64 0, .str (qba c).text, .nils], .bool true]
attribute [go_sem] conZ
theorem qxd (k : Nat) (c : K) : (conZ c).bd k = true := rfl
theorem qum (c : K) (hc : (qba c).kind = 2) : qbz Try.prog 97 (curE c) (curE c) [.ptr 0 0] (conZ c) := by
  refine qc7 c0bn 1 (by simp) (by simp) ?_
  repeat' (first | refine qi ?_ | refine qk ?_ | ((first | refine qm ?_ | refine qcm (by rfl) ?_ | refine q9 ?_ | refine qj ?_ | refine qg ?_) <;> (try simp (disch := first | omega | (simp only [List.length_set, List.length_append, List.length_cons, List.length_nil]; done) | (simp only [List.length_set, List.length_append, List.length_cons, List.length_nil]; omega)) only [hc, Int.reduceEq, go_sem, ↓reduceIte, Nat.reduceEqDiff, Nat.reduceAdd, Nat.reduceSub, Nat.reduceMul, Nat.reduceLT, Nat.reduceLeDiff, reduceCtorEq, Int.reduceToNat])) | ((first | ((first | refine qe ?_ ?_ | refine qc ?_ ?_) <;> intro hc <;> (try simp only [hc]) <;> (try simp only [qb, qa, decide_eq_true_eq, decide_eq_false_iff_not, Bool.and_eq_true] at hc)) | refine And.intro (by first | assumption | omega | (have := qf (by assumption); omega) | (unfold qo; omega)) ?_ | simp (disch := omega) only [qd] | simp (disch := omega) only [qn] | refine qbu ?_ | refine a_Is ?_) <;> (try simp only [go_sem, ↓reduceIte, Nat.reduceEqDiff, Nat.reduceAdd, Nat.reduceSub, Nat.reduceMul, Nat.reduceLT, Nat.reduceLeDiff, reduceCtorEq, Int.reduceToNat])))
theorem quw (c : K) (hg : c.good) (hc : (qba c).kind = 2) : qbz Try.prog 95 (curE c) (curE (qbg c)) [.ptr 0 0] (conZ c) := by
  refine qc7 c0bp 1 (by simp) (by simp) ?_
  repeat' (first | refine qi ?_ | ((first | refine qm ?_ | refine qj ?_ | refine qh ?_ | refine qg ?_) <;> (try simp (disch := first | omega | (simp only [List.length_set, List.length_append, List.length_cons, List.length_nil]; done) | (simp only [List.length_set, List.length_append, List.length_cons, List.length_nil]; omega)) only [hc, go_sem, ↓reduceIte, Nat.reduceEqDiff, Nat.reduceAdd, Nat.reduceSub, Nat.reduceMul, Nat.reduceLT, Nat.reduceLeDiff, reduceCtorEq, Int.reduceToNat])) | ((first | ((first | refine qe ?_ ?_ | refine qc ?_ ?_) <;> intro hc <;> (try simp only [hc]) <;> (try simp only [qb, qa, decide_eq_true_eq, decide_eq_false_iff_not, Bool.and_eq_true] at hc)) | refine And.intro (by first | assumption | omega | (have := qf (by assumption); omega) | (unfold qo; omega)) ?_ | simp (disch := omega) only [qd] | simp (disch := omega) only [qn] | refine qbv (qum c hc) (q7 _ _) (q7 _ _) rfl (qxd _ _) fun _ => ?_ | refine qgq hg.ok ?_) <;> (try simp only [go_sem, ↓reduceIte, Nat.reduceEqDiff, Nat.reduceAdd, Nat.reduceSub, Nat.reduceMul, Nat.reduceLT, Nat.reduceLeDiff, reduceCtorEq, Int.reduceToNat])))
def qvs (p : Int) (t : List UInt8) (x : Bool × Nat × K × List N) : AF × List Ent :=
  (⟨[(0, .ptr 0 0), (2, .ptr 1 0), (4, .bool true), (5, .ptr 2 0), (6, .bool x.1)], []⟩,
    curE x.2.2.1 :: .blk [.int .i64 0, .int .i64 0, .int .i64 0, .str [], .nils] :: .blk [.int .i64 14, .int .i64 p, .int .i64 0, .str t, accV 3 (encs x.2.2.2)] :: accE 5 (encs x.2.2.2))
theorem qp7 {f : Nat} (ih : ∀ c, c.good → rest c < f → qbz Try.prog 91 (curE c) (curE (qcq f c).1) [.ptr 0 0] (resP (qcq f c).2)) (c : K) (hg : c.good) (hr : rest c < f + 1) :
    qbz Try.prog 91 (curE c) (curE (qcq (f + 1) c).1) [.ptr 0 0] (resP (qcq (f + 1) c).2) := by
  have hm := qe7 f
  have g1 : (qp c).1.good := (qbb c).1 hg
  have hr1 : rest (qp c).1 ≤ f := by have := (qbb c).2.1; omega
  refine qs c0bq 1 (by simp) (by simp) ?_
  by_cases hk : (qp c).2 = true ∧ (qba (qp c).1).kind = 2
  · obtain ⟨hk1, hk2⟩ := hk
    have g2 : (qbg (qp c).1).good := (qcj _).1 g1
    have hpa : qcq (f + 1) c = (qdg (qhx (qcq f) (rest (qp c).1 + 1) (qbg (qp c).1) []).1, (qhx (qcq f) (rest (qp c).1 + 1) (qbg (qp c).1) []).2.map fun ks => .mk 14 (qba (qp c).1).pos 0 (qba (qp c).1).text ks) := by rw [qcq, if_pos hk1, if_pos hk2]
    rw [hpa]
    clear hpa
    generalize htg : qhx (qcq f) (rest (qp c).1 + 1) (qbg (qp c).1) [] = tg
    have hmt : Mon (qbg (qp c).1) tg.1 := htg ▸ qnk hm _ _ _
    have g3 : tg.1.good := hmt.1 g2
    repeat' (first | refine qi ?_ | refine qk ?_ | ((first | refine qm ?_ | refine qj ?_ | refine qr ?_ | refine qh ?_ | refine qg ?_) <;> (try simp (disch := first | omega | (simp only [List.length_set, List.length_append, List.length_cons, List.length_nil]; done) | (simp only [List.length_set, List.length_append, List.length_cons, List.length_nil]; omega)) only [hk1, hk2, Int.reduceEq, go_sem, ↓reduceIte, Nat.reduceEqDiff, Nat.reduceAdd, Nat.reduceSub, Nat.reduceMul, Nat.reduceLT, Nat.reduceLeDiff, reduceCtorEq, Int.reduceToNat])) | ((first | ((first | refine qe ?_ ?_ | refine qc ?_ ?_) <;> intro hc <;> (try simp only [hc]) <;> (try simp only [qb, qa, decide_eq_true_eq, decide_eq_false_iff_not, Bool.and_eq_true] at hc)) | refine And.intro (by first | assumption | omega | (have := qf (by assumption); omega) | (unfold qo; omega)) ?_ | simp (disch := omega) only [qd] | simp (disch := omega) only [qn] | refine qfp ?_ | refine qbu ?_ | refine qbv (quw _ g1 hk2) (q7 _ _) (q7 _ _) rfl (qxd _ _) fun _ => ?_) <;> (try simp only [go_sem, ↓reduceIte, Nat.reduceEqDiff, Nat.reduceAdd, Nat.reduceSub, Nat.reduceMul, Nat.reduceLT, Nat.reduceLeDiff, reduceCtorEq, Int.reduceToNat])))
    refine qcx (S := Bool × Nat × K × List N) (fun x => x.2.2.1.good ∧ rest x.2.2.1 ≤ f ∧ (x.1 = true → qhx (qcq f) x.2.1 x.2.2.1 x.2.2.2 = tg ∧ rest x.2.2.1 < x.2.1) ∧ (x.1 = false → tg = (x.2.2.1, none)) ∧ x.2.2.2.length + rest x.2.2.1 ≤ 1048577)
      (qvs (qba (qp c).1).pos (qba (qp c).1).text) (fun x => if x.1 = true then rest x.2.2.1 + 1 else 0) ?_ ?_
    · have hrn := (qcj (qp c).1).2.1
      refine qb5 (true, rest (qp c).1 + 1, qbg (qp c).1, []) [0, 1, 2] ⟨g2, by simp only; omega, fun _ => ⟨htg, by simp only; omega⟩, (by intro h; cases h), ?_⟩ rfl (by simp) ?_ ?_ ?_
      · have h9 := g2.rest
        unfold rest
        simp only [List.length_nil]
        omega
      all_goals simp only [qvs, encs, qbh, qbj]
      all_goals simp only [go_sem, ↓reduceIte, Nat.reduceEqDiff, Nat.reduceAdd, Nat.reduceSub, Nat.reduceMul, Nat.reduceLT, Nat.reduceLeDiff, reduceCtorEq, Int.reduceToNat]
    · rintro ⟨b, fu, d, acc⟩ ⟨i1, i2, i3, i4, i5⟩
      simp only at i1 i2 i3 i4 i5
      unfold qvs
      cases b with
      | false =>
        have i4 := i4 rfl
        subst i4
        repeat' (first | refine qi ?_ | refine qk ?_ | ((first | refine qm ?_ | refine qj ?_ | refine qr ?_ | refine qh ?_ | refine qg ?_ | refine qd3 i1.2.2 ?_ | ((first | refine qe ?_ ?_ | refine qc ?_ ?_) <;> intro hc <;> (try simp only [hc]) <;> (try simp only [qb, qa, decide_eq_true_eq, decide_eq_false_iff_not, Bool.and_eq_true] at hc)) | refine And.intro (by first | assumption | omega | (have := qf (by assumption); omega) | (unfold qo; omega)) ?_ | simp (disch := omega) only [qd] | simp (disch := omega) only [qn]) <;> (try simp only [go_sem, ↓reduceIte, Nat.reduceEqDiff, Nat.reduceAdd, Nat.reduceSub, Nat.reduceMul, Nat.reduceLT, Nat.reduceLeDiff, reduceCtorEq, Int.reduceToNat])))
        simp only [Option.map_none, Option.getD_none, Option.isSome_none, qdf]
      | true =>
        have i6 := (i3 rfl).2
        replace i3 := (i3 rfl).1
        clear i4
        obtain ⟨fu, rfl⟩ : ∃ k, fu = k + 1 := ⟨fu - 1, by omega⟩
        rw [qhx] at i3
        have hcap : qo (acc.length + 1) 64 := capN (by omega)
        have j1 : (qbx (qcq f) d).1.good := (qg7 hm d).1 i1
        have j2 : rest (qbx (qcq f) d).1 ≤ rest d := (qg7 hm d).2.1
        by_cases h0 : acc = []
        · subst h0
          simp only [encs, qbh, qbj]
          repeat' (first | refine qi ?_ | refine qk ?_ | ((first | refine qm ?_ | refine qj ?_ | refine qr ?_ | refine qh ?_ | refine qg ?_ | refine q5j ?_ | refine qb7 (qk8 hm ih _ i1 i2) rfl ?_ | refine qd3 i1.2.2 ?_ | ((first | refine qe ?_ ?_ | refine qc ?_ ?_) <;> intro hc <;> (try simp only [hc]) <;> (try simp only [qb, qa, decide_eq_true_eq, decide_eq_false_iff_not, Bool.and_eq_true] at hc)) | refine And.intro (by first | assumption | omega | (have := qf (by assumption); omega) | (unfold qo; omega)) ?_ | simp (disch := omega) only [qd] | simp (disch := omega) only [qn]) <;> (try simp only [go_sem, ↓reduceIte, Nat.reduceEqDiff, Nat.reduceAdd, Nat.reduceSub, Nat.reduceMul, Nat.reduceLT, Nat.reduceLeDiff, reduceCtorEq, Int.reduceToNat])))
          · have hb : begP d = true := by assumption
            have hs : (qbx (qcq f) d).2.isSome = true := by assumption
            rw [if_pos hb, if_pos hs] at i3
            have hlt := qo1 hm hs
            refine qb5 (true, fu, (qbx (qcq f) d).1, [] ++ [(qbx (qcq f) d).2.getD N0]) [0, 1, 2, 4] ⟨⟨j1, by simp only; omega, fun _ => ⟨i3, by simp only; omega⟩, (by intro h; cases h), ?_⟩, by simp only [if_true]; omega⟩ rfl (by simp) ?_ ?_ ?_
            · simp only [List.length_append, List.length_cons, List.length_nil]; omega
            all_goals simp only [← qq, qee, qed, List.nil_append, encs, qfe, qfl]
            all_goals simp only [go_sem, ↓reduceIte, Nat.reduceEqDiff, Nat.reduceAdd, Nat.reduceSub, Nat.reduceMul, Nat.reduceLT, Nat.reduceLeDiff, reduceCtorEq, Int.reduceToNat]
          · have hb : begP d = true := by assumption
            have hs : (qbx (qcq f) d).2.isSome = false := by assumption
            rw [if_pos hb, if_neg (by rw [hs]; simp)] at i3
            refine qb5 (false, 0, (qbx (qcq f) d).1, []) [0, 1, 2] ⟨⟨j1, by simp only; omega, (by intro h; cases h), fun _ => i3.symm, by simp only; omega⟩, by simp only [if_true, Bool.false_eq_true, if_false]; omega⟩ rfl (by simp) ?_ ?_ ?_
            all_goals simp only [encs, qbh, qbj]
            all_goals simp only [go_sem, ↓reduceIte, Nat.reduceEqDiff, Nat.reduceAdd, Nat.reduceSub, Nat.reduceMul, Nat.reduceLT, Nat.reduceLeDiff, reduceCtorEq, Int.reduceToNat]
          · have hb : begP d = false := by assumption
            rw [if_neg (by rw [hb]; simp)] at i3
            subst i3
            simp only [Option.map_some, Option.getD_some, Option.isSome_some, enc, encs, and_self]
        · have hne := qbc h0
          simp only [qbo hne, qbp hne, qbd]
          repeat' (first | refine qi ?_ | refine qk ?_ | ((first | refine qm ?_ | refine qj ?_ | refine qr ?_ | refine qh ?_ | refine qg ?_ | refine q5j ?_ | refine qb7 (qk8 hm ih _ i1 i2) rfl ?_ | refine qd3 i1.2.2 ?_ | ((first | refine qe ?_ ?_ | refine qc ?_ ?_) <;> intro hc <;> (try simp only [hc]) <;> (try simp only [qb, qa, decide_eq_true_eq, decide_eq_false_iff_not, Bool.and_eq_true] at hc)) | refine And.intro (by first | assumption | omega | (have := qf (by assumption); omega) | (unfold qo; omega)) ?_ | simp (disch := omega) only [qd] | simp (disch := omega) only [qn]) <;> (try simp only [go_sem, ↓reduceIte, Nat.reduceEqDiff, Nat.reduceAdd, Nat.reduceSub, Nat.reduceMul, Nat.reduceLT, Nat.reduceLeDiff, reduceCtorEq, Int.reduceToNat])))
          · have hb : begP d = true := by assumption
            have hs : (qbx (qcq f) d).2.isSome = true := by assumption
            rw [if_pos hb, if_pos hs] at i3
            have hlt := qo1 hm hs
            refine qb5 (true, fu, (qbx (qcq f) d).1, acc ++ [(qbx (qcq f) d).2.getD N0]) [0, 1, 2, 5] ⟨⟨j1, by simp only; omega, fun _ => ⟨i3, by simp only; omega⟩, (by intro h; cases h), ?_⟩, by simp only [if_true]; omega⟩ rfl (by simp) ?_ ?_ ?_
            · simp only [List.length_append, List.length_cons, List.length_nil]; omega
            all_goals simp only [← qq, qee, qed, List.nil_append, encs, qfe, qfl]
            all_goals simp only [go_sem, ↓reduceIte, Nat.reduceEqDiff, Nat.reduceAdd, Nat.reduceSub, Nat.reduceMul, Nat.reduceLT, Nat.reduceLeDiff, reduceCtorEq, Int.reduceToNat]
            rw [qq, q6, qbn]; exact ⟨rfl, rfl⟩
          · have hb : begP d = true := by assumption
            have hs : (qbx (qcq f) d).2.isSome = false := by assumption
            rw [if_pos hb, if_neg (by rw [hs]; simp)] at i3
            refine qb5 (false, 0, (qbx (qcq f) d).1, acc) [0, 1, 2, 3] ⟨⟨j1, by simp only; omega, (by intro h; cases h), fun _ => i3.symm, by simp only; omega⟩, by simp only [if_true, Bool.false_eq_true, if_false]; omega⟩ rfl (by simp) ?_ ?_ ?_
            all_goals simp only [qbo hne, qbp hne, qbd]
            all_goals simp only [go_sem, ↓reduceIte, Nat.reduceEqDiff, Nat.reduceAdd, Nat.reduceSub, Nat.reduceMul, Nat.reduceLT, Nat.reduceLeDiff, reduceCtorEq, Int.reduceToNat]
          · have hb : begP d = false := by assumption
            rw [if_neg (by rw [hb]; simp)] at i3
            subst i3
            simp only [Option.map_some, Option.getD_some, Option.isSome_some, enc, encs, and_self]
  · by_cases hk1 : (qp c).2 = true
    · have hk2 : ¬ (qba (qp c).1).kind = 2 := fun h => hk ⟨hk1, h⟩
      have j1 : (qbx (qcq f) (qp c).1).1.good := (qg7 hm _).1 g1
      have hpa : qcq (f + 1) c = (qdg (qbx (qcq f) (qp c).1).1, (qbx (qcq f) (qp c).1).2) := by rw [qcq, if_pos hk1, if_neg hk2]
      rw [hpa]
      clear hpa
      repeat' (first | refine qi ?_ | refine qk ?_ | ((first | refine qm ?_ | refine qj ?_ | refine qr ?_ | refine qh ?_ | refine qg ?_) <;> (try simp (disch := first | omega | (simp only [List.length_set, List.length_append, List.length_cons, List.length_nil]; done) | (simp only [List.length_set, List.length_append, List.length_cons, List.length_nil]; omega)) only [hk1, hk2, go_sem, ↓reduceIte, Nat.reduceEqDiff, Nat.reduceAdd, Nat.reduceSub, Nat.reduceMul, Nat.reduceLT, Nat.reduceLeDiff, reduceCtorEq, Int.reduceToNat])) | ((first | ((first | refine qe ?_ ?_ | refine qc ?_ ?_) <;> intro hc <;> (try simp only [hc]) <;> (try simp only [qb, qa, decide_eq_true_eq, decide_eq_false_iff_not, Bool.and_eq_true] at hc)) | refine And.intro (by first | assumption | omega | (have := qf (by assumption); omega) | (unfold qo; omega)) ?_ | simp (disch := omega) only [qd] | simp (disch := omega) only [qn] | refine qfp ?_ | refine qbu ?_ | refine qb7 (qk8 hm ih _ g1 hr1) rfl ?_) <;> (try simp only [go_sem, ↓reduceIte, Nat.reduceEqDiff, Nat.reduceAdd, Nat.reduceSub, Nat.reduceMul, Nat.reduceLT, Nat.reduceLeDiff, reduceCtorEq, Int.reduceToNat])))
      generalize hr' : qbx (qcq f) (qp c).1 = r at j1
      refine qcx (S := Unit) (fun _ => True) (fun _ => (⟨[(0, .ptr 0 0), (2, .ptr 1 0), (4, .bool false), (5, .ptr 2 0), (6, .bool r.2.isSome)], []⟩, [curE r.1, .blk [.int .i64 0, .int .i64 0, .int .i64 0, .str [], .nils], .blk (enc (r.2.getD N0)).cells])) (fun _ => 0) ?_ ?_
      · refine qb5 () [0, 1, 2] trivial rfl (by simp) ?_ ?_ ?_ <;> (try simp only [go_sem, ↓reduceIte, Nat.reduceEqDiff, Nat.reduceAdd, Nat.reduceSub, Nat.reduceMul, Nat.reduceLT, Nat.reduceLeDiff, reduceCtorEq, Int.reduceToNat]) <;> (try simp (disch := omega) only [qn])
      · intro _ _
        repeat' (first | refine qi ?_ | refine qk ?_ | ((first | refine qm ?_ | refine qj ?_ | refine qr ?_ | refine qh ?_ | refine qg ?_ | refine qd3 j1.2.2 ?_ | ((first | refine qe ?_ ?_ | refine qc ?_ ?_) <;> intro hc <;> (try simp only [hc]) <;> (try simp only [qb, qa, decide_eq_true_eq, decide_eq_false_iff_not, Bool.and_eq_true] at hc)) | refine And.intro (by first | assumption | omega | (have := qf (by assumption); omega) | (unfold qo; omega)) ?_ | simp (disch := omega) only [qd] | simp (disch := omega) only [qn]) <;> (try simp only [go_sem, ↓reduceIte, Nat.reduceEqDiff, Nat.reduceAdd, Nat.reduceSub, Nat.reduceMul, Nat.reduceLT, Nat.reduceLeDiff, reduceCtorEq, Int.reduceToNat])))
        have hs : r.2 = none := by
          have : r.2.isSome = false := by assumption
          revert this
          cases r.2 <;> simp
        rw [hs, qdf]; rfl
    · have hk1 : (qp c).2 = false := by simpa using hk1
      have hpa : qcq (f + 1) c = ((qp c).1, none) := by rw [qcq, if_neg (by rw [hk1]; simp)]
      rw [hpa]
      repeat' (first | refine qi ?_ | refine qk ?_ | ((first | refine qm ?_ | refine qj ?_ | refine qr ?_ | refine qh ?_ | refine qg ?_) <;> (try simp (disch := first | omega | (simp only [List.length_set, List.length_append, List.length_cons, List.length_nil]; done) | (simp only [List.length_set, List.length_append, List.length_cons, List.length_nil]; omega)) only [hk1, go_sem, ↓reduceIte, Nat.reduceEqDiff, Nat.reduceAdd, Nat.reduceSub, Nat.reduceMul, Nat.reduceLT, Nat.reduceLeDiff, reduceCtorEq, Int.reduceToNat])) | ((first | ((first | refine qe ?_ ?_ | refine qc ?_ ?_) <;> intro hc <;> (try simp only [hc]) <;> (try simp only [qb, qa, decide_eq_true_eq, decide_eq_false_iff_not, Bool.and_eq_true] at hc)) | refine And.intro (by first | assumption | omega | (have := qf (by assumption); omega) | (unfold qo; omega)) ?_ | simp (disch := omega) only [qd] | simp (disch := omega) only [qn] | refine qfp ?_) <;> (try simp only [go_sem, ↓reduceIte, Nat.reduceEqDiff, Nat.reduceAdd, Nat.reduceSub, Nat.reduceMul, Nat.reduceLT, Nat.reduceLeDiff, reduceCtorEq, Int.reduceToNat])))
      rw [qdf]; rfl
theorem qbed (f : Nat) : ∀ c : K, c.good → rest c < f → qbz Try.prog 91 (curE c) (curE (qcq f c).1) [.ptr 0 0] (resP (qcq f c).2) := by
  induction f with
  | zero => exact fun c _ h => absurd h (by omega)
  | succ f ih => exact qp7 ih
end Go.Proofs.Ytfjbmjplnmaclaa
