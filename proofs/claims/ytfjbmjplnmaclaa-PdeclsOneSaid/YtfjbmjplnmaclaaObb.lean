/- Texts of this proof, joined. -/
import Derived.Test.YtfjbmjplnmaclaaOay
import Derived.Test.YtfjbmjplnmaclaaOaz
import Derived.Test.YtfjbmjplnmaclaaOba

/- types: contexts: the program -/
set_option maxRecDepth 4000
namespace Go.Proofs.Ytfjbmjplnmaclaa
open Go Go.RowKit Go.V
set_option linter.unusedVariables false
set_option linter.unusedSimpArgs false

theorem qb8 (c : K) (k : Int) : Mon c (kindK c k).1 := by
  unfold kindK
  split
  · exact qb1 c
  · exact qd9 c 5
theorem qh4 {c : K} {k : Int} (h : (kindK c k).2 = true) : c.err = 0 ∧ (qw c).kind = k := by
  unfold kindK at h
  split at h
  · rename_i h1
    simp only [Bool.and_eq_true, decide_eq_true_eq] at h1
    exact h1
  · cases h
theorem qxr {c : K} {k : Int} (h : (kindK c k).2 = true) : kindK c k = (q7 c, true) ∧ qef c k = qw c := by
  obtain ⟨h1, h2⟩ := qh4 h
  exact ⟨ql6 h1 h2, qpx h1 h2⟩
theorem qlk {c : K} {k : Int} (h : (kindK c k).2 = false) : (kindK c k).1.err ≠ 0 := by
  unfold kindK at h ⊢
  split at h
  · cases h
  · rename_i h1; rw [if_neg h1]; exact qfn c
def failT (c : K) : Bool := !decide ((qgv c).2 = 0) && (!decide ((qgv c).2 = 5) || decide ((qw c).kind = 0))
theorem q1d (c : K) (hk : c.ok) : qcc Try.prog 61 (curE c) (curE c) [.ptr 0 0] (.bool (failT c)) := by
  refine qx c0u 1 (by simp) (by simp) ?_
  repeat' (first | refine qj ?_ | ((first | refine qn ?_ | refine qk ?_ | refine qbtk hk ?_ | refine qb4 ?_ | ((first | refine qe ?_ ?_ | refine qd ?_ ?_) <;> intro hc <;> (try simp only [hc]) <;> (try simp only [qb, qa, decide_eq_true_eq, decide_eq_false_iff_not, Bool.and_eq_true] at hc)) | refine And.intro (by first | assumption | omega | (have := qf (by assumption); omega) | (unfold qp; omega)) ?_ | simp (disch := omega) only [qc] | simp (disch := omega) only [qo]) <;> (try simp only [go_sem, ↓reduceIte, Nat.reduceEqDiff, Nat.reduceAdd, Nat.reduceSub, Nat.reduceMul, Nat.reduceLT, Nat.reduceLeDiff, reduceCtorEq, Int.reduceToNat])))
  all_goals (unfold failT; simp_all)
theorem qbji {c : K} {L : List Ent} {Q : List Ent → VO → Prop} (hk : c.ok) (hq : Q (curE c :: L) (.val (.bool (failT c)))) : VApp Try.prog (curE c :: L) (.fn 61 [] []) [.ptr 0 0] Q := qb9 (q1d c hk) (qbe _ _) (qbe _ _) rfl rfl fun _ => hq
def qtc (t : T) (n : N) : N := .mk 3 t.pos 0 t.text [n]
def qbi (rec : K → K × Option N) (c : K) : K × Option N :=
  if (kindK c 2).2 = true then ((qbo rec (kindK c 2).1).1, (qbo rec (kindK c 2).1).2.map (qtc (qef c 2)))
  else ((kindK c 2).1, none)
theorem q2o {c : K} {L : List Ent} {t : T} {n : N} {b : Bool} {Q : List Ent → VO → Prop} (hq : Q (curE c :: L) (.val (resP (qmj (qtc t n) b)))) :
    VApp Try.prog (curE c :: L) (.fn 56 [] []) [.ptr 0 0, .agg [.int .i64 3, .int .i64 t.pos, .int .i64 0, .str t.text, .sl 5 [enc n]], .bool b] Q := by
  have h := qt6 (n := qtc t n) hq
  simpa only [qtc, enc, encs] using h
theorem q33 {r : Option N} {t : T} : qmj (qtc t (r.getD N0)) r.isSome = r.map (qtc t) := qtv
section
variable {rec : K → K × Option N} {b : Nat} (hm : ∀ c, Mon c (rec c).1) (ih : ∀ c, c.good → rest c < b → qcc Try.prog 54 (curE c) (curE (rec c).1) [.ptr 0 0] (resP (rec c).2))
include hm ih
theorem qns (c : K) (hg : c.good) (hr : rest c ≤ b) : qcc Try.prog 62 (curE c) (curE (qbi rec c).1) [.ptr 0 0] (resP (qbi rec c).2) := by
  have g1 : (kindK c 2).1.good := (qb8 c 2).1 hg
  have hr1 : rest (kindK c 2).1 ≤ b := by have := (qb8 c 2).2.1; omega
  refine qx c0v 1 (by simp) (by simp) ?_
  repeat' (first | refine qj ?_ | ((first | refine qn ?_ | refine qk ?_ | refine qh ?_ | refine qg ?_ | refine qc5 hg.ok ?_ | refine qcp (qhn hm ih _ g1 hr1) rfl ?_ | refine q2o ?_ | ((first | refine qe ?_ ?_ | refine qd ?_ ?_) <;> intro hc <;> (try simp only [hc]) <;> (try simp only [qb, qa, decide_eq_true_eq, decide_eq_false_iff_not, Bool.and_eq_true] at hc)) | refine And.intro (by first | assumption | omega | (have := qf (by assumption); omega) | (unfold qp; omega)) ?_ | simp (disch := omega) only [qc] | simp (disch := omega) only [qo]) <;> (try simp only [go_sem, ↓reduceIte, Nat.reduceEqDiff, Nat.reduceAdd, Nat.reduceSub, Nat.reduceMul, Nat.reduceLT, Nat.reduceLeDiff, reduceCtorEq, Int.reduceToNat])))
  all_goals (try simp only [q33])
  all_goals (unfold qbi; simp only [*, qd2, Int.reduceEq, if_true, if_false, reduceIte, Bool.false_eq_true, Option.getD_none, Option.getD_some, Option.isSome_none, Option.isSome_some, and_self, true_and, and_true]; try rfl)
end
set_option maxRecDepth 4000

def qd7 (rec : K → K × Option N) (many : Bool) : Nat → K → List N → K × Option (List N)
  | 0, c, _ => (c, none)
  | f + 1, c, acc =>
    if (qbi rec c).2.isSome = true then
      if (many && (qs (qbi rec c).1 [44]).2) = true then qd7 rec many f (qs (qbi rec c).1 [44]).1 (acc ++ [(qbi rec c).2.getD N0])
      else ((qbi rec c).1, some (acc ++ [(qbi rec c).2.getD N0]))
    else ((qbi rec c).1, none)
def qej (many : Bool) (r : K × Option (List N)) : K × Option (List N) :=
  if r.2.isSome = true then
    if many = true then
      if (qq r.1 [41]).2 = true then ((qq (qq r.1 [41]).1 [61, 62]).1, if (qq (qq r.1 [41]).1 [61, 62]).2 = true then r.2 else none)
      else ((qq r.1 [41]).1, none)
    else ((qq r.1 [61, 62]).1, if (qq r.1 [61, 62]).2 = true then r.2 else none)
  else (r.1, none)
def qe9 (rec : K → K × Option N) (c : K) : K × Option (List N) :=
  if ((qs c [40]).2 && isK (qs c [40]).1 [41]) = true then ((qs c [40]).1, some []) else qd7 rec (qs c [40]).2 (rest (qs c [40]).1 + 1) (qs c [40]).1 []
def q9 (rec : K → K × Option N) (c : K) : K × Option (List N) :=
  if qhl c [61, 62] = true then qej (qs c [40]).2 (qe9 rec c)
  else (c, if failT c = true then none else some [])
section
variable {rec : K → K × Option N} (hm : ∀ c, Mon c (rec c).1)
include hm
theorem qgt (c : K) : Mon c (qbi rec c).1 := by
  unfold qbi
  split
  · exact (qb8 c 2).trans (qea hm _)
  · exact qb8 c 2
theorem qix {c : K} (h : (qbi rec c).2.isSome = true) : rest (qbi rec c).1 < rest c := by
  unfold qbi at h ⊢
  split at h
  · rename_i h1
    rw [if_pos h1]
    have h2 := (qb8 c 2).2.1
    have h3 := qdv hm (c := (kindK c 2).1) (by simpa using h)
    simp only; omega
  · cases h
theorem qre (many : Bool) : ∀ (f : Nat) (c : K) (acc : List N), Mon c (qd7 rec many f c acc).1
  | 0, c, acc => Mon.refl c
  | f + 1, c, acc => by
    rw [qd7]
    split
    · split
      · exact ((qgt hm c).trans (qz _ _)).trans (qre many f _ _)
      · exact qgt hm c
    · exact qgt hm c
theorem q1u (c : K) : Mon c (qe9 rec c).1 := by
  unfold qe9
  split
  · exact qz c _
  · exact (qz c _).trans (qre hm _ _ _ _)
theorem qew (c : K) : Mon c (q9 rec c).1 := by
  unfold q9 qej
  have h := q1u hm c
  split
  · split
    · split
      · split
        · exact (h.trans (qr _ _)).trans (qr _ _)
        · exact h.trans (qr _ _)
      · exact h.trans (qr _ _)
    · exact h
  · exact Mon.refl c
end
def qto (p : Nat) (r : Option (List N)) : AV := .tup [accV p (encs (r.getD [])), .bool r.isSome]
def qhs (rec : K → K × Option N) (c : K) : Prop := VCalls Try.prog 42 [curE c] [.ptr 0 0] fun H' o => H' = curE (q9 rec c).1 :: accE 5 (encs ((q9 rec c).2.getD [])) ∧ o = .val (qto 1 (q9 rec c).2)
def q3j (many : Bool) (x : Bool × Nat × K × List N) : AF × List Ent :=
  (⟨[(0, .ptr 0 0), (4, accV 1 (encs x.2.2.2)), (5, .bool many), (6, .bool x.1)], []⟩, curE x.2.2.1 :: accE 5 (encs x.2.2.2))
section
variable {rec : K → K × Option N} {b : Nat} (hm : ∀ c, Mon c (rec c).1) (ih : ∀ c, c.good → rest c < b → qcc Try.prog 54 (curE c) (curE (rec c).1) [.ptr 0 0] (resP (rec c).2))
include hm ih
theorem qof (c : K) (hg : c.good) (hr : rest c ≤ b) : qhs rec c := by
  unfold qhs
  obtain ⟨kk, hk1, hk2, hk0⟩ : ∃ k : Nat, ((q9 rec c).2.getD [] = [] → k = 1) ∧ ((q9 rec c).2.getD [] ≠ [] → k = 2) ∧ 1 ≤ k := by
    by_cases h : (q9 rec c).2.getD [] = []
    · exact ⟨1, fun _ => rfl, fun g => absurd h g, by omega⟩
    · exact ⟨2, fun g => absurd g h, fun _ => rfl, by omega⟩
  refine qdm c0t kk (by simpa using hk0) (by simp) ?_
  have g1 : (qs c [40]).1.good := (qz c _).1 hg
  have hr1 : rest (qs c [40]).1 ≤ b := by have := (qz c [40]).2.1; omega
  by_cases ha : qhl c [61, 62] = true
  · have hpa : q9 rec c = qej (qs c [40]).2 (qe9 rec c) := by rw [q9, if_pos ha]
    rw [hpa] at hk1 hk2 ⊢
    clear hpa
    unfold qe9 at hk1 hk2 ⊢
    generalize htg : (if ((qs c [40]).2 && isK (qs c [40]).1 [41]) = true then ((qs c [40]).1, some []) else qd7 rec (qs c [40]).2 (rest (qs c [40]).1 + 1) (qs c [40]).1 []) = tg at hk1 hk2 ⊢
    generalize hd0 : (qs c [40]).1 = d0 at *
    generalize hmn : (qs c [40]).2 = many at *
    have h0t : (!(many && isK d0 [41])) = true → qd7 rec many (rest d0 + 1) d0 [] = tg := fun h => by
      rw [Bool.not_eq_true'] at h
      rw [← htg, if_neg (by rw [h]; simp)]
    have h0f : (!(many && isK d0 [41])) = false → tg = (d0, some []) := fun h => by
      rw [Bool.not_eq_false'] at h
      rw [← htg, if_pos h]
    clear htg
    obtain ⟨mm, hmm⟩ : ∃ mm, mm = many := ⟨_, rfl⟩
    cases many <;> (
      repeat' (first | refine qj ?_ | refine ql ?_ | ((first | refine qn ?_ | refine qk ?_ | refine qu ?_ | refine qh ?_ | refine qg ?_) <;> (try simp (disch := first | omega | (simp only [List.length_set, List.length_append, List.length_cons, List.length_nil]; done) | (simp only [List.length_set, List.length_append, List.length_cons, List.length_nil]; omega)) only [ha, hd0, hmn, go_sem, ↓reduceIte, Nat.reduceEqDiff, Nat.reduceAdd, Nat.reduceSub, Nat.reduceMul, Nat.reduceLT, Nat.reduceLeDiff, reduceCtorEq, Int.reduceToNat])) | ((first | ((first | refine qe ?_ ?_ | refine qd ?_ ?_) <;> intro hc <;> (try simp only [hc]) <;> (try simp only [qb, qa, decide_eq_true_eq, decide_eq_false_iff_not, Bool.and_eq_true] at hc)) | refine And.intro (by first | assumption | omega | (have := qf (by assumption); omega) | (unfold qp; omega)) ?_ | simp (disch := omega) only [qc] | simp (disch := omega) only [qo] | refine q3c hg.ok hg.2.1 ?_ | refine qd5 hg.ok ?_ | refine a_Is ?_) <;> (try simp only [go_sem, ↓reduceIte, Nat.reduceEqDiff, Nat.reduceAdd, Nat.reduceSub, Nat.reduceMul, Nat.reduceLT, Nat.reduceLeDiff, reduceCtorEq, Int.reduceToNat])))
      refine qcy (S := Bool × Nat × K × List N) (fun x => x.2.2.1.good ∧ rest x.2.2.1 ≤ b ∧ (x.1 = true → qd7 rec mm x.2.1 x.2.2.1 x.2.2.2 = tg ∧ rest x.2.2.1 < x.2.1) ∧ (x.1 = false → tg = (x.2.2.1, some x.2.2.2)) ∧ x.2.2.2.length + rest x.2.2.1 ≤ 1048577)
        (q3j mm) (fun x => if x.1 = true then rest x.2.2.1 + 1 else 0) ?_ ?_
      · refine qcd (!(mm && isK d0 [41]), rest d0 + 1, d0, []) [0] ⟨g1, hr1, fun h => ⟨by rw [hmm]; exact h0t (by simp only [hmm] at h; exact h), Nat.lt_succ_self _⟩, fun h => h0f (by simp only [hmm] at h; exact h), ?_⟩ rfl (by simp) ?_ ?_ ?_
        · have h9 := g1.rest
          unfold rest
          simp only [List.length_nil]
          omega
        all_goals simp only [q3j, encs, qbq, qbt, hmm, Bool.false_and, Bool.true_and, Bool.not_false]
        all_goals simp only [go_sem, ↓reduceIte, Nat.reduceEqDiff, Nat.reduceAdd, Nat.reduceSub, Nat.reduceMul, Nat.reduceLT, Nat.reduceLeDiff, reduceCtorEq, Int.reduceToNat]
      · rintro ⟨more, fu, d, acc⟩ ⟨i1, i2, i3, i4, i5⟩
        simp only at i1 i2 i3 i4 i5
        unfold q3j
        have hcap : qp (acc.length + 1) 64 := capN (by omega)
        cases more with
        | false =>
          have i4 := i4 rfl
          subst i4
          clear i3
          by_cases hE : (qej mm (d, some acc)).2.getD [] = []
          · simp only [hmm] at hE
            obtain rfl := hk1 hE
            by_cases h0 : acc = []
            · subst h0
              simp only [encs, qbq, qbt, hmm]
              repeat' (first | refine qj ?_ | refine ql ?_ | ((first | refine qn ?_ | refine qk ?_ | refine qu ?_ | refine qh ?_ | refine qg ?_) <;> (try simp (disch := first | omega | (simp only [List.length_set, List.length_append, List.length_cons, List.length_nil]; done) | (simp only [List.length_set, List.length_append, List.length_cons, List.length_nil]; omega)) only [hmm, go_sem, ↓reduceIte, Nat.reduceEqDiff, Nat.reduceAdd, Nat.reduceSub, Nat.reduceMul, Nat.reduceLT, Nat.reduceLeDiff, reduceCtorEq, Int.reduceToNat])) | ((first | ((first | refine qe ?_ ?_ | refine qd ?_ ?_) <;> intro hc <;> (try simp only [hc]) <;> (try simp only [qb, qa, decide_eq_true_eq, decide_eq_false_iff_not, Bool.and_eq_true] at hc)) | refine And.intro (by first | assumption | omega | (have := qf (by assumption); omega) | (unfold qp; omega)) ?_ | simp (disch := omega) only [qc] | simp (disch := omega) only [qo] | refine qce i1.ok ?_ | refine qce ((qr d _).1 i1).ok ?_) <;> (try simp only [go_sem, ↓reduceIte, Nat.reduceEqDiff, Nat.reduceAdd, Nat.reduceSub, Nat.reduceMul, Nat.reduceLT, Nat.reduceLeDiff, reduceCtorEq, Int.reduceToNat])))
              all_goals (unfold qej; simp only [*, qto, encs, qbq, qbt, if_true, if_false, reduceIte, Bool.false_eq_true, Option.isSome_some, Option.isSome_none, Option.getD_some, Option.getD_none, and_self, true_and, and_true, Bool.true_and, Bool.false_and, not_true_eq_false])
            · have hne := qbl h0
              simp only [qby hne, qbz hne, qbm, hmm]
              repeat' (first | refine qj ?_ | refine ql ?_ | ((first | refine qn ?_ | refine qk ?_ | refine qu ?_ | refine qh ?_ | refine qg ?_) <;> (try simp (disch := first | omega | (simp only [List.length_set, List.length_append, List.length_cons, List.length_nil]; done) | (simp only [List.length_set, List.length_append, List.length_cons, List.length_nil]; omega)) only [hmm, go_sem, ↓reduceIte, Nat.reduceEqDiff, Nat.reduceAdd, Nat.reduceSub, Nat.reduceMul, Nat.reduceLT, Nat.reduceLeDiff, reduceCtorEq, Int.reduceToNat])) | ((first | ((first | refine qe ?_ ?_ | refine qd ?_ ?_) <;> intro hc <;> (try simp only [hc]) <;> (try simp only [qb, qa, decide_eq_true_eq, decide_eq_false_iff_not, Bool.and_eq_true] at hc)) | refine And.intro (by first | assumption | omega | (have := qf (by assumption); omega) | (unfold qp; omega)) ?_ | simp (disch := omega) only [qc] | simp (disch := omega) only [qo] | refine qce i1.ok ?_ | refine qce ((qr d _).1 i1).ok ?_) <;> (try simp only [go_sem, ↓reduceIte, Nat.reduceEqDiff, Nat.reduceAdd, Nat.reduceSub, Nat.reduceMul, Nat.reduceLT, Nat.reduceLeDiff, reduceCtorEq, Int.reduceToNat])))
              all_goals first | (exfalso; unfold qej at hE; simp only [*, qto, encs, qbq, qbt, if_true, if_false, reduceIte, Bool.false_eq_true, Option.isSome_some, Option.isSome_none, Option.getD_some, Option.getD_none, and_self, true_and, and_true, Bool.true_and, Bool.false_and, not_true_eq_false] at hE; done) | (unfold qej; simp only [*, qto, encs, qbq, qbt, if_true, if_false, reduceIte, Bool.false_eq_true, Option.isSome_some, Option.isSome_none, Option.getD_some, Option.getD_none, and_self, true_and, and_true, Bool.true_and, Bool.false_and, not_true_eq_false])
          · simp only [hmm] at hE
            obtain rfl := hk2 hE
            have h0 : ¬ acc = [] := by
              intro h
              subst h
              apply hE
              unfold qej
              repeat' split
              all_goals rfl
            have hne := qbl h0
            simp only [qby hne, qbz hne, qbm, hmm]
            repeat' (first | refine qj ?_ | refine ql ?_ | ((first | refine qn ?_ | refine qk ?_ | refine qu ?_ | refine qh ?_ | refine qg ?_) <;> (try simp (disch := first | omega | (simp only [List.length_set, List.length_append, List.length_cons, List.length_nil]; done) | (simp only [List.length_set, List.length_append, List.length_cons, List.length_nil]; omega)) only [hmm, go_sem, ↓reduceIte, Nat.reduceEqDiff, Nat.reduceAdd, Nat.reduceSub, Nat.reduceMul, Nat.reduceLT, Nat.reduceLeDiff, reduceCtorEq, Int.reduceToNat])) | ((first | ((first | refine qe ?_ ?_ | refine qd ?_ ?_) <;> intro hc <;> (try simp only [hc]) <;> (try simp only [qb, qa, decide_eq_true_eq, decide_eq_false_iff_not, Bool.and_eq_true] at hc)) | refine And.intro (by first | assumption | omega | (have := qf (by assumption); omega) | (unfold qp; omega)) ?_ | simp (disch := omega) only [qc] | simp (disch := omega) only [qo] | refine qce i1.ok ?_ | refine qce ((qr d _).1 i1).ok ?_) <;> (try simp only [go_sem, ↓reduceIte, Nat.reduceEqDiff, Nat.reduceAdd, Nat.reduceSub, Nat.reduceMul, Nat.reduceLT, Nat.reduceLeDiff, reduceCtorEq, Int.reduceToNat])))
            all_goals first | (exfalso; unfold qej at hE; simp only [*, qto, encs, qbq, qbt, if_true, if_false, reduceIte, Bool.false_eq_true, Option.isSome_some, Option.isSome_none, Option.getD_some, Option.getD_none, and_self, true_and, and_true, Bool.true_and, Bool.false_and, not_true_eq_false] at hE; done) | (unfold qej; simp only [*, qto, encs, qbq, qbt, if_true, if_false, reduceIte, Bool.false_eq_true, Option.isSome_some, Option.isSome_none, Option.getD_some, Option.getD_none, and_self, true_and, and_true, Bool.true_and, Bool.false_and, not_true_eq_false]; rw [qbz hne, qby hne, qbm]; exact ⟨rfl, rfl⟩)
        | true =>
          have i6 := (i3 rfl).2
          replace i3 := (i3 rfl).1
          clear i4
          obtain ⟨fu, rfl⟩ : ∃ k, fu = k + 1 := ⟨fu - 1, by omega⟩
          rw [qd7] at i3
          have j1 : (qbi rec d).1.good := (qgt hm d).1 i1
          have j2 : rest (qbi rec d).1 ≤ rest d := (qgt hm d).2.1
          have j3 : (qs (qbi rec d).1 [44]).1.good := (qz _ _).1 j1
          have j4 := (qz (qbi rec d).1 [44]).2.1
          by_cases hs : (qbi rec d).2.isSome = true
          · rw [if_pos hs] at i3
            have hlt := qix hm hs
            obtain ⟨d', hd', k1, k2, k3, k4⟩ : ∃ d', d' = (if mm = true then (qs (qbi rec d).1 [44]).1 else (qbi rec d).1) ∧ d'.good ∧ rest d' ≤ rest (qbi rec d).1 ∧ ((mm && (qs (qbi rec d).1 [44]).2) = true → qd7 rec mm fu d' (acc ++ [(qbi rec d).2.getD N0]) = tg) ∧ ((mm && (qs (qbi rec d).1 [44]).2) = false → tg = (d', some (acc ++ [(qbi rec d).2.getD N0]))) := by
              refine ⟨_, rfl, ?_, ?_, fun h => ?_, fun h => ?_⟩
              · cases mm
                · exact j1
                · exact j3
              · cases mm
                · exact Nat.le_refl _
                · exact j4
              · rw [if_pos h] at i3
                rw [if_pos (by simp only [Bool.and_eq_true] at h; exact h.1)]
                exact i3
              · rw [if_neg (by rw [h]; simp)] at i3
                rw [← i3]
                clear hmm
                cases mm
                · rfl
                · rw [Bool.true_and] at h
                  rw [if_pos rfl, qc8 h]
            by_cases h0 : acc = []
            · subst h0
              simp only [encs, qbq, qbt, hmm]
              repeat' (first | refine qj ?_ | refine ql ?_ | ((first | refine qn ?_ | refine qk ?_ | refine qu ?_ | refine qh ?_ | refine qg ?_) <;> (try simp (disch := first | omega | (simp only [List.length_set, List.length_append, List.length_cons, List.length_nil]; done) | (simp only [List.length_set, List.length_append, List.length_cons, List.length_nil]; omega)) only [hmm, hs, go_sem, ↓reduceIte, Nat.reduceEqDiff, Nat.reduceAdd, Nat.reduceSub, Nat.reduceMul, Nat.reduceLT, Nat.reduceLeDiff, reduceCtorEq, Int.reduceToNat])) | ((first | ((first | refine qe ?_ ?_ | refine qd ?_ ?_) <;> intro hc <;> (try simp only [hc]) <;> (try simp only [qb, qa, decide_eq_true_eq, decide_eq_false_iff_not, Bool.and_eq_true] at hc)) | refine And.intro (by first | assumption | omega | (have := qf (by assumption); omega) | (unfold qp; omega)) ?_ | simp (disch := omega) only [qc] | simp (disch := omega) only [qo] | refine qcp (qns hm ih d i1 i2) rfl ?_ | refine qd5 j1.ok ?_) <;> (try simp only [go_sem, ↓reduceIte, Nat.reduceEqDiff, Nat.reduceAdd, Nat.reduceSub, Nat.reduceMul, Nat.reduceLT, Nat.reduceLeDiff, reduceCtorEq, Int.reduceToNat])))
              · refine qcd (mm && (qs (qbi rec d).1 [44]).2, fu, d', [] ++ [(qbi rec d).2.getD N0]) [0, 2] ⟨⟨k1, by simp only; omega, fun h => ⟨by first | exact k3 h | (have := k3 h; simpa only [hmm] using this), by simp only; omega⟩, fun h => k4 h, ?_⟩, ?_⟩ rfl (by simp) ?_ ?_ ?_
                · simp only [List.length_append, List.length_cons, List.length_nil]; omega
                · simp only; split <;> omega
                all_goals simp only [hd', hmm, if_true, if_false, reduceIte, Bool.false_eq_true, Bool.true_and, Bool.false_and, q3j, ← qt, qfs, qft, List.nil_append, encs, qg1, qgw]
                all_goals simp only [go_sem, ↓reduceIte, Nat.reduceEqDiff, Nat.reduceAdd, Nat.reduceSub, Nat.reduceMul, Nat.reduceLT, Nat.reduceLeDiff, reduceCtorEq, Int.reduceToNat]
            · have hne := qbl h0
              simp only [qby hne, qbz hne, qbm, hmm]
              repeat' (first | refine qj ?_ | refine ql ?_ | ((first | refine qn ?_ | refine qk ?_ | refine qu ?_ | refine qh ?_ | refine qg ?_) <;> (try simp (disch := first | omega | (simp only [List.length_set, List.length_append, List.length_cons, List.length_nil]; done) | (simp only [List.length_set, List.length_append, List.length_cons, List.length_nil]; omega)) only [hmm, hs, go_sem, ↓reduceIte, Nat.reduceEqDiff, Nat.reduceAdd, Nat.reduceSub, Nat.reduceMul, Nat.reduceLT, Nat.reduceLeDiff, reduceCtorEq, Int.reduceToNat])) | ((first | ((first | refine qe ?_ ?_ | refine qd ?_ ?_) <;> intro hc <;> (try simp only [hc]) <;> (try simp only [qb, qa, decide_eq_true_eq, decide_eq_false_iff_not, Bool.and_eq_true] at hc)) | refine And.intro (by first | assumption | omega | (have := qf (by assumption); omega) | (unfold qp; omega)) ?_ | simp (disch := omega) only [qc] | simp (disch := omega) only [qo] | refine qcp (qns hm ih d i1 i2) rfl ?_ | refine qd5 j1.ok ?_) <;> (try simp only [go_sem, ↓reduceIte, Nat.reduceEqDiff, Nat.reduceAdd, Nat.reduceSub, Nat.reduceMul, Nat.reduceLT, Nat.reduceLeDiff, reduceCtorEq, Int.reduceToNat])))
              · refine qcd (mm && (qs (qbi rec d).1 [44]).2, fu, d', acc ++ [(qbi rec d).2.getD N0]) [0, 3] ⟨⟨k1, by simp only; omega, fun h => ⟨by first | exact k3 h | (have := k3 h; simpa only [hmm] using this), by simp only; omega⟩, fun h => k4 h, ?_⟩, ?_⟩ rfl (by simp) ?_ ?_ ?_
                · simp only [List.length_append, List.length_cons, List.length_nil]; omega
                · simp only; split <;> omega
                all_goals simp only [hd', hmm, if_true, if_false, reduceIte, Bool.false_eq_true, Bool.true_and, Bool.false_and, q3j, ← qt, qfs, qft, List.nil_append, encs, qg1, qgw]
                all_goals simp only [go_sem, ↓reduceIte, Nat.reduceEqDiff, Nat.reduceAdd, Nat.reduceSub, Nat.reduceMul, Nat.reduceLT, Nat.reduceLeDiff, reduceCtorEq, Int.reduceToNat]
                all_goals (try (rw [qt, qbc, qbw]; exact ⟨rfl, rfl⟩))
          · have hs : (qbi rec d).2.isSome = false := by simpa using hs
            rw [if_neg (by rw [hs]; simp)] at i3
            subst i3
            obtain rfl := hk1 rfl
            by_cases h0 : acc = []
            · subst h0
              simp only [encs, qbq, qbt, hmm]
              repeat' (first | refine qj ?_ | refine ql ?_ | ((first | refine qn ?_ | refine qk ?_ | refine qu ?_ | refine qh ?_ | refine qg ?_) <;> (try simp (disch := first | omega | (simp only [List.length_set, List.length_append, List.length_cons, List.length_nil]; done) | (simp only [List.length_set, List.length_append, List.length_cons, List.length_nil]; omega)) only [hmm, hs, go_sem, ↓reduceIte, Nat.reduceEqDiff, Nat.reduceAdd, Nat.reduceSub, Nat.reduceMul, Nat.reduceLT, Nat.reduceLeDiff, reduceCtorEq, Int.reduceToNat])) | ((first | ((first | refine qe ?_ ?_ | refine qd ?_ ?_) <;> intro hc <;> (try simp only [hc]) <;> (try simp only [qb, qa, decide_eq_true_eq, decide_eq_false_iff_not, Bool.and_eq_true] at hc)) | refine And.intro (by first | assumption | omega | (have := qf (by assumption); omega) | (unfold qp; omega)) ?_ | simp (disch := omega) only [qc] | simp (disch := omega) only [qo] | refine qcp (qns hm ih d i1 i2) rfl ?_ | refine qd5 j1.ok ?_) <;> (try simp only [go_sem, ↓reduceIte, Nat.reduceEqDiff, Nat.reduceAdd, Nat.reduceSub, Nat.reduceMul, Nat.reduceLT, Nat.reduceLeDiff, reduceCtorEq, Int.reduceToNat])))
              exact ⟨rfl, rfl⟩
            · have hne := qbl h0
              simp only [qby hne, qbz hne, qbm, hmm]
              repeat' (first | refine qj ?_ | refine ql ?_ | ((first | refine qn ?_ | refine qk ?_ | refine qu ?_ | refine qh ?_ | refine qg ?_) <;> (try simp (disch := first | omega | (simp only [List.length_set, List.length_append, List.length_cons, List.length_nil]; done) | (simp only [List.length_set, List.length_append, List.length_cons, List.length_nil]; omega)) only [hmm, hs, go_sem, ↓reduceIte, Nat.reduceEqDiff, Nat.reduceAdd, Nat.reduceSub, Nat.reduceMul, Nat.reduceLT, Nat.reduceLeDiff, reduceCtorEq, Int.reduceToNat])) | ((first | ((first | refine qe ?_ ?_ | refine qd ?_ ?_) <;> intro hc <;> (try simp only [hc]) <;> (try simp only [qb, qa, decide_eq_true_eq, decide_eq_false_iff_not, Bool.and_eq_true] at hc)) | refine And.intro (by first | assumption | omega | (have := qf (by assumption); omega) | (unfold qp; omega)) ?_ | simp (disch := omega) only [qc] | simp (disch := omega) only [qo] | refine qcp (qns hm ih d i1 i2) rfl ?_ | refine qd5 j1.ok ?_) <;> (try simp only [go_sem, ↓reduceIte, Nat.reduceEqDiff, Nat.reduceAdd, Nat.reduceSub, Nat.reduceMul, Nat.reduceLT, Nat.reduceLeDiff, reduceCtorEq, Int.reduceToNat])))
              exact ⟨rfl, rfl⟩
      )
  · have hpa : q9 rec c = (c, if failT c = true then none else some []) := by rw [q9, if_neg ha]
    rw [hpa] at hk1 hk2 ⊢
    obtain rfl := hk1 (by simp only; split <;> rfl)
    repeat' (first | refine qj ?_ | refine ql ?_ | ((first | refine qn ?_ | refine qk ?_ | refine qu ?_ | refine qh ?_ | refine qg ?_) <;> (try simp (disch := first | omega | (simp only [List.length_set, List.length_append, List.length_cons, List.length_nil]; done) | (simp only [List.length_set, List.length_append, List.length_cons, List.length_nil]; omega)) only [ha, go_sem, ↓reduceIte, Nat.reduceEqDiff, Nat.reduceAdd, Nat.reduceSub, Nat.reduceMul, Nat.reduceLT, Nat.reduceLeDiff, reduceCtorEq, Int.reduceToNat])) | ((first | ((first | refine qe ?_ ?_ | refine qd ?_ ?_) <;> intro hc <;> (try simp only [hc]) <;> (try simp only [qb, qa, decide_eq_true_eq, decide_eq_false_iff_not, Bool.and_eq_true] at hc)) | refine And.intro (by first | assumption | omega | (have := qf (by assumption); omega) | (unfold qp; omega)) ?_ | simp (disch := omega) only [qc] | simp (disch := omega) only [qo] | refine q3c hg.ok hg.2.1 ?_ | refine qbji hg.ok ?_) <;> (try simp only [go_sem, ↓reduceIte, Nat.reduceEqDiff, Nat.reduceAdd, Nat.reduceSub, Nat.reduceMul, Nat.reduceLT, Nat.reduceLeDiff, reduceCtorEq, Int.reduceToNat])))
    cases failT c <;> exact ⟨rfl, rfl⟩
end
set_option maxRecDepth 4000

theorem qmm {rec : K → K × Option N} {c : K} (h : qhs rec c) (h0 : (q9 rec c).2.getD [] = []) {L : List Ent} {Q : List Ent → VO → Prop} (hq : Q (curE (q9 rec c).1 :: L) (.val (.tup [.nils, .bool (q9 rec c).2.isSome]))) :
    VApp Try.prog (curE c :: L) (.fn 42 [] []) [.ptr 0 0] Q :=
  qb9 (r := .tup [.nils, .bool (q9 rec c).2.isSome]) (e' := curE (q9 rec c).1) (by
    unfold qhs at h
    rw [h0] at h
    unfold qcc
    have hr : qto 1 (q9 rec c).2 = .tup [.nils, .bool (q9 rec c).2.isSome] := by rw [qto, h0]; rfl
    rw [hr] at h
    exact h) (qbe _ _) (qbe _ _) rfl rfl fun _ => hq
theorem qrr {rec : K → K × Option N} {c : K} (h : qhs rec c) {l : List N} (hl : (q9 rec c).2 = some l) (h0 : l ≠ []) {L : List Ent} {Q : List Ent → VO → Prop}
    (hq : Q (curE (q9 rec c).1 :: (L ++ [.app 5 (encs l)])) (.val (.tup [.row (L.length + 1) l.length, .bool true]))) :
    VApp Try.prog (curE c :: L) (.fn 42 [] []) [.ptr 0 0] Q :=
  qcb (first := []) (caps := []) (by
    simp only [List.nil_append, List.append_nil]
    have hne := qbl h0
    have hs : AV.rens (sg [0]) [.ptr 0 0] = [.ptr 0 0] := rfl
    rw [← hs]
    have ha : AV.bds 1 [.ptr 0 0] = true := rfl
    have napp_ren : ∀ σ : Nat → Nat, (Ent.app 5 (encs l)).ren σ = .app 5 (encs l) := fun σ => Ent.ren_same (m := 0) (fun i hi => by omega) _ (by simp [Ent.bd, qbc])
    refine qgh (H0 := [curE c]) [0] h (by simp) (by simp) rfl ?_ ha ?_
    · intro j e2 hj
      obtain rfl : j = 0 := by have := (List.getElem?_eq_some_iff.1 hj).1; simp at this; omega
      simp only [List.getElem?_cons_zero, Option.some.injEq] at hj
      subst hj
      exact .inr ⟨qbe _ _, by rw [qc0]; rfl⟩
    rintro H1 o ⟨rfl, rfl⟩
    rw [hl]
    simp only [Option.getD_some, qbz hne, qto, qby hne, qbm, Option.isSome_some, List.length_cons, List.length_nil, List.take_succ_cons, List.take_zero, List.map_nil, qb0, List.drop_zero, List.drop_succ_cons, List.map_cons, qc0, napp_ren, VO.ren, AV.ren, AV.rens, sg', List.set_cons_zero]
    exact hq)
def qqt (p : Int) (l : List N) (t : N) : N := .mk 4 p 0 [] (l ++ [t])
def qed (f : Nat) (c : K) : K × Option N :=
  if (q9 (qbu f) c).2.isSome = true then ((qbu f (q9 (qbu f) c).1).1, (qbu f (q9 (qbu f) c).1).2.map (qqt (qw c).pos ((q9 (qbu f) c).2.getD [])))
  else ((q9 (qbu f) c).1, none)
theorem qrg {c : K} {L : List Ent} {p : Int} {l : List N} {t : N} {b : Bool} {Q : List Ent → VO → Prop} (hq : Q (curE c :: L) (.val (resP (qmj (qqt p l t) b)))) :
    VApp Try.prog (curE c :: L) (.fn 56 [] []) [.ptr 0 0, .agg [.int .i64 4, .int .i64 p, .int .i64 0, .str [], .sl 5 (encs l ++ [enc t])], .bool b] Q := by
  have h := qt6 (n := qqt p l t) hq
  simpa only [qqt, enc, qt] using h
theorem qxy {c : K} {L : List Ent} {p : Int} {t : N} {b : Bool} {Q : List Ent → VO → Prop} (hq : Q (curE c :: L) (.val (resP (qmj (qqt p [] t) b)))) :
    VApp Try.prog (curE c :: L) (.fn 56 [] []) [.ptr 0 0, .agg [.int .i64 4, .int .i64 p, .int .i64 0, .str [], .sl 5 [enc t]], .bool b] Q := qrg (l := []) hq
theorem qua {r : Option N} {p : Int} {l : List N} : qmj (qqt p l (r.getD N0)) r.isSome = r.map (qqt p l) := qtv
theorem qvi {rec : K → K × Option N} (hm : ∀ c, Mon c (rec c).1) (many : Bool) : ∀ (f : Nat) (c : K) (acc l : List N), (qd7 rec many f c acc).2 = some l → l.length ≤ acc.length + rest c
  | 0, c, acc, l => fun h => by cases h
  | f + 1, c, acc, l => fun h => by
    rw [qd7] at h
    split at h
    · rename_i hs
      have h1 := qix hm hs
      split at h
      · have h2 := qvi hm many f _ _ _ h
        have h3 := (qz (qbi rec c).1 [44]).2.1
        simp only [List.length_append, List.length_cons, List.length_nil] at h2
        omega
      · cases h
        simp only [List.length_append, List.length_cons, List.length_nil]
        omega
    · cases h
theorem qky {m : Bool} {r : K × Option (List N)} {l : List N} (h : (qej m r).2 = some l) : r.2 = some l := by
  unfold qej at h
  repeat' split at h
  all_goals first | exact h | cases h
theorem qmy {rec : K → K × Option N} (hm : ∀ c, Mon c (rec c).1) {c : K} {l : List N} (h : (q9 rec c).2 = some l) : l.length ≤ rest c := by
  unfold q9 at h
  split at h
  · have h := qky h
    unfold qe9 at h
    split at h
    · cases h; exact Nat.zero_le _
    · have h1 := qvi hm _ _ _ _ _ h
      have h2 := (qz c [40]).2.1
      simp only [List.length_nil] at h1
      omega
  · simp only at h
    split at h
    · cases h
    · cases h; exact Nat.zero_le _
theorem q2p (f : Nat) (c : K) (hg : c.good) (hr : rest c < f) : qcc Try.prog 45 (curE c) (curE (qed f c).1) [.ptr 0 0] (resP (qed f c).2) := by
  have hm := qcn f
  have hP := qof hm (qvy f) c hg (by omega)
  have g1 : (q9 (qbu f) c).1.good := (qew hm c).1 hg
  have hr1 : rest (q9 (qbu f) c).1 < f := by have := (qew hm c).2.1; omega
  refine qx c0s 1 (by simp) (by simp) ?_
  unfold qed
  cases ho : (q9 (qbu f) c).2 with
  | none =>
    have h0 : (q9 (qbu f) c).2.getD [] = [] := by rw [ho]; rfl
    repeat' (first | refine qj ?_ | ((first | refine qn ?_ | refine qk ?_ | refine qh ?_ | refine qg ?_) <;> (try simp (disch := first | omega | (simp only [List.length_set, List.length_append, List.length_cons, List.length_nil]; done) | (simp only [List.length_set, List.length_append, List.length_cons, List.length_nil]; omega)) only [ho, Option.isSome_none, go_sem, ↓reduceIte, Nat.reduceEqDiff, Nat.reduceAdd, Nat.reduceSub, Nat.reduceMul, Nat.reduceLT, Nat.reduceLeDiff, reduceCtorEq, Int.reduceToNat])) | ((first | ((first | refine qe ?_ ?_ | refine qd ?_ ?_) <;> intro hc <;> (try simp only [hc]) <;> (try simp only [qb, qa, decide_eq_true_eq, decide_eq_false_iff_not, Bool.and_eq_true] at hc)) | refine And.intro (by first | assumption | omega | (have := qf (by assumption); omega) | (unfold qp; omega)) ?_ | simp (disch := omega) only [qc] | simp (disch := omega) only [qo] | refine qb4 ?_ | refine qmm hP h0 ?_) <;> (try simp only [go_sem, ↓reduceIte, Nat.reduceEqDiff, Nat.reduceAdd, Nat.reduceSub, Nat.reduceMul, Nat.reduceLT, Nat.reduceLeDiff, reduceCtorEq, Int.reduceToNat])))
    rw [qd2]; rfl
  | some l =>
    have hlen := qmy hm ho
    have hlen2 := hg.rest
    by_cases h0 : l = []
    · subst h0
      have h0 : (q9 (qbu f) c).2.getD [] = [] := by rw [ho]; rfl
      have hcap : qp 1 64 := capN (by omega)
      repeat' (first | refine qj ?_ | ((first | refine qn ?_ | refine qk ?_ | refine qh ?_ | refine qg ?_) <;> (try simp (disch := first | omega | (simp only [List.length_set, List.length_append, List.length_cons, List.length_nil]; done) | (simp only [List.length_set, List.length_append, List.length_cons, List.length_nil]; omega)) only [ho, Option.isSome_some, go_sem, ↓reduceIte, Nat.reduceEqDiff, Nat.reduceAdd, Nat.reduceSub, Nat.reduceMul, Nat.reduceLT, Nat.reduceLeDiff, reduceCtorEq, Int.reduceToNat])) | ((first | ((first | refine qe ?_ ?_ | refine qd ?_ ?_) <;> intro hc <;> (try simp only [hc]) <;> (try simp only [qb, qa, decide_eq_true_eq, decide_eq_false_iff_not, Bool.and_eq_true] at hc)) | refine And.intro (by first | assumption | omega | (have := qf (by assumption); omega) | (unfold qp; omega)) ?_ | simp (disch := omega) only [qc] | simp (disch := omega) only [qo] | refine qb4 ?_ | refine qmm hP h0 ?_ | refine qcp (qvy f _ g1 hr1) rfl ?_ | refine qxy ?_) <;> (try simp only [go_sem, ↓reduceIte, Nat.reduceEqDiff, Nat.reduceAdd, Nat.reduceSub, Nat.reduceMul, Nat.reduceLT, Nat.reduceLeDiff, reduceCtorEq, Int.reduceToNat])))
      rw [qua]; rfl
    · have hcap : qp (l.length + 1) 64 := capN (by unfold rest at hlen; omega)
      repeat' (first | refine qj ?_ | ((first | refine qn ?_ | refine qk ?_ | refine qh ?_ | refine qg ?_) <;> (try simp (disch := first | omega | (simp only [List.length_set, List.length_append, List.length_cons, List.length_nil]; done) | (simp only [List.length_set, List.length_append, List.length_cons, List.length_nil]; omega)) only [ho, Option.isSome_some, go_sem, ↓reduceIte, Nat.reduceEqDiff, Nat.reduceAdd, Nat.reduceSub, Nat.reduceMul, Nat.reduceLT, Nat.reduceLeDiff, reduceCtorEq, Int.reduceToNat])) | ((first | ((first | refine qe ?_ ?_ | refine qd ?_ ?_) <;> intro hc <;> (try simp only [hc]) <;> (try simp only [qb, qa, decide_eq_true_eq, decide_eq_false_iff_not, Bool.and_eq_true] at hc)) | refine And.intro (by first | assumption | omega | (have := qf (by assumption); omega) | (unfold qp; omega)) ?_ | simp (disch := omega) only [qc] | simp (disch := omega) only [qo] | refine qb4 ?_ | refine qrr hP ho h0 ?_ | refine qcp (qvy f _ g1 hr1) rfl ?_ | refine qrg ?_) <;> (try simp only [go_sem, ↓reduceIte, Nat.reduceEqDiff, Nat.reduceAdd, Nat.reduceSub, Nat.reduceMul, Nat.reduceLT, Nat.reduceLeDiff, reduceCtorEq, Int.reduceToNat])))
      rw [qua]; rfl

/-! The size of what is read. -/
theorem qfx : ∀ (a b : List N), szs (a ++ b) = szs a + szs b
  | [], b => by simp [szs]
  | x :: a, b => by rw [List.cons_append, szs, szs, qfx a b]; omega
theorem qym (c : K) (k : Int) (ks : List N) : sz (qho c k ks) = szs ks + 1 := by rw [qjh]; rfl
section
variable {rec : K → K × Option N} (hm : ∀ c, Mon c (rec c).1) (ih : ∀ c n, (rec c).2 = some n → sz n + rest (rec c).1 ≤ rest c)
include hm ih
omit hm in
theorem qj7 {c : K} {n : N} (h : (qbo rec c).2 = some n) : sz n + rest (qbo rec c).1 ≤ rest c := by
  unfold qbo at h ⊢
  split at h
  · rename_i h1
    rw [if_pos h1]
    cases h
    have := qbj (c := c) (by omega)
    rw [qym]; simp only [szs]; omega
  · rename_i h1
    rw [if_neg h1]
    split at h
    · rename_i h2
      rw [if_pos h2]
      cases h
      have := qbj (c := c) (by omega)
      rw [qym]; simp only [szs]; omega
    · rename_i h2
      rw [if_neg h2]
      split at h
      · rename_i h3
        rw [if_pos h3]
        split at h
        · rename_i h4
          rw [if_pos h4]
          have hp := qbj (c := (qi c).1) (by rw [qc1 h4]; exact qcv h3)
          have h0 := (q8 c).2.1
          split at h
          · rename_i h5
            rw [if_pos h5]
            simp only at h ⊢
            split at h
            · have h6 := ih _ _ h
              have h7 := (qr (rec (q7 (qi c).1)).1 [41]).2.1
              have h8 := (qbh (qq (rec (q7 (qi c).1)).1 [41]).1).2.1
              omega
            · cases h
          · cases h
        · cases h
      · cases h
omit hm in
theorem qq6 : ∀ (f : Nat) (c : K) (acc l : List N), (qdk rec f c acc).2 = some l → szs l + rest (qdk rec f c acc).1 ≤ szs acc + rest c
  | 0, c, acc, l => fun h => by cases h
  | f + 1, c, acc, l => fun h => by
    rw [qdk] at h ⊢
    split at h
    · rename_i h1
      rw [if_pos h1]
      split at h
      · rename_i h2
        rw [if_pos h2]
        obtain ⟨n, hn⟩ := Option.isSome_iff_exists.1 h2
        have h3 := qq6 f _ _ _ h
        have h4 := qj7 ih hn
        rw [qfx, hn] at h3
        simp only [Option.getD_some, szs] at h3
        rw [hn]
        simp only [Option.getD_some]
        omega
      · cases h
    · rename_i h1
      rw [if_neg h1]
      cases h
      exact Nat.le_refl _
omit hm in
theorem qu5 {c : K} {n : N} (h : (qb6 rec c).2 = some n) : sz n + rest (qb6 rec c).1 ≤ rest c := by
  unfold qb6 at h ⊢
  split at h
  · rename_i h1
    rw [if_pos h1]
    obtain ⟨l, hl, rfl⟩ := Option.map_eq_some_iff.1 h
    have h2 := qq6 ih _ _ _ _ hl
    have h3 := qbj (c := c) (by omega)
    rw [qym]
    simp only [szs] at h2 ⊢
    omega
  · rename_i h1
    rw [if_neg h1]
    exact qj7 ih h
omit hm in
theorem q2l {c : K} {n : N} (h : (qbi rec c).2 = some n) : sz n + rest (qbi rec c).1 ≤ rest c := by
  unfold qbi at h ⊢
  split at h
  · rename_i h1
    rw [if_pos h1]
    obtain ⟨m, hk, rfl⟩ := Option.map_eq_some_iff.1 h
    have h2 := qj7 ih hk
    obtain ⟨e1, e2⟩ := qh4 h1
    rw [(qxr h1).1] at h2 ⊢
    have h3 := qbj (c := c) (by omega)
    have : sz (qtc (qef c 2) m) = sz m + 1 := by rw [qjh]; simp [qtc, N.kids, szs]
    simp only at h2 ⊢
    omega
  · cases h
omit hm in
theorem qqi (many : Bool) : ∀ (f : Nat) (c : K) (acc l : List N), (qd7 rec many f c acc).2 = some l → szs l + rest (qd7 rec many f c acc).1 ≤ szs acc + rest c
  | 0, c, acc, l => fun h => by cases h
  | f + 1, c, acc, l => fun h => by
    rw [qd7] at h ⊢
    split at h
    · rename_i h1
      rw [if_pos h1]
      obtain ⟨n, hn⟩ := Option.isSome_iff_exists.1 h1
      have h4 := q2l ih hn
      split at h
      · rename_i h2
        rw [if_pos h2]
        have h3 := qqi many f _ _ _ h
        have h5 := (qz (qbi rec c).1 [44]).2.1
        rw [qfx, hn] at h3
        simp only [Option.getD_some, szs] at h3
        rw [hn]
        simp only [Option.getD_some]
        omega
      · rename_i h2
        rw [if_neg h2]
        cases h
        rw [hn, qfx]
        simp only [Option.getD_some, szs]
        omega
    · cases h
end
theorem qlx : ∀ (f : Nat) (c : K) (n : N), (qbu f c).2 = some n → sz n + rest (qbu f c).1 ≤ rest c
  | 0, _, _ => fun h => by cases h
  | f + 1, c, n => fun h => by
    have ih := qlx f
    have h0 := (q8 c).2.1
    rw [qbu] at h ⊢
    split at h
    · rename_i h1
      rw [if_pos h1]
      split at h
      · rename_i h2
        rw [if_pos h2]
        obtain ⟨m, hm⟩ := Option.isSome_iff_exists.1 h2
        have h3 := qu5 ih hm
        split at h
        · rename_i h4
          rw [if_pos h4]
          obtain ⟨q, hq, rfl⟩ := Option.map_eq_some_iff.1 h
          have h5 := ih _ _ hq
          have h6 := (qbh (qbu f (qs (qb6 (qbu f) (qi c).1).1 [45, 62]).1).1).2.1
          have h7 : rest (qs (qb6 (qbu f) (qi c).1).1 [45, 62]).1 + 1 ≤ rest (qb6 (qbu f) (qi c).1).1 := by
            unfold qs at h4 ⊢
            split at h4
            · rename_i h8
              rw [if_pos h8]
              have := qbj (qcv h8)
              simp only; omega
            · cases h4
          have : sz (qkc ((qb6 (qbu f) (qi c).1).2.getD N0) q) = sz m + sz q + 1 := by rw [qjh, hm]; simp [qkc, N.kids, szs]
          simp only
          omega
        · rename_i h4
          rw [if_neg h4]
          have h5 := (qbh (qb6 (qbu f) (qi c).1).1).2.1
          have h6 := qu5 ih h
          simp only
          omega
      · cases h
    · cases h
theorem q0z {f : Nat} {c : K} {n : N} (h : (qed f c).2 = some n) : sz n + rest (qed f c).1 ≤ rest c + 1 := by
  unfold qed at h ⊢
  split at h
  · rename_i h1
    rw [if_pos h1]
    obtain ⟨l, hl⟩ := Option.isSome_iff_exists.1 h1
    obtain ⟨q, hq, rfl⟩ := Option.map_eq_some_iff.1 h
    have h2 := qlx f _ _ hq
    rw [hl]
    have h3 : szs l + rest (q9 (qbu f) c).1 ≤ rest c := by
      have hx := hl
      unfold q9 at hx ⊢
      split at hx
      · rename_i ha
        rw [if_pos ha]
        have h5 := qky hx
        have h6 : szs l + rest (qe9 (qbu f) c).1 ≤ rest c := by
          unfold qe9 at h5 ⊢
          have ht := (qz c [40]).2.1
          split at h5
          · rename_i hb
            rw [if_pos hb]
            cases h5
            simp only [szs]; omega
          · rename_i hb
            rw [if_neg hb]
            have := qqi (qlx f) _ _ _ _ _ h5
            simp only [szs] at this
            omega
        have h7 : rest (qej (qs c [40]).2 (qe9 (qbu f) c)).1 ≤ rest (qe9 (qbu f) c).1 := by
          unfold qej
          split
          · split
            · split
              · exact Nat.le_trans (qr _ _).2.1 (qr _ _).2.1
              · exact (qr _ _).2.1
            · exact (qr _ _).2.1
          · exact Nat.le_refl _
        omega
      · rename_i ha
        rw [if_neg ha]
        simp only at hx ⊢
        split at hx
        · cases hx
        · cases hx; simp only [szs]; omega
    have : sz (qqt (qw c).pos l q) = szs l + sz q + 1 := by rw [qjh]; simp [qqt, N.kids, qfx, szs]
    simp only [Option.getD_some]
    omega
  · cases h
theorem qqo {l : List T} (h : l.length ≤ 1048577) : (newK l).good := ⟨Nat.zero_le _, Nat.le_trans (qmg l) h, Nat.zero_le _⟩

/-- What is all there is. -/
def qkb (c : K) (n : N) : N × Int × Int :=
  if (qgv c).2 = 0 then if depR n > 100 then (N0, n.pos, 2) else (n, 0, 0) else (N0, (qgv c).1, (qgv c).2)
def qxl (rd : K → K × Option N) (s : List UInt8) : N × Int × Int :=
  if (lexV s).2.2 = 0 then qkb (rd (newK (lexV s).1)).1 ((rd (newK (lexV s).1)).2.getD N0)
  else (N0, (lexV s).2.1, (lexV s).2.2)
def resV (r : N × Int × Int) : AV := .tup [enc r.1, .int .i64 r.2.1, .int .i64 r.2.2]
attribute [go_sem] resV lexR
theorem qbiv {c : K} (h : (qgv c).2 = 0) : c.err = 0 := by
  by_cases he : c.err = 0
  · exact he
  · rw [qo4 he] at h; exact absurd h he
theorem qkh (f : Nat) (c : K) : Mon c (qed f c).1 := by
  have hm := qcn f
  unfold qed
  split
  · exact (qew hm c).trans (hm _)
  · exact qew hm c
end Go.Proofs.Ytfjbmjplnmaclaa
