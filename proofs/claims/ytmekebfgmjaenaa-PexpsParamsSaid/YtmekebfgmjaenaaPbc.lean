/- Texts of this proof, joined. -/
import Derived.Test.YtmekebfgmjaenaaPaz
import Derived.Test.YtmekebfgmjaenaaPba
import Derived.Test.YtmekebfgmjaenaaPbb

/- types: contexts: the program -/
set_option maxRecDepth 4000
namespace Go.Proofs.Ytmekebfgmjaenaa
open Go Go.RowKit Go.V
set_option linter.unusedVariables false
set_option linter.unusedSimpArgs false

theorem qdc (c : K) (k : Int) : Mon c (kindK c k).1 := by
  unfold kindK
  split
  · exact qbm c
  · exact qec c 5
theorem qir {c : K} {k : Int} (h : (kindK c k).2 = true) : c.err = 0 ∧ (qw c).kind = k := by
  unfold kindK at h
  split at h
  · rename_i h1
    simp only [Bool.and_eq_true, decide_eq_true_eq] at h1
    exact h1
  · cases h
theorem q3e {c : K} {k : Int} (h : (kindK c k).2 = true) : kindK c k = (qs c, true) ∧ qhh c k = qw c := by
  obtain ⟨h1, h2⟩ := qir h
  exact ⟨qkl h1 h2, qnx h1 h2⟩
theorem qw4 {c : K} {k : Int} (h : (kindK c k).2 = false) : (kindK c k).1.err ≠ 0 := by
  unfold kindK at h ⊢
  split at h
  · cases h
  · rename_i h1; rw [if_neg h1]; exact qg6 c
def failT (c : K) : Bool := !decide ((qe6 c).2 = 0) && (!decide ((qe6 c).2 = 5) || decide ((qw c).kind = 0))
theorem qxa (c : K) (hk : c.ok) : qca Try.prog 67 (curE c) (curE c) [.ptr 0 0] (.bool (failT c)) := by
  refine q9 c0v 1 (by simp) (by simp) ?_
  repeat' (first | refine ql ?_ | ((first | refine qn ?_ | refine qm ?_ | refine qbqj hk ?_ | refine qc8 ?_ | ((first | refine qf ?_ ?_ | refine qc ?_ ?_) <;> intro hc <;> (try simp only [hc]) <;> (try simp only [qb, qa, decide_eq_true_eq, decide_eq_false_iff_not, Bool.and_eq_true] at hc)) | refine And.intro (by first | assumption | omega | (have := qh (by assumption); omega) | (unfold qt; omega)) ?_ | simp (disch := omega) only [qd] | simp (disch := omega) only [qq]) <;> (try simp only [go_sem, ↓reduceIte, Nat.reduceEqDiff, Nat.reduceAdd, Nat.reduceSub, Nat.reduceMul, Nat.reduceLT, Nat.reduceLeDiff, reduceCtorEq, Int.reduceToNat])))
  all_goals (unfold failT; simp_all)
theorem qba4 {c : K} {L : List Ent} {Q : List Ent → VO → Prop} (hk : c.ok) (hq : Q (curE c :: L) (.val (.bool (failT c)))) : VApp Try.prog (curE c :: L) (.fn 67 [] []) [.ptr 0 0] Q := qb0 (qxa c hk) (qbk _ _) (qbk _ _) rfl rfl fun _ => hq
def qp2 (t : T) (n : N) : N := .mk 3 t.pos 0 t.text [n]
def qbi (rec : K → K × Option N) (c : K) : K × Option N :=
  if (kindK c 2).2 = true then ((qbr rec (kindK c 2).1).1, (qbr rec (kindK c 2).1).2.map (qp2 (qhh c 2)))
  else ((kindK c 2).1, none)
theorem qxg {c : K} {L : List Ent} {t : T} {n : N} {b : Bool} {Q : List Ent → VO → Prop} (hq : Q (curE c :: L) (.val (resP (qkb (qp2 t n) b)))) :
    VApp Try.prog (curE c :: L) (.fn 63 [] []) [.ptr 0 0, .agg [.int .i64 3, .int .i64 t.pos, .int .i64 0, .str t.text, .sl 5 [enc n]], .bool b] Q := by
  have h := qrn (n := qp2 t n) hq
  simpa only [qp2, enc, encs] using h
theorem q01 {r : Option N} {t : T} : qkb (qp2 t (r.getD N0)) r.isSome = r.map (qp2 t) := qpz
section
variable {rec : K → K × Option N} {b : Nat} (hm : ∀ c, Mon c (rec c).1) (ih : ∀ c, c.good → rest c < b → qca Try.prog 62 (curE c) (curE (rec c).1) [.ptr 0 0] (resP (rec c).2))
include hm ih
theorem qli (c : K) (hg : c.good) (hr : rest c ≤ b) : qca Try.prog 68 (curE c) (curE (qbi rec c).1) [.ptr 0 0] (resP (qbi rec c).2) := by
  have g1 : (kindK c 2).1.good := (qdc c 2).1 hg
  have hr1 : rest (kindK c 2).1 ≤ b := by have := (qdc c 2).2.1; omega
  refine q9 c0w 1 (by simp) (by simp) ?_
  repeat' (first | refine ql ?_ | ((first | refine qn ?_ | refine qm ?_ | refine qj ?_ | refine qi ?_ | refine qpk hg.ok ?_ | refine qc7 (qis hm ih _ g1 hr1) rfl ?_ | refine qxg ?_ | ((first | refine qf ?_ ?_ | refine qc ?_ ?_) <;> intro hc <;> (try simp only [hc]) <;> (try simp only [qb, qa, decide_eq_true_eq, decide_eq_false_iff_not, Bool.and_eq_true] at hc)) | refine And.intro (by first | assumption | omega | (have := qh (by assumption); omega) | (unfold qt; omega)) ?_ | simp (disch := omega) only [qd] | simp (disch := omega) only [qq]) <;> (try simp only [go_sem, ↓reduceIte, Nat.reduceEqDiff, Nat.reduceAdd, Nat.reduceSub, Nat.reduceMul, Nat.reduceLT, Nat.reduceLeDiff, reduceCtorEq, Int.reduceToNat])))
  all_goals (try simp only [q01])
  all_goals (unfold qbi; simp only [*, qd3, Int.reduceEq, if_true, if_false, reduceIte, Bool.false_eq_true, Option.getD_none, Option.getD_some, Option.isSome_none, Option.isSome_some, and_self, true_and, and_true]; try rfl)
end
set_option maxRecDepth 4000

def qdi (rec : K → K × Option N) (many : Bool) : Nat → K → List N → K × Option (List N)
  | 0, c, _ => (c, none)
  | f + 1, c, acc =>
    if (qbi rec c).2.isSome = true then
      if (many && (qp (qbi rec c).1 [44]).2) = true then qdi rec many f (qp (qbi rec c).1 [44]).1 (acc ++ [(qbi rec c).2.getD N0])
      else ((qbi rec c).1, some (acc ++ [(qbi rec c).2.getD N0]))
    else ((qbi rec c).1, none)
def qdw (many : Bool) (r : K × Option (List N)) : K × Option (List N) :=
  if r.2.isSome = true then
    if many = true then
      if (qr r.1 [41]).2 = true then ((qr (qr r.1 [41]).1 [61, 62]).1, if (qr (qr r.1 [41]).1 [61, 62]).2 = true then r.2 else none)
      else ((qr r.1 [41]).1, none)
    else ((qr r.1 [61, 62]).1, if (qr r.1 [61, 62]).2 = true then r.2 else none)
  else (r.1, none)
def qfb (rec : K → K × Option N) (c : K) : K × Option (List N) :=
  if ((qp c [40]).2 && isK (qp c [40]).1 [41]) = true then ((qp c [40]).1, some []) else qdi rec (qp c [40]).2 (rest (qp c [40]).1 + 1) (qp c [40]).1 []
def qbd (rec : K → K × Option N) (c : K) : K × Option (List N) :=
  if qgp c [61, 62] = true then qdw (qp c [40]).2 (qfb rec c)
  else (c, if failT c = true then none else some [])
section
variable {rec : K → K × Option N} (hm : ∀ c, Mon c (rec c).1)
include hm
theorem qfo (c : K) : Mon c (qbi rec c).1 := by
  unfold qbi
  split
  · exact (qdc c 2).trans (qer hm _)
  · exact qdc c 2
theorem qhs {c : K} (h : (qbi rec c).2.isSome = true) : rest (qbi rec c).1 < rest c := by
  unfold qbi at h ⊢
  split at h
  · rename_i h1
    rw [if_pos h1]
    have h2 := (qdc c 2).2.1
    have h3 := qex hm (c := (kindK c 2).1) (by simpa using h)
    simp only; omega
  · cases h
theorem qo9 (many : Bool) : ∀ (f : Nat) (c : K) (acc : List N), Mon c (qdi rec many f c acc).1
  | 0, c, acc => Mon.refl c
  | f + 1, c, acc => by
    rw [qdi]
    split
    · split
      · exact ((qfo hm c).trans (q8 _ _)).trans (qo9 many f _ _)
      · exact qfo hm c
    · exact qfo hm c
theorem qxs (c : K) : Mon c (qfb rec c).1 := by
  unfold qfb
  split
  · exact q8 c _
  · exact (q8 c _).trans (qo9 hm _ _ _ _)
theorem qge (c : K) : Mon c (qbd rec c).1 := by
  unfold qbd qdw
  have h := qxs hm c
  split
  · split
    · split
      · split
        · exact (h.trans (qo _ _)).trans (qo _ _)
        · exact h.trans (qo _ _)
      · exact h.trans (qo _ _)
    · exact h
  · exact Mon.refl c
end
def qqa (p : Nat) (r : Option (List N)) : AV := .tup [accV p (encs (r.getD [])), .bool r.isSome]
def qhr (rec : K → K × Option N) (c : K) : Prop := VCalls Try.prog 61 [curE c] [.ptr 0 0] fun H' o => H' = curE (qbd rec c).1 :: accE 5 (encs ((qbd rec c).2.getD [])) ∧ o = .val (qqa 1 (qbd rec c).2)
def q06 (many : Bool) (x : Bool × Nat × K × List N) : AF × List Ent :=
  (⟨[(0, .ptr 0 0), (4, accV 1 (encs x.2.2.2)), (5, .bool many), (6, .bool x.1)], []⟩, curE x.2.2.1 :: accE 5 (encs x.2.2.2))
section
variable {rec : K → K × Option N} {b : Nat} (hm : ∀ c, Mon c (rec c).1) (ih : ∀ c, c.good → rest c < b → qca Try.prog 62 (curE c) (curE (rec c).1) [.ptr 0 0] (resP (rec c).2))
include hm ih
theorem que (c : K) (hg : c.good) (hr : rest c ≤ b) : qhr rec c := by
  unfold qhr
  obtain ⟨kk, hk1, hk2, hk0⟩ : ∃ k : Nat, ((qbd rec c).2.getD [] = [] → k = 1) ∧ ((qbd rec c).2.getD [] ≠ [] → k = 2) ∧ 1 ≤ k := by
    by_cases h : (qbd rec c).2.getD [] = []
    · exact ⟨1, fun _ => rfl, fun g => absurd h g, by omega⟩
    · exact ⟨2, fun g => absurd g h, fun _ => rfl, by omega⟩
  refine qie c0u kk (by simpa using hk0) (by simp) ?_
  have g1 : (qp c [40]).1.good := (q8 c _).1 hg
  have hr1 : rest (qp c [40]).1 ≤ b := by have := (q8 c [40]).2.1; omega
  by_cases ha : qgp c [61, 62] = true
  · have hpa : qbd rec c = qdw (qp c [40]).2 (qfb rec c) := by rw [qbd, if_pos ha]
    rw [hpa] at hk1 hk2 ⊢
    clear hpa
    unfold qfb at hk1 hk2 ⊢
    generalize htg : (if ((qp c [40]).2 && isK (qp c [40]).1 [41]) = true then ((qp c [40]).1, some []) else qdi rec (qp c [40]).2 (rest (qp c [40]).1 + 1) (qp c [40]).1 []) = tg at hk1 hk2 ⊢
    generalize hd0 : (qp c [40]).1 = d0 at *
    generalize hmn : (qp c [40]).2 = many at *
    have h0t : (!(many && isK d0 [41])) = true → qdi rec many (rest d0 + 1) d0 [] = tg := fun h => by
      rw [Bool.not_eq_true'] at h
      rw [← htg, if_neg (by rw [h]; simp)]
    have h0f : (!(many && isK d0 [41])) = false → tg = (d0, some []) := fun h => by
      rw [Bool.not_eq_false'] at h
      rw [← htg, if_pos h]
    clear htg
    obtain ⟨mm, hmm⟩ : ∃ mm, mm = many := ⟨_, rfl⟩
    cases many <;> (
      repeat' (first | refine ql ?_ | refine qk ?_ | ((first | refine qn ?_ | refine qm ?_ | refine qz ?_ | refine qj ?_ | refine qi ?_) <;> (try simp (disch := first | omega | (simp only [List.length_set, List.length_append, List.length_cons, List.length_nil]; done) | (simp only [List.length_set, List.length_append, List.length_cons, List.length_nil]; omega)) only [ha, hd0, hmn, go_sem, ↓reduceIte, Nat.reduceEqDiff, Nat.reduceAdd, Nat.reduceSub, Nat.reduceMul, Nat.reduceLT, Nat.reduceLeDiff, reduceCtorEq, Int.reduceToNat])) | ((first | ((first | refine qf ?_ ?_ | refine qc ?_ ?_) <;> intro hc <;> (try simp only [hc]) <;> (try simp only [qb, qa, decide_eq_true_eq, decide_eq_false_iff_not, Bool.and_eq_true] at hc)) | refine And.intro (by first | assumption | omega | (have := qh (by assumption); omega) | (unfold qt; omega)) ?_ | simp (disch := omega) only [qd] | simp (disch := omega) only [qq] | refine q18 hg.ok hg.2.1 ?_ | refine qd9 hg.ok ?_ | refine a_Is ?_) <;> (try simp only [go_sem, ↓reduceIte, Nat.reduceEqDiff, Nat.reduceAdd, Nat.reduceSub, Nat.reduceMul, Nat.reduceLT, Nat.reduceLeDiff, reduceCtorEq, Int.reduceToNat])))
      refine qc5 (S := Bool × Nat × K × List N) (fun x => x.2.2.1.good ∧ rest x.2.2.1 ≤ b ∧ (x.1 = true → qdi rec mm x.2.1 x.2.2.1 x.2.2.2 = tg ∧ rest x.2.2.1 < x.2.1) ∧ (x.1 = false → tg = (x.2.2.1, some x.2.2.2)) ∧ x.2.2.2.length + rest x.2.2.1 ≤ 1048577)
        (q06 mm) (fun x => if x.1 = true then rest x.2.2.1 + 1 else 0) ?_ ?_
      · refine qcq (!(mm && isK d0 [41]), rest d0 + 1, d0, []) [0] ⟨g1, hr1, fun h => ⟨by rw [hmm]; exact h0t (by simp only [hmm] at h; exact h), Nat.lt_succ_self _⟩, fun h => h0f (by simp only [hmm] at h; exact h), ?_⟩ rfl (by simp) ?_ ?_ ?_
        · have h9 := g1.rest
          unfold rest
          simp only [List.length_nil]
          omega
        all_goals simp only [q06, encs, qb8, qce, hmm, Bool.false_and, Bool.true_and, Bool.not_false]
        all_goals simp only [go_sem, ↓reduceIte, Nat.reduceEqDiff, Nat.reduceAdd, Nat.reduceSub, Nat.reduceMul, Nat.reduceLT, Nat.reduceLeDiff, reduceCtorEq, Int.reduceToNat]
      · rintro ⟨more, fu, d, acc⟩ ⟨i1, i2, i3, i4, i5⟩
        simp only at i1 i2 i3 i4 i5
        unfold q06
        have hcap : qt (acc.length + 1) 64 := capN (by omega)
        cases more with
        | false =>
          have i4 := i4 rfl
          subst i4
          clear i3
          by_cases hE : (qdw mm (d, some acc)).2.getD [] = []
          · simp only [hmm] at hE
            obtain rfl := hk1 hE
            by_cases h0 : acc = []
            · subst h0
              simp only [encs, qb8, qce, hmm]
              repeat' (first | refine ql ?_ | refine qk ?_ | ((first | refine qn ?_ | refine qm ?_ | refine qz ?_ | refine qj ?_ | refine qi ?_) <;> (try simp (disch := first | omega | (simp only [List.length_set, List.length_append, List.length_cons, List.length_nil]; done) | (simp only [List.length_set, List.length_append, List.length_cons, List.length_nil]; omega)) only [hmm, go_sem, ↓reduceIte, Nat.reduceEqDiff, Nat.reduceAdd, Nat.reduceSub, Nat.reduceMul, Nat.reduceLT, Nat.reduceLeDiff, reduceCtorEq, Int.reduceToNat])) | ((first | ((first | refine qf ?_ ?_ | refine qc ?_ ?_) <;> intro hc <;> (try simp only [hc]) <;> (try simp only [qb, qa, decide_eq_true_eq, decide_eq_false_iff_not, Bool.and_eq_true] at hc)) | refine And.intro (by first | assumption | omega | (have := qh (by assumption); omega) | (unfold qt; omega)) ?_ | simp (disch := omega) only [qd] | simp (disch := omega) only [qq] | refine qde i1.ok ?_ | refine qde ((qo d _).1 i1).ok ?_) <;> (try simp only [go_sem, ↓reduceIte, Nat.reduceEqDiff, Nat.reduceAdd, Nat.reduceSub, Nat.reduceMul, Nat.reduceLT, Nat.reduceLeDiff, reduceCtorEq, Int.reduceToNat])))
              all_goals (unfold qdw; simp only [*, qqa, encs, qb8, qce, if_true, if_false, reduceIte, Bool.false_eq_true, Option.isSome_some, Option.isSome_none, Option.getD_some, Option.getD_none, and_self, true_and, and_true, Bool.true_and, Bool.false_and, not_true_eq_false])
            · have hne := qcr h0
              simp only [qcm hne, qcl hne, qcc, hmm]
              repeat' (first | refine ql ?_ | refine qk ?_ | ((first | refine qn ?_ | refine qm ?_ | refine qz ?_ | refine qj ?_ | refine qi ?_) <;> (try simp (disch := first | omega | (simp only [List.length_set, List.length_append, List.length_cons, List.length_nil]; done) | (simp only [List.length_set, List.length_append, List.length_cons, List.length_nil]; omega)) only [hmm, go_sem, ↓reduceIte, Nat.reduceEqDiff, Nat.reduceAdd, Nat.reduceSub, Nat.reduceMul, Nat.reduceLT, Nat.reduceLeDiff, reduceCtorEq, Int.reduceToNat])) | ((first | ((first | refine qf ?_ ?_ | refine qc ?_ ?_) <;> intro hc <;> (try simp only [hc]) <;> (try simp only [qb, qa, decide_eq_true_eq, decide_eq_false_iff_not, Bool.and_eq_true] at hc)) | refine And.intro (by first | assumption | omega | (have := qh (by assumption); omega) | (unfold qt; omega)) ?_ | simp (disch := omega) only [qd] | simp (disch := omega) only [qq] | refine qde i1.ok ?_ | refine qde ((qo d _).1 i1).ok ?_) <;> (try simp only [go_sem, ↓reduceIte, Nat.reduceEqDiff, Nat.reduceAdd, Nat.reduceSub, Nat.reduceMul, Nat.reduceLT, Nat.reduceLeDiff, reduceCtorEq, Int.reduceToNat])))
              all_goals first | (exfalso; unfold qdw at hE; simp only [*, qqa, encs, qb8, qce, if_true, if_false, reduceIte, Bool.false_eq_true, Option.isSome_some, Option.isSome_none, Option.getD_some, Option.getD_none, and_self, true_and, and_true, Bool.true_and, Bool.false_and, not_true_eq_false] at hE; done) | (unfold qdw; simp only [*, qqa, encs, qb8, qce, if_true, if_false, reduceIte, Bool.false_eq_true, Option.isSome_some, Option.isSome_none, Option.getD_some, Option.getD_none, and_self, true_and, and_true, Bool.true_and, Bool.false_and, not_true_eq_false])
          · simp only [hmm] at hE
            obtain rfl := hk2 hE
            have h0 : ¬ acc = [] := by
              intro h
              subst h
              apply hE
              unfold qdw
              repeat' split
              all_goals rfl
            have hne := qcr h0
            simp only [qcm hne, qcl hne, qcc, hmm]
            repeat' (first | refine ql ?_ | refine qk ?_ | ((first | refine qn ?_ | refine qm ?_ | refine qz ?_ | refine qj ?_ | refine qi ?_) <;> (try simp (disch := first | omega | (simp only [List.length_set, List.length_append, List.length_cons, List.length_nil]; done) | (simp only [List.length_set, List.length_append, List.length_cons, List.length_nil]; omega)) only [hmm, go_sem, ↓reduceIte, Nat.reduceEqDiff, Nat.reduceAdd, Nat.reduceSub, Nat.reduceMul, Nat.reduceLT, Nat.reduceLeDiff, reduceCtorEq, Int.reduceToNat])) | ((first | ((first | refine qf ?_ ?_ | refine qc ?_ ?_) <;> intro hc <;> (try simp only [hc]) <;> (try simp only [qb, qa, decide_eq_true_eq, decide_eq_false_iff_not, Bool.and_eq_true] at hc)) | refine And.intro (by first | assumption | omega | (have := qh (by assumption); omega) | (unfold qt; omega)) ?_ | simp (disch := omega) only [qd] | simp (disch := omega) only [qq] | refine qde i1.ok ?_ | refine qde ((qo d _).1 i1).ok ?_) <;> (try simp only [go_sem, ↓reduceIte, Nat.reduceEqDiff, Nat.reduceAdd, Nat.reduceSub, Nat.reduceMul, Nat.reduceLT, Nat.reduceLeDiff, reduceCtorEq, Int.reduceToNat])))
            all_goals first | (exfalso; unfold qdw at hE; simp only [*, qqa, encs, qb8, qce, if_true, if_false, reduceIte, Bool.false_eq_true, Option.isSome_some, Option.isSome_none, Option.getD_some, Option.getD_none, and_self, true_and, and_true, Bool.true_and, Bool.false_and, not_true_eq_false] at hE; done) | (unfold qdw; simp only [*, qqa, encs, qb8, qce, if_true, if_false, reduceIte, Bool.false_eq_true, Option.isSome_some, Option.isSome_none, Option.getD_some, Option.getD_none, and_self, true_and, and_true, Bool.true_and, Bool.false_and, not_true_eq_false]; rw [qcl hne, qcm hne, qcc]; exact ⟨rfl, rfl⟩)
        | true =>
          have i6 := (i3 rfl).2
          replace i3 := (i3 rfl).1
          clear i4
          obtain ⟨fu, rfl⟩ : ∃ k, fu = k + 1 := ⟨fu - 1, by omega⟩
          rw [qdi] at i3
          have j1 : (qbi rec d).1.good := (qfo hm d).1 i1
          have j2 : rest (qbi rec d).1 ≤ rest d := (qfo hm d).2.1
          have j3 : (qp (qbi rec d).1 [44]).1.good := (q8 _ _).1 j1
          have j4 := (q8 (qbi rec d).1 [44]).2.1
          by_cases hs : (qbi rec d).2.isSome = true
          · rw [if_pos hs] at i3
            have hlt := qhs hm hs
            obtain ⟨d', hd', k1, k2, k3, k4⟩ : ∃ d', d' = (if mm = true then (qp (qbi rec d).1 [44]).1 else (qbi rec d).1) ∧ d'.good ∧ rest d' ≤ rest (qbi rec d).1 ∧ ((mm && (qp (qbi rec d).1 [44]).2) = true → qdi rec mm fu d' (acc ++ [(qbi rec d).2.getD N0]) = tg) ∧ ((mm && (qp (qbi rec d).1 [44]).2) = false → tg = (d', some (acc ++ [(qbi rec d).2.getD N0]))) := by
              refine ⟨_, rfl, ?_, ?_, fun h => ?_, fun h => ?_⟩
              · cases mm
                · exact j1
                · exact j3
              · cases mm
                · exact Nat.le_refl _
                · exact j4
              · rw [if_pos h] at i3
                rw [if_pos (by simp only [Bool.and_eq_true] at h; exact h.1)]
                exact i3
              · rw [if_neg (by rw [h]; simp)] at i3
                rw [← i3]
                clear hmm
                cases mm
                · rfl
                · rw [Bool.true_and] at h
                  rw [if_pos rfl, qdo h]
            by_cases h0 : acc = []
            · subst h0
              simp only [encs, qb8, qce, hmm]
              repeat' (first | refine ql ?_ | refine qk ?_ | ((first | refine qn ?_ | refine qm ?_ | refine qz ?_ | refine qj ?_ | refine qi ?_) <;> (try simp (disch := first | omega | (simp only [List.length_set, List.length_append, List.length_cons, List.length_nil]; done) | (simp only [List.length_set, List.length_append, List.length_cons, List.length_nil]; omega)) only [hmm, hs, go_sem, ↓reduceIte, Nat.reduceEqDiff, Nat.reduceAdd, Nat.reduceSub, Nat.reduceMul, Nat.reduceLT, Nat.reduceLeDiff, reduceCtorEq, Int.reduceToNat])) | ((first | ((first | refine qf ?_ ?_ | refine qc ?_ ?_) <;> intro hc <;> (try simp only [hc]) <;> (try simp only [qb, qa, decide_eq_true_eq, decide_eq_false_iff_not, Bool.and_eq_true] at hc)) | refine And.intro (by first | assumption | omega | (have := qh (by assumption); omega) | (unfold qt; omega)) ?_ | simp (disch := omega) only [qd] | simp (disch := omega) only [qq] | refine qc7 (qli hm ih d i1 i2) rfl ?_ | refine qd9 j1.ok ?_) <;> (try simp only [go_sem, ↓reduceIte, Nat.reduceEqDiff, Nat.reduceAdd, Nat.reduceSub, Nat.reduceMul, Nat.reduceLT, Nat.reduceLeDiff, reduceCtorEq, Int.reduceToNat])))
              · refine qcq (mm && (qp (qbi rec d).1 [44]).2, fu, d', [] ++ [(qbi rec d).2.getD N0]) [0, 2] ⟨⟨k1, by simp only; omega, fun h => ⟨by first | exact k3 h | (have := k3 h; simpa only [hmm] using this), by simp only; omega⟩, fun h => k4 h, ?_⟩, ?_⟩ rfl (by simp) ?_ ?_ ?_
                · simp only [List.length_append, List.length_cons, List.length_nil]; omega
                · simp only; split <;> omega
                all_goals simp only [hd', hmm, if_true, if_false, reduceIte, Bool.false_eq_true, Bool.true_and, Bool.false_and, q06, ← qbf, qe2, qe0, List.nil_append, encs, qf5, qgf]
                all_goals simp only [go_sem, ↓reduceIte, Nat.reduceEqDiff, Nat.reduceAdd, Nat.reduceSub, Nat.reduceMul, Nat.reduceLT, Nat.reduceLeDiff, reduceCtorEq, Int.reduceToNat]
            · have hne := qcr h0
              simp only [qcm hne, qcl hne, qcc, hmm]
              repeat' (first | refine ql ?_ | refine qk ?_ | ((first | refine qn ?_ | refine qm ?_ | refine qz ?_ | refine qj ?_ | refine qi ?_) <;> (try simp (disch := first | omega | (simp only [List.length_set, List.length_append, List.length_cons, List.length_nil]; done) | (simp only [List.length_set, List.length_append, List.length_cons, List.length_nil]; omega)) only [hmm, hs, go_sem, ↓reduceIte, Nat.reduceEqDiff, Nat.reduceAdd, Nat.reduceSub, Nat.reduceMul, Nat.reduceLT, Nat.reduceLeDiff, reduceCtorEq, Int.reduceToNat])) | ((first | ((first | refine qf ?_ ?_ | refine qc ?_ ?_) <;> intro hc <;> (try simp only [hc]) <;> (try simp only [qb, qa, decide_eq_true_eq, decide_eq_false_iff_not, Bool.and_eq_true] at hc)) | refine And.intro (by first | assumption | omega | (have := qh (by assumption); omega) | (unfold qt; omega)) ?_ | simp (disch := omega) only [qd] | simp (disch := omega) only [qq] | refine qc7 (qli hm ih d i1 i2) rfl ?_ | refine qd9 j1.ok ?_) <;> (try simp only [go_sem, ↓reduceIte, Nat.reduceEqDiff, Nat.reduceAdd, Nat.reduceSub, Nat.reduceMul, Nat.reduceLT, Nat.reduceLeDiff, reduceCtorEq, Int.reduceToNat])))
              · refine qcq (mm && (qp (qbi rec d).1 [44]).2, fu, d', acc ++ [(qbi rec d).2.getD N0]) [0, 3] ⟨⟨k1, by simp only; omega, fun h => ⟨by first | exact k3 h | (have := k3 h; simpa only [hmm] using this), by simp only; omega⟩, fun h => k4 h, ?_⟩, ?_⟩ rfl (by simp) ?_ ?_ ?_
                · simp only [List.length_append, List.length_cons, List.length_nil]; omega
                · simp only; split <;> omega
                all_goals simp only [hd', hmm, if_true, if_false, reduceIte, Bool.false_eq_true, Bool.true_and, Bool.false_and, q06, ← qbf, qe2, qe0, List.nil_append, encs, qf5, qgf]
                all_goals simp only [go_sem, ↓reduceIte, Nat.reduceEqDiff, Nat.reduceAdd, Nat.reduceSub, Nat.reduceMul, Nat.reduceLT, Nat.reduceLeDiff, reduceCtorEq, Int.reduceToNat]
                all_goals (try (rw [qbf, qcs, qdr]; exact ⟨rfl, rfl⟩))
          · have hs : (qbi rec d).2.isSome = false := by simpa using hs
            rw [if_neg (by rw [hs]; simp)] at i3
            subst i3
            obtain rfl := hk1 rfl
            by_cases h0 : acc = []
            · subst h0
              simp only [encs, qb8, qce, hmm]
              repeat' (first | refine ql ?_ | refine qk ?_ | ((first | refine qn ?_ | refine qm ?_ | refine qz ?_ | refine qj ?_ | refine qi ?_) <;> (try simp (disch := first | omega | (simp only [List.length_set, List.length_append, List.length_cons, List.length_nil]; done) | (simp only [List.length_set, List.length_append, List.length_cons, List.length_nil]; omega)) only [hmm, hs, go_sem, ↓reduceIte, Nat.reduceEqDiff, Nat.reduceAdd, Nat.reduceSub, Nat.reduceMul, Nat.reduceLT, Nat.reduceLeDiff, reduceCtorEq, Int.reduceToNat])) | ((first | ((first | refine qf ?_ ?_ | refine qc ?_ ?_) <;> intro hc <;> (try simp only [hc]) <;> (try simp only [qb, qa, decide_eq_true_eq, decide_eq_false_iff_not, Bool.and_eq_true] at hc)) | refine And.intro (by first | assumption | omega | (have := qh (by assumption); omega) | (unfold qt; omega)) ?_ | simp (disch := omega) only [qd] | simp (disch := omega) only [qq] | refine qc7 (qli hm ih d i1 i2) rfl ?_ | refine qd9 j1.ok ?_) <;> (try simp only [go_sem, ↓reduceIte, Nat.reduceEqDiff, Nat.reduceAdd, Nat.reduceSub, Nat.reduceMul, Nat.reduceLT, Nat.reduceLeDiff, reduceCtorEq, Int.reduceToNat])))
              exact ⟨rfl, rfl⟩
            · have hne := qcr h0
              simp only [qcm hne, qcl hne, qcc, hmm]
              repeat' (first | refine ql ?_ | refine qk ?_ | ((first | refine qn ?_ | refine qm ?_ | refine qz ?_ | refine qj ?_ | refine qi ?_) <;> (try simp (disch := first | omega | (simp only [List.length_set, List.length_append, List.length_cons, List.length_nil]; done) | (simp only [List.length_set, List.length_append, List.length_cons, List.length_nil]; omega)) only [hmm, hs, go_sem, ↓reduceIte, Nat.reduceEqDiff, Nat.reduceAdd, Nat.reduceSub, Nat.reduceMul, Nat.reduceLT, Nat.reduceLeDiff, reduceCtorEq, Int.reduceToNat])) | ((first | ((first | refine qf ?_ ?_ | refine qc ?_ ?_) <;> intro hc <;> (try simp only [hc]) <;> (try simp only [qb, qa, decide_eq_true_eq, decide_eq_false_iff_not, Bool.and_eq_true] at hc)) | refine And.intro (by first | assumption | omega | (have := qh (by assumption); omega) | (unfold qt; omega)) ?_ | simp (disch := omega) only [qd] | simp (disch := omega) only [qq] | refine qc7 (qli hm ih d i1 i2) rfl ?_ | refine qd9 j1.ok ?_) <;> (try simp only [go_sem, ↓reduceIte, Nat.reduceEqDiff, Nat.reduceAdd, Nat.reduceSub, Nat.reduceMul, Nat.reduceLT, Nat.reduceLeDiff, reduceCtorEq, Int.reduceToNat])))
              exact ⟨rfl, rfl⟩
      )
  · have hpa : qbd rec c = (c, if failT c = true then none else some []) := by rw [qbd, if_neg ha]
    rw [hpa] at hk1 hk2 ⊢
    obtain rfl := hk1 (by simp only; split <;> rfl)
    repeat' (first | refine ql ?_ | refine qk ?_ | ((first | refine qn ?_ | refine qm ?_ | refine qz ?_ | refine qj ?_ | refine qi ?_) <;> (try simp (disch := first | omega | (simp only [List.length_set, List.length_append, List.length_cons, List.length_nil]; done) | (simp only [List.length_set, List.length_append, List.length_cons, List.length_nil]; omega)) only [ha, go_sem, ↓reduceIte, Nat.reduceEqDiff, Nat.reduceAdd, Nat.reduceSub, Nat.reduceMul, Nat.reduceLT, Nat.reduceLeDiff, reduceCtorEq, Int.reduceToNat])) | ((first | ((first | refine qf ?_ ?_ | refine qc ?_ ?_) <;> intro hc <;> (try simp only [hc]) <;> (try simp only [qb, qa, decide_eq_true_eq, decide_eq_false_iff_not, Bool.and_eq_true] at hc)) | refine And.intro (by first | assumption | omega | (have := qh (by assumption); omega) | (unfold qt; omega)) ?_ | simp (disch := omega) only [qd] | simp (disch := omega) only [qq] | refine q18 hg.ok hg.2.1 ?_ | refine qba4 hg.ok ?_) <;> (try simp only [go_sem, ↓reduceIte, Nat.reduceEqDiff, Nat.reduceAdd, Nat.reduceSub, Nat.reduceMul, Nat.reduceLT, Nat.reduceLeDiff, reduceCtorEq, Int.reduceToNat])))
    cases failT c <;> exact ⟨rfl, rfl⟩
end
set_option maxRecDepth 4000

theorem qoj {rec : K → K × Option N} {c : K} (h : qhr rec c) (h0 : (qbd rec c).2.getD [] = []) {L : List Ent} {Q : List Ent → VO → Prop} (hq : Q (curE (qbd rec c).1 :: L) (.val (.tup [.nils, .bool (qbd rec c).2.isSome]))) :
    VApp Try.prog (curE c :: L) (.fn 61 [] []) [.ptr 0 0] Q :=
  qb0 (r := .tup [.nils, .bool (qbd rec c).2.isSome]) (e' := curE (qbd rec c).1) (by
    unfold qhr at h
    rw [h0] at h
    unfold qca
    have hr : qqa 1 (qbd rec c).2 = .tup [.nils, .bool (qbd rec c).2.isSome] := by rw [qqa, h0]; rfl
    rw [hr] at h
    exact h) (qbk _ _) (qbk _ _) rfl rfl fun _ => hq
theorem qxu {rec : K → K × Option N} {c : K} (h : qhr rec c) {l : List N} (hl : (qbd rec c).2 = some l) (h0 : l ≠ []) {L : List Ent} {Q : List Ent → VO → Prop}
    (hq : Q (curE (qbd rec c).1 :: (L ++ [.app 5 (encs l)])) (.val (.tup [.row (L.length + 1) l.length, .bool true]))) :
    VApp Try.prog (curE c :: L) (.fn 61 [] []) [.ptr 0 0] Q :=
  qgo (first := []) (caps := []) (by
    simp only [List.nil_append, List.append_nil]
    have hne := qcr h0
    have hs : AV.rens (sg [0]) [.ptr 0 0] = [.ptr 0 0] := rfl
    rw [← hs]
    have ha : AV.bds 1 [.ptr 0 0] = true := rfl
    have napp_ren : ∀ σ : Nat → Nat, (Ent.app 5 (encs l)).ren σ = .app 5 (encs l) := fun σ => Ent.ren_same (m := 0) (fun i hi => by omega) _ (by simp [Ent.bd, qcs])
    refine qfk (H0 := [curE c]) [0] h (by simp) (by simp) rfl ?_ ha ?_
    · intro j e2 hj
      obtain rfl : j = 0 := by have := (List.getElem?_eq_some_iff.1 hj).1; simp at this; omega
      simp only [List.getElem?_cons_zero, Option.some.injEq] at hj
      subst hj
      exact .inr ⟨qbk _ _, by rw [qlk]; rfl⟩
    rintro H1 o ⟨rfl, rfl⟩
    rw [hl]
    simp only [Option.getD_some, qcl hne, qqa, qcm hne, qcc, Option.isSome_some, List.length_cons, List.length_nil, List.take_succ_cons, List.take_zero, List.map_nil, qb7, List.drop_zero, List.drop_succ_cons, List.map_cons, qlk, napp_ren, VO.ren, AV.ren, AV.rens, sg', List.set_cons_zero]
    exact hq)
def qoi (p : Int) (l : List N) (t : N) : N := .mk 4 p 0 [] (l ++ [t])
def qdm (f : Nat) (c : K) : K × Option N :=
  if (qbd (qbt f) c).2.isSome = true then ((qbt f (qbd (qbt f) c).1).1, (qbt f (qbd (qbt f) c).1).2.map (qoi (qw c).pos ((qbd (qbt f) c).2.getD [])))
  else ((qbd (qbt f) c).1, none)
theorem qo6 {c : K} {L : List Ent} {p : Int} {l : List N} {t : N} {b : Bool} {Q : List Ent → VO → Prop} (hq : Q (curE c :: L) (.val (resP (qkb (qoi p l t) b)))) :
    VApp Try.prog (curE c :: L) (.fn 63 [] []) [.ptr 0 0, .agg [.int .i64 4, .int .i64 p, .int .i64 0, .str [], .sl 5 (encs l ++ [enc t])], .bool b] Q := by
  have h := qrn (n := qoi p l t) hq
  simpa only [qoi, enc, qbf] using h
theorem quk {c : K} {L : List Ent} {p : Int} {t : N} {b : Bool} {Q : List Ent → VO → Prop} (hq : Q (curE c :: L) (.val (resP (qkb (qoi p [] t) b)))) :
    VApp Try.prog (curE c :: L) (.fn 63 [] []) [.ptr 0 0, .agg [.int .i64 4, .int .i64 p, .int .i64 0, .str [], .sl 5 [enc t]], .bool b] Q := qo6 (l := []) hq
theorem qs0 {r : Option N} {p : Int} {l : List N} : qkb (qoi p l (r.getD N0)) r.isSome = r.map (qoi p l) := qpz
theorem qs2 {rec : K → K × Option N} (hm : ∀ c, Mon c (rec c).1) (many : Bool) : ∀ (f : Nat) (c : K) (acc l : List N), (qdi rec many f c acc).2 = some l → l.length ≤ acc.length + rest c
  | 0, c, acc, l => fun h => by cases h
  | f + 1, c, acc, l => fun h => by
    rw [qdi] at h
    split at h
    · rename_i hs
      have h1 := qhs hm hs
      split at h
      · have h2 := qs2 hm many f _ _ _ h
        have h3 := (q8 (qbi rec c).1 [44]).2.1
        simp only [List.length_append, List.length_cons, List.length_nil] at h2
        omega
      · cases h
        simp only [List.length_append, List.length_cons, List.length_nil]
        omega
    · cases h
theorem qmu {m : Bool} {r : K × Option (List N)} {l : List N} (h : (qdw m r).2 = some l) : r.2 = some l := by
  unfold qdw at h
  repeat' split at h
  all_goals first | exact h | cases h
theorem qrt {rec : K → K × Option N} (hm : ∀ c, Mon c (rec c).1) {c : K} {l : List N} (h : (qbd rec c).2 = some l) : l.length ≤ rest c := by
  unfold qbd at h
  split at h
  · have h := qmu h
    unfold qfb at h
    split at h
    · cases h; exact Nat.zero_le _
    · have h1 := qs2 hm _ _ _ _ _ h
      have h2 := (q8 c [40]).2.1
      simp only [List.length_nil] at h1
      omega
  · simp only at h
    split at h
    · cases h
    · cases h; exact Nat.zero_le _
theorem qx6 (f : Nat) (c : K) (hg : c.good) (hr : rest c < f) : qca Try.prog 56 (curE c) (curE (qdm f c).1) [.ptr 0 0] (resP (qdm f c).2) := by
  have hm := qfx f
  have hP := que hm (q27 f) c hg (by omega)
  have g1 : (qbd (qbt f) c).1.good := (qge hm c).1 hg
  have hr1 : rest (qbd (qbt f) c).1 < f := by have := (qge hm c).2.1; omega
  refine q9 c0t 1 (by simp) (by simp) ?_
  unfold qdm
  cases ho : (qbd (qbt f) c).2 with
  | none =>
    have h0 : (qbd (qbt f) c).2.getD [] = [] := by rw [ho]; rfl
    repeat' (first | refine ql ?_ | ((first | refine qn ?_ | refine qm ?_ | refine qj ?_ | refine qi ?_) <;> (try simp (disch := first | omega | (simp only [List.length_set, List.length_append, List.length_cons, List.length_nil]; done) | (simp only [List.length_set, List.length_append, List.length_cons, List.length_nil]; omega)) only [ho, Option.isSome_none, go_sem, ↓reduceIte, Nat.reduceEqDiff, Nat.reduceAdd, Nat.reduceSub, Nat.reduceMul, Nat.reduceLT, Nat.reduceLeDiff, reduceCtorEq, Int.reduceToNat])) | ((first | ((first | refine qf ?_ ?_ | refine qc ?_ ?_) <;> intro hc <;> (try simp only [hc]) <;> (try simp only [qb, qa, decide_eq_true_eq, decide_eq_false_iff_not, Bool.and_eq_true] at hc)) | refine And.intro (by first | assumption | omega | (have := qh (by assumption); omega) | (unfold qt; omega)) ?_ | simp (disch := omega) only [qd] | simp (disch := omega) only [qq] | refine qc8 ?_ | refine qoj hP h0 ?_) <;> (try simp only [go_sem, ↓reduceIte, Nat.reduceEqDiff, Nat.reduceAdd, Nat.reduceSub, Nat.reduceMul, Nat.reduceLT, Nat.reduceLeDiff, reduceCtorEq, Int.reduceToNat])))
    rw [qd3]; rfl
  | some l =>
    have hlen := qrt hm ho
    have hlen2 := hg.rest
    by_cases h0 : l = []
    · subst h0
      have h0 : (qbd (qbt f) c).2.getD [] = [] := by rw [ho]; rfl
      have hcap : qt 1 64 := capN (by omega)
      repeat' (first | refine ql ?_ | ((first | refine qn ?_ | refine qm ?_ | refine qj ?_ | refine qi ?_) <;> (try simp (disch := first | omega | (simp only [List.length_set, List.length_append, List.length_cons, List.length_nil]; done) | (simp only [List.length_set, List.length_append, List.length_cons, List.length_nil]; omega)) only [ho, Option.isSome_some, go_sem, ↓reduceIte, Nat.reduceEqDiff, Nat.reduceAdd, Nat.reduceSub, Nat.reduceMul, Nat.reduceLT, Nat.reduceLeDiff, reduceCtorEq, Int.reduceToNat])) | ((first | ((first | refine qf ?_ ?_ | refine qc ?_ ?_) <;> intro hc <;> (try simp only [hc]) <;> (try simp only [qb, qa, decide_eq_true_eq, decide_eq_false_iff_not, Bool.and_eq_true] at hc)) | refine And.intro (by first | assumption | omega | (have := qh (by assumption); omega) | (unfold qt; omega)) ?_ | simp (disch := omega) only [qd] | simp (disch := omega) only [qq] | refine qc8 ?_ | refine qoj hP h0 ?_ | refine qc7 (q27 f _ g1 hr1) rfl ?_ | refine quk ?_) <;> (try simp only [go_sem, ↓reduceIte, Nat.reduceEqDiff, Nat.reduceAdd, Nat.reduceSub, Nat.reduceMul, Nat.reduceLT, Nat.reduceLeDiff, reduceCtorEq, Int.reduceToNat])))
      rw [qs0]; rfl
    · have hcap : qt (l.length + 1) 64 := capN (by unfold rest at hlen; omega)
      repeat' (first | refine ql ?_ | ((first | refine qn ?_ | refine qm ?_ | refine qj ?_ | refine qi ?_) <;> (try simp (disch := first | omega | (simp only [List.length_set, List.length_append, List.length_cons, List.length_nil]; done) | (simp only [List.length_set, List.length_append, List.length_cons, List.length_nil]; omega)) only [ho, Option.isSome_some, go_sem, ↓reduceIte, Nat.reduceEqDiff, Nat.reduceAdd, Nat.reduceSub, Nat.reduceMul, Nat.reduceLT, Nat.reduceLeDiff, reduceCtorEq, Int.reduceToNat])) | ((first | ((first | refine qf ?_ ?_ | refine qc ?_ ?_) <;> intro hc <;> (try simp only [hc]) <;> (try simp only [qb, qa, decide_eq_true_eq, decide_eq_false_iff_not, Bool.and_eq_true] at hc)) | refine And.intro (by first | assumption | omega | (have := qh (by assumption); omega) | (unfold qt; omega)) ?_ | simp (disch := omega) only [qd] | simp (disch := omega) only [qq] | refine qc8 ?_ | refine qxu hP ho h0 ?_ | refine qc7 (q27 f _ g1 hr1) rfl ?_ | refine qo6 ?_) <;> (try simp only [go_sem, ↓reduceIte, Nat.reduceEqDiff, Nat.reduceAdd, Nat.reduceSub, Nat.reduceMul, Nat.reduceLT, Nat.reduceLeDiff, reduceCtorEq, Int.reduceToNat])))
      rw [qs0]; rfl

/-! The size of what is read. -/
theorem qgl : ∀ (a b : List N), szs (a ++ b) = szs a + szs b
  | [], b => by simp [szs]
  | x :: a, b => by rw [List.cons_append, szs, szs, qgl a b]; omega
theorem qt9 (c : K) (k : Int) (ks : List N) : sz (qhg c k ks) = szs ks + 1 := by rw [qiw]; rfl
section
variable {rec : K → K × Option N} (hm : ∀ c, Mon c (rec c).1) (ih : ∀ c n, (rec c).2 = some n → sz n + rest (rec c).1 ≤ rest c)
include hm ih
omit hm in
theorem qj5 {c : K} {n : N} (h : (qbr rec c).2 = some n) : sz n + rest (qbr rec c).1 ≤ rest c := by
  unfold qbr at h ⊢
  split at h
  · rename_i h1
    rw [if_pos h1]
    cases h
    have := qbh (c := c) (by omega)
    rw [qt9]; simp only [szs]; omega
  · rename_i h1
    rw [if_neg h1]
    split at h
    · rename_i h2
      rw [if_pos h2]
      cases h
      have := qbh (c := c) (by omega)
      rw [qt9]; simp only [szs]; omega
    · rename_i h2
      rw [if_neg h2]
      split at h
      · rename_i h3
        rw [if_pos h3]
        split at h
        · rename_i h4
          rw [if_pos h4]
          have hp := qbh (c := (qe c).1) (by rw [qcu h4]; exact qcd h3)
          have h0 := (qx c).2.1
          split at h
          · rename_i h5
            rw [if_pos h5]
            simp only at h ⊢
            split at h
            · have h6 := ih _ _ h
              have h7 := (qo (rec (qs (qe c).1)).1 [41]).2.1
              have h8 := (qbg (qr (rec (qs (qe c).1)).1 [41]).1).2.1
              omega
            · cases h
          · cases h
        · cases h
      · cases h
omit hm in
theorem qop : ∀ (f : Nat) (c : K) (acc l : List N), (qc2 rec f c acc).2 = some l → szs l + rest (qc2 rec f c acc).1 ≤ szs acc + rest c
  | 0, c, acc, l => fun h => by cases h
  | f + 1, c, acc, l => fun h => by
    rw [qc2] at h ⊢
    split at h
    · rename_i h1
      rw [if_pos h1]
      split at h
      · rename_i h2
        rw [if_pos h2]
        obtain ⟨n, hn⟩ := Option.isSome_iff_exists.1 h2
        have h3 := qop f _ _ _ h
        have h4 := qj5 ih hn
        rw [qgl, hn] at h3
        simp only [Option.getD_some, szs] at h3
        rw [hn]
        simp only [Option.getD_some]
        omega
      · cases h
    · rename_i h1
      rw [if_neg h1]
      cases h
      exact Nat.le_refl _
omit hm in
theorem qs5 {c : K} {n : N} (h : (qbx rec c).2 = some n) : sz n + rest (qbx rec c).1 ≤ rest c := by
  unfold qbx at h ⊢
  split at h
  · rename_i h1
    rw [if_pos h1]
    obtain ⟨l, hl, rfl⟩ := Option.map_eq_some_iff.1 h
    have h2 := qop ih _ _ _ _ hl
    have h3 := qbh (c := c) (by omega)
    rw [qt9]
    simp only [szs] at h2 ⊢
    omega
  · rename_i h1
    rw [if_neg h1]
    exact qj5 ih h
omit hm in
theorem qyu {c : K} {n : N} (h : (qbi rec c).2 = some n) : sz n + rest (qbi rec c).1 ≤ rest c := by
  unfold qbi at h ⊢
  split at h
  · rename_i h1
    rw [if_pos h1]
    obtain ⟨m, hk, rfl⟩ := Option.map_eq_some_iff.1 h
    have h2 := qj5 ih hk
    obtain ⟨e1, e2⟩ := qir h1
    rw [(q3e h1).1] at h2 ⊢
    have h3 := qbh (c := c) (by omega)
    have : sz (qp2 (qhh c 2) m) = sz m + 1 := by rw [qiw]; simp [qp2, N.kids, szs]
    simp only at h2 ⊢
    omega
  · cases h
omit hm in
theorem qsp (many : Bool) : ∀ (f : Nat) (c : K) (acc l : List N), (qdi rec many f c acc).2 = some l → szs l + rest (qdi rec many f c acc).1 ≤ szs acc + rest c
  | 0, c, acc, l => fun h => by cases h
  | f + 1, c, acc, l => fun h => by
    rw [qdi] at h ⊢
    split at h
    · rename_i h1
      rw [if_pos h1]
      obtain ⟨n, hn⟩ := Option.isSome_iff_exists.1 h1
      have h4 := qyu ih hn
      split at h
      · rename_i h2
        rw [if_pos h2]
        have h3 := qsp many f _ _ _ h
        have h5 := (q8 (qbi rec c).1 [44]).2.1
        rw [qgl, hn] at h3
        simp only [Option.getD_some, szs] at h3
        rw [hn]
        simp only [Option.getD_some]
        omega
      · rename_i h2
        rw [if_neg h2]
        cases h
        rw [hn, qgl]
        simp only [Option.getD_some, szs]
        omega
    · cases h
end
theorem qpt : ∀ (f : Nat) (c : K) (n : N), (qbt f c).2 = some n → sz n + rest (qbt f c).1 ≤ rest c
  | 0, _, _ => fun h => by cases h
  | f + 1, c, n => fun h => by
    have ih := qpt f
    have h0 := (qx c).2.1
    rw [qbt] at h ⊢
    split at h
    · rename_i h1
      rw [if_pos h1]
      split at h
      · rename_i h2
        rw [if_pos h2]
        obtain ⟨m, hm⟩ := Option.isSome_iff_exists.1 h2
        have h3 := qs5 ih hm
        split at h
        · rename_i h4
          rw [if_pos h4]
          obtain ⟨q, hq, rfl⟩ := Option.map_eq_some_iff.1 h
          have h5 := ih _ _ hq
          have h6 := (qbg (qbt f (qp (qbx (qbt f) (qe c).1).1 [45, 62]).1).1).2.1
          have h7 : rest (qp (qbx (qbt f) (qe c).1).1 [45, 62]).1 + 1 ≤ rest (qbx (qbt f) (qe c).1).1 := by
            unfold qp at h4 ⊢
            split at h4
            · rename_i h8
              rw [if_pos h8]
              have := qbh (qcd h8)
              simp only; omega
            · cases h4
          have : sz (qiy ((qbx (qbt f) (qe c).1).2.getD N0) q) = sz m + sz q + 1 := by rw [qiw, hm]; simp [qiy, N.kids, szs]
          simp only
          omega
        · rename_i h4
          rw [if_neg h4]
          have h5 := (qbg (qbx (qbt f) (qe c).1).1).2.1
          have h6 := qs5 ih h
          simp only
          omega
      · cases h
    · cases h
theorem qxb {f : Nat} {c : K} {n : N} (h : (qdm f c).2 = some n) : sz n + rest (qdm f c).1 ≤ rest c + 1 := by
  unfold qdm at h ⊢
  split at h
  · rename_i h1
    rw [if_pos h1]
    obtain ⟨l, hl⟩ := Option.isSome_iff_exists.1 h1
    obtain ⟨q, hq, rfl⟩ := Option.map_eq_some_iff.1 h
    have h2 := qpt f _ _ hq
    rw [hl]
    have h3 : szs l + rest (qbd (qbt f) c).1 ≤ rest c := by
      have hx := hl
      unfold qbd at hx ⊢
      split at hx
      · rename_i ha
        rw [if_pos ha]
        have h5 := qmu hx
        have h6 : szs l + rest (qfb (qbt f) c).1 ≤ rest c := by
          unfold qfb at h5 ⊢
          have ht := (q8 c [40]).2.1
          split at h5
          · rename_i hb
            rw [if_pos hb]
            cases h5
            simp only [szs]; omega
          · rename_i hb
            rw [if_neg hb]
            have := qsp (qpt f) _ _ _ _ _ h5
            simp only [szs] at this
            omega
        have h7 : rest (qdw (qp c [40]).2 (qfb (qbt f) c)).1 ≤ rest (qfb (qbt f) c).1 := by
          unfold qdw
          split
          · split
            · split
              · exact Nat.le_trans (qo _ _).2.1 (qo _ _).2.1
              · exact (qo _ _).2.1
            · exact (qo _ _).2.1
          · exact Nat.le_refl _
        omega
      · rename_i ha
        rw [if_neg ha]
        simp only at hx ⊢
        split at hx
        · cases hx
        · cases hx; simp only [szs]; omega
    have : sz (qoi (qw c).pos l q) = szs l + sz q + 1 := by rw [qiw]; simp [qoi, N.kids, qgl, szs]
    simp only [Option.getD_some]
    omega
  · cases h
theorem qh8 {l : List T} (h : l.length ≤ 1048577) : (newK l).good := ⟨Nat.zero_le _, Nat.le_trans (qkf l) h, Nat.zero_le _⟩

/-- What is all there is. -/
def qvm (c : K) (n : N) : N × Int × Int :=
  if (qe6 c).2 = 0 then if depR n > 100 then (N0, n.pos, 2) else (n, 0, 0) else (N0, (qe6 c).1, (qe6 c).2)
def qy7 (rd : K → K × Option N) (s : List UInt8) : N × Int × Int :=
  if (lexV s).2.2 = 0 then qvm (rd (newK (lexV s).1)).1 ((rd (newK (lexV s).1)).2.getD N0)
  else (N0, (lexV s).2.1, (lexV s).2.2)
def resV (r : N × Int × Int) : AV := .tup [enc r.1, .int .i64 r.2.1, .int .i64 r.2.2]
attribute [go_sem] resV lexR
theorem q03 {c : K} (h : (qe6 c).2 = 0) : c.err = 0 := by
  by_cases he : c.err = 0
  · exact he
  · rw [ql4 he] at h; exact absurd h he
theorem qjh (f : Nat) (c : K) : Mon c (qdm f c).1 := by
  have hm := qfx f
  unfold qdm
  split
  · exact (qge hm c).trans (hm _)
  · exact qge hm c
end Go.Proofs.Ytmekebfgmjaenaa
