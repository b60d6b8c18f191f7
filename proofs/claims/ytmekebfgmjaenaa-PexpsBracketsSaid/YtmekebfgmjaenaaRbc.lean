/- Texts of this proof, joined. -/
import Derived.Test.YtmekebfgmjaenaaRaz
import Derived.Test.YtmekebfgmjaenaaRba
import Derived.Test.YtmekebfgmjaenaaRbb

/- types: contexts: the program -/
set_option maxRecDepth 4000
namespace Go.Proofs.Ytmekebfgmjaenaa
open Go Go.RowKit Go.V
set_option linter.unusedVariables false
set_option linter.unusedSimpArgs false

theorem qc8 (c : K) (k : Int) : Mon c (kindK c k).1 := by
  unfold kindK
  split
  · exact qbm c
  · exact qd7 c 5
theorem qik {c : K} {k : Int} (h : (kindK c k).2 = true) : c.err = 0 ∧ (qw c).kind = k := by
  unfold kindK at h
  split at h
  · rename_i h1
    simp only [Bool.and_eq_true, decide_eq_true_eq] at h1
    exact h1
  · cases h
theorem q1j {c : K} {k : Int} (h : (kindK c k).2 = true) : kindK c k = (qt c, true) ∧ qg9 c k = qw c := by
  obtain ⟨h1, h2⟩ := qik h
  exact ⟨qmq h1 h2, qqh h1 h2⟩
theorem qv3 {c : K} {k : Int} (h : (kindK c k).2 = false) : (kindK c k).1.err ≠ 0 := by
  unfold kindK at h ⊢
  split at h
  · cases h
  · rename_i h1; rw [if_neg h1]; exact qgz c
def failT (c : K) : Bool := !decide ((qeq c).2 = 0) && (!decide ((qeq c).2 = 5) || decide ((qw c).kind = 0))
theorem qyd (c : K) (hk : c.ok) : qb8 Try.prog 67 (curE c) (curE c) [.ptr 0 0] (.bool (failT c)) := by
  refine q7 c0v 1 (by simp) (by simp) ?_
  repeat' (first | refine ql ?_ | ((first | refine qn ?_ | refine qm ?_ | refine qbj6 hk ?_ | refine qc5 ?_ | ((first | refine qf ?_ ?_ | refine qc ?_ ?_) <;> intro hc <;> (try simp only [hc]) <;> (try simp only [qb, qa, decide_eq_true_eq, decide_eq_false_iff_not, Bool.and_eq_true] at hc)) | refine And.intro (by first | assumption | omega | (have := qh (by assumption); omega) | (unfold qs; omega)) ?_ | simp (disch := omega) only [qd] | simp (disch := omega) only [qr]) <;> (try simp only [go_sem, ↓reduceIte, Nat.reduceEqDiff, Nat.reduceAdd, Nat.reduceSub, Nat.reduceMul, Nat.reduceLT, Nat.reduceLeDiff, reduceCtorEq, Int.reduceToNat])))
  all_goals (unfold failT; simp_all)
theorem qbbq {c : K} {L : List Ent} {Q : List Ent → VO → Prop} (hk : c.ok) (hq : Q (curE c :: L) (.val (.bool (failT c)))) : VApp Try.prog (curE c :: L) (.fn 67 [] []) [.ptr 0 0] Q := qbw (qyd c hk) (qbf _ _) (qbf _ _) rfl rfl fun _ => hq
def qqu (t : T) (n : N) : N := .mk 3 t.pos 0 t.text [n]
def qbe (rec : K → K × Option N) (c : K) : K × Option N :=
  if (kindK c 2).2 = true then ((qbl rec (kindK c 2).1).1, (qbl rec (kindK c 2).1).2.map (qqu (qg9 c 2)))
  else ((kindK c 2).1, none)
theorem qxm {c : K} {L : List Ent} {t : T} {n : N} {b : Bool} {Q : List Ent → VO → Prop} (hq : Q (curE c :: L) (.val (resP (qkj (qqu t n) b)))) :
    VApp Try.prog (curE c :: L) (.fn 63 [] []) [.ptr 0 0, .agg [.int .i64 3, .int .i64 t.pos, .int .i64 0, .str t.text, .sl 5 [enc n]], .bool b] Q := by
  have h := qsb (n := qqu t n) hq
  simpa only [qqu, enc, encs] using h
theorem qyz {r : Option N} {t : T} : qkj (qqu t (r.getD N0)) r.isSome = r.map (qqu t) := qqw
section
variable {rec : K → K × Option N} {b : Nat} (hm : ∀ c, Mon c (rec c).1) (ih : ∀ c, c.good → rest c < b → qb8 Try.prog 62 (curE c) (curE (rec c).1) [.ptr 0 0] (resP (rec c).2))
include hm ih
theorem qlo (c : K) (hg : c.good) (hr : rest c ≤ b) : qb8 Try.prog 68 (curE c) (curE (qbe rec c).1) [.ptr 0 0] (resP (qbe rec c).2) := by
  have g1 : (kindK c 2).1.good := (qc8 c 2).1 hg
  have hr1 : rest (kindK c 2).1 ≤ b := by have := (qc8 c 2).2.1; omega
  refine q7 c0w 1 (by simp) (by simp) ?_
  repeat' (first | refine ql ?_ | ((first | refine qn ?_ | refine qm ?_ | refine qj ?_ | refine qi ?_ | refine qpc hg.ok ?_ | refine qc3 (qh2 hm ih _ g1 hr1) rfl ?_ | refine qxm ?_ | ((first | refine qf ?_ ?_ | refine qc ?_ ?_) <;> intro hc <;> (try simp only [hc]) <;> (try simp only [qb, qa, decide_eq_true_eq, decide_eq_false_iff_not, Bool.and_eq_true] at hc)) | refine And.intro (by first | assumption | omega | (have := qh (by assumption); omega) | (unfold qs; omega)) ?_ | simp (disch := omega) only [qd] | simp (disch := omega) only [qr]) <;> (try simp only [go_sem, ↓reduceIte, Nat.reduceEqDiff, Nat.reduceAdd, Nat.reduceSub, Nat.reduceMul, Nat.reduceLT, Nat.reduceLeDiff, reduceCtorEq, Int.reduceToNat])))
  all_goals (try simp only [qyz])
  all_goals (unfold qbe; simp only [*, qdz, Int.reduceEq, if_true, if_false, reduceIte, Bool.false_eq_true, Option.getD_none, Option.getD_some, Option.isSome_none, Option.isSome_some, and_self, true_and, and_true]; try rfl)
end
set_option maxRecDepth 4000

def qdh (rec : K → K × Option N) (many : Bool) : Nat → K → List N → K × Option (List N)
  | 0, c, _ => (c, none)
  | f + 1, c, acc =>
    if (qbe rec c).2.isSome = true then
      if (many && (qp (qbe rec c).1 [44]).2) = true then qdh rec many f (qp (qbe rec c).1 [44]).1 (acc ++ [(qbe rec c).2.getD N0])
      else ((qbe rec c).1, some (acc ++ [(qbe rec c).2.getD N0]))
    else ((qbe rec c).1, none)
def qdw (many : Bool) (r : K × Option (List N)) : K × Option (List N) :=
  if r.2.isSome = true then
    if many = true then
      if (qq r.1 [41]).2 = true then ((qq (qq r.1 [41]).1 [61, 62]).1, if (qq (qq r.1 [41]).1 [61, 62]).2 = true then r.2 else none)
      else ((qq r.1 [41]).1, none)
    else ((qq r.1 [61, 62]).1, if (qq r.1 [61, 62]).2 = true then r.2 else none)
  else (r.1, none)
def qe3 (rec : K → K × Option N) (c : K) : K × Option (List N) :=
  if ((qp c [40]).2 && isK (qp c [40]).1 [41]) = true then ((qp c [40]).1, some []) else qdh rec (qp c [40]).2 (rest (qp c [40]).1 + 1) (qp c [40]).1 []
def qbb (rec : K → K × Option N) (c : K) : K × Option (List N) :=
  if qgh c [61, 62] = true then qdw (qp c [40]).2 (qe3 rec c)
  else (c, if failT c = true then none else some [])
section
variable {rec : K → K × Option N} (hm : ∀ c, Mon c (rec c).1)
include hm
theorem qfl (c : K) : Mon c (qbe rec c).1 := by
  unfold qbe
  split
  · exact (qc8 c 2).trans (qeh hm _)
  · exact qc8 c 2
theorem qhf {c : K} (h : (qbe rec c).2.isSome = true) : rest (qbe rec c).1 < rest c := by
  unfold qbe at h ⊢
  split at h
  · rename_i h1
    rw [if_pos h1]
    have h2 := (qc8 c 2).2.1
    have h3 := qeu hm (c := (kindK c 2).1) (by simpa using h)
    simp only; omega
  · cases h
theorem qou (many : Bool) : ∀ (f : Nat) (c : K) (acc : List N), Mon c (qdh rec many f c acc).1
  | 0, c, acc => Mon.refl c
  | f + 1, c, acc => by
    rw [qdh]
    split
    · split
      · exact ((qfl hm c).trans (q6 _ _)).trans (qou many f _ _)
      · exact qfl hm c
    · exact qfl hm c
theorem qxs (c : K) : Mon c (qe3 rec c).1 := by
  unfold qe3
  split
  · exact q6 c _
  · exact (q6 c _).trans (qou hm _ _ _ _)
theorem qf6 (c : K) : Mon c (qbb rec c).1 := by
  unfold qbb qdw
  have h := qxs hm c
  split
  · split
    · split
      · split
        · exact (h.trans (qo _ _)).trans (qo _ _)
        · exact h.trans (qo _ _)
      · exact h.trans (qo _ _)
    · exact h
  · exact Mon.refl c
end
def qp7 (p : Nat) (r : Option (List N)) : AV := .tup [accV p (encs (r.getD [])), .bool r.isSome]
def qhy (rec : K → K × Option N) (c : K) : Prop := VCalls Try.prog 61 [curE c] [.ptr 0 0] fun H' o => H' = curE (qbb rec c).1 :: accE 5 (encs ((qbb rec c).2.getD [])) ∧ o = .val (qp7 1 (qbb rec c).2)
def qz7 (many : Bool) (x : Bool × Nat × K × List N) : AF × List Ent :=
  (⟨[(0, .ptr 0 0), (4, accV 1 (encs x.2.2.2)), (5, .bool many), (6, .bool x.1)], []⟩, curE x.2.2.1 :: accE 5 (encs x.2.2.2))
section
variable {rec : K → K × Option N} {b : Nat} (hm : ∀ c, Mon c (rec c).1) (ih : ∀ c, c.good → rest c < b → qb8 Try.prog 62 (curE c) (curE (rec c).1) [.ptr 0 0] (resP (rec c).2))
include hm ih
theorem qtx (c : K) (hg : c.good) (hr : rest c ≤ b) : qhy rec c := by
  unfold qhy
  obtain ⟨kk, hk1, hk2, hk0⟩ : ∃ k : Nat, ((qbb rec c).2.getD [] = [] → k = 1) ∧ ((qbb rec c).2.getD [] ≠ [] → k = 2) ∧ 1 ≤ k := by
    by_cases h : (qbb rec c).2.getD [] = []
    · exact ⟨1, fun _ => rfl, fun g => absurd h g, by omega⟩
    · exact ⟨2, fun g => absurd g h, fun _ => rfl, by omega⟩
  refine qil c0u kk (by simpa using hk0) (by simp) ?_
  have g1 : (qp c [40]).1.good := (q6 c _).1 hg
  have hr1 : rest (qp c [40]).1 ≤ b := by have := (q6 c [40]).2.1; omega
  by_cases ha : qgh c [61, 62] = true
  · have hpa : qbb rec c = qdw (qp c [40]).2 (qe3 rec c) := by rw [qbb, if_pos ha]
    rw [hpa] at hk1 hk2 ⊢
    clear hpa
    unfold qe3 at hk1 hk2 ⊢
    generalize htg : (if ((qp c [40]).2 && isK (qp c [40]).1 [41]) = true then ((qp c [40]).1, some []) else qdh rec (qp c [40]).2 (rest (qp c [40]).1 + 1) (qp c [40]).1 []) = tg at hk1 hk2 ⊢
    generalize hd0 : (qp c [40]).1 = d0 at *
    generalize hmn : (qp c [40]).2 = many at *
    have h0t : (!(many && isK d0 [41])) = true → qdh rec many (rest d0 + 1) d0 [] = tg := fun h => by
      rw [Bool.not_eq_true'] at h
      rw [← htg, if_neg (by rw [h]; simp)]
    have h0f : (!(many && isK d0 [41])) = false → tg = (d0, some []) := fun h => by
      rw [Bool.not_eq_false'] at h
      rw [← htg, if_pos h]
    clear htg
    obtain ⟨mm, hmm⟩ : ∃ mm, mm = many := ⟨_, rfl⟩
    cases many <;> (
      repeat' (first | refine ql ?_ | refine qk ?_ | ((first | refine qn ?_ | refine qm ?_ | refine qz ?_ | refine qj ?_ | refine qi ?_) <;> (try simp (disch := first | omega | (simp only [List.length_set, List.length_append, List.length_cons, List.length_nil]; done) | (simp only [List.length_set, List.length_append, List.length_cons, List.length_nil]; omega)) only [ha, hd0, hmn, go_sem, ↓reduceIte, Nat.reduceEqDiff, Nat.reduceAdd, Nat.reduceSub, Nat.reduceMul, Nat.reduceLT, Nat.reduceLeDiff, reduceCtorEq, Int.reduceToNat])) | ((first | ((first | refine qf ?_ ?_ | refine qc ?_ ?_) <;> intro hc <;> (try simp only [hc]) <;> (try simp only [qb, qa, decide_eq_true_eq, decide_eq_false_iff_not, Bool.and_eq_true] at hc)) | refine And.intro (by first | assumption | omega | (have := qh (by assumption); omega) | (unfold qs; omega)) ?_ | simp (disch := omega) only [qd] | simp (disch := omega) only [qr] | refine q15 hg.ok hg.2.1 ?_ | refine qec hg.ok ?_ | refine a_Is ?_) <;> (try simp only [go_sem, ↓reduceIte, Nat.reduceEqDiff, Nat.reduceAdd, Nat.reduceSub, Nat.reduceMul, Nat.reduceLT, Nat.reduceLeDiff, reduceCtorEq, Int.reduceToNat])))
      refine qc7 (S := Bool × Nat × K × List N) (fun x => x.2.2.1.good ∧ rest x.2.2.1 ≤ b ∧ (x.1 = true → qdh rec mm x.2.1 x.2.2.1 x.2.2.2 = tg ∧ rest x.2.2.1 < x.2.1) ∧ (x.1 = false → tg = (x.2.2.1, some x.2.2.2)) ∧ x.2.2.2.length + rest x.2.2.1 ≤ 1048577)
        (qz7 mm) (fun x => if x.1 = true then rest x.2.2.1 + 1 else 0) ?_ ?_
      · refine qcq (!(mm && isK d0 [41]), rest d0 + 1, d0, []) [0] ⟨g1, hr1, fun h => ⟨by rw [hmm]; exact h0t (by simp only [hmm] at h; exact h), Nat.lt_succ_self _⟩, fun h => h0f (by simp only [hmm] at h; exact h), ?_⟩ rfl (by simp) ?_ ?_ ?_
        · have h9 := g1.rest
          unfold rest
          simp only [List.length_nil]
          omega
        all_goals simp only [qz7, encs, qb7, qcb, hmm, Bool.false_and, Bool.true_and, Bool.not_false]
        all_goals simp only [go_sem, ↓reduceIte, Nat.reduceEqDiff, Nat.reduceAdd, Nat.reduceSub, Nat.reduceMul, Nat.reduceLT, Nat.reduceLeDiff, reduceCtorEq, Int.reduceToNat]
      · rintro ⟨more, fu, d, acc⟩ ⟨i1, i2, i3, i4, i5⟩
        simp only at i1 i2 i3 i4 i5
        unfold qz7
        have hcap : qs (acc.length + 1) 64 := capN (by omega)
        cases more with
        | false =>
          have i4 := i4 rfl
          subst i4
          clear i3
          by_cases hE : (qdw mm (d, some acc)).2.getD [] = []
          · simp only [hmm] at hE
            obtain rfl := hk1 hE
            by_cases h0 : acc = []
            · subst h0
              simp only [encs, qb7, qcb, hmm]
              repeat' (first | refine ql ?_ | refine qk ?_ | ((first | refine qn ?_ | refine qm ?_ | refine qz ?_ | refine qj ?_ | refine qi ?_) <;> (try simp (disch := first | omega | (simp only [List.length_set, List.length_append, List.length_cons, List.length_nil]; done) | (simp only [List.length_set, List.length_append, List.length_cons, List.length_nil]; omega)) only [hmm, go_sem, ↓reduceIte, Nat.reduceEqDiff, Nat.reduceAdd, Nat.reduceSub, Nat.reduceMul, Nat.reduceLT, Nat.reduceLeDiff, reduceCtorEq, Int.reduceToNat])) | ((first | ((first | refine qf ?_ ?_ | refine qc ?_ ?_) <;> intro hc <;> (try simp only [hc]) <;> (try simp only [qb, qa, decide_eq_true_eq, decide_eq_false_iff_not, Bool.and_eq_true] at hc)) | refine And.intro (by first | assumption | omega | (have := qh (by assumption); omega) | (unfold qs; omega)) ?_ | simp (disch := omega) only [qd] | simp (disch := omega) only [qr] | refine qdc i1.ok ?_ | refine qdc ((qo d _).1 i1).ok ?_) <;> (try simp only [go_sem, ↓reduceIte, Nat.reduceEqDiff, Nat.reduceAdd, Nat.reduceSub, Nat.reduceMul, Nat.reduceLT, Nat.reduceLeDiff, reduceCtorEq, Int.reduceToNat])))
              all_goals (unfold qdw; simp only [*, qp7, encs, qb7, qcb, if_true, if_false, reduceIte, Bool.false_eq_true, Option.isSome_some, Option.isSome_none, Option.getD_some, Option.getD_none, and_self, true_and, and_true, Bool.true_and, Bool.false_and, not_true_eq_false])
            · have hne := qcn h0
              simp only [qch hne, qci hne, qca, hmm]
              repeat' (first | refine ql ?_ | refine qk ?_ | ((first | refine qn ?_ | refine qm ?_ | refine qz ?_ | refine qj ?_ | refine qi ?_) <;> (try simp (disch := first | omega | (simp only [List.length_set, List.length_append, List.length_cons, List.length_nil]; done) | (simp only [List.length_set, List.length_append, List.length_cons, List.length_nil]; omega)) only [hmm, go_sem, ↓reduceIte, Nat.reduceEqDiff, Nat.reduceAdd, Nat.reduceSub, Nat.reduceMul, Nat.reduceLT, Nat.reduceLeDiff, reduceCtorEq, Int.reduceToNat])) | ((first | ((first | refine qf ?_ ?_ | refine qc ?_ ?_) <;> intro hc <;> (try simp only [hc]) <;> (try simp only [qb, qa, decide_eq_true_eq, decide_eq_false_iff_not, Bool.and_eq_true] at hc)) | refine And.intro (by first | assumption | omega | (have := qh (by assumption); omega) | (unfold qs; omega)) ?_ | simp (disch := omega) only [qd] | simp (disch := omega) only [qr] | refine qdc i1.ok ?_ | refine qdc ((qo d _).1 i1).ok ?_) <;> (try simp only [go_sem, ↓reduceIte, Nat.reduceEqDiff, Nat.reduceAdd, Nat.reduceSub, Nat.reduceMul, Nat.reduceLT, Nat.reduceLeDiff, reduceCtorEq, Int.reduceToNat])))
              all_goals first | (exfalso; unfold qdw at hE; simp only [*, qp7, encs, qb7, qcb, if_true, if_false, reduceIte, Bool.false_eq_true, Option.isSome_some, Option.isSome_none, Option.getD_some, Option.getD_none, and_self, true_and, and_true, Bool.true_and, Bool.false_and, not_true_eq_false] at hE; done) | (unfold qdw; simp only [*, qp7, encs, qb7, qcb, if_true, if_false, reduceIte, Bool.false_eq_true, Option.isSome_some, Option.isSome_none, Option.getD_some, Option.getD_none, and_self, true_and, and_true, Bool.true_and, Bool.false_and, not_true_eq_false])
          · simp only [hmm] at hE
            obtain rfl := hk2 hE
            have h0 : ¬ acc = [] := by
              intro h
              subst h
              apply hE
              unfold qdw
              repeat' split
              all_goals rfl
            have hne := qcn h0
            simp only [qch hne, qci hne, qca, hmm]
            repeat' (first | refine ql ?_ | refine qk ?_ | ((first | refine qn ?_ | refine qm ?_ | refine qz ?_ | refine qj ?_ | refine qi ?_) <;> (try simp (disch := first | omega | (simp only [List.length_set, List.length_append, List.length_cons, List.length_nil]; done) | (simp only [List.length_set, List.length_append, List.length_cons, List.length_nil]; omega)) only [hmm, go_sem, ↓reduceIte, Nat.reduceEqDiff, Nat.reduceAdd, Nat.reduceSub, Nat.reduceMul, Nat.reduceLT, Nat.reduceLeDiff, reduceCtorEq, Int.reduceToNat])) | ((first | ((first | refine qf ?_ ?_ | refine qc ?_ ?_) <;> intro hc <;> (try simp only [hc]) <;> (try simp only [qb, qa, decide_eq_true_eq, decide_eq_false_iff_not, Bool.and_eq_true] at hc)) | refine And.intro (by first | assumption | omega | (have := qh (by assumption); omega) | (unfold qs; omega)) ?_ | simp (disch := omega) only [qd] | simp (disch := omega) only [qr] | refine qdc i1.ok ?_ | refine qdc ((qo d _).1 i1).ok ?_) <;> (try simp only [go_sem, ↓reduceIte, Nat.reduceEqDiff, Nat.reduceAdd, Nat.reduceSub, Nat.reduceMul, Nat.reduceLT, Nat.reduceLeDiff, reduceCtorEq, Int.reduceToNat])))
            all_goals first | (exfalso; unfold qdw at hE; simp only [*, qp7, encs, qb7, qcb, if_true, if_false, reduceIte, Bool.false_eq_true, Option.isSome_some, Option.isSome_none, Option.getD_some, Option.getD_none, and_self, true_and, and_true, Bool.true_and, Bool.false_and, not_true_eq_false] at hE; done) | (unfold qdw; simp only [*, qp7, encs, qb7, qcb, if_true, if_false, reduceIte, Bool.false_eq_true, Option.isSome_some, Option.isSome_none, Option.getD_some, Option.getD_none, and_self, true_and, and_true, Bool.true_and, Bool.false_and, not_true_eq_false]; rw [qci hne, qch hne, qca]; exact ⟨rfl, rfl⟩)
        | true =>
          have i6 := (i3 rfl).2
          replace i3 := (i3 rfl).1
          clear i4
          obtain ⟨fu, rfl⟩ : ∃ k, fu = k + 1 := ⟨fu - 1, by omega⟩
          rw [qdh] at i3
          have j1 : (qbe rec d).1.good := (qfl hm d).1 i1
          have j2 : rest (qbe rec d).1 ≤ rest d := (qfl hm d).2.1
          have j3 : (qp (qbe rec d).1 [44]).1.good := (q6 _ _).1 j1
          have j4 := (q6 (qbe rec d).1 [44]).2.1
          by_cases hs : (qbe rec d).2.isSome = true
          · rw [if_pos hs] at i3
            have hlt := qhf hm hs
            obtain ⟨d', hd', k1, k2, k3, k4⟩ : ∃ d', d' = (if mm = true then (qp (qbe rec d).1 [44]).1 else (qbe rec d).1) ∧ d'.good ∧ rest d' ≤ rest (qbe rec d).1 ∧ ((mm && (qp (qbe rec d).1 [44]).2) = true → qdh rec mm fu d' (acc ++ [(qbe rec d).2.getD N0]) = tg) ∧ ((mm && (qp (qbe rec d).1 [44]).2) = false → tg = (d', some (acc ++ [(qbe rec d).2.getD N0]))) := by
              refine ⟨_, rfl, ?_, ?_, fun h => ?_, fun h => ?_⟩
              · cases mm
                · exact j1
                · exact j3
              · cases mm
                · exact Nat.le_refl _
                · exact j4
              · rw [if_pos h] at i3
                rw [if_pos (by simp only [Bool.and_eq_true] at h; exact h.1)]
                exact i3
              · rw [if_neg (by rw [h]; simp)] at i3
                rw [← i3]
                clear hmm
                cases mm
                · rfl
                · rw [Bool.true_and] at h
                  rw [if_pos rfl, qdl h]
            by_cases h0 : acc = []
            · subst h0
              simp only [encs, qb7, qcb, hmm]
              repeat' (first | refine ql ?_ | refine qk ?_ | ((first | refine qn ?_ | refine qm ?_ | refine qz ?_ | refine qj ?_ | refine qi ?_) <;> (try simp (disch := first | omega | (simp only [List.length_set, List.length_append, List.length_cons, List.length_nil]; done) | (simp only [List.length_set, List.length_append, List.length_cons, List.length_nil]; omega)) only [hmm, hs, go_sem, ↓reduceIte, Nat.reduceEqDiff, Nat.reduceAdd, Nat.reduceSub, Nat.reduceMul, Nat.reduceLT, Nat.reduceLeDiff, reduceCtorEq, Int.reduceToNat])) | ((first | ((first | refine qf ?_ ?_ | refine qc ?_ ?_) <;> intro hc <;> (try simp only [hc]) <;> (try simp only [qb, qa, decide_eq_true_eq, decide_eq_false_iff_not, Bool.and_eq_true] at hc)) | refine And.intro (by first | assumption | omega | (have := qh (by assumption); omega) | (unfold qs; omega)) ?_ | simp (disch := omega) only [qd] | simp (disch := omega) only [qr] | refine qc3 (qlo hm ih d i1 i2) rfl ?_ | refine qec j1.ok ?_) <;> (try simp only [go_sem, ↓reduceIte, Nat.reduceEqDiff, Nat.reduceAdd, Nat.reduceSub, Nat.reduceMul, Nat.reduceLT, Nat.reduceLeDiff, reduceCtorEq, Int.reduceToNat])))
              · refine qcq (mm && (qp (qbe rec d).1 [44]).2, fu, d', [] ++ [(qbe rec d).2.getD N0]) [0, 2] ⟨⟨k1, by simp only; omega, fun h => ⟨by first | exact k3 h | (have := k3 h; simpa only [hmm] using this), by simp only; omega⟩, fun h => k4 h, ?_⟩, ?_⟩ rfl (by simp) ?_ ?_ ?_
                · simp only [List.length_append, List.length_cons, List.length_nil]; omega
                · simp only; split <;> omega
                all_goals simp only [hd', hmm, if_true, if_false, reduceIte, Bool.false_eq_true, Bool.true_and, Bool.false_and, qz7, ← qbd, qew, qev, List.nil_append, encs, qf4, qf1]
                all_goals simp only [go_sem, ↓reduceIte, Nat.reduceEqDiff, Nat.reduceAdd, Nat.reduceSub, Nat.reduceMul, Nat.reduceLT, Nat.reduceLeDiff, reduceCtorEq, Int.reduceToNat]
            · have hne := qcn h0
              simp only [qch hne, qci hne, qca, hmm]
              repeat' (first | refine ql ?_ | refine qk ?_ | ((first | refine qn ?_ | refine qm ?_ | refine qz ?_ | refine qj ?_ | refine qi ?_) <;> (try simp (disch := first | omega | (simp only [List.length_set, List.length_append, List.length_cons, List.length_nil]; done) | (simp only [List.length_set, List.length_append, List.length_cons, List.length_nil]; omega)) only [hmm, hs, go_sem, ↓reduceIte, Nat.reduceEqDiff, Nat.reduceAdd, Nat.reduceSub, Nat.reduceMul, Nat.reduceLT, Nat.reduceLeDiff, reduceCtorEq, Int.reduceToNat])) | ((first | ((first | refine qf ?_ ?_ | refine qc ?_ ?_) <;> intro hc <;> (try simp only [hc]) <;> (try simp only [qb, qa, decide_eq_true_eq, decide_eq_false_iff_not, Bool.and_eq_true] at hc)) | refine And.intro (by first | assumption | omega | (have := qh (by assumption); omega) | (unfold qs; omega)) ?_ | simp (disch := omega) only [qd] | simp (disch := omega) only [qr] | refine qc3 (qlo hm ih d i1 i2) rfl ?_ | refine qec j1.ok ?_) <;> (try simp only [go_sem, ↓reduceIte, Nat.reduceEqDiff, Nat.reduceAdd, Nat.reduceSub, Nat.reduceMul, Nat.reduceLT, Nat.reduceLeDiff, reduceCtorEq, Int.reduceToNat])))
              · refine qcq (mm && (qp (qbe rec d).1 [44]).2, fu, d', acc ++ [(qbe rec d).2.getD N0]) [0, 3] ⟨⟨k1, by simp only; omega, fun h => ⟨by first | exact k3 h | (have := k3 h; simpa only [hmm] using this), by simp only; omega⟩, fun h => k4 h, ?_⟩, ?_⟩ rfl (by simp) ?_ ?_ ?_
                · simp only [List.length_append, List.length_cons, List.length_nil]; omega
                · simp only; split <;> omega
                all_goals simp only [hd', hmm, if_true, if_false, reduceIte, Bool.false_eq_true, Bool.true_and, Bool.false_and, qz7, ← qbd, qew, qev, List.nil_append, encs, qf4, qf1]
                all_goals simp only [go_sem, ↓reduceIte, Nat.reduceEqDiff, Nat.reduceAdd, Nat.reduceSub, Nat.reduceMul, Nat.reduceLT, Nat.reduceLeDiff, reduceCtorEq, Int.reduceToNat]
                all_goals (try (rw [qbd, qcm, qdq]; exact ⟨rfl, rfl⟩))
          · have hs : (qbe rec d).2.isSome = false := by simpa using hs
            rw [if_neg (by rw [hs]; simp)] at i3
            subst i3
            obtain rfl := hk1 rfl
            by_cases h0 : acc = []
            · subst h0
              simp only [encs, qb7, qcb, hmm]
              repeat' (first | refine ql ?_ | refine qk ?_ | ((first | refine qn ?_ | refine qm ?_ | refine qz ?_ | refine qj ?_ | refine qi ?_) <;> (try simp (disch := first | omega | (simp only [List.length_set, List.length_append, List.length_cons, List.length_nil]; done) | (simp only [List.length_set, List.length_append, List.length_cons, List.length_nil]; omega)) only [hmm, hs, go_sem, ↓reduceIte, Nat.reduceEqDiff, Nat.reduceAdd, Nat.reduceSub, Nat.reduceMul, Nat.reduceLT, Nat.reduceLeDiff, reduceCtorEq, Int.reduceToNat])) | ((first | ((first | refine qf ?_ ?_ | refine qc ?_ ?_) <;> intro hc <;> (try simp only [hc]) <;> (try simp only [qb, qa, decide_eq_true_eq, decide_eq_false_iff_not, Bool.and_eq_true] at hc)) | refine And.intro (by first | assumption | omega | (have := qh (by assumption); omega) | (unfold qs; omega)) ?_ | simp (disch := omega) only [qd] | simp (disch := omega) only [qr] | refine qc3 (qlo hm ih d i1 i2) rfl ?_ | refine qec j1.ok ?_) <;> (try simp only [go_sem, ↓reduceIte, Nat.reduceEqDiff, Nat.reduceAdd, Nat.reduceSub, Nat.reduceMul, Nat.reduceLT, Nat.reduceLeDiff, reduceCtorEq, Int.reduceToNat])))
              exact ⟨rfl, rfl⟩
            · have hne := qcn h0
              simp only [qch hne, qci hne, qca, hmm]
              repeat' (first | refine ql ?_ | refine qk ?_ | ((first | refine qn ?_ | refine qm ?_ | refine qz ?_ | refine qj ?_ | refine qi ?_) <;> (try simp (disch := first | omega | (simp only [List.length_set, List.length_append, List.length_cons, List.length_nil]; done) | (simp only [List.length_set, List.length_append, List.length_cons, List.length_nil]; omega)) only [hmm, hs, go_sem, ↓reduceIte, Nat.reduceEqDiff, Nat.reduceAdd, Nat.reduceSub, Nat.reduceMul, Nat.reduceLT, Nat.reduceLeDiff, reduceCtorEq, Int.reduceToNat])) | ((first | ((first | refine qf ?_ ?_ | refine qc ?_ ?_) <;> intro hc <;> (try simp only [hc]) <;> (try simp only [qb, qa, decide_eq_true_eq, decide_eq_false_iff_not, Bool.and_eq_true] at hc)) | refine And.intro (by first | assumption | omega | (have := qh (by assumption); omega) | (unfold qs; omega)) ?_ | simp (disch := omega) only [qd] | simp (disch := omega) only [qr] | refine qc3 (qlo hm ih d i1 i2) rfl ?_ | refine qec j1.ok ?_) <;> (try simp only [go_sem, ↓reduceIte, Nat.reduceEqDiff, Nat.reduceAdd, Nat.reduceSub, Nat.reduceMul, Nat.reduceLT, Nat.reduceLeDiff, reduceCtorEq, Int.reduceToNat])))
              exact ⟨rfl, rfl⟩
      )
  · have hpa : qbb rec c = (c, if failT c = true then none else some []) := by rw [qbb, if_neg ha]
    rw [hpa] at hk1 hk2 ⊢
    obtain rfl := hk1 (by simp only; split <;> rfl)
    repeat' (first | refine ql ?_ | refine qk ?_ | ((first | refine qn ?_ | refine qm ?_ | refine qz ?_ | refine qj ?_ | refine qi ?_) <;> (try simp (disch := first | omega | (simp only [List.length_set, List.length_append, List.length_cons, List.length_nil]; done) | (simp only [List.length_set, List.length_append, List.length_cons, List.length_nil]; omega)) only [ha, go_sem, ↓reduceIte, Nat.reduceEqDiff, Nat.reduceAdd, Nat.reduceSub, Nat.reduceMul, Nat.reduceLT, Nat.reduceLeDiff, reduceCtorEq, Int.reduceToNat])) | ((first | ((first | refine qf ?_ ?_ | refine qc ?_ ?_) <;> intro hc <;> (try simp only [hc]) <;> (try simp only [qb, qa, decide_eq_true_eq, decide_eq_false_iff_not, Bool.and_eq_true] at hc)) | refine And.intro (by first | assumption | omega | (have := qh (by assumption); omega) | (unfold qs; omega)) ?_ | simp (disch := omega) only [qd] | simp (disch := omega) only [qr] | refine q15 hg.ok hg.2.1 ?_ | refine qbbq hg.ok ?_) <;> (try simp only [go_sem, ↓reduceIte, Nat.reduceEqDiff, Nat.reduceAdd, Nat.reduceSub, Nat.reduceMul, Nat.reduceLT, Nat.reduceLeDiff, reduceCtorEq, Int.reduceToNat])))
    cases failT c <;> exact ⟨rfl, rfl⟩
end
set_option maxRecDepth 4000

theorem qo8 {rec : K → K × Option N} {c : K} (h : qhy rec c) (h0 : (qbb rec c).2.getD [] = []) {L : List Ent} {Q : List Ent → VO → Prop} (hq : Q (curE (qbb rec c).1 :: L) (.val (.tup [.nils, .bool (qbb rec c).2.isSome]))) :
    VApp Try.prog (curE c :: L) (.fn 61 [] []) [.ptr 0 0] Q :=
  qbw (r := .tup [.nils, .bool (qbb rec c).2.isSome]) (e' := curE (qbb rec c).1) (by
    unfold qhy at h
    rw [h0] at h
    unfold qb8
    have hr : qp7 1 (qbb rec c).2 = .tup [.nils, .bool (qbb rec c).2.isSome] := by rw [qp7, h0]; rfl
    rw [hr] at h
    exact h) (qbf _ _) (qbf _ _) rfl rfl fun _ => hq
theorem qyg {rec : K → K × Option N} {c : K} (h : qhy rec c) {l : List N} (hl : (qbb rec c).2 = some l) (h0 : l ≠ []) {L : List Ent} {Q : List Ent → VO → Prop}
    (hq : Q (curE (qbb rec c).1 :: (L ++ [.app 5 (encs l)])) (.val (.tup [.row (L.length + 1) l.length, .bool true]))) :
    VApp Try.prog (curE c :: L) (.fn 61 [] []) [.ptr 0 0] Q :=
  qgg (first := []) (caps := []) (by
    simp only [List.nil_append, List.append_nil]
    have hne := qcn h0
    have hs : AV.rens (sg [0]) [.ptr 0 0] = [.ptr 0 0] := rfl
    rw [← hs]
    have ha : AV.bds 1 [.ptr 0 0] = true := rfl
    have napp_ren : ∀ σ : Nat → Nat, (Ent.app 5 (encs l)).ren σ = .app 5 (encs l) := fun σ => Ent.ren_same (m := 0) (fun i hi => by omega) _ (by simp [Ent.bd, qcm])
    refine qfc (H0 := [curE c]) [0] h (by simp) (by simp) rfl ?_ ha ?_
    · intro j e2 hj
      obtain rfl : j = 0 := by have := (List.getElem?_eq_some_iff.1 hj).1; simp at this; omega
      simp only [List.getElem?_cons_zero, Option.some.injEq] at hj
      subst hj
      exact .inr ⟨qbf _ _, by rw [qlh]; rfl⟩
    rintro H1 o ⟨rfl, rfl⟩
    rw [hl]
    simp only [Option.getD_some, qci hne, qp7, qch hne, qca, Option.isSome_some, List.length_cons, List.length_nil, List.take_succ_cons, List.take_zero, List.map_nil, qb5, List.drop_zero, List.drop_succ_cons, List.map_cons, qlh, napp_ren, VO.ren, AV.ren, AV.rens, sg', List.set_cons_zero]
    exact hq)
def qn7 (p : Int) (l : List N) (t : N) : N := .mk 4 p 0 [] (l ++ [t])
def qdo (f : Nat) (c : K) : K × Option N :=
  if (qbb (qbo f) c).2.isSome = true then ((qbo f (qbb (qbo f) c).1).1, (qbo f (qbb (qbo f) c).1).2.map (qn7 (qw c).pos ((qbb (qbo f) c).2.getD [])))
  else ((qbb (qbo f) c).1, none)
theorem qph {c : K} {L : List Ent} {p : Int} {l : List N} {t : N} {b : Bool} {Q : List Ent → VO → Prop} (hq : Q (curE c :: L) (.val (resP (qkj (qn7 p l t) b)))) :
    VApp Try.prog (curE c :: L) (.fn 63 [] []) [.ptr 0 0, .agg [.int .i64 4, .int .i64 p, .int .i64 0, .str [], .sl 5 (encs l ++ [enc t])], .bool b] Q := by
  have h := qsb (n := qn7 p l t) hq
  simpa only [qn7, enc, qbd] using h
theorem quq {c : K} {L : List Ent} {p : Int} {t : N} {b : Bool} {Q : List Ent → VO → Prop} (hq : Q (curE c :: L) (.val (resP (qkj (qn7 p [] t) b)))) :
    VApp Try.prog (curE c :: L) (.fn 63 [] []) [.ptr 0 0, .agg [.int .i64 4, .int .i64 p, .int .i64 0, .str [], .sl 5 [enc t]], .bool b] Q := qph (l := []) hq
theorem qrp {r : Option N} {p : Int} {l : List N} : qkj (qn7 p l (r.getD N0)) r.isSome = r.map (qn7 p l) := qqw
theorem qre {rec : K → K × Option N} (hm : ∀ c, Mon c (rec c).1) (many : Bool) : ∀ (f : Nat) (c : K) (acc l : List N), (qdh rec many f c acc).2 = some l → l.length ≤ acc.length + rest c
  | 0, c, acc, l => fun h => by cases h
  | f + 1, c, acc, l => fun h => by
    rw [qdh] at h
    split at h
    · rename_i hs
      have h1 := qhf hm hs
      split at h
      · have h2 := qre hm many f _ _ _ h
        have h3 := (q6 (qbe rec c).1 [44]).2.1
        simp only [List.length_append, List.length_cons, List.length_nil] at h2
        omega
      · cases h
        simp only [List.length_append, List.length_cons, List.length_nil]
        omega
    · cases h
theorem ql1 {m : Bool} {r : K × Option (List N)} {l : List N} (h : (qdw m r).2 = some l) : r.2 = some l := by
  unfold qdw at h
  repeat' split at h
  all_goals first | exact h | cases h
theorem qsh {rec : K → K × Option N} (hm : ∀ c, Mon c (rec c).1) {c : K} {l : List N} (h : (qbb rec c).2 = some l) : l.length ≤ rest c := by
  unfold qbb at h
  split at h
  · have h := ql1 h
    unfold qe3 at h
    split at h
    · cases h; exact Nat.zero_le _
    · have h1 := qre hm _ _ _ _ _ h
      have h2 := (q6 c [40]).2.1
      simp only [List.length_nil] at h1
      omega
  · simp only at h
    split at h
    · cases h
    · cases h; exact Nat.zero_le _
theorem qyj (f : Nat) (c : K) (hg : c.good) (hr : rest c < f) : qb8 Try.prog 56 (curE c) (curE (qdo f c).1) [.ptr 0 0] (resP (qdo f c).2) := by
  have hm := qfm f
  have hP := qtx hm (q0c f) c hg (by omega)
  have g1 : (qbb (qbo f) c).1.good := (qf6 hm c).1 hg
  have hr1 : rest (qbb (qbo f) c).1 < f := by have := (qf6 hm c).2.1; omega
  refine q7 c0t 1 (by simp) (by simp) ?_
  unfold qdo
  cases ho : (qbb (qbo f) c).2 with
  | none =>
    have h0 : (qbb (qbo f) c).2.getD [] = [] := by rw [ho]; rfl
    repeat' (first | refine ql ?_ | ((first | refine qn ?_ | refine qm ?_ | refine qj ?_ | refine qi ?_) <;> (try simp (disch := first | omega | (simp only [List.length_set, List.length_append, List.length_cons, List.length_nil]; done) | (simp only [List.length_set, List.length_append, List.length_cons, List.length_nil]; omega)) only [ho, Option.isSome_none, go_sem, ↓reduceIte, Nat.reduceEqDiff, Nat.reduceAdd, Nat.reduceSub, Nat.reduceMul, Nat.reduceLT, Nat.reduceLeDiff, reduceCtorEq, Int.reduceToNat])) | ((first | ((first | refine qf ?_ ?_ | refine qc ?_ ?_) <;> intro hc <;> (try simp only [hc]) <;> (try simp only [qb, qa, decide_eq_true_eq, decide_eq_false_iff_not, Bool.and_eq_true] at hc)) | refine And.intro (by first | assumption | omega | (have := qh (by assumption); omega) | (unfold qs; omega)) ?_ | simp (disch := omega) only [qd] | simp (disch := omega) only [qr] | refine qc5 ?_ | refine qo8 hP h0 ?_) <;> (try simp only [go_sem, ↓reduceIte, Nat.reduceEqDiff, Nat.reduceAdd, Nat.reduceSub, Nat.reduceMul, Nat.reduceLT, Nat.reduceLeDiff, reduceCtorEq, Int.reduceToNat])))
    rw [qdz]; rfl
  | some l =>
    have hlen := qsh hm ho
    have hlen2 := hg.rest
    by_cases h0 : l = []
    · subst h0
      have h0 : (qbb (qbo f) c).2.getD [] = [] := by rw [ho]; rfl
      have hcap : qs 1 64 := capN (by omega)
      repeat' (first | refine ql ?_ | ((first | refine qn ?_ | refine qm ?_ | refine qj ?_ | refine qi ?_) <;> (try simp (disch := first | omega | (simp only [List.length_set, List.length_append, List.length_cons, List.length_nil]; done) | (simp only [List.length_set, List.length_append, List.length_cons, List.length_nil]; omega)) only [ho, Option.isSome_some, go_sem, ↓reduceIte, Nat.reduceEqDiff, Nat.reduceAdd, Nat.reduceSub, Nat.reduceMul, Nat.reduceLT, Nat.reduceLeDiff, reduceCtorEq, Int.reduceToNat])) | ((first | ((first | refine qf ?_ ?_ | refine qc ?_ ?_) <;> intro hc <;> (try simp only [hc]) <;> (try simp only [qb, qa, decide_eq_true_eq, decide_eq_false_iff_not, Bool.and_eq_true] at hc)) | refine And.intro (by first | assumption | omega | (have := qh (by assumption); omega) | (unfold qs; omega)) ?_ | simp (disch := omega) only [qd] | simp (disch := omega) only [qr] | refine qc5 ?_ | refine qo8 hP h0 ?_ | refine qc3 (q0c f _ g1 hr1) rfl ?_ | refine quq ?_) <;> (try simp only [go_sem, ↓reduceIte, Nat.reduceEqDiff, Nat.reduceAdd, Nat.reduceSub, Nat.reduceMul, Nat.reduceLT, Nat.reduceLeDiff, reduceCtorEq, Int.reduceToNat])))
      rw [qrp]; rfl
    · have hcap : qs (l.length + 1) 64 := capN (by unfold rest at hlen; omega)
      repeat' (first | refine ql ?_ | ((first | refine qn ?_ | refine qm ?_ | refine qj ?_ | refine qi ?_) <;> (try simp (disch := first | omega | (simp only [List.length_set, List.length_append, List.length_cons, List.length_nil]; done) | (simp only [List.length_set, List.length_append, List.length_cons, List.length_nil]; omega)) only [ho, Option.isSome_some, go_sem, ↓reduceIte, Nat.reduceEqDiff, Nat.reduceAdd, Nat.reduceSub, Nat.reduceMul, Nat.reduceLT, Nat.reduceLeDiff, reduceCtorEq, Int.reduceToNat])) | ((first | ((first | refine qf ?_ ?_ | refine qc ?_ ?_) <;> intro hc <;> (try simp only [hc]) <;> (try simp only [qb, qa, decide_eq_true_eq, decide_eq_false_iff_not, Bool.and_eq_true] at hc)) | refine And.intro (by first | assumption | omega | (have := qh (by assumption); omega) | (unfold qs; omega)) ?_ | simp (disch := omega) only [qd] | simp (disch := omega) only [qr] | refine qc5 ?_ | refine qyg hP ho h0 ?_ | refine qc3 (q0c f _ g1 hr1) rfl ?_ | refine qph ?_) <;> (try simp only [go_sem, ↓reduceIte, Nat.reduceEqDiff, Nat.reduceAdd, Nat.reduceSub, Nat.reduceMul, Nat.reduceLT, Nat.reduceLeDiff, reduceCtorEq, Int.reduceToNat])))
      rw [qrp]; rfl

/-! The size of what is read. -/
theorem qgc : ∀ (a b : List N), szs (a ++ b) = szs a + szs b
  | [], b => by simp [szs]
  | x :: a, b => by rw [List.cons_append, szs, szs, qgc a b]; omega
theorem quk (c : K) (k : Int) (ks : List N) : sz (qg7 c k ks) = szs ks + 1 := by rw [qim]; rfl
section
variable {rec : K → K × Option N} (hm : ∀ c, Mon c (rec c).1) (ih : ∀ c n, (rec c).2 = some n → sz n + rest (rec c).1 ≤ rest c)
include hm ih
omit hm in
theorem qjz {c : K} {n : N} (h : (qbl rec c).2 = some n) : sz n + rest (qbl rec c).1 ≤ rest c := by
  unfold qbl at h ⊢
  split at h
  · rename_i h1
    rw [if_pos h1]
    cases h
    have := qbg (c := c) (by omega)
    rw [quk]; simp only [szs]; omega
  · rename_i h1
    rw [if_neg h1]
    split at h
    · rename_i h2
      rw [if_pos h2]
      cases h
      have := qbg (c := c) (by omega)
      rw [quk]; simp only [szs]; omega
    · rename_i h2
      rw [if_neg h2]
      split at h
      · rename_i h3
        rw [if_pos h3]
        split at h
        · rename_i h4
          rw [if_pos h4]
          have hp := qbg (c := (qe c).1) (by rw [qcp h4]; exact qcg h3)
          have h0 := (qv c).2.1
          split at h
          · rename_i h5
            rw [if_pos h5]
            simp only at h ⊢
            split at h
            · have h6 := ih _ _ h
              have h7 := (qo (rec (qt (qe c).1)).1 [41]).2.1
              have h8 := (qbc (qq (rec (qt (qe c).1)).1 [41]).1).2.1
              omega
            · cases h
          · cases h
        · cases h
      · cases h
omit hm in
theorem qo3 : ∀ (f : Nat) (c : K) (acc l : List N), (qcy rec f c acc).2 = some l → szs l + rest (qcy rec f c acc).1 ≤ szs acc + rest c
  | 0, c, acc, l => fun h => by cases h
  | f + 1, c, acc, l => fun h => by
    rw [qcy] at h ⊢
    split at h
    · rename_i h1
      rw [if_pos h1]
      split at h
      · rename_i h2
        rw [if_pos h2]
        obtain ⟨n, hn⟩ := Option.isSome_iff_exists.1 h2
        have h3 := qo3 f _ _ _ h
        have h4 := qjz ih hn
        rw [qgc, hn] at h3
        simp only [Option.getD_some, szs] at h3
        rw [hn]
        simp only [Option.getD_some]
        omega
      · cases h
    · rename_i h1
      rw [if_neg h1]
      cases h
      exact Nat.le_refl _
omit hm in
theorem qs2 {c : K} {n : N} (h : (qbu rec c).2 = some n) : sz n + rest (qbu rec c).1 ≤ rest c := by
  unfold qbu at h ⊢
  split at h
  · rename_i h1
    rw [if_pos h1]
    obtain ⟨l, hl, rfl⟩ := Option.map_eq_some_iff.1 h
    have h2 := qo3 ih _ _ _ _ hl
    have h3 := qbg (c := c) (by omega)
    rw [quk]
    simp only [szs] at h2 ⊢
    omega
  · rename_i h1
    rw [if_neg h1]
    exact qjz ih h
omit hm in
theorem qw6 {c : K} {n : N} (h : (qbe rec c).2 = some n) : sz n + rest (qbe rec c).1 ≤ rest c := by
  unfold qbe at h ⊢
  split at h
  · rename_i h1
    rw [if_pos h1]
    obtain ⟨m, hk, rfl⟩ := Option.map_eq_some_iff.1 h
    have h2 := qjz ih hk
    obtain ⟨e1, e2⟩ := qik h1
    rw [(q1j h1).1] at h2 ⊢
    have h3 := qbg (c := c) (by omega)
    have : sz (qqu (qg9 c 2) m) = sz m + 1 := by rw [qim]; simp [qqu, N.kids, szs]
    simp only at h2 ⊢
    omega
  · cases h
omit hm in
theorem qtc (many : Bool) : ∀ (f : Nat) (c : K) (acc l : List N), (qdh rec many f c acc).2 = some l → szs l + rest (qdh rec many f c acc).1 ≤ szs acc + rest c
  | 0, c, acc, l => fun h => by cases h
  | f + 1, c, acc, l => fun h => by
    rw [qdh] at h ⊢
    split at h
    · rename_i h1
      rw [if_pos h1]
      obtain ⟨n, hn⟩ := Option.isSome_iff_exists.1 h1
      have h4 := qw6 ih hn
      split at h
      · rename_i h2
        rw [if_pos h2]
        have h3 := qtc many f _ _ _ h
        have h5 := (q6 (qbe rec c).1 [44]).2.1
        rw [qgc, hn] at h3
        simp only [Option.getD_some, szs] at h3
        rw [hn]
        simp only [Option.getD_some]
        omega
      · rename_i h2
        rw [if_neg h2]
        cases h
        rw [hn, qgc]
        simp only [Option.getD_some, szs]
        omega
    · cases h
end
theorem qpy : ∀ (f : Nat) (c : K) (n : N), (qbo f c).2 = some n → sz n + rest (qbo f c).1 ≤ rest c
  | 0, _, _ => fun h => by cases h
  | f + 1, c, n => fun h => by
    have ih := qpy f
    have h0 := (qv c).2.1
    rw [qbo] at h ⊢
    split at h
    · rename_i h1
      rw [if_pos h1]
      split at h
      · rename_i h2
        rw [if_pos h2]
        obtain ⟨m, hm⟩ := Option.isSome_iff_exists.1 h2
        have h3 := qs2 ih hm
        split at h
        · rename_i h4
          rw [if_pos h4]
          obtain ⟨q, hq, rfl⟩ := Option.map_eq_some_iff.1 h
          have h5 := ih _ _ hq
          have h6 := (qbc (qbo f (qp (qbu (qbo f) (qe c).1).1 [45, 62]).1).1).2.1
          have h7 : rest (qp (qbu (qbo f) (qe c).1).1 [45, 62]).1 + 1 ≤ rest (qbu (qbo f) (qe c).1).1 := by
            unfold qp at h4 ⊢
            split at h4
            · rename_i h8
              rw [if_pos h8]
              have := qbg (qcg h8)
              simp only; omega
            · cases h4
          have : sz (qir ((qbu (qbo f) (qe c).1).2.getD N0) q) = sz m + sz q + 1 := by rw [qim, hm]; simp [qir, N.kids, szs]
          simp only
          omega
        · rename_i h4
          rw [if_neg h4]
          have h5 := (qbc (qbu (qbo f) (qe c).1).1).2.1
          have h6 := qs2 ih h
          simp only
          omega
      · cases h
    · cases h
theorem qya {f : Nat} {c : K} {n : N} (h : (qdo f c).2 = some n) : sz n + rest (qdo f c).1 ≤ rest c + 1 := by
  unfold qdo at h ⊢
  split at h
  · rename_i h1
    rw [if_pos h1]
    obtain ⟨l, hl⟩ := Option.isSome_iff_exists.1 h1
    obtain ⟨q, hq, rfl⟩ := Option.map_eq_some_iff.1 h
    have h2 := qpy f _ _ hq
    rw [hl]
    have h3 : szs l + rest (qbb (qbo f) c).1 ≤ rest c := by
      have hx := hl
      unfold qbb at hx ⊢
      split at hx
      · rename_i ha
        rw [if_pos ha]
        have h5 := ql1 hx
        have h6 : szs l + rest (qe3 (qbo f) c).1 ≤ rest c := by
          unfold qe3 at h5 ⊢
          have ht := (q6 c [40]).2.1
          split at h5
          · rename_i hb
            rw [if_pos hb]
            cases h5
            simp only [szs]; omega
          · rename_i hb
            rw [if_neg hb]
            have := qtc (qpy f) _ _ _ _ _ h5
            simp only [szs] at this
            omega
        have h7 : rest (qdw (qp c [40]).2 (qe3 (qbo f) c)).1 ≤ rest (qe3 (qbo f) c).1 := by
          unfold qdw
          split
          · split
            · split
              · exact Nat.le_trans (qo _ _).2.1 (qo _ _).2.1
              · exact (qo _ _).2.1
            · exact (qo _ _).2.1
          · exact Nat.le_refl _
        omega
      · rename_i ha
        rw [if_neg ha]
        simp only at hx ⊢
        split at hx
        · cases hx
        · cases hx; simp only [szs]; omega
    have : sz (qn7 (qw c).pos l q) = szs l + sz q + 1 := by rw [qim]; simp [qn7, N.kids, qgc, szs]
    simp only [Option.getD_some]
    omega
  · cases h
theorem qmp {l : List T} (h : l.length ≤ 1048577) : (newK l).good := ⟨Nat.zero_le _, Nat.le_trans (qkl l) h, Nat.zero_le _⟩

/-- What is all there is. -/
def qs5 (c : K) (n : N) : N × Int × Int :=
  if (qeq c).2 = 0 then if depR n > 100 then (N0, n.pos, 2) else (n, 0, 0) else (N0, (qeq c).1, (qeq c).2)
def qxp (rd : K → K × Option N) (s : List UInt8) : N × Int × Int :=
  if (lexV s).2.2 = 0 then qs5 (rd (newK (lexV s).1)).1 ((rd (newK (lexV s).1)).2.getD N0)
  else (N0, (lexV s).2.1, (lexV s).2.2)
def resV (r : N × Int × Int) : AV := .tup [enc r.1, .int .i64 r.2.1, .int .i64 r.2.2]
attribute [go_sem] resV lexR
theorem q2h {c : K} (h : (qeq c).2 = 0) : c.err = 0 := by
  by_cases he : c.err = 0
  · exact he
  · rw [qn2 he] at h; exact absurd h he
theorem qi0 (f : Nat) (c : K) : Mon c (qdo f c).1 := by
  have hm := qfm f
  unfold qdo
  split
  · exact (qf6 hm c).trans (hm _)
  · exact qf6 hm c
end Go.Proofs.Ytmekebfgmjaenaa
