/- Texts of this proof, joined. -/
import Derived.Test.YtmekebfgmjaenaaGreatAaz
import Derived.Test.YtmekebfgmjaenaaGreatAba
import Derived.Test.YtmekebfgmjaenaaGreatAbb

/- types: contexts: the program -/
set_option maxRecDepth 4000
namespace Go.Proofs.YtmekebfgmjaenaaGreat
open Go Go.RowKit Go.V
set_option linter.unusedVariables false
set_option linter.unusedSimpArgs false

theorem qc8 (c : K) (k : Int) : Mon c (qbk c k).1 := by
  unfold qbk
  split
  · exact qbt c
  · exact qfa c 5
theorem qp9 {c : K} {k : Int} (h : (qbk c k).2 = true) : c.err = 0 ∧ (qbc c).kind = k := by
  unfold qbk at h
  split at h
  · rename_i h1
    simp only [Bool.and_eq_true, decide_eq_true_eq] at h1
    exact h1
  · cases h
theorem q1r {c : K} {k : Int} (h : (qbk c k).2 = true) : qbk c k = (q8 c, true) ∧ qh9 c k = qbc c := by
  obtain ⟨h1, h2⟩ := qp9 h
  exact ⟨qqc h1 h2, quz h1 h2⟩
theorem qwu {c : K} {k : Int} (h : (qbk c k).2 = false) : (qbk c k).1.err ≠ 0 := by
  unfold qbk at h ⊢
  split at h
  · cases h
  · rename_i h1; rw [if_neg h1]; exact qg5 c
def qod (c : K) : Bool := !decide ((qja c).2 = 0) && (!decide ((qja c).2 = 5) || decide ((qbc c).kind = 0))
theorem qyk (c : K) (hk : c.ok) : qco Tryz.prog 81 (curE c) (curE c) [.ptr 0 0] (.bool (qod c)) := by
  refine qbd c0bs 1 (by simp) (by simp) ?_
  repeat' (first | refine ql ?_ | ((first | refine qn ?_ | refine qm ?_ | refine qth hk ?_ | refine qdt ?_); simp only [go_sem, ↓reduceIte, Nat.reduceEqDiff, Nat.reduceAdd, Nat.reduceSub, Nat.reduceMul, Nat.reduceLT, Nat.reduceLeDiff, reduceCtorEq, Int.reduceToNat]) | ((first | refine qf ?_ ?_ | refine qd ?_ ?_) <;> intro hc <;> simp only [hc, go_sem, ↓reduceIte, Nat.reduceEqDiff, Nat.reduceAdd, Nat.reduceSub, Nat.reduceMul, Nat.reduceLT, Nat.reduceLeDiff, reduceCtorEq, Int.reduceToNat] <;> (try simp only [qb, qa, decide_eq_true_eq, decide_eq_false_iff_not, Bool.and_eq_true] at hc)) | refine And.intro (by first | assumption | omega | (have := qg (by assumption); omega) | (unfold qq; omega)) ?_ | fail)
  all_goals (unfold qod; simp_all)
theorem qbj6 {c : K} {L : List Ent} {Q : List Ent → VO → Prop} (hk : c.ok) (hq : Q (curE c :: L) (.val (.bool (qod c)))) : VApp Tryz.prog (curE c :: L) (.fn 81 [] []) [.ptr 0 0] Q := qb2 (qyk c hk) (qbh _ _) (qbh _ _) rfl rfl fun _ => hq
def qob (t : T) (n : N) : N := .mk 3 t.pos 0 t.text [n]
def qbr (rec : K → K × Option N) (c : K) : K × Option N :=
  if (qbk c 2).2 = true then ((qb5 rec (qbk c 2).1).1, (qb5 rec (qbk c 2).1).2.map (qob (qh9 c 2)))
  else ((qbk c 2).1, none)
theorem qx1 {c : K} {L : List Ent} {t : T} {n : N} {b : Bool} {Q : List Ent → VO → Prop} (hq : Q (curE c :: L) (.val (resP (qkz (qob t n) b)))) :
    VApp Tryz.prog (curE c :: L) (.fn 48 [] []) [.ptr 0 0, .agg [.int .i64 3, .int .i64 t.pos, .int .i64 0, .str t.text, .sl 5 [enc n]], .bool b] Q := by
  have h := qte (n := qob t n) hq
  simpa only [qob, enc, encs] using h
theorem q24 {r : Option N} {t : T} : qkz (qob t (r.getD N0)) r.isSome = r.map (qob t) := qqt
section
variable {rec : K → K × Option N} {b : Nat} (hm : ∀ c, Mon c (rec c).1) (ih : ∀ c, c.good → rest c < b → qco Tryz.prog 47 (curE c) (curE (rec c).1) [.ptr 0 0] (resP (rec c).2))
include hm ih
theorem qma (c : K) (hg : c.good) (hr : rest c ≤ b) : qco Tryz.prog 82 (curE c) (curE (qbr rec c).1) [.ptr 0 0] (resP (qbr rec c).2) := by
  have g1 : (qbk c 2).1.good := (qc8 c 2).1 hg
  have hr1 : rest (qbk c 2).1 ≤ b := by have := (qc8 c 2).2.1; omega
  refine qbd c0bt 1 (by simp) (by simp) ?_
  repeat' (first | refine ql ?_ | ((first | refine qn ?_ | refine qm ?_ | refine qj ?_ | refine qi ?_ | refine qpv hg.ok ?_ | refine qdh (qi7 hm ih _ g1 hr1) rfl ?_ | refine qx1 ?_); simp only [go_sem, ↓reduceIte, Nat.reduceEqDiff, Nat.reduceAdd, Nat.reduceSub, Nat.reduceMul, Nat.reduceLT, Nat.reduceLeDiff, reduceCtorEq, Int.reduceToNat]) | ((first | refine qf ?_ ?_ | refine qd ?_ ?_) <;> intro hc <;> simp only [hc, go_sem, ↓reduceIte, Nat.reduceEqDiff, Nat.reduceAdd, Nat.reduceSub, Nat.reduceMul, Nat.reduceLT, Nat.reduceLeDiff, reduceCtorEq, Int.reduceToNat] <;> (try simp only [qb, qa, decide_eq_true_eq, decide_eq_false_iff_not, Bool.and_eq_true] at hc)) | refine And.intro (by first | assumption | omega | (have := qg (by assumption); omega) | (unfold qq; omega)) ?_ | fail)
  all_goals (try simp only [q24])
  all_goals (unfold qbr; simp only [*, qd7, Int.reduceEq, if_true, if_false, reduceIte, Bool.false_eq_true, Option.getD_none, Option.getD_some, Option.isSome_none, Option.isSome_some, and_self, true_and, and_true]; try rfl)
end
set_option maxRecDepth 4000

def qff (rec : K → K × Option N) (many : Bool) : Nat → K → List N → K × Option (List N)
  | 0, c, _ => (c, none)
  | f + 1, c, acc =>
    if (qbr rec c).2.isSome = true then
      if (many && (qr (qbr rec c).1 [44]).2) = true then qff rec many f (qr (qbr rec c).1 [44]).1 (acc ++ [(qbr rec c).2.getD N0])
      else ((qbr rec c).1, some (acc ++ [(qbr rec c).2.getD N0]))
    else ((qbr rec c).1, none)
def qf4 (many : Bool) (r : K × Option (List N)) : K × Option (List N) :=
  if r.2.isSome = true then
    if many = true then
      if (qu r.1 [41]).2 = true then ((qu (qu r.1 [41]).1 [61, 62]).1, if (qu (qu r.1 [41]).1 [61, 62]).2 = true then r.2 else none)
      else ((qu r.1 [41]).1, none)
    else ((qu r.1 [61, 62]).1, if (qu r.1 [61, 62]).2 = true then r.2 else none)
  else (r.1, none)
def qh7 (rec : K → K × Option N) (c : K) : K × Option (List N) :=
  if ((qr c [40]).2 && isK (qr c [40]).1 [41]) = true then ((qr c [40]).1, some []) else qff rec (qr c [40]).2 (rest (qr c [40]).1 + 1) (qr c [40]).1 []
def qbm (rec : K → K × Option N) (c : K) : K × Option (List N) :=
  if qhz c [61, 62] = true then qf4 (qr c [40]).2 (qh7 rec c)
  else (c, if qod c = true then none else some [])
section
variable {rec : K → K × Option N} (hm : ∀ c, Mon c (rec c).1)
include hm
theorem qgs (c : K) : Mon c (qbr rec c).1 := by
  unfold qbr
  split
  · exact (qc8 c 2).trans (qfq hm _)
  · exact qc8 c 2
theorem qir {c : K} (h : (qbr rec c).2.isSome = true) : rest (qbr rec c).1 < rest c := by
  unfold qbr at h ⊢
  split at h
  · rename_i h1
    rw [if_pos h1]
    have h2 := (qc8 c 2).2.1
    have h3 := qfw hm (c := (qbk c 2).1) (by simpa using h)
    simp only; omega
  · cases h
theorem qpe (many : Bool) : ∀ (f : Nat) (c : K) (acc : List N), Mon c (qff rec many f c acc).1
  | 0, c, acc => Mon.refl c
  | f + 1, c, acc => by
    rw [qff]
    split
    · split
      · exact ((qgs hm c).trans (qbb _ _)).trans (qpe many f _ _)
      · exact qgs hm c
    · exact qgs hm c
theorem qxb (c : K) : Mon c (qh7 rec c).1 := by
  unfold qh7
  split
  · exact qbb c _
  · exact (qbb c _).trans (qpe hm _ _ _ _)
theorem qgw (c : K) : Mon c (qbm rec c).1 := by
  unfold qbm qf4
  have h := qxb hm c
  split
  · split
    · split
      · split
        · exact (h.trans (qp _ _)).trans (qp _ _)
        · exact h.trans (qp _ _)
      · exact h.trans (qp _ _)
    · exact h
  · exact Mon.refl c
end
def qra (p : Nat) (r : Option (List N)) : AV := .tup [accV p (encs (r.getD [])), .bool r.isSome]
def qij (rec : K → K × Option N) (c : K) : Prop := VCalls Tryz.prog 46 [curE c] [.ptr 0 0] fun H' o => H' = curE (qbm rec c).1 :: accE 5 (encs ((qbm rec c).2.getD [])) ∧ o = .val (qra 1 (qbm rec c).2)
def q1x (many : Bool) (x : Bool × Nat × K × List N) : AF × List Ent :=
  (⟨[(0, .ptr 0 0), (4, accV 1 (encs x.2.2.2)), (5, .bool many), (6, .bool x.1)], []⟩, curE x.2.2.1 :: accE 5 (encs x.2.2.2))
section
variable {rec : K → K × Option N} {b : Nat} (hm : ∀ c, Mon c (rec c).1) (ih : ∀ c, c.good → rest c < b → qco Tryz.prog 47 (curE c) (curE (rec c).1) [.ptr 0 0] (resP (rec c).2))
include hm ih
theorem qtt (c : K) (hg : c.good) (hr : rest c ≤ b) : qij rec c := by
  unfold qij
  obtain ⟨kk, hk1, hk2, hk0⟩ : ∃ k : Nat, ((qbm rec c).2.getD [] = [] → k = 1) ∧ ((qbm rec c).2.getD [] ≠ [] → k = 2) ∧ 1 ≤ k := by
    by_cases h : (qbm rec c).2.getD [] = []
    · exact ⟨1, fun _ => rfl, fun g => absurd h g, by omega⟩
    · exact ⟨2, fun g => absurd g h, fun _ => rfl, by omega⟩
  refine qi2 c0br kk (by simpa using hk0) (by simp) ?_
  have g1 : (qr c [40]).1.good := (qbb c _).1 hg
  have hr1 : rest (qr c [40]).1 ≤ b := by have := (qbb c [40]).2.1; omega
  by_cases ha : qhz c [61, 62] = true
  · have hpa : qbm rec c = qf4 (qr c [40]).2 (qh7 rec c) := by rw [qbm, if_pos ha]
    rw [hpa] at hk1 hk2 ⊢
    clear hpa
    unfold qh7 at hk1 hk2 ⊢
    generalize htg : (if ((qr c [40]).2 && isK (qr c [40]).1 [41]) = true then ((qr c [40]).1, some []) else qff rec (qr c [40]).2 (rest (qr c [40]).1 + 1) (qr c [40]).1 []) = tg at hk1 hk2 ⊢
    generalize hd0 : (qr c [40]).1 = d0 at *
    generalize hmn : (qr c [40]).2 = many at *
    have h0t : (!(many && isK d0 [41])) = true → qff rec many (rest d0 + 1) d0 [] = tg := fun h => by
      rw [Bool.not_eq_true'] at h
      rw [← htg, if_neg (by rw [h]; simp)]
    have h0f : (!(many && isK d0 [41])) = false → tg = (d0, some []) := fun h => by
      rw [Bool.not_eq_false'] at h
      rw [← htg, if_pos h]
    clear htg
    obtain ⟨mm, hmm⟩ : ∃ mm, mm = many := ⟨_, rfl⟩
    cases many <;> (
      repeat' (first | refine ql ?_ | refine qk ?_ | ((first | refine qn ?_ | refine qm ?_ | refine qs ?_ | refine qj ?_ | refine qi ?_); simp (disch := first | omega | (simp only [List.length_set, List.length_append, List.length_cons, List.length_nil]; done) | (simp only [List.length_set, List.length_append, List.length_cons, List.length_nil]; omega)) only [ha, hd0, hmn, go_sem, ↓reduceIte, Nat.reduceEqDiff, Nat.reduceAdd, Nat.reduceSub, Nat.reduceMul, Nat.reduceLT, Nat.reduceLeDiff, reduceCtorEq, Int.reduceToNat]) | ((first | refine qf ?_ ?_ | refine qd ?_ ?_) <;> intro hc <;> simp only [hc, go_sem, ↓reduceIte, Nat.reduceEqDiff, Nat.reduceAdd, Nat.reduceSub, Nat.reduceMul, Nat.reduceLT, Nat.reduceLeDiff, reduceCtorEq, Int.reduceToNat] <;> (try simp only [qb, qa, decide_eq_true_eq, decide_eq_false_iff_not, Bool.and_eq_true] at hc)) | refine And.intro (by first | assumption | omega | (have := qg (by assumption); omega) | (unfold qq; omega)) ?_ | fail | ((first | refine q04 hg.ok hg.2.1 ?_ | refine qe9 hg.ok ?_ | refine a_Is ?_); simp only [go_sem, ↓reduceIte, Nat.reduceEqDiff, Nat.reduceAdd, Nat.reduceSub, Nat.reduceMul, Nat.reduceLT, Nat.reduceLeDiff, reduceCtorEq, Int.reduceToNat]))
      refine qca (S := Bool × Nat × K × List N) (fun x => x.2.2.1.good ∧ rest x.2.2.1 ≤ b ∧ (x.1 = true → qff rec mm x.2.1 x.2.2.1 x.2.2.2 = tg ∧ rest x.2.2.1 < x.2.1) ∧ (x.1 = false → tg = (x.2.2.1, some x.2.2.2)) ∧ x.2.2.2.length + rest x.2.2.1 ≤ 1048577)
        (q1x mm) (fun x => if x.1 = true then rest x.2.2.1 + 1 else 0) ?_ ?_
      · refine qbq (!(mm && isK d0 [41]), rest d0 + 1, d0, []) [0] ⟨g1, hr1, fun h => ⟨by rw [hmm]; exact h0t (by simp only [hmm] at h; exact h), Nat.lt_succ_self _⟩, fun h => h0f (by simp only [hmm] at h; exact h), ?_⟩ rfl (by simp) ?_ ?_ ?_
        · have h9 := g1.rest
          unfold rest
          simp only [List.length_nil]
          omega
        all_goals simp only [q1x, encs, qbs, qbu, hmm, Bool.false_and, Bool.true_and, Bool.not_false]
        all_goals simp only [go_sem, ↓reduceIte, Nat.reduceEqDiff, Nat.reduceAdd, Nat.reduceSub, Nat.reduceMul, Nat.reduceLT, Nat.reduceLeDiff, reduceCtorEq, Int.reduceToNat]
      · rintro ⟨more, fu, d, acc⟩ ⟨i1, i2, i3, i4, i5⟩
        simp only at i1 i2 i3 i4 i5
        unfold q1x
        have hcap : qq (acc.length + 1) 64 := capN (by omega)
        cases more with
        | false =>
          have i4 := i4 rfl
          subst i4
          clear i3
          by_cases hE : (qf4 mm (d, some acc)).2.getD [] = []
          · simp only [hmm] at hE
            obtain rfl := hk1 hE
            by_cases h0 : acc = []
            · subst h0
              simp only [encs, qbs, qbu, hmm]
              repeat' (first | refine ql ?_ | refine qk ?_ | ((first | refine qn ?_ | refine qm ?_ | refine qs ?_ | refine qj ?_ | refine qi ?_); simp (disch := first | omega | (simp only [List.length_set, List.length_append, List.length_cons, List.length_nil]; done) | (simp only [List.length_set, List.length_append, List.length_cons, List.length_nil]; omega)) only [hmm, go_sem, ↓reduceIte, Nat.reduceEqDiff, Nat.reduceAdd, Nat.reduceSub, Nat.reduceMul, Nat.reduceLT, Nat.reduceLeDiff, reduceCtorEq, Int.reduceToNat]) | ((first | refine qf ?_ ?_ | refine qd ?_ ?_) <;> intro hc <;> simp only [hc, go_sem, ↓reduceIte, Nat.reduceEqDiff, Nat.reduceAdd, Nat.reduceSub, Nat.reduceMul, Nat.reduceLT, Nat.reduceLeDiff, reduceCtorEq, Int.reduceToNat] <;> (try simp only [qb, qa, decide_eq_true_eq, decide_eq_false_iff_not, Bool.and_eq_true] at hc)) | refine And.intro (by first | assumption | omega | (have := qg (by assumption); omega) | (unfold qq; omega)) ?_ | fail | ((first | refine qdz i1.ok ?_ | refine qdz ((qp d _).1 i1).ok ?_); simp only [go_sem, ↓reduceIte, Nat.reduceEqDiff, Nat.reduceAdd, Nat.reduceSub, Nat.reduceMul, Nat.reduceLT, Nat.reduceLeDiff, reduceCtorEq, Int.reduceToNat]))
              all_goals (unfold qf4; simp only [*, qra, encs, qbs, qbu, if_true, if_false, reduceIte, Bool.false_eq_true, Option.isSome_some, Option.isSome_none, Option.getD_some, Option.getD_none, and_self, true_and, and_true, Bool.true_and, Bool.false_and, not_true_eq_false])
            · have hne := qch h0
              simp only [qb9 hne, qb7 hne, qb0, hmm]
              repeat' (first | refine ql ?_ | refine qk ?_ | ((first | refine qn ?_ | refine qm ?_ | refine qs ?_ | refine qj ?_ | refine qi ?_); simp (disch := first | omega | (simp only [List.length_set, List.length_append, List.length_cons, List.length_nil]; done) | (simp only [List.length_set, List.length_append, List.length_cons, List.length_nil]; omega)) only [hmm, go_sem, ↓reduceIte, Nat.reduceEqDiff, Nat.reduceAdd, Nat.reduceSub, Nat.reduceMul, Nat.reduceLT, Nat.reduceLeDiff, reduceCtorEq, Int.reduceToNat]) | ((first | refine qf ?_ ?_ | refine qd ?_ ?_) <;> intro hc <;> simp only [hc, go_sem, ↓reduceIte, Nat.reduceEqDiff, Nat.reduceAdd, Nat.reduceSub, Nat.reduceMul, Nat.reduceLT, Nat.reduceLeDiff, reduceCtorEq, Int.reduceToNat] <;> (try simp only [qb, qa, decide_eq_true_eq, decide_eq_false_iff_not, Bool.and_eq_true] at hc)) | refine And.intro (by first | assumption | omega | (have := qg (by assumption); omega) | (unfold qq; omega)) ?_ | fail | ((first | refine qdz i1.ok ?_ | refine qdz ((qp d _).1 i1).ok ?_); simp only [go_sem, ↓reduceIte, Nat.reduceEqDiff, Nat.reduceAdd, Nat.reduceSub, Nat.reduceMul, Nat.reduceLT, Nat.reduceLeDiff, reduceCtorEq, Int.reduceToNat]))
              all_goals first | (exfalso; unfold qf4 at hE; simp only [*, qra, encs, qbs, qbu, if_true, if_false, reduceIte, Bool.false_eq_true, Option.isSome_some, Option.isSome_none, Option.getD_some, Option.getD_none, and_self, true_and, and_true, Bool.true_and, Bool.false_and, not_true_eq_false] at hE; done) | (unfold qf4; simp only [*, qra, encs, qbs, qbu, if_true, if_false, reduceIte, Bool.false_eq_true, Option.isSome_some, Option.isSome_none, Option.getD_some, Option.getD_none, and_self, true_and, and_true, Bool.true_and, Bool.false_and, not_true_eq_false])
          · simp only [hmm] at hE
            obtain rfl := hk2 hE
            have h0 : ¬ acc = [] := by
              intro h
              subst h
              apply hE
              unfold qf4
              repeat' split
              all_goals rfl
            have hne := qch h0
            simp only [qb9 hne, qb7 hne, qb0, hmm]
            repeat' (first | refine ql ?_ | refine qk ?_ | ((first | refine qn ?_ | refine qm ?_ | refine qs ?_ | refine qj ?_ | refine qi ?_); simp (disch := first | omega | (simp only [List.length_set, List.length_append, List.length_cons, List.length_nil]; done) | (simp only [List.length_set, List.length_append, List.length_cons, List.length_nil]; omega)) only [hmm, go_sem, ↓reduceIte, Nat.reduceEqDiff, Nat.reduceAdd, Nat.reduceSub, Nat.reduceMul, Nat.reduceLT, Nat.reduceLeDiff, reduceCtorEq, Int.reduceToNat]) | ((first | refine qf ?_ ?_ | refine qd ?_ ?_) <;> intro hc <;> simp only [hc, go_sem, ↓reduceIte, Nat.reduceEqDiff, Nat.reduceAdd, Nat.reduceSub, Nat.reduceMul, Nat.reduceLT, Nat.reduceLeDiff, reduceCtorEq, Int.reduceToNat] <;> (try simp only [qb, qa, decide_eq_true_eq, decide_eq_false_iff_not, Bool.and_eq_true] at hc)) | refine And.intro (by first | assumption | omega | (have := qg (by assumption); omega) | (unfold qq; omega)) ?_ | fail | ((first | refine qdz i1.ok ?_ | refine qdz ((qp d _).1 i1).ok ?_); simp only [go_sem, ↓reduceIte, Nat.reduceEqDiff, Nat.reduceAdd, Nat.reduceSub, Nat.reduceMul, Nat.reduceLT, Nat.reduceLeDiff, reduceCtorEq, Int.reduceToNat]))
            all_goals first | (exfalso; unfold qf4 at hE; simp only [*, qra, encs, qbs, qbu, if_true, if_false, reduceIte, Bool.false_eq_true, Option.isSome_some, Option.isSome_none, Option.getD_some, Option.getD_none, and_self, true_and, and_true, Bool.true_and, Bool.false_and, not_true_eq_false] at hE; done) | (unfold qf4; simp only [*, qra, encs, qbs, qbu, if_true, if_false, reduceIte, Bool.false_eq_true, Option.isSome_some, Option.isSome_none, Option.getD_some, Option.getD_none, and_self, true_and, and_true, Bool.true_and, Bool.false_and, not_true_eq_false]; rw [qb7 hne, qb9 hne, qb0]; exact ⟨rfl, rfl⟩)
        | true =>
          have i6 := (i3 rfl).2
          replace i3 := (i3 rfl).1
          clear i4
          obtain ⟨fu, rfl⟩ : ∃ k, fu = k + 1 := ⟨fu - 1, by omega⟩
          rw [qff] at i3
          have j1 : (qbr rec d).1.good := (qgs hm d).1 i1
          have j2 : rest (qbr rec d).1 ≤ rest d := (qgs hm d).2.1
          have j3 : (qr (qbr rec d).1 [44]).1.good := (qbb _ _).1 j1
          have j4 := (qbb (qbr rec d).1 [44]).2.1
          by_cases hs : (qbr rec d).2.isSome = true
          · rw [if_pos hs] at i3
            have hlt := qir hm hs
            obtain ⟨d', hd', k1, k2, k3, k4⟩ : ∃ d', d' = (if mm = true then (qr (qbr rec d).1 [44]).1 else (qbr rec d).1) ∧ d'.good ∧ rest d' ≤ rest (qbr rec d).1 ∧ ((mm && (qr (qbr rec d).1 [44]).2) = true → qff rec mm fu d' (acc ++ [(qbr rec d).2.getD N0]) = tg) ∧ ((mm && (qr (qbr rec d).1 [44]).2) = false → tg = (d', some (acc ++ [(qbr rec d).2.getD N0]))) := by
              refine ⟨_, rfl, ?_, ?_, fun h => ?_, fun h => ?_⟩
              · cases mm
                · exact j1
                · exact j3
              · cases mm
                · exact Nat.le_refl _
                · exact j4
              · rw [if_pos h] at i3
                rw [if_pos (by simp only [Bool.and_eq_true] at h; exact h.1)]
                exact i3
              · rw [if_neg (by rw [h]; simp)] at i3
                rw [← i3]
                clear hmm
                cases mm
                · rfl
                · rw [Bool.true_and] at h
                  rw [if_pos rfl, qdj h]
            by_cases h0 : acc = []
            · subst h0
              simp only [encs, qbs, qbu, hmm]
              repeat' (first | refine ql ?_ | refine qk ?_ | ((first | refine qn ?_ | refine qm ?_ | refine qs ?_ | refine qj ?_ | refine qi ?_); simp (disch := first | omega | (simp only [List.length_set, List.length_append, List.length_cons, List.length_nil]; done) | (simp only [List.length_set, List.length_append, List.length_cons, List.length_nil]; omega)) only [hmm, hs, go_sem, ↓reduceIte, Nat.reduceEqDiff, Nat.reduceAdd, Nat.reduceSub, Nat.reduceMul, Nat.reduceLT, Nat.reduceLeDiff, reduceCtorEq, Int.reduceToNat]) | ((first | refine qf ?_ ?_ | refine qd ?_ ?_) <;> intro hc <;> simp only [hc, go_sem, ↓reduceIte, Nat.reduceEqDiff, Nat.reduceAdd, Nat.reduceSub, Nat.reduceMul, Nat.reduceLT, Nat.reduceLeDiff, reduceCtorEq, Int.reduceToNat] <;> (try simp only [qb, qa, decide_eq_true_eq, decide_eq_false_iff_not, Bool.and_eq_true] at hc)) | refine And.intro (by first | assumption | omega | (have := qg (by assumption); omega) | (unfold qq; omega)) ?_ | fail | ((first | refine qdh (qma hm ih d i1 i2) rfl ?_ | refine qe9 j1.ok ?_); simp only [go_sem, ↓reduceIte, Nat.reduceEqDiff, Nat.reduceAdd, Nat.reduceSub, Nat.reduceMul, Nat.reduceLT, Nat.reduceLeDiff, reduceCtorEq, Int.reduceToNat]))
              · refine qbq (mm && (qr (qbr rec d).1 [44]).2, fu, d', [] ++ [(qbr rec d).2.getD N0]) [0, 2] ⟨⟨k1, by simp only; omega, fun h => ⟨by first | exact k3 h | (have := k3 h; simpa only [hmm] using this), by simp only; omega⟩, fun h => k4 h, ?_⟩, ?_⟩ rfl (by simp) ?_ ?_ ?_
                · simp only [List.length_append, List.length_cons, List.length_nil]; omega
                · simp only; split <;> omega
                all_goals simp only [hd', hmm, if_true, if_false, reduceIte, Bool.false_eq_true, Bool.true_and, Bool.false_and, q1x, ← qz, qcr, qcs, List.nil_append, encs, qdc, qdd]
                all_goals simp only [go_sem, ↓reduceIte, Nat.reduceEqDiff, Nat.reduceAdd, Nat.reduceSub, Nat.reduceMul, Nat.reduceLT, Nat.reduceLeDiff, reduceCtorEq, Int.reduceToNat]
            · have hne := qch h0
              simp only [qb9 hne, qb7 hne, qb0, hmm]
              repeat' (first | refine ql ?_ | refine qk ?_ | ((first | refine qn ?_ | refine qm ?_ | refine qs ?_ | refine qj ?_ | refine qi ?_); simp (disch := first | omega | (simp only [List.length_set, List.length_append, List.length_cons, List.length_nil]; done) | (simp only [List.length_set, List.length_append, List.length_cons, List.length_nil]; omega)) only [hmm, hs, go_sem, ↓reduceIte, Nat.reduceEqDiff, Nat.reduceAdd, Nat.reduceSub, Nat.reduceMul, Nat.reduceLT, Nat.reduceLeDiff, reduceCtorEq, Int.reduceToNat]) | ((first | refine qf ?_ ?_ | refine qd ?_ ?_) <;> intro hc <;> simp only [hc, go_sem, ↓reduceIte, Nat.reduceEqDiff, Nat.reduceAdd, Nat.reduceSub, Nat.reduceMul, Nat.reduceLT, Nat.reduceLeDiff, reduceCtorEq, Int.reduceToNat] <;> (try simp only [qb, qa, decide_eq_true_eq, decide_eq_false_iff_not, Bool.and_eq_true] at hc)) | refine And.intro (by first | assumption | omega | (have := qg (by assumption); omega) | (unfold qq; omega)) ?_ | fail | ((first | refine qdh (qma hm ih d i1 i2) rfl ?_ | refine qe9 j1.ok ?_); simp only [go_sem, ↓reduceIte, Nat.reduceEqDiff, Nat.reduceAdd, Nat.reduceSub, Nat.reduceMul, Nat.reduceLT, Nat.reduceLeDiff, reduceCtorEq, Int.reduceToNat]))
              · refine qbq (mm && (qr (qbr rec d).1 [44]).2, fu, d', acc ++ [(qbr rec d).2.getD N0]) [0, 3] ⟨⟨k1, by simp only; omega, fun h => ⟨by first | exact k3 h | (have := k3 h; simpa only [hmm] using this), by simp only; omega⟩, fun h => k4 h, ?_⟩, ?_⟩ rfl (by simp) ?_ ?_ ?_
                · simp only [List.length_append, List.length_cons, List.length_nil]; omega
                · simp only; split <;> omega
                all_goals simp only [hd', hmm, if_true, if_false, reduceIte, Bool.false_eq_true, Bool.true_and, Bool.false_and, q1x, ← qz, qcr, qcs, List.nil_append, encs, qdc, qdd]
                all_goals simp only [go_sem, ↓reduceIte, Nat.reduceEqDiff, Nat.reduceAdd, Nat.reduceSub, Nat.reduceMul, Nat.reduceLT, Nat.reduceLeDiff, reduceCtorEq, Int.reduceToNat]
                all_goals (try (rw [qz, qb8, qc1]; exact ⟨rfl, rfl⟩))
          · have hs : (qbr rec d).2.isSome = false := by simpa using hs
            rw [if_neg (by rw [hs]; simp)] at i3
            subst i3
            obtain rfl := hk1 rfl
            by_cases h0 : acc = []
            · subst h0
              simp only [encs, qbs, qbu, hmm]
              repeat' (first | refine ql ?_ | refine qk ?_ | ((first | refine qn ?_ | refine qm ?_ | refine qs ?_ | refine qj ?_ | refine qi ?_); simp (disch := first | omega | (simp only [List.length_set, List.length_append, List.length_cons, List.length_nil]; done) | (simp only [List.length_set, List.length_append, List.length_cons, List.length_nil]; omega)) only [hmm, hs, go_sem, ↓reduceIte, Nat.reduceEqDiff, Nat.reduceAdd, Nat.reduceSub, Nat.reduceMul, Nat.reduceLT, Nat.reduceLeDiff, reduceCtorEq, Int.reduceToNat]) | ((first | refine qf ?_ ?_ | refine qd ?_ ?_) <;> intro hc <;> simp only [hc, go_sem, ↓reduceIte, Nat.reduceEqDiff, Nat.reduceAdd, Nat.reduceSub, Nat.reduceMul, Nat.reduceLT, Nat.reduceLeDiff, reduceCtorEq, Int.reduceToNat] <;> (try simp only [qb, qa, decide_eq_true_eq, decide_eq_false_iff_not, Bool.and_eq_true] at hc)) | refine And.intro (by first | assumption | omega | (have := qg (by assumption); omega) | (unfold qq; omega)) ?_ | fail | ((first | refine qdh (qma hm ih d i1 i2) rfl ?_ | refine qe9 j1.ok ?_); simp only [go_sem, ↓reduceIte, Nat.reduceEqDiff, Nat.reduceAdd, Nat.reduceSub, Nat.reduceMul, Nat.reduceLT, Nat.reduceLeDiff, reduceCtorEq, Int.reduceToNat]))
              exact ⟨rfl, rfl⟩
            · have hne := qch h0
              simp only [qb9 hne, qb7 hne, qb0, hmm]
              repeat' (first | refine ql ?_ | refine qk ?_ | ((first | refine qn ?_ | refine qm ?_ | refine qs ?_ | refine qj ?_ | refine qi ?_); simp (disch := first | omega | (simp only [List.length_set, List.length_append, List.length_cons, List.length_nil]; done) | (simp only [List.length_set, List.length_append, List.length_cons, List.length_nil]; omega)) only [hmm, hs, go_sem, ↓reduceIte, Nat.reduceEqDiff, Nat.reduceAdd, Nat.reduceSub, Nat.reduceMul, Nat.reduceLT, Nat.reduceLeDiff, reduceCtorEq, Int.reduceToNat]) | ((first | refine qf ?_ ?_ | refine qd ?_ ?_) <;> intro hc <;> simp only [hc, go_sem, ↓reduceIte, Nat.reduceEqDiff, Nat.reduceAdd, Nat.reduceSub, Nat.reduceMul, Nat.reduceLT, Nat.reduceLeDiff, reduceCtorEq, Int.reduceToNat] <;> (try simp only [qb, qa, decide_eq_true_eq, decide_eq_false_iff_not, Bool.and_eq_true] at hc)) | refine And.intro (by first | assumption | omega | (have := qg (by assumption); omega) | (unfold qq; omega)) ?_ | fail | ((first | refine qdh (qma hm ih d i1 i2) rfl ?_ | refine qe9 j1.ok ?_); simp only [go_sem, ↓reduceIte, Nat.reduceEqDiff, Nat.reduceAdd, Nat.reduceSub, Nat.reduceMul, Nat.reduceLT, Nat.reduceLeDiff, reduceCtorEq, Int.reduceToNat]))
              exact ⟨rfl, rfl⟩
      )
  · have hpa : qbm rec c = (c, if qod c = true then none else some []) := by rw [qbm, if_neg ha]
    rw [hpa] at hk1 hk2 ⊢
    obtain rfl := hk1 (by simp only; split <;> rfl)
    repeat' (first | refine ql ?_ | refine qk ?_ | ((first | refine qn ?_ | refine qm ?_ | refine qs ?_ | refine qj ?_ | refine qi ?_); simp (disch := first | omega | (simp only [List.length_set, List.length_append, List.length_cons, List.length_nil]; done) | (simp only [List.length_set, List.length_append, List.length_cons, List.length_nil]; omega)) only [ha, go_sem, ↓reduceIte, Nat.reduceEqDiff, Nat.reduceAdd, Nat.reduceSub, Nat.reduceMul, Nat.reduceLT, Nat.reduceLeDiff, reduceCtorEq, Int.reduceToNat]) | ((first | refine qf ?_ ?_ | refine qd ?_ ?_) <;> intro hc <;> simp only [hc, go_sem, ↓reduceIte, Nat.reduceEqDiff, Nat.reduceAdd, Nat.reduceSub, Nat.reduceMul, Nat.reduceLT, Nat.reduceLeDiff, reduceCtorEq, Int.reduceToNat] <;> (try simp only [qb, qa, decide_eq_true_eq, decide_eq_false_iff_not, Bool.and_eq_true] at hc)) | refine And.intro (by first | assumption | omega | (have := qg (by assumption); omega) | (unfold qq; omega)) ?_ | fail | ((first | refine q04 hg.ok hg.2.1 ?_ | refine qbj6 hg.ok ?_); simp only [go_sem, ↓reduceIte, Nat.reduceEqDiff, Nat.reduceAdd, Nat.reduceSub, Nat.reduceMul, Nat.reduceLT, Nat.reduceLeDiff, reduceCtorEq, Int.reduceToNat]))
    cases qod c <;> exact ⟨rfl, rfl⟩
end
set_option maxRecDepth 4000

theorem qpg {rec : K → K × Option N} {c : K} (h : qij rec c) (h0 : (qbm rec c).2.getD [] = []) {L : List Ent} {Q : List Ent → VO → Prop} (hq : Q (curE (qbm rec c).1 :: L) (.val (.tup [.nils, .bool (qbm rec c).2.isSome]))) :
    VApp Tryz.prog (curE c :: L) (.fn 46 [] []) [.ptr 0 0] Q :=
  qb2 (r := .tup [.nils, .bool (qbm rec c).2.isSome]) (e' := curE (qbm rec c).1) (by
    unfold qij at h
    rw [h0] at h
    unfold qco
    have hr : qra 1 (qbm rec c).2 = .tup [.nils, .bool (qbm rec c).2.isSome] := by rw [qra, h0]; rfl
    rw [hr] at h
    exact h) (qbh _ _) (qbh _ _) rfl rfl fun _ => hq
theorem qyr {rec : K → K × Option N} {c : K} (h : qij rec c) {l : List N} (hl : (qbm rec c).2 = some l) (h0 : l ≠ []) {L : List Ent} {Q : List Ent → VO → Prop}
    (hq : Q (curE (qbm rec c).1 :: (L ++ [.app 5 (encs l)])) (.val (.tup [.row (L.length + 1) l.length, .bool true]))) :
    VApp Tryz.prog (curE c :: L) (.fn 46 [] []) [.ptr 0 0] Q :=
  qha (first := []) (caps := []) (by
    simp only [List.nil_append, List.append_nil]
    have hne := qch h0
    have hs : AV.rens (sg [0]) [.ptr 0 0] = [.ptr 0 0] := rfl
    rw [← hs]
    have ha : AV.bds 1 [.ptr 0 0] = true := rfl
    have napp_ren : ∀ σ : Nat → Nat, (Ent.app 5 (encs l)).ren σ = .app 5 (encs l) := fun σ => Ent.ren_same (m := 0) (fun i hi => by omega) _ (by simp [Ent.bd, qb8])
    refine qgf (H0 := [curE c]) [0] h (by simp) (by simp) rfl ?_ ha ?_
    · intro j e2 hj
      obtain rfl : j = 0 := by have := (List.getElem?_eq_some_iff.1 hj).1; simp at this; omega
      simp only [List.getElem?_cons_zero, Option.some.injEq] at hj
      subst hj
      exact .inr ⟨qbh _ _, by rw [qme]; rfl⟩
    rintro H1 o ⟨rfl, rfl⟩
    rw [hl]
    simp only [Option.getD_some, qb7 hne, qra, qb9 hne, qb0, Option.isSome_some, List.length_cons, List.length_nil, List.take_succ_cons, List.take_zero, List.map_nil, qcm, List.drop_zero, List.drop_succ_cons, List.map_cons, qme, napp_ren, VO.ren, AV.ren, AV.rens, sg', List.set_cons_zero]
    exact hq)
def qlu (p : Int) (l : List N) (t : N) : N := .mk 4 p 0 [] (l ++ [t])
def qep (f : Nat) (c : K) : K × Option N :=
  if (qbm (qcb f) c).2.isSome = true then ((qcb f (qbm (qcb f) c).1).1, (qcb f (qbm (qcb f) c).1).2.map (qlu (qbc c).pos ((qbm (qcb f) c).2.getD [])))
  else ((qbm (qcb f) c).1, none)
theorem qov {c : K} {L : List Ent} {p : Int} {l : List N} {t : N} {b : Bool} {Q : List Ent → VO → Prop} (hq : Q (curE c :: L) (.val (resP (qkz (qlu p l t) b)))) :
    VApp Tryz.prog (curE c :: L) (.fn 48 [] []) [.ptr 0 0, .agg [.int .i64 4, .int .i64 p, .int .i64 0, .str [], .sl 5 (encs l ++ [enc t])], .bool b] Q := by
  have h := qte (n := qlu p l t) hq
  simpa only [qlu, enc, qz] using h
theorem qut {c : K} {L : List Ent} {p : Int} {t : N} {b : Bool} {Q : List Ent → VO → Prop} (hq : Q (curE c :: L) (.val (resP (qkz (qlu p [] t) b)))) :
    VApp Tryz.prog (curE c :: L) (.fn 48 [] []) [.ptr 0 0, .agg [.int .i64 4, .int .i64 p, .int .i64 0, .str [], .sl 5 [enc t]], .bool b] Q := qov (l := []) hq
theorem qst {r : Option N} {p : Int} {l : List N} : qkz (qlu p l (r.getD N0)) r.isSome = r.map (qlu p l) := qqt
theorem qsh {rec : K → K × Option N} (hm : ∀ c, Mon c (rec c).1) (many : Bool) : ∀ (f : Nat) (c : K) (acc l : List N), (qff rec many f c acc).2 = some l → l.length ≤ acc.length + rest c
  | 0, c, acc, l => fun h => by cases h
  | f + 1, c, acc, l => fun h => by
    rw [qff] at h
    split at h
    · rename_i hs
      have h1 := qir hm hs
      split at h
      · have h2 := qsh hm many f _ _ _ h
        have h3 := (qbb (qbr rec c).1 [44]).2.1
        simp only [List.length_append, List.length_cons, List.length_nil] at h2
        omega
      · cases h
        simp only [List.length_append, List.length_cons, List.length_nil]
        omega
    · cases h
theorem qnv {m : Bool} {r : K × Option (List N)} {l : List N} (h : (qf4 m r).2 = some l) : r.2 = some l := by
  unfold qf4 at h
  repeat' split at h
  all_goals first | exact h | cases h
theorem qsv {rec : K → K × Option N} (hm : ∀ c, Mon c (rec c).1) {c : K} {l : List N} (h : (qbm rec c).2 = some l) : l.length ≤ rest c := by
  unfold qbm at h
  split at h
  · have h := qnv h
    unfold qh7 at h
    split at h
    · cases h; exact Nat.zero_le _
    · have h1 := qsh hm _ _ _ _ _ h
      have h2 := (qbb c [40]).2.1
      simp only [List.length_nil] at h1
      omega
  · simp only at h
    split at h
    · cases h
    · cases h; exact Nat.zero_le _
theorem qxh (f : Nat) (c : K) (hg : c.good) (hr : rest c < f) : qco Tryz.prog 22 (curE c) (curE (qep f c).1) [.ptr 0 0] (resP (qep f c).2) := by
  have hm := qgt f
  have hP := qtt hm (qzu f) c hg (by omega)
  have g1 : (qbm (qcb f) c).1.good := (qgw hm c).1 hg
  have hr1 : rest (qbm (qcb f) c).1 < f := by have := (qgw hm c).2.1; omega
  refine qbd c0bq 1 (by simp) (by simp) ?_
  unfold qep
  cases ho : (qbm (qcb f) c).2 with
  | none =>
    have h0 : (qbm (qcb f) c).2.getD [] = [] := by rw [ho]; rfl
    repeat' (first | refine ql ?_ | ((first | refine qn ?_ | refine qm ?_ | refine qj ?_ | refine qi ?_); simp (disch := first | omega | (simp only [List.length_set, List.length_append, List.length_cons, List.length_nil]; done) | (simp only [List.length_set, List.length_append, List.length_cons, List.length_nil]; omega)) only [ho, Option.isSome_none, go_sem, ↓reduceIte, Nat.reduceEqDiff, Nat.reduceAdd, Nat.reduceSub, Nat.reduceMul, Nat.reduceLT, Nat.reduceLeDiff, reduceCtorEq, Int.reduceToNat]) | ((first | refine qf ?_ ?_ | refine qd ?_ ?_) <;> intro hc <;> simp only [hc, go_sem, ↓reduceIte, Nat.reduceEqDiff, Nat.reduceAdd, Nat.reduceSub, Nat.reduceMul, Nat.reduceLT, Nat.reduceLeDiff, reduceCtorEq, Int.reduceToNat] <;> (try simp only [qb, qa, decide_eq_true_eq, decide_eq_false_iff_not, Bool.and_eq_true] at hc)) | refine And.intro (by first | assumption | omega | (have := qg (by assumption); omega) | (unfold qq; omega)) ?_ | fail | ((first | refine qdt ?_ | refine qpg hP h0 ?_); simp only [go_sem, ↓reduceIte, Nat.reduceEqDiff, Nat.reduceAdd, Nat.reduceSub, Nat.reduceMul, Nat.reduceLT, Nat.reduceLeDiff, reduceCtorEq, Int.reduceToNat]))
    rw [qd7]; rfl
  | some l =>
    have hlen := qsv hm ho
    have hlen2 := hg.rest
    by_cases h0 : l = []
    · subst h0
      have h0 : (qbm (qcb f) c).2.getD [] = [] := by rw [ho]; rfl
      have hcap : qq 1 64 := capN (by omega)
      repeat' (first | refine ql ?_ | ((first | refine qn ?_ | refine qm ?_ | refine qj ?_ | refine qi ?_); simp (disch := first | omega | (simp only [List.length_set, List.length_append, List.length_cons, List.length_nil]; done) | (simp only [List.length_set, List.length_append, List.length_cons, List.length_nil]; omega)) only [ho, Option.isSome_some, go_sem, ↓reduceIte, Nat.reduceEqDiff, Nat.reduceAdd, Nat.reduceSub, Nat.reduceMul, Nat.reduceLT, Nat.reduceLeDiff, reduceCtorEq, Int.reduceToNat]) | ((first | refine qf ?_ ?_ | refine qd ?_ ?_) <;> intro hc <;> simp only [hc, go_sem, ↓reduceIte, Nat.reduceEqDiff, Nat.reduceAdd, Nat.reduceSub, Nat.reduceMul, Nat.reduceLT, Nat.reduceLeDiff, reduceCtorEq, Int.reduceToNat] <;> (try simp only [qb, qa, decide_eq_true_eq, decide_eq_false_iff_not, Bool.and_eq_true] at hc)) | refine And.intro (by first | assumption | omega | (have := qg (by assumption); omega) | (unfold qq; omega)) ?_ | fail | ((first | refine qdt ?_ | refine qpg hP h0 ?_ | refine qdh (qzu f _ g1 hr1) rfl ?_ | refine qut ?_); simp only [go_sem, ↓reduceIte, Nat.reduceEqDiff, Nat.reduceAdd, Nat.reduceSub, Nat.reduceMul, Nat.reduceLT, Nat.reduceLeDiff, reduceCtorEq, Int.reduceToNat]))
      rw [qst]; rfl
    · have hcap : qq (l.length + 1) 64 := capN (by unfold rest at hlen; omega)
      repeat' (first | refine ql ?_ | ((first | refine qn ?_ | refine qm ?_ | refine qj ?_ | refine qi ?_); simp (disch := first | omega | (simp only [List.length_set, List.length_append, List.length_cons, List.length_nil]; done) | (simp only [List.length_set, List.length_append, List.length_cons, List.length_nil]; omega)) only [ho, Option.isSome_some, go_sem, ↓reduceIte, Nat.reduceEqDiff, Nat.reduceAdd, Nat.reduceSub, Nat.reduceMul, Nat.reduceLT, Nat.reduceLeDiff, reduceCtorEq, Int.reduceToNat]) | ((first | refine qf ?_ ?_ | refine qd ?_ ?_) <;> intro hc <;> simp only [hc, go_sem, ↓reduceIte, Nat.reduceEqDiff, Nat.reduceAdd, Nat.reduceSub, Nat.reduceMul, Nat.reduceLT, Nat.reduceLeDiff, reduceCtorEq, Int.reduceToNat] <;> (try simp only [qb, qa, decide_eq_true_eq, decide_eq_false_iff_not, Bool.and_eq_true] at hc)) | refine And.intro (by first | assumption | omega | (have := qg (by assumption); omega) | (unfold qq; omega)) ?_ | fail | ((first | refine qdt ?_ | refine qyr hP ho h0 ?_ | refine qdh (qzu f _ g1 hr1) rfl ?_ | refine qov ?_); simp only [go_sem, ↓reduceIte, Nat.reduceEqDiff, Nat.reduceAdd, Nat.reduceSub, Nat.reduceMul, Nat.reduceLT, Nat.reduceLeDiff, reduceCtorEq, Int.reduceToNat]))
      rw [qst]; rfl

/-! The size of what is read. -/
theorem qhc : ∀ (a b : List N), szs (a ++ b) = szs a + szs b
  | [], b => by simp [szs]
  | x :: a, b => by rw [List.cons_append, szs, szs, qhc a b]; omega
theorem qtz (c : K) (k : Int) (ks : List N) : sz (qh4 c k ks) = szs ks + 1 := by rw [qjc]; rfl
section
variable {rec : K → K × Option N} (hm : ∀ c, Mon c (rec c).1) (ih : ∀ c n, (rec c).2 = some n → sz n + rest (rec c).1 ≤ rest c)
include hm ih
omit hm in
theorem qk8 {c : K} {n : N} (h : (qb5 rec c).2 = some n) : sz n + rest (qb5 rec c).1 ≤ rest c := by
  unfold qb5 at h ⊢
  split at h
  · rename_i h1
    rw [if_pos h1]
    cases h
    have := qbj (c := c) (by omega)
    rw [qtz]; simp only [szs]; omega
  · rename_i h1
    rw [if_neg h1]
    split at h
    · rename_i h2
      rw [if_pos h2]
      cases h
      have := qbj (c := c) (by omega)
      rw [qtz]; simp only [szs]; omega
    · rename_i h2
      rw [if_neg h2]
      split at h
      · rename_i h3
        rw [if_pos h3]
        split at h
        · rename_i h4
          rw [if_pos h4]
          have hp := qbj (c := (qh c).1) (by rw [qeg h4]; exact qdn h3)
          have h0 := (qy c).2.1
          split at h
          · rename_i h5
            rw [if_pos h5]
            simp only at h ⊢
            split at h
            · have h6 := ih _ _ h
              have h7 := (qp (rec (q8 (qh c).1)).1 [41]).2.1
              have h8 := (qbv (qu (rec (q8 (qh c).1)).1 [41]).1).2.1
              omega
            · cases h
          · cases h
        · cases h
      · cases h
omit hm in
theorem qo7 : ∀ (f : Nat) (c : K) (acc l : List N), (qd9 rec f c acc).2 = some l → szs l + rest (qd9 rec f c acc).1 ≤ szs acc + rest c
  | 0, c, acc, l => fun h => by cases h
  | f + 1, c, acc, l => fun h => by
    rw [qd9] at h ⊢
    split at h
    · rename_i h1
      rw [if_pos h1]
      split at h
      · rename_i h2
        rw [if_pos h2]
        obtain ⟨n, hn⟩ := Option.isSome_iff_exists.1 h2
        have h3 := qo7 f _ _ _ h
        have h4 := qk8 ih hn
        rw [qhc, hn] at h3
        simp only [Option.getD_some, szs] at h3
        rw [hn]
        simp only [Option.getD_some]
        omega
      · cases h
    · rename_i h1
      rw [if_neg h1]
      cases h
      exact Nat.le_refl _
omit hm in
theorem qsy {c : K} {n : N} (h : (qcf rec c).2 = some n) : sz n + rest (qcf rec c).1 ≤ rest c := by
  unfold qcf at h ⊢
  split at h
  · rename_i h1
    rw [if_pos h1]
    obtain ⟨l, hl, rfl⟩ := Option.map_eq_some_iff.1 h
    have h2 := qo7 ih _ _ _ _ hl
    have h3 := qbj (c := c) (by omega)
    rw [qtz]
    simp only [szs] at h2 ⊢
    omega
  · rename_i h1
    rw [if_neg h1]
    exact qk8 ih h
omit hm in
theorem qw9 {c : K} {n : N} (h : (qbr rec c).2 = some n) : sz n + rest (qbr rec c).1 ≤ rest c := by
  unfold qbr at h ⊢
  split at h
  · rename_i h1
    rw [if_pos h1]
    obtain ⟨m, hk, rfl⟩ := Option.map_eq_some_iff.1 h
    have h2 := qk8 ih hk
    obtain ⟨e1, e2⟩ := qp9 h1
    rw [(q1r h1).1] at h2 ⊢
    have h3 := qbj (c := c) (by omega)
    have : sz (qob (qh9 c 2) m) = sz m + 1 := by rw [qjc]; simp [qob, N.kids, szs]
    simp only at h2 ⊢
    omega
  · cases h
omit hm in
theorem qr4 (many : Bool) : ∀ (f : Nat) (c : K) (acc l : List N), (qff rec many f c acc).2 = some l → szs l + rest (qff rec many f c acc).1 ≤ szs acc + rest c
  | 0, c, acc, l => fun h => by cases h
  | f + 1, c, acc, l => fun h => by
    rw [qff] at h ⊢
    split at h
    · rename_i h1
      rw [if_pos h1]
      obtain ⟨n, hn⟩ := Option.isSome_iff_exists.1 h1
      have h4 := qw9 ih hn
      split at h
      · rename_i h2
        rw [if_pos h2]
        have h3 := qr4 many f _ _ _ h
        have h5 := (qbb (qbr rec c).1 [44]).2.1
        rw [qhc, hn] at h3
        simp only [Option.getD_some, szs] at h3
        rw [hn]
        simp only [Option.getD_some]
        omega
      · rename_i h2
        rw [if_neg h2]
        cases h
        rw [hn, qhc]
        simp only [Option.getD_some, szs]
        omega
    · cases h
end
theorem qqv : ∀ (f : Nat) (c : K) (n : N), (qcb f c).2 = some n → sz n + rest (qcb f c).1 ≤ rest c
  | 0, _, _ => fun h => by cases h
  | f + 1, c, n => fun h => by
    have ih := qqv f
    have h0 := (qy c).2.1
    rw [qcb] at h ⊢
    split at h
    · rename_i h1
      rw [if_pos h1]
      split at h
      · rename_i h2
        rw [if_pos h2]
        obtain ⟨m, hm⟩ := Option.isSome_iff_exists.1 h2
        have h3 := qsy ih hm
        split at h
        · rename_i h4
          rw [if_pos h4]
          obtain ⟨q, hq, rfl⟩ := Option.map_eq_some_iff.1 h
          have h5 := ih _ _ hq
          have h6 := (qbv (qcb f (qr (qcf (qcb f) (qh c).1).1 [45, 62]).1).1).2.1
          have h7 : rest (qr (qcf (qcb f) (qh c).1).1 [45, 62]).1 + 1 ≤ rest (qcf (qcb f) (qh c).1).1 := by
            unfold qr at h4 ⊢
            split at h4
            · rename_i h8
              rw [if_pos h8]
              have := qbj (qdn h8)
              simp only; omega
            · cases h4
          have : sz (qh1 ((qcf (qcb f) (qh c).1).2.getD N0) q) = sz m + sz q + 1 := by rw [qjc, hm]; simp [qh1, N.kids, szs]
          simp only
          omega
        · rename_i h4
          rw [if_neg h4]
          have h5 := (qbv (qcf (qcb f) (qh c).1).1).2.1
          have h6 := qsy ih h
          simp only
          omega
      · cases h
    · cases h
theorem qwy {f : Nat} {c : K} {n : N} (h : (qep f c).2 = some n) : sz n + rest (qep f c).1 ≤ rest c + 1 := by
  unfold qep at h ⊢
  split at h
  · rename_i h1
    rw [if_pos h1]
    obtain ⟨l, hl⟩ := Option.isSome_iff_exists.1 h1
    obtain ⟨q, hq, rfl⟩ := Option.map_eq_some_iff.1 h
    have h2 := qqv f _ _ hq
    rw [hl]
    have h3 : szs l + rest (qbm (qcb f) c).1 ≤ rest c := by
      have hx := hl
      unfold qbm at hx ⊢
      split at hx
      · rename_i ha
        rw [if_pos ha]
        have h5 := qnv hx
        have h6 : szs l + rest (qh7 (qcb f) c).1 ≤ rest c := by
          unfold qh7 at h5 ⊢
          have ht := (qbb c [40]).2.1
          split at h5
          · rename_i hb
            rw [if_pos hb]
            cases h5
            simp only [szs]; omega
          · rename_i hb
            rw [if_neg hb]
            have := qr4 (qqv f) _ _ _ _ _ h5
            simp only [szs] at this
            omega
        have h7 : rest (qf4 (qr c [40]).2 (qh7 (qcb f) c)).1 ≤ rest (qh7 (qcb f) c).1 := by
          unfold qf4
          split
          · split
            · split
              · exact Nat.le_trans (qp _ _).2.1 (qp _ _).2.1
              · exact (qp _ _).2.1
            · exact (qp _ _).2.1
          · exact Nat.le_refl _
        omega
      · rename_i ha
        rw [if_neg ha]
        simp only at hx ⊢
        split at hx
        · cases hx
        · cases hx; simp only [szs]; omega
    have : sz (qlu (qbc c).pos l q) = szs l + sz q + 1 := by rw [qjc]; simp [qlu, N.kids, qhc, szs]
    simp only [Option.getD_some]
    omega
  · cases h
theorem qm5 {l : List T} (h : l.length ≤ 1048577) : (newK l).good := ⟨Nat.zero_le _, Nat.le_trans (qlc l) h, Nat.zero_le _⟩

/-- What is all there is. -/
def q9z (c : K) (n : N) : N × Int × Int :=
  if (qja c).2 = 0 then if depR n > 100 then (N0, n.pos, 2) else (n, 0, 0) else (N0, (qja c).1, (qja c).2)
def qbts (rd : K → K × Option N) (s : List UInt8) : N × Int × Int :=
  if (lexV s).2.2 = 0 then q9z (rd (newK (lexV s).1)).1 ((rd (newK (lexV s).1)).2.getD N0)
  else (N0, (lexV s).2.1, (lexV s).2.2)
def resV (r : N × Int × Int) : AV := .tup [enc r.1, .int .i64 r.2.1, .int .i64 r.2.2]
attribute [go_sem] resV lexR
theorem qjm (f : Nat) (c : K) : Mon c (qep f c).1 := by
  have hm := qgt f
  unfold qep
  split
  · exact (qgw hm c).trans (hm _)
  · exact qgw hm c
set_option maxRecDepth 4000

theorem qh6 {c : K} (h : (qbc c).kind ≠ 0) : em (q8 c) < em c := by
  have h1 := qbj h
  rw [qbat (qd0 h).1]
  have := qid (q8 c)
  omega
theorem qd8 {c : K} {x : List UInt8} (h : (qr c x).2 = true) : em (qr c x).1 < em c := by
  unfold qr at h ⊢
  split at h
  · rename_i h1
    rw [if_pos h1]
    exact qh6 (qdn h1)
  · cases h
theorem qem {c : K} (h : isK c [40] = true) : em (qu (qh c).1 [40]).1 < em c := by
  rw [qbat (qqr h)]
  cases he : (qh c).2 with
  | false => rw [qb6 (qf1 he), qbvo (qf1 he)]; omega
  | true =>
    have h1 : isK (qh c).1 [40] = true := by rw [qly he]; exact h
    have h2 := qbj (qdn h1)
    have h3 := (qy c).2.1
    have h4 := qid (q8 (qh c).1)
    rw [qlz h1]
    simp only; omega
def qcu (rec : K → K × N) (c : K) : K × N :=
  if c.err = 0 then
    if (qbc c).kind = 1 then (q8 c, qh4 c 1 [])
    else if (qbc c).kind = 2 then (q8 c, qh4 c 2 [])
    else if isK c [40] = true then (qcg (qu (rec (qu (qh c).1 [40]).1).1 [41]).1, (rec (qu (qh c).1 [40]).1).2)
    else (qfc c 5, N0)
  else (c, N0)
def qd5 (rec : K → K × N) : Nat → K → List N → K × List N
  | 0, c, acc => (c, acc)
  | f + 1, c, acc => if begT c = true then qd5 rec f (qcu rec c).1 (acc ++ [(qcu rec c).2]) else (c, acc)
def qc6 (rec : K → K × N) (c : K) : K × N :=
  if (qbc c).kind = 2 then ((qd5 rec (em (q8 c) + 1) (q8 c) []).1, qh4 c 2 (qd5 rec (em (q8 c) + 1) (q8 c) []).2) else qcu rec c
def qcd : Nat → K → K × N
  | 0, c => (c, N0)
  | f + 1, c =>
    if (qr (qc6 (qcd f) (qh c).1).1 [45, 62]).2 = true then
      (qcg (qcd f (qr (qc6 (qcd f) (qh c).1).1 [45, 62]).1).1, qh1 (qc6 (qcd f) (qh c).1).2 (qcd f (qr (qc6 (qcd f) (qh c).1).1 [45, 62]).1).2)
    else (qcg (qc6 (qcd f) (qh c).1).1, (qc6 (qcd f) (qh c).1).2)
section
variable {rec : K → K × N} (hm : ∀ c, Mon c (rec c).1)
include hm
theorem ql9 (c : K) : Mon (qu (qh c).1 [40]).1 (qcg (qu (rec (qu (qh c).1 [40]).1).1 [41]).1) := ((hm _).trans (qp _ _)).trans (qbv _)
theorem qf0 (c : K) : Mon c (qcu rec c).1 := by
  unfold qcu
  split
  · split
    · exact qbt c
    · split
      · exact qbt c
      · split
        · exact ((qy c).trans (qp _ _)).trans (ql9 hm c)
        · exact qfa c 5
  · exact Mon.refl c
theorem qhx {c : K} (h : begT c = true) : em (qcu rec c).1 < em c := by
  unfold qcu
  rw [if_pos (q1q h)]
  split
  · exact qh6 (by omega)
  · split
    · exact qh6 (by omega)
    · rename_i h1 h2
      have hk : isK c [40] = true := by simpa only [begT, decide_eq_false h1, decide_eq_false h2, Bool.false_or] using h
      rw [if_pos hk]
      have h3 := qem hk
      have h4 := (ql9 hm c).em
      simp only; omega
theorem qle : ∀ (f : Nat) (c : K) (acc : List N), Mon c (qd5 rec f c acc).1
  | 0, c, acc => Mon.refl c
  | f + 1, c, acc => by
    rw [qd5]
    split
    · exact (qf0 hm c).trans (qle f _ _)
    · exact Mon.refl c
theorem qjy (c : K) : Mon c (qc6 rec c).1 := by
  unfold qc6
  split
  · exact (qbt c).trans (qle hm _ _ _)
  · exact qf0 hm c
end
theorem qd1 : ∀ (f : Nat) (c : K), Mon c (qcd f c).1
  | 0, c => Mon.refl c
  | f + 1, c => by
    have hr := (qy c).trans (qjy (qd1 f) (qh c).1)
    rw [qcd]
    split
    · exact ((hr.trans (qbb _ _)).trans (qd1 f _)).trans (qbv _)
    · exact hr.trans (qbv _)

/-! The program. -/
theorem qgx (c : K) : qbp Tryz.prog 117 [refC c] (.bool (begT c)) := by
  refine qba c0bm (by simp) (by simp only [go_sem]) rfl fun hw => ?_
  repeat' (first | refine ql ?_ | ((first | refine qn ?_ | refine qm ?_ | refine qc (qt c) fun _ => ?_ | refine qc (qc0 c _) fun _ => ?_ | refine qe  (qt c) ?_ | refine qe  (qc0 c _) ?_); simp only [go_sem, ↓reduceIte, Nat.reduceEqDiff, Nat.reduceAdd, Nat.reduceSub, Nat.reduceMul, Nat.reduceLT, Nat.reduceLeDiff, reduceCtorEq, Int.reduceToNat]) | ((first | refine qf ?_ ?_ | refine qd ?_ ?_) <;> intro hc <;> simp only [hc, go_sem, ↓reduceIte, Nat.reduceEqDiff, Nat.reduceAdd, Nat.reduceSub, Nat.reduceMul, Nat.reduceLT, Nat.reduceLeDiff, reduceCtorEq, Int.reduceToNat] <;> (try simp only [qb, qa, decide_eq_true_eq, decide_eq_false_iff_not, Bool.and_eq_true] at hc)) | refine And.intro (by first | assumption | omega | (have := qg (by assumption); omega) | (unfold qq; omega)) ?_ | fail)
  all_goals (have := @q22 c; unfold begT at *; simp_all)
def qrt (p : Int) (t : List UInt8) (c : K) (acc : List N) : AF × List Ent :=
  (⟨[(1, .ptr 0 0), (2, .ptr 1 0), (3, .ptr 2 0), (5, .ptr 3 0)], []⟩,
    .blk (refC c).cells :: .blk [.nils, .int .i64 0, .int .i64 0, .int .i64 0, .str [], .int .i64 0, .int .i64 0, .int .i64 0] :: .blk [.int .i64 0, .int .i64 0, .int .i64 0, .str [], .nils] :: .blk [.int .i64 2, .int .i64 p, .int .i64 0, .str t, accV 4 (encs acc)] :: accE 5 (encs acc))
section
variable {rec : K → K × N} {b : Nat} (hm : ∀ c, Mon c (rec c).1) (ih : ∀ c, c.good → em c < b → qbp Tryz.prog 54 [refC c] (.tup [refC (rec c).1, enc (rec c).2]))
include hm ih
theorem qe2 (c : K) (hg : c.good) (hr : em c ≤ b) : qbp Tryz.prog 116 [refC c] (.tup [refC (qcu rec c).1, enc (qcu rec c).2]) := by
  have g1 : (qu (qh c).1 [40]).1.good := ((qy c).trans (qp _ _)).1 hg
  have g2 : (qu (rec (qu (qh c).1 [40]).1).1 [41]).1.good := ((hm _).trans (qp _ _)).1 g1
  refine qba c0bn (by simp) (by simp only [go_sem]) (by simp only [go_sem]) fun hw => ?_
  repeat' (first | refine ql ?_ | refine qk ?_ | ((first | refine qn ?_ | refine qx (by rfl) ?_ | refine qw ?_ | refine qm ?_ | refine qj ?_ | refine qi ?_ | refine qc (qt c) fun _ => ?_ | refine qc (qc0 c _) fun _ => ?_ | refine qc (qcz c _) fun _ => ?_ | refine qc (qcn c) fun _ => ?_ | refine qc (qbf _ _) fun _ => ?_ | refine qc (ih _ g1 (Nat.lt_of_lt_of_le (qem (by assumption)) hr)) fun _ => ?_ | refine qc (qby _ g2.2.2) fun _ => ?_ | refine qc (qcc c) fun _ => ?_ | refine qe  (qt c) ?_ | refine qe  (qc0 c _) ?_ | refine qe  (qcz c _) ?_ | refine qe  (qcn c) ?_ | refine qe  (qbf _ _) ?_ | refine qe  (ih _ g1 (Nat.lt_of_lt_of_le (qem (by assumption)) hr)) ?_ | refine qe  (qby _ g2.2.2) ?_ | refine qe  (qcc c) ?_); simp only [go_sem, ↓reduceIte, Nat.reduceEqDiff, Nat.reduceAdd, Nat.reduceSub, Nat.reduceMul, Nat.reduceLT, Nat.reduceLeDiff, reduceCtorEq, Int.reduceToNat]) | ((first | refine qf ?_ ?_ | refine qd ?_ ?_) <;> intro hc <;> simp only [hc, go_sem, ↓reduceIte, Nat.reduceEqDiff, Nat.reduceAdd, Nat.reduceSub, Nat.reduceMul, Nat.reduceLT, Nat.reduceLeDiff, reduceCtorEq, Int.reduceToNat] <;> (try simp only [qb, qa, decide_eq_true_eq, decide_eq_false_iff_not, Bool.and_eq_true] at hc)) | refine And.intro (by first | assumption | omega | (have := qg (by assumption); omega) | (unfold qq; omega)) ?_ | fail)
  all_goals (unfold qcu qh4; simp only [*, qd7, Int.reduceEq, if_true, if_false, reduceIte, Bool.false_eq_true, Option.getD_none, Option.getD_some, Option.isSome_none, Option.isSome_some, and_self, true_and, and_true]; try rfl)
theorem q18 (c : K) (hg : c.good) (hr : em c ≤ b) : qbp Tryz.prog 87 [refC c] (.tup [refC (qc6 rec c).1, enc (qc6 rec c).2]) := by
  refine qba c0bo (by simp) (by simp only [go_sem]) (by simp only [go_sem]) fun hw => ?_
  by_cases hk : (qbc c).kind = 2
  · have hpa : qc6 rec c = ((qd5 rec (em (q8 c) + 1) (q8 c) []).1, qh4 c 2 (qd5 rec (em (q8 c) + 1) (q8 c) []).2) := by rw [qc6, if_pos hk]
    rw [hpa]
    clear hpa
    have g1 : (q8 c).good := (qbt _).1 hg
    have hr1 : em (q8 c) ≤ b := by have := (qbt c).em; omega
    generalize htg : qd5 rec (em (q8 c) + 1) (q8 c) [] = tg
    repeat' (first | refine ql ?_ | refine qk ?_ | ((first | refine qn ?_ | refine qx (by rfl) ?_ | refine qw ?_ | refine qm ?_ | refine qs ?_ | refine qj ?_ | refine qi ?_); simp (disch := first | omega | (simp only [List.length_set, List.length_append, List.length_cons, List.length_nil]; done) | (simp only [List.length_set, List.length_append, List.length_cons, List.length_nil]; omega)) only [hk, Int.reduceEq, go_sem, ↓reduceIte, Nat.reduceEqDiff, Nat.reduceAdd, Nat.reduceSub, Nat.reduceMul, Nat.reduceLT, Nat.reduceLeDiff, reduceCtorEq, Int.reduceToNat]) | ((first | refine qf ?_ ?_ | refine qd ?_ ?_) <;> intro hc <;> simp only [hc, go_sem, ↓reduceIte, Nat.reduceEqDiff, Nat.reduceAdd, Nat.reduceSub, Nat.reduceMul, Nat.reduceLT, Nat.reduceLeDiff, reduceCtorEq, Int.reduceToNat] <;> (try simp only [qb, qa, decide_eq_true_eq, decide_eq_false_iff_not, Bool.and_eq_true] at hc)) | refine And.intro (by first | assumption | omega | (have := qg (by assumption); omega) | (unfold qq; omega)) ?_ | fail | ((first | refine qc (qt _) fun _ => ?_ | refine qc (qcc _) fun _ => ?_ | refine qe  (qt _) ?_ | refine qe  (qcc _) ?_); simp only [go_sem, ↓reduceIte, Nat.reduceEqDiff, Nat.reduceAdd, Nat.reduceSub, Nat.reduceMul, Nat.reduceLT, Nat.reduceLeDiff, reduceCtorEq, Int.reduceToNat]))
    refine qca (S := Nat × K × List N) (fun x => x.2.1.good ∧ em x.2.1 ≤ b ∧ qd5 rec x.1 x.2.1 x.2.2 = tg ∧ em x.2.1 < x.1 ∧ x.2.2.length + em x.2.1 ≤ 1048578)
      (fun x => qrt (qbc c).pos (qbc c).text x.2.1 x.2.2) (fun x => em x.2.1) ?_ ?_
    · refine qbq (em (q8 c) + 1, q8 c, []) [0, 1, 2, 4] ⟨g1, hr1, htg, by simp only; omega, ?_⟩ rfl (by simp) ?_ ?_ ?_
      · have h9 := g1.rest
        have h8 := qid (q8 c)
        unfold rest at h8
        simp only [List.length_nil]
        omega
      all_goals simp only [qrt, encs, qbs, qbu]
      all_goals simp only [go_sem, ↓reduceIte, Nat.reduceEqDiff, Nat.reduceAdd, Nat.reduceSub, Nat.reduceMul, Nat.reduceLT, Nat.reduceLeDiff, reduceCtorEq, Int.reduceToNat]
    · rintro ⟨fu, d, acc⟩ ⟨i1, i2, i3, i4, i5⟩
      simp only at i1 i2 i3 i4 i5
      unfold qrt
      obtain ⟨fu, rfl⟩ : ∃ k, fu = k + 1 := ⟨fu - 1, by omega⟩
      rw [qd5] at i3
      have hcap : qq (acc.length + 1) 64 := capN (by omega)
      have j1 : (qcu rec d).1.good := (qf0 hm d).1 i1
      have j2 : em (qcu rec d).1 ≤ em d := (qf0 hm d).em
      by_cases h0 : acc = []
      · subst h0
        simp only [encs, qbs, qbu]
        repeat' (first | refine ql ?_ | refine qk ?_ | ((first | refine qn ?_ | refine qx (by rfl) ?_ | refine qw ?_ | refine qm ?_ | refine qs ?_ | refine qj ?_ | refine qi ?_ | refine qc (qgx _) fun _ => ?_ | refine qc (qe2 hm ih _ i1 i2) fun _ => ?_ | refine qe  (qgx _) ?_ | refine qe  (qe2 hm ih _ i1 i2) ?_); simp only [go_sem, ↓reduceIte, Nat.reduceEqDiff, Nat.reduceAdd, Nat.reduceSub, Nat.reduceMul, Nat.reduceLT, Nat.reduceLeDiff, reduceCtorEq, Int.reduceToNat]) | ((first | refine qf ?_ ?_ | refine qd ?_ ?_) <;> intro hc <;> simp only [hc, go_sem, ↓reduceIte, Nat.reduceEqDiff, Nat.reduceAdd, Nat.reduceSub, Nat.reduceMul, Nat.reduceLT, Nat.reduceLeDiff, reduceCtorEq, Int.reduceToNat] <;> (try simp only [qb, qa, decide_eq_true_eq, decide_eq_false_iff_not, Bool.and_eq_true] at hc)) | refine And.intro (by first | assumption | omega | (have := qg (by assumption); omega) | (unfold qq; omega)) ?_ | fail)
        · have hb : begT d = true := by assumption
          rw [if_pos hb] at i3
          have hlt := qhx hm hb
          refine qbq (fu, (qcu rec d).1, [] ++ [(qcu rec d).2]) [0, 1, 2, 3, 6] ⟨⟨j1, by simp only; omega, i3, by simp only; omega, ?_⟩, by simp only; omega⟩ rfl (by simp) ?_ ?_ ?_
          · simp only [List.length_append, List.length_cons, List.length_nil]; omega
          all_goals simp only [qrt, ← qz, qcr, qcs, List.nil_append, encs, qdc, qdd]
          all_goals simp only [go_sem, ↓reduceIte, Nat.reduceEqDiff, Nat.reduceAdd, Nat.reduceSub, Nat.reduceMul, Nat.reduceLT, Nat.reduceLeDiff, reduceCtorEq, Int.reduceToNat]
        · have hb : begT d = false := by assumption
          rw [if_neg (by rw [hb]; simp)] at i3
          subst i3
          rfl
      · have hne := qch h0
        simp only [qb9 hne, qb7 hne, qb0]
        repeat' (first | refine ql ?_ | refine qk ?_ | ((first | refine qn ?_ | refine qx (by rfl) ?_ | refine qw ?_ | refine qm ?_ | refine qs ?_ | refine qj ?_ | refine qi ?_ | refine qc (qgx _) fun _ => ?_ | refine qc (qe2 hm ih _ i1 i2) fun _ => ?_ | refine qe  (qgx _) ?_ | refine qe  (qe2 hm ih _ i1 i2) ?_); simp only [go_sem, ↓reduceIte, Nat.reduceEqDiff, Nat.reduceAdd, Nat.reduceSub, Nat.reduceMul, Nat.reduceLT, Nat.reduceLeDiff, reduceCtorEq, Int.reduceToNat]) | ((first | refine qf ?_ ?_ | refine qd ?_ ?_) <;> intro hc <;> simp only [hc, go_sem, ↓reduceIte, Nat.reduceEqDiff, Nat.reduceAdd, Nat.reduceSub, Nat.reduceMul, Nat.reduceLT, Nat.reduceLeDiff, reduceCtorEq, Int.reduceToNat] <;> (try simp only [qb, qa, decide_eq_true_eq, decide_eq_false_iff_not, Bool.and_eq_true] at hc)) | refine And.intro (by first | assumption | omega | (have := qg (by assumption); omega) | (unfold qq; omega)) ?_ | fail)
        · have hb : begT d = true := by assumption
          rw [if_pos hb] at i3
          have hlt := qhx hm hb
          refine qbq (fu, (qcu rec d).1, acc ++ [(qcu rec d).2]) [0, 1, 2, 3, 7] ⟨⟨j1, by simp only; omega, i3, by simp only; omega, ?_⟩, by simp only; omega⟩ rfl (by simp) ?_ ?_ ?_
          · simp only [List.length_append, List.length_cons, List.length_nil]; omega
          all_goals simp only [qrt, ← qz, qcr, qcs, List.nil_append, encs, qdc, qdd]
          all_goals simp only [go_sem, ↓reduceIte, Nat.reduceEqDiff, Nat.reduceAdd, Nat.reduceSub, Nat.reduceMul, Nat.reduceLT, Nat.reduceLeDiff, reduceCtorEq, Int.reduceToNat]
          rw [qz, qb8, qc1]; exact ⟨rfl, rfl⟩
        · have hb : begT d = false := by assumption
          rw [if_neg (by rw [hb]; simp)] at i3
          subst i3
          rfl
  · repeat' (first | refine ql ?_ | refine qk ?_ | ((first | refine qn ?_ | refine qx (by rfl) ?_ | refine qw ?_ | refine qm ?_ | refine qs ?_ | refine qj ?_ | refine qi ?_); simp (disch := first | omega | (simp only [List.length_set, List.length_append, List.length_cons, List.length_nil]; done) | (simp only [List.length_set, List.length_append, List.length_cons, List.length_nil]; omega)) only [hk, go_sem, ↓reduceIte, Nat.reduceEqDiff, Nat.reduceAdd, Nat.reduceSub, Nat.reduceMul, Nat.reduceLT, Nat.reduceLeDiff, reduceCtorEq, Int.reduceToNat]) | ((first | refine qf ?_ ?_ | refine qd ?_ ?_) <;> intro hc <;> simp only [hc, go_sem, ↓reduceIte, Nat.reduceEqDiff, Nat.reduceAdd, Nat.reduceSub, Nat.reduceMul, Nat.reduceLT, Nat.reduceLeDiff, reduceCtorEq, Int.reduceToNat] <;> (try simp only [qb, qa, decide_eq_true_eq, decide_eq_false_iff_not, Bool.and_eq_true] at hc)) | refine And.intro (by first | assumption | omega | (have := qg (by assumption); omega) | (unfold qq; omega)) ?_ | fail | ((first | refine qc (qt _) fun _ => ?_ | refine qc (qe2 hm ih c hg hr) fun _ => ?_ | refine qe  (qt _) ?_ | refine qe  (qe2 hm ih c hg hr) ?_); simp only [go_sem, ↓reduceIte, Nat.reduceEqDiff, Nat.reduceAdd, Nat.reduceSub, Nat.reduceMul, Nat.reduceLT, Nat.reduceLeDiff, reduceCtorEq, Int.reduceToNat]))
    rw [qc6, if_neg hk]
end
theorem qq6 {f : Nat} (ih : ∀ c, c.good → em c < f → qbp Tryz.prog 54 [refC c] (.tup [refC (qcd f c).1, enc (qcd f c).2])) (c : K) (hg : c.good) (hr : em c < f + 1) :
    qbp Tryz.prog 54 [refC c] (.tup [refC (qcd (f + 1) c).1, enc (qcd (f + 1) c).2]) := by
  have hm := qd1 f
  have g1 : (qh c).1.good := (qy c).1 hg
  have hr1 : em (qh c).1 ≤ f := by have := (qy c).em; omega
  have hrow := q18 hm ih _ g1 hr1
  have mrow := qjy hm (qh c).1
  have hpa : qcd (f + 1) c = if (qr (qc6 (qcd f) (qh c).1).1 [45, 62]).2 = true then
      (qcg (qcd f (qr (qc6 (qcd f) (qh c).1).1 [45, 62]).1).1, qh1 (qc6 (qcd f) (qh c).1).2 (qcd f (qr (qc6 (qcd f) (qh c).1).1 [45, 62]).1).2)
    else (qcg (qc6 (qcd f) (qh c).1).1, (qc6 (qcd f) (qh c).1).2) := by rw [qcd]
  rw [hpa]
  clear hpa
  generalize qc6 (qcd f) (qh c).1 = r at *
  have g2 : r.1.good := mrow.1 g1
  have g3 : (qr r.1 [45, 62]).1.good := (qbb _ _).1 g2
  have g4 : (qcd f (qr r.1 [45, 62]).1).1.good := (hm _).1 g3
  have hlt : (qr r.1 [45, 62]).2 = true → em (qr r.1 [45, 62]).1 < f := fun h => by
    have := qd8 h
    have := mrow.em
    omega
  refine qba c0bp (by simp) (by simp only [go_sem]) (by simp only [go_sem]) fun hw => ?_
  repeat' (first | refine ql ?_ | ((first | refine qn ?_ | refine qx (by rfl) ?_ | refine qw ?_ | refine qm ?_ | refine qj ?_ | refine qi ?_ | refine qc (qcn c) fun _ => ?_ | refine qc hrow fun _ => ?_ | refine qc (qbi _ _) fun _ => ?_ | refine qc (ih _ g3 (hlt (by assumption))) fun _ => ?_ | refine qc (qby _ g4.2.2) fun _ => ?_ | refine qc (qby _ g3.2.2) fun _ => ?_ | refine qe  (qcn c) ?_ | refine qe  hrow ?_ | refine qe  (qbi _ _) ?_ | refine qe  (ih _ g3 (hlt (by assumption))) ?_ | refine qe  (qby _ g4.2.2) ?_ | refine qe  (qby _ g3.2.2) ?_); simp only [go_sem, ↓reduceIte, Nat.reduceEqDiff, Nat.reduceAdd, Nat.reduceSub, Nat.reduceMul, Nat.reduceLT, Nat.reduceLeDiff, reduceCtorEq, Int.reduceToNat]) | ((first | refine qf ?_ ?_ | refine qd ?_ ?_) <;> intro hc <;> simp only [hc, go_sem, ↓reduceIte, Nat.reduceEqDiff, Nat.reduceAdd, Nat.reduceSub, Nat.reduceMul, Nat.reduceLT, Nat.reduceLeDiff, reduceCtorEq, Int.reduceToNat] <;> (try simp only [qb, qa, decide_eq_true_eq, decide_eq_false_iff_not, Bool.and_eq_true] at hc)) | refine And.intro (by first | assumption | omega | (have := qg (by assumption); omega) | (unfold qq; omega)) ?_ | fail)
  · simp only [qh1, enc, encs]
  · rw [qdj (by assumption)]
theorem qvq (f : Nat) : ∀ c : K, c.good → em c < f → qbp Tryz.prog 54 [refC c] (.tup [refC (qcd f c).1, enc (qcd f c).2]) := by
  induction f with
  | zero => exact fun c _ h => absurd h (by omega)
  | succ f ih => exact qq6 ih
set_option maxRecDepth 4000

def qb1 (rec : K → K × N) (c : K) : K × N := ((qcu rec (qbk c 2).1).1, qob (qh9 c 2) (qcu rec (qbk c 2).1).2)
def qdw (rec : K → K × N) : Nat → K → List N → K × List N
  | 0, c, acc => (c, acc)
  | f + 1, c, acc =>
    if (qr (qb1 rec c).1 [44]).2 = true then qdw rec f (qr (qb1 rec c).1 [44]).1 (acc ++ [(qb1 rec c).2])
    else ((qb1 rec c).1, acc ++ [(qb1 rec c).2])
def qe4 (rec : K → K × N) (c : K) : K × List N :=
  if isK c [41] = true then (c, []) else qdw rec (em c + 2) c []
def qdv (rec : K → K × N) (c : K) : K × List N :=
  if qhz c [61, 62] = true then
    if (qr c [40]).2 = true then ((qu (qu (qe4 rec (qr c [40]).1).1 [41]).1 [61, 62]).1, (qe4 rec (qr c [40]).1).2)
    else ((qu (qb1 rec c).1 [61, 62]).1, [(qb1 rec c).2])
  else (c, [])
section
variable {rec : K → K × N} (hm : ∀ c, Mon c (rec c).1)
include hm
theorem qeo (c : K) : Mon c (qb1 rec c).1 := (qc8 c 2).trans (qf0 hm _)
theorem qj6 : ∀ (f : Nat) (c : K) (acc : List N), Mon c (qdw rec f c acc).1
  | 0, c, acc => Mon.refl c
  | f + 1, c, acc => by
    rw [qdw]
    split
    · exact ((qeo hm c).trans (qbb _ _)).trans (qj6 f _ _)
    · exact qeo hm c
theorem qkn (c : K) : Mon c (qe4 rec c).1 := by
  unfold qe4
  split
  · exact Mon.refl c
  · exact qj6 hm _ _ _
theorem qgz (c : K) : Mon c (qdv rec c).1 := by
  unfold qdv
  split
  · split
    · exact (((qbb c _).trans (qkn hm _)).trans (qp _ _)).trans (qp _ _)
    · exact (qeo hm c).trans (qp _ _)
  · exact Mon.refl c
end
def qsu (x : Bool × Nat × K × List N) : AF × List Ent :=
  (⟨[(2, .ptr 0 0), (4, accV 2 (encs x.2.2.2)), (5, .ptr 1 0), (9, .bool x.1)], []⟩,
    .blk [.nils, .int .i64 0, .int .i64 0, .int .i64 0, .str [], .int .i64 0, .int .i64 0, .int .i64 0] :: .blk (refC x.2.2.1).cells :: accE 5 (encs x.2.2.2))
section
variable {rec : K → K × N} {b : Nat} (hm : ∀ c, Mon c (rec c).1) (ih : ∀ c, c.good → em c < b → qbp Tryz.prog 54 [refC c] (.tup [refC (rec c).1, enc (rec c).2]))
include hm ih
theorem qge (c : K) (hg : c.good) (hr : em c ≤ b) : qbp Tryz.prog 86 [refC c] (.tup [refC (qb1 rec c).1, enc (qb1 rec c).2]) := by
  have g1 : (qbk c 2).1.good := (qc8 c 2).1 hg
  have hr1 : em (qbk c 2).1 ≤ b := by have := (qc8 c 2).em; omega
  refine qba c0bj (by simp) (by simp only [go_sem]) (by simp only [go_sem]) fun hw => ?_
  repeat' (first | refine ql ?_ | ((first | refine qn ?_ | refine qx (by rfl) ?_ | refine qw ?_ | refine qm ?_ | refine qc (qgd c 2) fun _ => ?_ | refine qc (qe2 hm ih _ g1 hr1) fun _ => ?_ | refine qe  (qgd c 2) ?_ | refine qe  (qe2 hm ih _ g1 hr1) ?_); simp only [go_sem, ↓reduceIte, Nat.reduceEqDiff, Nat.reduceAdd, Nat.reduceSub, Nat.reduceMul, Nat.reduceLT, Nat.reduceLeDiff, reduceCtorEq, Int.reduceToNat]) | ((first | refine qf ?_ ?_ | refine qd ?_ ?_) <;> intro hc <;> simp only [hc, go_sem, ↓reduceIte, Nat.reduceEqDiff, Nat.reduceAdd, Nat.reduceSub, Nat.reduceMul, Nat.reduceLT, Nat.reduceLeDiff, reduceCtorEq, Int.reduceToNat] <;> (try simp only [qb, qa, decide_eq_true_eq, decide_eq_false_iff_not, Bool.and_eq_true] at hc)) | refine And.intro (by first | assumption | omega | (have := qg (by assumption); omega) | (unfold qq; omega)) ?_ | fail)
  all_goals (simp only [qb1, qob, enc, encs])
theorem qu1 (c : K) (hg : c.good) (hr : em c ≤ b) : qbp Tryz.prog 53 [refC c] (.tup [refC (qdv rec c).1, .sl 5 (encs (qdv rec c).2)]) := by
  refine qba c0bk (by simp) (by simp only [go_sem]) (by simp only [go_sem]) fun hw => ?_
  have g1 : (qr c [40]).1.good := (qbb c _).1 hg
  have hr1 : em (qr c [40]).1 ≤ b := by have := (qbb c [40]).em; omega
  unfold qdv
  by_cases ha : qhz c [61, 62] = true
  · rw [if_pos ha]
    by_cases ht : (qr c [40]).2 = true
    · rw [if_pos ht]
      generalize htg : qe4 rec (qr c [40]).1 = tg
      have gt : tg.1.good := htg ▸ (qkn hm _).1 g1
      unfold qe4 at htg
      by_cases hi : isK (qr c [40]).1 [41] = true
      · rw [if_pos hi] at htg
        subst htg
        repeat' (first | refine ql ?_ | refine qk ?_ | ((first | refine qn ?_ | refine qx (by rfl) ?_ | refine qw ?_ | refine qm ?_ | refine qs ?_ | refine qj ?_ | refine qi ?_); simp (disch := first | omega | (simp only [List.length_set, List.length_append, List.length_cons, List.length_nil]; done) | (simp only [List.length_set, List.length_append, List.length_cons, List.length_nil]; omega)) only [ha, ht, hi, go_sem, ↓reduceIte, Nat.reduceEqDiff, Nat.reduceAdd, Nat.reduceSub, Nat.reduceMul, Nat.reduceLT, Nat.reduceLeDiff, reduceCtorEq, Int.reduceToNat]) | ((first | refine qf ?_ ?_ | refine qd ?_ ?_) <;> intro hc <;> simp only [hc, go_sem, ↓reduceIte, Nat.reduceEqDiff, Nat.reduceAdd, Nat.reduceSub, Nat.reduceMul, Nat.reduceLT, Nat.reduceLeDiff, reduceCtorEq, Int.reduceToNat] <;> (try simp only [qb, qa, decide_eq_true_eq, decide_eq_false_iff_not, Bool.and_eq_true] at hc)) | refine And.intro (by first | assumption | omega | (have := qg (by assumption); omega) | (unfold qq; omega)) ?_ | fail | ((first | refine qc (qed c hg.2.1 _) fun _ => ?_ | refine qc (qbi c _) fun _ => ?_ | refine qc (qc0 _ _) fun _ => ?_ | refine qc (qbf _ _) fun _ => ?_ | refine qe  (qed c hg.2.1 _) ?_ | refine qe  (qbi c _) ?_ | refine qe  (qc0 _ _) ?_ | refine qe  (qbf _ _) ?_); simp only [go_sem, ↓reduceIte, Nat.reduceEqDiff, Nat.reduceAdd, Nat.reduceSub, Nat.reduceMul, Nat.reduceLT, Nat.reduceLeDiff, reduceCtorEq, Int.reduceToNat]))
        rfl
      · rw [if_neg hi] at htg
        repeat' (first | refine ql ?_ | refine qk ?_ | ((first | refine qn ?_ | refine qx (by rfl) ?_ | refine qw ?_ | refine qm ?_ | refine qs ?_ | refine qj ?_ | refine qi ?_); simp (disch := first | omega | (simp only [List.length_set, List.length_append, List.length_cons, List.length_nil]; done) | (simp only [List.length_set, List.length_append, List.length_cons, List.length_nil]; omega)) only [ha, ht, hi, go_sem, ↓reduceIte, Nat.reduceEqDiff, Nat.reduceAdd, Nat.reduceSub, Nat.reduceMul, Nat.reduceLT, Nat.reduceLeDiff, reduceCtorEq, Int.reduceToNat]) | ((first | refine qf ?_ ?_ | refine qd ?_ ?_) <;> intro hc <;> simp only [hc, go_sem, ↓reduceIte, Nat.reduceEqDiff, Nat.reduceAdd, Nat.reduceSub, Nat.reduceMul, Nat.reduceLT, Nat.reduceLeDiff, reduceCtorEq, Int.reduceToNat] <;> (try simp only [qb, qa, decide_eq_true_eq, decide_eq_false_iff_not, Bool.and_eq_true] at hc)) | refine And.intro (by first | assumption | omega | (have := qg (by assumption); omega) | (unfold qq; omega)) ?_ | fail | ((first | refine qc (qed c hg.2.1 _) fun _ => ?_ | refine qc (qbi c _) fun _ => ?_ | refine qc (qc0 _ _) fun _ => ?_ | refine qc (qbf _ _) fun _ => ?_ | refine qe  (qed c hg.2.1 _) ?_ | refine qe  (qbi c _) ?_ | refine qe  (qc0 _ _) ?_ | refine qe  (qbf _ _) ?_); simp only [go_sem, ↓reduceIte, Nat.reduceEqDiff, Nat.reduceAdd, Nat.reduceSub, Nat.reduceMul, Nat.reduceLT, Nat.reduceLeDiff, reduceCtorEq, Int.reduceToNat]))
        refine qca (S := Bool × Nat × K × List N) (fun x => x.2.2.1.good ∧ em x.2.2.1 ≤ b ∧ (x.1 = true → qdw rec x.2.1 x.2.2.1 x.2.2.2 = tg ∧ em x.2.2.1 < x.2.1 ∧ x.2.2.2.length + em x.2.2.1 ≤ 1048578) ∧ (x.1 = false → tg = (x.2.2.1, x.2.2.2)))
          qsu (fun x => if x.1 = true then em x.2.2.1 + 1 else 0) ?_ ?_
        · refine qbq (true, em (qr c [40]).1 + 2, (qr c [40]).1, []) [1, 2] ⟨g1, hr1, fun _ => ⟨htg, by simp only; omega, ?_⟩, (by intro h; cases h)⟩ rfl (by simp) ?_ ?_ ?_
          · have h9 := g1.rest
            have h8 := qid (qr c [40]).1
            unfold rest at h8
            simp only [List.length_nil]
            omega
          all_goals simp only [qsu, encs, qbs, qbu]
          all_goals simp only [go_sem, ↓reduceIte, Nat.reduceEqDiff, Nat.reduceAdd, Nat.reduceSub, Nat.reduceMul, Nat.reduceLT, Nat.reduceLeDiff, reduceCtorEq, Int.reduceToNat]
        · rintro ⟨more, fu, d, acc⟩ ⟨i1, i2, i3, i4⟩
          simp only at i1 i2 i3 i4
          unfold qsu
          cases more with
          | false =>
            have i4 := i4 rfl
            subst i4
            clear i3
            by_cases h0 : acc = []
            · subst h0
              simp only [encs, qbs, qbu]
              repeat' (first | refine ql ?_ | refine qk ?_ | ((first | refine qn ?_ | refine qx (by rfl) ?_ | refine qw ?_ | refine qm ?_ | refine qs ?_ | refine qj ?_ | refine qi ?_ | refine qc (qbf _ _) fun _ => ?_ | refine qe  (qbf _ _) ?_); simp only [go_sem, ↓reduceIte, Nat.reduceEqDiff, Nat.reduceAdd, Nat.reduceSub, Nat.reduceMul, Nat.reduceLT, Nat.reduceLeDiff, reduceCtorEq, Int.reduceToNat]) | ((first | refine qf ?_ ?_ | refine qd ?_ ?_) <;> intro hc <;> simp only [hc, go_sem, ↓reduceIte, Nat.reduceEqDiff, Nat.reduceAdd, Nat.reduceSub, Nat.reduceMul, Nat.reduceLT, Nat.reduceLeDiff, reduceCtorEq, Int.reduceToNat] <;> (try simp only [qb, qa, decide_eq_true_eq, decide_eq_false_iff_not, Bool.and_eq_true] at hc)) | refine And.intro (by first | assumption | omega | (have := qg (by assumption); omega) | (unfold qq; omega)) ?_ | fail)
            · have hne := qch h0
              simp only [qb9 hne, qb7 hne, qb0]
              repeat' (first | refine ql ?_ | refine qk ?_ | ((first | refine qn ?_ | refine qx (by rfl) ?_ | refine qw ?_ | refine qm ?_ | refine qs ?_ | refine qj ?_ | refine qi ?_ | refine qc (qbf _ _) fun _ => ?_ | refine qe  (qbf _ _) ?_); simp only [go_sem, ↓reduceIte, Nat.reduceEqDiff, Nat.reduceAdd, Nat.reduceSub, Nat.reduceMul, Nat.reduceLT, Nat.reduceLeDiff, reduceCtorEq, Int.reduceToNat]) | ((first | refine qf ?_ ?_ | refine qd ?_ ?_) <;> intro hc <;> simp only [hc, go_sem, ↓reduceIte, Nat.reduceEqDiff, Nat.reduceAdd, Nat.reduceSub, Nat.reduceMul, Nat.reduceLT, Nat.reduceLeDiff, reduceCtorEq, Int.reduceToNat] <;> (try simp only [qb, qa, decide_eq_true_eq, decide_eq_false_iff_not, Bool.and_eq_true] at hc)) | refine And.intro (by first | assumption | omega | (have := qg (by assumption); omega) | (unfold qq; omega)) ?_ | fail)
          | true =>
            obtain ⟨i3, i5, i6⟩ := i3 rfl
            clear i4
            obtain ⟨fu, rfl⟩ : ∃ k, fu = k + 1 := ⟨fu - 1, by omega⟩
            rw [qdw] at i3
            have hcap : qq (acc.length + 1) 64 := capN (by omega)
            have j1 : (qb1 rec d).1.good := (qeo hm d).1 i1
            have j2 := (qeo hm d).em
            have j3 : (qr (qb1 rec d).1 [44]).1.good := (qbb _ _).1 j1
            have j4 := (qbb (qb1 rec d).1 [44]).em
            have k3 : (qr (qb1 rec d).1 [44]).2 = true → qdw rec fu (qr (qb1 rec d).1 [44]).1 (acc ++ [(qb1 rec d).2]) = tg ∧ em (qr (qb1 rec d).1 [44]).1 < fu ∧ (acc ++ [(qb1 rec d).2]).length + em (qr (qb1 rec d).1 [44]).1 ≤ 1048578 := fun h => by
              rw [if_pos h] at i3
              have := qd8 h
              refine ⟨i3, by omega, ?_⟩
              simp only [List.length_append, List.length_cons, List.length_nil]; omega
            have k4 : (qr (qb1 rec d).1 [44]).2 = false → tg = ((qr (qb1 rec d).1 [44]).1, acc ++ [(qb1 rec d).2]) := fun h => by
              rw [if_neg (by rw [h]; simp)] at i3
              rw [qdj h, ← i3]
            have k5 : (if (qr (qb1 rec d).1 [44]).2 = true then em (qr (qb1 rec d).1 [44]).1 + 1 else 0) < em d + 1 := by
              split
              · rename_i h
                have := qd8 h
                omega
              · omega
            by_cases h0 : acc = []
            · subst h0
              simp only [encs, qbs, qbu]
              repeat' (first | refine ql ?_ | refine qk ?_ | ((first | refine qn ?_ | refine qx (by rfl) ?_ | refine qw ?_ | refine qm ?_ | refine qs ?_ | refine qj ?_ | refine qi ?_ | refine qc (qge hm ih d i1 i2) fun _ => ?_ | refine qc (qbi _ _) fun _ => ?_ | refine qe  (qge hm ih d i1 i2) ?_ | refine qe  (qbi _ _) ?_); simp only [go_sem, ↓reduceIte, Nat.reduceEqDiff, Nat.reduceAdd, Nat.reduceSub, Nat.reduceMul, Nat.reduceLT, Nat.reduceLeDiff, reduceCtorEq, Int.reduceToNat]) | ((first | refine qf ?_ ?_ | refine qd ?_ ?_) <;> intro hc <;> simp only [hc, go_sem, ↓reduceIte, Nat.reduceEqDiff, Nat.reduceAdd, Nat.reduceSub, Nat.reduceMul, Nat.reduceLT, Nat.reduceLeDiff, reduceCtorEq, Int.reduceToNat] <;> (try simp only [qb, qa, decide_eq_true_eq, decide_eq_false_iff_not, Bool.and_eq_true] at hc)) | refine And.intro (by first | assumption | omega | (have := qg (by assumption); omega) | (unfold qq; omega)) ?_ | fail)
              refine qbq ((qr (qb1 rec d).1 [44]).2, fu, (qr (qb1 rec d).1 [44]).1, [] ++ [(qb1 rec d).2]) [0, 1, 4] ⟨⟨j3, by simp only; omega, k3, k4⟩, k5⟩ rfl (by simp) ?_ ?_ ?_
              all_goals simp only [qsu, ← qz, qcr, qcs, List.nil_append, encs, qdc, qdd]
              all_goals simp only [go_sem, ↓reduceIte, Nat.reduceEqDiff, Nat.reduceAdd, Nat.reduceSub, Nat.reduceMul, Nat.reduceLT, Nat.reduceLeDiff, reduceCtorEq, Int.reduceToNat]
            · have hne := qch h0
              simp only [qb9 hne, qb7 hne, qb0]
              repeat' (first | refine ql ?_ | refine qk ?_ | ((first | refine qn ?_ | refine qx (by rfl) ?_ | refine qw ?_ | refine qm ?_ | refine qs ?_ | refine qj ?_ | refine qi ?_ | refine qc (qge hm ih d i1 i2) fun _ => ?_ | refine qc (qbi _ _) fun _ => ?_ | refine qe  (qge hm ih d i1 i2) ?_ | refine qe  (qbi _ _) ?_); simp only [go_sem, ↓reduceIte, Nat.reduceEqDiff, Nat.reduceAdd, Nat.reduceSub, Nat.reduceMul, Nat.reduceLT, Nat.reduceLeDiff, reduceCtorEq, Int.reduceToNat]) | ((first | refine qf ?_ ?_ | refine qd ?_ ?_) <;> intro hc <;> simp only [hc, go_sem, ↓reduceIte, Nat.reduceEqDiff, Nat.reduceAdd, Nat.reduceSub, Nat.reduceMul, Nat.reduceLT, Nat.reduceLeDiff, reduceCtorEq, Int.reduceToNat] <;> (try simp only [qb, qa, decide_eq_true_eq, decide_eq_false_iff_not, Bool.and_eq_true] at hc)) | refine And.intro (by first | assumption | omega | (have := qg (by assumption); omega) | (unfold qq; omega)) ?_ | fail)
              refine qbq ((qr (qb1 rec d).1 [44]).2, fu, (qr (qb1 rec d).1 [44]).1, acc ++ [(qb1 rec d).2]) [0, 1, 5] ⟨⟨j3, by simp only; omega, k3, k4⟩, k5⟩ rfl (by simp) ?_ ?_ ?_
              all_goals simp only [qsu, ← qz, qcr, qcs, List.nil_append, encs, qdc, qdd]
              all_goals simp only [go_sem, ↓reduceIte, Nat.reduceEqDiff, Nat.reduceAdd, Nat.reduceSub, Nat.reduceMul, Nat.reduceLT, Nat.reduceLeDiff, reduceCtorEq, Int.reduceToNat]
              rw [qz, qb8, qc1]; exact ⟨rfl, rfl⟩
    · rw [if_neg ht]
      repeat' (first | refine ql ?_ | refine qk ?_ | ((first | refine qn ?_ | refine qx (by rfl) ?_ | refine qw ?_ | refine qm ?_ | refine qs ?_ | refine qj ?_ | refine qi ?_); simp (disch := first | omega | (simp only [List.length_set, List.length_append, List.length_cons, List.length_nil]; done) | (simp only [List.length_set, List.length_append, List.length_cons, List.length_nil]; omega)) only [ha, ht, go_sem, ↓reduceIte, Nat.reduceEqDiff, Nat.reduceAdd, Nat.reduceSub, Nat.reduceMul, Nat.reduceLT, Nat.reduceLeDiff, reduceCtorEq, Int.reduceToNat]) | ((first | refine qf ?_ ?_ | refine qd ?_ ?_) <;> intro hc <;> simp only [hc, go_sem, ↓reduceIte, Nat.reduceEqDiff, Nat.reduceAdd, Nat.reduceSub, Nat.reduceMul, Nat.reduceLT, Nat.reduceLeDiff, reduceCtorEq, Int.reduceToNat] <;> (try simp only [qb, qa, decide_eq_true_eq, decide_eq_false_iff_not, Bool.and_eq_true] at hc)) | refine And.intro (by first | assumption | omega | (have := qg (by assumption); omega) | (unfold qq; omega)) ?_ | fail | ((first | refine qc (qed c hg.2.1 _) fun _ => ?_ | refine qc (qbi c _) fun _ => ?_ | refine qc (qbf _ _) fun _ => ?_ | refine qc (qge hm ih c hg hr) fun _ => ?_ | refine qe  (qed c hg.2.1 _) ?_ | refine qe  (qbi c _) ?_ | refine qe  (qbf _ _) ?_ | refine qe  (qge hm ih c hg hr) ?_); simp only [go_sem, ↓reduceIte, Nat.reduceEqDiff, Nat.reduceAdd, Nat.reduceSub, Nat.reduceMul, Nat.reduceLT, Nat.reduceLeDiff, reduceCtorEq, Int.reduceToNat]))
      rfl
  · rw [if_neg ha]
    repeat' (first | refine ql ?_ | refine qk ?_ | ((first | refine qn ?_ | refine qx (by rfl) ?_ | refine qw ?_ | refine qm ?_ | refine qs ?_ | refine qj ?_ | refine qi ?_); simp (disch := first | omega | (simp only [List.length_set, List.length_append, List.length_cons, List.length_nil]; done) | (simp only [List.length_set, List.length_append, List.length_cons, List.length_nil]; omega)) only [ha, go_sem, ↓reduceIte, Nat.reduceEqDiff, Nat.reduceAdd, Nat.reduceSub, Nat.reduceMul, Nat.reduceLT, Nat.reduceLeDiff, reduceCtorEq, Int.reduceToNat]) | ((first | refine qf ?_ ?_ | refine qd ?_ ?_) <;> intro hc <;> simp only [hc, go_sem, ↓reduceIte, Nat.reduceEqDiff, Nat.reduceAdd, Nat.reduceSub, Nat.reduceMul, Nat.reduceLT, Nat.reduceLeDiff, reduceCtorEq, Int.reduceToNat] <;> (try simp only [qb, qa, decide_eq_true_eq, decide_eq_false_iff_not, Bool.and_eq_true] at hc)) | refine And.intro (by first | assumption | omega | (have := qg (by assumption); omega) | (unfold qq; omega)) ?_ | fail | ((first | refine qc (qed c hg.2.1 _) fun _ => ?_ | refine qe  (qed c hg.2.1 _) ?_); simp only [go_sem, ↓reduceIte, Nat.reduceEqDiff, Nat.reduceAdd, Nat.reduceSub, Nat.reduceMul, Nat.reduceLT, Nat.reduceLeDiff, reduceCtorEq, Int.reduceToNat]))
    rfl
end
def qis (f : Nat) (c : K) : K × N := ((qcd f (qdv (qcd f) c).1).1, qlu (qbc c).pos (qdv (qcd f) c).2 (qcd f (qdv (qcd f) c).1).2)
theorem qkb {rec : K → K × N} (hm : ∀ c, Mon c (rec c).1) : ∀ (f : Nat) (c : K) (acc : List N), (qdw rec f c acc).2.length ≤ acc.length + em c + 1
  | 0, c, acc => by simp only [qdw]; omega
  | f + 1, c, acc => by
    rw [qdw]
    split
    · rename_i h
      have h1 := qkb hm f (qr (qb1 rec c).1 [44]).1 (acc ++ [(qb1 rec c).2])
      have h2 := qd8 h
      have h3 := (qeo hm c).em
      simp only [List.length_append, List.length_cons, List.length_nil] at h1
      omega
    · simp only [List.length_append, List.length_cons, List.length_nil]; omega
theorem qto {rec : K → K × N} (hm : ∀ c, Mon c (rec c).1) (c : K) : (qdv rec c).2.length ≤ em c + 1 := by
  unfold qdv
  split
  · split
    · rename_i h
      have h2 := qd8 h
      unfold qe4
      split
      · simp
      · have := qkb hm (em (qr c [40]).1 + 2) (qr c [40]).1 []
        simp only [List.length_nil] at this
        simp only; omega
    · simp
  · simp
theorem qxf (f : Nat) (c : K) (hg : c.good) (hr : em c < f) : qbp Tryz.prog 26 [refC c] (.tup [refC (qis f c).1, enc (qis f c).2]) := by
  have hm := qd1 f
  have g1 : (qdv (qcd f) c).1.good := (qgz hm c).1 hg
  have hr1 : em (qdv (qcd f) c).1 < f := by have := (qgz hm c).em; omega
  have hP := qu1 hm (qvq f) c hg (by omega)
  have hA := qvq f _ g1 hr1
  have hln := qto hm c
  have hem := qid c
  have hrs := hg.rest
  unfold rest at hem
  unfold qis
  refine qba c0bl (by simp) (by simp only [go_sem]) (by simp only [go_sem]) fun hw => ?_
  generalize hp : qdv (qcd f) c = p at *
  by_cases h0 : p.2 = []
  · rw [h0] at hP ⊢
    repeat' (first | refine ql ?_ | ((first | refine qn ?_ | refine qx (by rfl) ?_ | refine qw ?_ | refine qm ?_); simp (disch := first | omega | (simp only [List.length_set, List.length_append, List.length_cons, List.length_nil]; done) | (simp only [List.length_set, List.length_append, List.length_cons, List.length_nil]; omega)) only [List.length_nil, go_sem, ↓reduceIte, Nat.reduceEqDiff, Nat.reduceAdd, Nat.reduceSub, Nat.reduceMul, Nat.reduceLT, Nat.reduceLeDiff, reduceCtorEq, Int.reduceToNat]) | ((first | refine qf ?_ ?_ | refine qd ?_ ?_) <;> intro hc <;> simp only [hc, go_sem, ↓reduceIte, Nat.reduceEqDiff, Nat.reduceAdd, Nat.reduceSub, Nat.reduceMul, Nat.reduceLT, Nat.reduceLeDiff, reduceCtorEq, Int.reduceToNat] <;> (try simp only [qb, qa, decide_eq_true_eq, decide_eq_false_iff_not, Bool.and_eq_true] at hc)) | refine And.intro (by first | assumption | omega | (have := qg (by assumption); omega) | (unfold qq; omega)) ?_ | fail | ((first | refine qc (qt c) fun _ => ?_ | refine qc hP fun _ => ?_ | refine qc hA fun _ => ?_ | refine qe  (qt c) ?_ | refine qe  hP ?_ | refine qe  hA ?_); simp only [go_sem, ↓reduceIte, Nat.reduceEqDiff, Nat.reduceAdd, Nat.reduceSub, Nat.reduceMul, Nat.reduceLT, Nat.reduceLeDiff, reduceCtorEq, Int.reduceToNat]))
    simp only [qlu, enc, encs, List.nil_append]
  · have hne := qch h0
    have hnl : ¬ p.2.length = 0 := fun h => h0 (List.length_eq_zero_iff.1 h)
    have hc1 : qq p.2.length 64 := capN (by omega)
    have hc2 : qq (p.2.length + 1) 64 := capN (by omega)
    repeat' (first | refine ql ?_ | ((first | refine qn ?_ | refine qx (by rfl) ?_ | refine qw ?_ | refine qm ?_); simp (disch := first | omega | (simp only [List.length_set, List.length_append, List.length_cons, List.length_nil]; done) | (simp only [List.length_set, List.length_append, List.length_cons, List.length_nil]; omega)) only [hnl, hc1, hc2, go_sem, ↓reduceIte, Nat.reduceEqDiff, Nat.reduceAdd, Nat.reduceSub, Nat.reduceMul, Nat.reduceLT, Nat.reduceLeDiff, reduceCtorEq, Int.reduceToNat]) | ((first | refine qf ?_ ?_ | refine qd ?_ ?_) <;> intro hc <;> simp only [hc, go_sem, ↓reduceIte, Nat.reduceEqDiff, Nat.reduceAdd, Nat.reduceSub, Nat.reduceMul, Nat.reduceLT, Nat.reduceLeDiff, reduceCtorEq, Int.reduceToNat] <;> (try simp only [qb, qa, decide_eq_true_eq, decide_eq_false_iff_not, Bool.and_eq_true] at hc)) | refine And.intro (by first | assumption | omega | (have := qg (by assumption); omega) | (unfold qq; omega)) ?_ | fail | ((first | refine qc (qt c) fun _ => ?_ | refine qc hP fun _ => ?_ | refine qc hA fun _ => ?_ | refine qe  (qt c) ?_ | refine qe  hP ?_ | refine qe  hA ?_); simp only [go_sem, ↓reduceIte, Nat.reduceEqDiff, Nat.reduceAdd, Nat.reduceSub, Nat.reduceMul, Nat.reduceLT, Nat.reduceLeDiff, reduceCtorEq, Int.reduceToNat]))
    simp only [qlu, enc, qz, qb8, and_self]

/-- The program's state is the reference's, and so is what is read, if there is something; else something failed. -/
def qee {α : Type} (p : K × Option α) (r : K × α) : Prop := p.1 = r.1 ∧ (∀ n, p.2 = some n → n = r.2) ∧ (p.2 = none → p.1.err ≠ 0)
theorem qh8 {rec : K → K × N} {c : K} (h : c.err ≠ 0) : qcu rec c = (c, N0) := if_neg h
theorem qtn {rec : K → K × N} {c : K} (h : c.err ≠ 0) (f : Nat) (acc : List N) : qd5 rec f c acc = (c, acc) := by
  cases f with
  | zero => rfl
  | succ f => rw [qd5, if_neg (by rw [q22 h]; simp)]
theorem qmq {rec : K → K × N} {c : K} (h : c.err ≠ 0) : qc6 rec c = (c, N0) := by
  rw [qc6, qe7 h, if_neg (by decide), qh8 h]
theorem qk2 (f : Nat) {c : K} (h : c.err ≠ 0) : qcd f c = (c, N0) := by
  cases f with
  | zero => rfl
  | succ f => rw [qcd, qhh h, qmq h, qfp h, if_neg (by simp), qcl h]
section
variable {rp : K → K × Option N} {rr : K → K × N} {b : Nat} (hx : ∀ c : K, c.err ≠ 0 → (rr c).1 = c) (ih : ∀ c, em c < b → qee (rp c) (rr c))
include hx ih
theorem qjq {c : K} (hr : em c ≤ b) : qee (qb5 rp c) (qcu rr c) := by
  by_cases h0 : c.err = 0
  · unfold qb5 qcu
    rw [if_pos h0]
    by_cases h1 : (qbc c).kind = 1
    · rw [if_pos h1, if_pos h1]; exact ⟨rfl, (fun n h => by cases h; rfl), (fun h => by cases h)⟩
    · rw [if_neg h1, if_neg h1]
      by_cases h2 : (qbc c).kind = 2
      · rw [if_pos h2, if_pos h2]; exact ⟨rfl, (fun n h => by cases h; rfl), (fun h => by cases h)⟩
      · rw [if_neg h2, if_neg h2]
        by_cases hk : isK c [40] = true
        · rw [if_pos hk, if_pos hk]
          have hem := qem hk
          by_cases he : (qh c).2 = true
          · rw [if_pos he]
            have hk' : isK (qh c).1 [40] = true := by rw [qly he]; exact hk
            rw [qlz hk'] at hem ⊢
            simp only at hem ⊢
            obtain ⟨a1, a2, a3⟩ := ih (q8 (qh c).1) (by omega)
            rw [← a1]
            generalize rp (q8 (qh c).1) = r at *
            obtain ⟨d, o⟩ := r
            simp only at a1 a2 a3 ⊢
            cases o with
            | none =>
              have h3 := a3 rfl
              rw [if_neg (by simp), qb6 h3, qcl h3]
              exact ⟨rfl, (fun n h => by cases h), fun _ => h3⟩
            | some n =>
              rw [if_pos (by rfl)]
              by_cases hw : (qu d [41]).2 = true
              · rw [if_pos hw]
                exact ⟨rfl, fun m h => a2 m h, (fun h => by cases h)⟩
              · rw [if_neg hw]
                have h3 := qd4 (by simpa using hw)
                exact ⟨rfl, (fun n h => by cases h), fun _ => by simp only; rw [qcl h3]; exact h3⟩
          · have he' : (qh c).2 = false := by simpa using he
            have h1 := qf1 he'
            rw [if_neg he]
            rw [qb6 h1] at hem ⊢
            simp only at hem ⊢
            rw [hx _ h1, qb6 h1, qcl h1]
            exact ⟨rfl, (fun n h => by cases h), fun _ => h1⟩
        · rw [if_neg hk, if_neg hk]
          exact ⟨rfl, (fun n h => by cases h), fun _ => qg5 c⟩
  · rw [qh8 h0, qb5, qe7 h0, if_neg (by decide), if_neg (by decide), if_neg (by rw [qt8 h0]; simp), qfv h0]
    exact ⟨rfl, (fun n h => by cases h), fun _ => h0⟩
theorem qn0 (hp : ∀ c, Mon c (rp c).1) (hm : ∀ c, Mon c (rr c).1) : ∀ (f g : Nat) (c : K) (acc : List N), rest c < f → em c < g → em c ≤ b → qee (qd9 rp f c acc) (qd5 rr g c acc)
  | 0, _, _, _ => fun h _ _ => by omega
  | _, 0, _, _ => fun _ h _ => by omega
  | f + 1, g + 1, c, acc => fun hf hg hb => by
    rw [qd9, qd5]
    by_cases hk : begT c = true
    · rw [if_pos hk, if_pos hk]
      obtain ⟨a1, a2, a3⟩ := qjq hx ih hb
      have hl := qhx hm hk
      rw [← a1] at hl ⊢
      cases ho : (qb5 rp c).2 with
      | none =>
        have h3 := a3 ho
        rw [if_neg (by simp), qtn h3]
        exact ⟨rfl, (fun n h => by cases h), fun _ => h3⟩
      | some n =>
        rw [if_pos (by rfl), ← a2 n ho]
        exact qn0 hp hm f g _ _ (by have := qfw hp (c := c) (by rw [ho]; rfl); omega) (by omega) (by omega)
    · rw [if_neg hk, if_neg hk]
      exact ⟨rfl, (fun l h => by cases h; rfl), (fun h => by cases h)⟩
theorem qyv (hp : ∀ c, Mon c (rp c).1) (hm : ∀ c, Mon c (rr c).1) {c : K} (hr : em c ≤ b) : qee (qcf rp c) (qc6 rr c) := by
  unfold qcf qc6
  by_cases hk : (qbc c).kind = 2
  · rw [if_pos hk, if_pos hk]
    have h1 := qbj (c := c) (by omega)
    have h2 := qh6 (c := c) (by omega)
    obtain ⟨a1, a2, a3⟩ := qn0 hx ih hp hm (rest c + 1) (em (q8 c) + 1) (q8 c) [] (by omega) (by omega) (by omega)
    refine ⟨a1, fun n h => ?_, fun h => a3 (by simpa using h)⟩
    obtain ⟨l, hl, rfl⟩ := Option.map_eq_some_iff.1 h
    rw [a2 l hl]
  · rw [if_neg hk, if_neg hk]
    exact qjq hx ih hr
theorem qoo {c : K} (hr : em c ≤ b) : qee (qbr rp c) (qb1 rr c) := by
  have h1 := (qc8 c 2).em
  obtain ⟨a1, a2, a3⟩ := qjq hx ih (c := (qbk c 2).1) (by omega)
  unfold qbr qb1
  by_cases hk : (qbk c 2).2 = true
  · rw [if_pos hk]
    refine ⟨a1, fun n h => ?_, fun h => a3 (by simpa using h)⟩
    obtain ⟨m, hm, rfl⟩ := Option.map_eq_some_iff.1 h
    rw [a2 m hm]
  · rw [if_neg hk]
    have h2 := qwu (c := c) (k := 2) (by simpa using hk)
    rw [qh8 h2]
    exact ⟨rfl, (fun n h => by cases h), fun _ => h2⟩
end
theorem qmy : ∀ (f : Nat) (c : K), em c < f → qee (qcb f c) (qcd f c)
  | 0, _ => fun h => by omega
  | f + 1, c => fun hf => by
    have ih := qmy f
    have hx : ∀ c : K, c.err ≠ 0 → (qcd f c).1 = c := fun c h => by rw [qk2 f h]
    rw [qcb, qcd]
    by_cases he : (qh c).2 = true
    · have h1 := (qy c).em
      rw [if_pos he]
      obtain ⟨a1, a2, a3⟩ := qyv hx ih (qgt f) (qd1 f) (c := (qh c).1) (by omega)
      have hl := (qjy (qd1 f) (qh c).1).em
      rw [← a1] at hl ⊢
      cases ho : (qcf (qcb f) (qh c).1).2 with
      | none =>
        have h3 := a3 ho
        rw [if_neg (by simp), qfp h3, if_neg (by simp)]
        exact ⟨rfl, (fun n h => by cases h), fun _ => by simp only; rw [qcl h3]; exact h3⟩
      | some n =>
        rw [if_pos (by rfl), ← a2 n ho]
        by_cases ht : (qr (qcf (qcb f) (qh c).1).1 [45, 62]).2 = true
        · rw [if_pos ht, if_pos ht]
          have h5 := qd8 ht
          obtain ⟨b1, b2, b3⟩ := ih (qr (qcf (qcb f) (qh c).1).1 [45, 62]).1 (by omega)
          refine ⟨by simp only; rw [b1], fun m h => ?_, fun h => ?_⟩
          · obtain ⟨q, hq, rfl⟩ := Option.map_eq_some_iff.1 h
            rw [b2 q hq]; rfl
          · have h6 := b3 (by simpa using h)
            simp only
            rw [qcl h6]; exact h6
        · rw [if_neg ht, if_neg ht]
          exact ⟨rfl, (fun m h => by cases h; rfl), (fun h => by cases h)⟩
    · have he' : (qh c).2 = false := by simpa using he
      have h1 := qf1 he'
      rw [if_neg he, qmq h1, qfp h1, if_neg (by simp), qcl h1]
      exact ⟨rfl, (fun n h => by cases h), fun _ => h1⟩
section
variable {rp : K → K × Option N} {rr : K → K × N} {b : Nat} (hx : ∀ c : K, c.err ≠ 0 → (rr c).1 = c) (ih : ∀ c, em c < b → qee (rp c) (rr c)) (hp : ∀ c, Mon c (rp c).1) (hm : ∀ c, Mon c (rr c).1)
include hx ih hp hm
theorem qli : ∀ (f g : Nat) (c : K) (acc : List N), rest c < f → em c < g → em c ≤ b → qee (qff rp true f c acc) (qdw rr g c acc)
  | 0, _, _, _ => fun h _ _ => by omega
  | _, 0, _, _ => fun _ h _ => by omega
  | f + 1, g + 1, c, acc => fun hf hg hb => by
    rw [qff, qdw]
    obtain ⟨a1, a2, a3⟩ := qoo hx ih hb
    have hl := (qeo hm c).em
    rw [← a1] at hl ⊢
    cases ho : (qbr rp c).2 with
    | none =>
      have h3 := a3 ho
      rw [if_neg (by simp), qfp h3, if_neg (by simp)]
      exact ⟨rfl, (fun n h => by cases h), fun _ => h3⟩
    | some n =>
      rw [if_pos (by rfl), Bool.true_and, ← a2 n ho]
      by_cases ht : (qr (qbr rp c).1 [44]).2 = true
      · rw [if_pos ht, if_pos ht]
        have h5 := qd8 ht
        have h6 := qir hp (c := c) (by rw [ho]; rfl)
        have h7 := (qbb (qbr rp c).1 [44]).2.1
        exact qli f g _ _ (by omega) (by omega) (by omega)
      · rw [if_neg ht, if_neg ht]
        exact ⟨rfl, (fun l h => by cases h; rfl), (fun h => by cases h)⟩
/-- The ends of a context. -/
theorem quq {c : K} (hg : ∀ t ∈ c.l, t.kind ≠ 0) (hr : em c ≤ b) : qee (qbm rp c) (qdv rr c) := by
  unfold qbm qdv
  by_cases ha : qhz c [61, 62] = true
  · rw [if_pos ha, if_pos ha]
    unfold qh7
    by_cases ht : (qr c [40]).2 = true
    · rw [if_pos ht, ht, Bool.true_and]
      have h5 := qd8 ht
      have hB : qee (if isK (qr c [40]).1 [41] = true then ((qr c [40]).1, some []) else qff rp true (rest (qr c [40]).1 + 1) (qr c [40]).1 []) (qe4 rr (qr c [40]).1) := by
        unfold qe4
        split
        · exact ⟨rfl, (fun l h => by cases h; rfl), (fun h => by cases h)⟩
        · exact qli hx ih hp hm _ _ _ _ (by omega) (by omega) (by omega)
      obtain ⟨a1, a2, a3⟩ := hB
      generalize (if isK (qr c [40]).1 [41] = true then ((qr c [40]).1, some []) else qff rp true (rest (qr c [40]).1 + 1) (qr c [40]).1 []) = p at *
      rw [← a1]
      unfold qf4
      cases ho : p.2 with
      | none =>
        have h3 := a3 ho
        rw [if_neg (by simp), qb6 h3, qb6 h3]
        exact ⟨rfl, (fun n h => by cases h), fun _ => h3⟩
      | some l =>
        rw [if_pos (by rfl), if_pos rfl, ← a2 l ho]
        by_cases hw : (qu p.1 [41]).2 = true
        · rw [if_pos hw]
          by_cases hw2 : (qu (qu p.1 [41]).1 [61, 62]).2 = true
          · rw [if_pos hw2]; exact ⟨rfl, (fun m h => by cases h; rfl), (fun h => by cases h)⟩
          · rw [if_neg hw2]
            exact ⟨rfl, (fun n h => by cases h), fun _ => qd4 (by simpa using hw2)⟩
        · rw [if_neg hw]
          have h3 := qd4 (c := p.1) (x := [41]) (by simpa using hw)
          rw [qb6 h3]
          exact ⟨rfl, (fun n h => by cases h), fun _ => h3⟩
    · have ht' : (qr c [40]).2 = false := by simpa using ht
      have hsm := qdj ht'
      rw [if_neg ht, ht', hsm, Bool.false_and, if_neg (by simp)]
      unfold qf4
      obtain ⟨a1, a2, a3⟩ := qoo hx ih hr
      rw [qff, ← a1]
      cases ho : (qbr rp c).2 with
      | none =>
        have h3 := a3 ho
        rw [if_neg (by simp), if_neg (by simp), qb6 h3]
        exact ⟨rfl, (fun n h => by cases h), fun _ => h3⟩
      | some n =>
        rw [if_pos (by rfl), Bool.false_and, if_neg (by simp), if_pos (by rfl), if_neg (by simp), ← a2 n ho]
        simp only [Option.getD_some, List.nil_append]
        by_cases hw : (qu (qbr rp c).1 [61, 62]).2 = true
        · rw [if_pos hw]; exact ⟨rfl, (fun m h => by cases h; rfl), (fun h => by cases h)⟩
        · rw [if_neg hw]
          exact ⟨rfl, (fun n h => by cases h), fun _ => qd4 (by simpa using hw)⟩
  · rw [if_neg ha, if_neg ha]
    by_cases he : c.err = 0
    · have hf : qod c = false := by
        unfold qod
        by_cases hl : c.at' < c.l.length
        · have hk : (qbc c).kind ≠ 0 := by rw [qq3 he (by omega)]; exact hg _ (q4e hl)
          rw [qp3 he (by omega), decide_eq_false hk]; rfl
        · rw [qni he (by omega)]; rfl
      rw [hf]
      exact ⟨rfl, (fun m h => by cases h; rfl), (fun h => by cases h)⟩
    · have hf : qod c = true := by
        unfold qod
        rw [qmu he, qe7 he]
        simp [he, T0]
      rw [hf]
      exact ⟨rfl, (fun m h => by cases h), fun _ => he⟩
end
theorem qxz (f : Nat) (c : K) (hg : ∀ t ∈ c.l, t.kind ≠ 0) (hr : em c < f) : qee (qep f c) (qis f c) := by
  have hx : ∀ c : K, c.err ≠ 0 → (qcd f c).1 = c := fun c h => by rw [qk2 f h]
  obtain ⟨a1, a2, a3⟩ := quq hx (qmy f) (qgt f) (qd1 f) hg (b := f) (by omega)
  have hl := (qgz (qd1 f) c).em
  unfold qep qis
  rw [← a1] at hl ⊢
  cases ho : (qbm (qcb f) c).2 with
  | none =>
    have h3 := a3 ho
    rw [if_neg (by simp), qk2 f h3]
    exact ⟨rfl, (fun n h => by cases h), fun _ => h3⟩
  | some l =>
    rw [if_pos (by rfl), ← a2 l ho]
    obtain ⟨b1, b2, b3⟩ := qmy f (qbm (qcb f) c).1 (by omega)
    refine ⟨b1, fun m h => ?_, fun h => b3 (by simpa using h)⟩
    obtain ⟨q, hq, rfl⟩ := Option.map_eq_some_iff.1 h
    rw [b2 q hq]; rfl
theorem qjr : ∀ {l : List T} {t : T}, t ∈ qhg l → t.kind ≠ 0
  | [], t, h => by simp [qhg] at h
  | u :: r, t, h => by
    rw [qhg] at h
    split at h
    · simp at h
    · rename_i hk
      rcases List.mem_cons.1 h with rfl | h
      · exact hk
      · exact qjr h
end Go.Proofs.YtmekebfgmjaenaaGreat
