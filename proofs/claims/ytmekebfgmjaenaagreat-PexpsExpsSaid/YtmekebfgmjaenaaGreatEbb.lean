/- Texts of this proof, joined. -/
import Derived.Test.YtmekebfgmjaenaaGreatEay
import Derived.Test.YtmekebfgmjaenaaGreatEaz
import Derived.Test.YtmekebfgmjaenaaGreatEba

/- types: contexts: the program -/
set_option maxRecDepth 4000
namespace Go.Proofs.YtmekebfgmjaenaaGreat
open Go Go.RowKit Go.V
set_option linter.unusedVariables false
set_option linter.unusedSimpArgs false

theorem qcx (c : K) (k : Int) : Mon c (qbp c k).1 := by
  unfold qbp
  split
  · exact qbs c
  · exact qfk c 5
theorem qk2 {c : K} {k : Int} (h : (qbp c k).2 = true) : c.err = 0 ∧ (qbd c).kind = k := by
  unfold qbp at h
  split at h
  · rename_i h1
    simp only [Bool.and_eq_true, decide_eq_true_eq] at h1
    exact h1
  · cases h
theorem qr8 {c : K} {k : Int} (h : (qbp c k).2 = true) : qbp c k = (q9 c, true) ∧ qis c k = qbd c := by
  obtain ⟨h1, h2⟩ := qk2 h
  exact ⟨qrt h1 h2, qvo h1 h2⟩
theorem qyf {c : K} {k : Int} (h : (qbp c k).2 = false) : (qbp c k).1.err ≠ 0 := by
  unfold qbp at h ⊢
  split at h
  · cases h
  · rename_i h1; rw [if_neg h1]; exact qhf c
def qpr (c : K) : Bool := !decide ((qjc c).2 = 0) && (!decide ((qjc c).2 = 5) || decide ((qbd c).kind = 0))
theorem qys (c : K) (hk : c.ok) : qcp Tryz.prog 81 (curE c) (curE c) [.ptr 0 0] (.bool (qpr c)) := by
  refine qbe c0bs 1 (by simp) (by simp) ?_
  repeat' (first | refine ql ?_ | ((first | refine qn ?_ | refine qm ?_ | refine qb1j hk ?_ | refine qdv ?_); simp only [go_sem, ↓reduceIte, Nat.reduceEqDiff, Nat.reduceAdd, Nat.reduceSub, Nat.reduceMul, Nat.reduceLT, Nat.reduceLeDiff, reduceCtorEq, Int.reduceToNat]) | ((first | refine qf ?_ ?_ | refine qe ?_ ?_) <;> intro hc <;> simp only [hc, go_sem, ↓reduceIte, Nat.reduceEqDiff, Nat.reduceAdd, Nat.reduceSub, Nat.reduceMul, Nat.reduceLT, Nat.reduceLeDiff, reduceCtorEq, Int.reduceToNat] <;> (try simp only [qb, qa, decide_eq_true_eq, decide_eq_false_iff_not, Bool.and_eq_true] at hc)) | refine And.intro (by first | assumption | omega | (have := qg (by assumption); omega) | (unfold qp; omega)) ?_ | fail)
  all_goals (unfold qpr; simp_all)
theorem qbdy {c : K} {L : List Ent} {Q : List Ent → VO → Prop} (hk : c.ok) (hq : Q (curE c :: L) (.val (.bool (qpr c)))) : VApp Tryz.prog (curE c :: L) (.fn 81 [] []) [.ptr 0 0] Q := qb9 (qys c hk) (qbm _ _) (qbm _ _) rfl rfl fun _ => hq
def qnw (t : T) (n : N) : N := .mk 3 t.pos 0 t.text [n]
def qbq (rec : K → K × Option N) (c : K) : K × Option N :=
  if (qbp c 2).2 = true then ((qb2 rec (qbp c 2).1).1, (qb2 rec (qbp c 2).1).2.map (qnw (qis c 2)))
  else ((qbp c 2).1, none)
theorem qzz {c : K} {L : List Ent} {t : T} {n : N} {b : Bool} {Q : List Ent → VO → Prop} (hq : Q (curE c :: L) (.val (resP (qlu (qnw t n) b)))) :
    VApp Tryz.prog (curE c :: L) (.fn 48 [] []) [.ptr 0 0, .agg [.int .i64 3, .int .i64 t.pos, .int .i64 0, .str t.text, .sl 5 [enc n]], .bool b] Q := by
  have h := qu3 (n := qnw t n) hq
  simpa only [qnw, enc, encs] using h
theorem q45 {r : Option N} {t : T} : qlu (qnw t (r.getD N0)) r.isSome = r.map (qnw t) := qr9
section
variable {rec : K → K × Option N} {b : Nat} (hm : ∀ c, Mon c (rec c).1) (ih : ∀ c, c.good → rest c < b → qcp Tryz.prog 47 (curE c) (curE (rec c).1) [.ptr 0 0] (resP (rec c).2))
include hm ih
theorem qnk (c : K) (hg : c.good) (hr : rest c ≤ b) : qcp Tryz.prog 82 (curE c) (curE (qbq rec c).1) [.ptr 0 0] (resP (qbq rec c).2) := by
  have g1 : (qbp c 2).1.good := (qcx c 2).1 hg
  have hr1 : rest (qbp c 2).1 ≤ b := by have := (qcx c 2).2.1; omega
  refine qbe c0bt 1 (by simp) (by simp) ?_
  repeat' (first | refine ql ?_ | ((first | refine qn ?_ | refine qm ?_ | refine qi ?_ | refine qh ?_ | refine qq6 hg.ok ?_ | refine qdt (qj8 hm ih _ g1 hr1) rfl ?_ | refine qzz ?_); simp only [go_sem, ↓reduceIte, Nat.reduceEqDiff, Nat.reduceAdd, Nat.reduceSub, Nat.reduceMul, Nat.reduceLT, Nat.reduceLeDiff, reduceCtorEq, Int.reduceToNat]) | ((first | refine qf ?_ ?_ | refine qe ?_ ?_) <;> intro hc <;> simp only [hc, go_sem, ↓reduceIte, Nat.reduceEqDiff, Nat.reduceAdd, Nat.reduceSub, Nat.reduceMul, Nat.reduceLT, Nat.reduceLeDiff, reduceCtorEq, Int.reduceToNat] <;> (try simp only [qb, qa, decide_eq_true_eq, decide_eq_false_iff_not, Bool.and_eq_true] at hc)) | refine And.intro (by first | assumption | omega | (have := qg (by assumption); omega) | (unfold qp; omega)) ?_ | fail)
  all_goals (try simp only [q45])
  all_goals (unfold qbq; simp only [*, qd3, Int.reduceEq, if_true, if_false, reduceIte, Bool.false_eq_true, Option.getD_none, Option.getD_some, Option.isSome_none, Option.isSome_some, and_self, true_and, and_true]; try rfl)
end
set_option maxRecDepth 4000

def qeh (rec : K → K × Option N) (many : Bool) : Nat → K → List N → K × Option (List N)
  | 0, c, _ => (c, none)
  | f + 1, c, acc =>
    if (qbq rec c).2.isSome = true then
      if (many && (qt (qbq rec c).1 [44]).2) = true then qeh rec many f (qt (qbq rec c).1 [44]).1 (acc ++ [(qbq rec c).2.getD N0])
      else ((qbq rec c).1, some (acc ++ [(qbq rec c).2.getD N0]))
    else ((qbq rec c).1, none)
def qge (many : Bool) (r : K × Option (List N)) : K × Option (List N) :=
  if r.2.isSome = true then
    if many = true then
      if (qv r.1 [41]).2 = true then ((qv (qv r.1 [41]).1 [61, 62]).1, if (qv (qv r.1 [41]).1 [61, 62]).2 = true then r.2 else none)
      else ((qv r.1 [41]).1, none)
    else ((qv r.1 [61, 62]).1, if (qv r.1 [61, 62]).2 = true then r.2 else none)
  else (r.1, none)
def qhl (rec : K → K × Option N) (c : K) : K × Option (List N) :=
  if ((qt c [40]).2 && isK (qt c [40]).1 [41]) = true then ((qt c [40]).1, some []) else qeh rec (qt c [40]).2 (rest (qt c [40]).1 + 1) (qt c [40]).1 []
def qbj (rec : K → K × Option N) (c : K) : K × Option (List N) :=
  if qir c [61, 62] = true then qge (qt c [40]).2 (qhl rec c)
  else (c, if qpr c = true then none else some [])
section
variable {rec : K → K × Option N} (hm : ∀ c, Mon c (rec c).1)
include hm
theorem qg9 (c : K) : Mon c (qbq rec c).1 := by
  unfold qbq
  split
  · exact (qcx c 2).trans (qfx hm _)
  · exact qcx c 2
theorem qi0 {c : K} (h : (qbq rec c).2.isSome = true) : rest (qbq rec c).1 < rest c := by
  unfold qbq at h ⊢
  split at h
  · rename_i h1
    rw [if_pos h1]
    have h2 := (qcx c 2).2.1
    have h3 := qgb hm (c := (qbp c 2).1) (by simpa using h)
    simp only; omega
  · cases h
theorem qp1 (many : Bool) : ∀ (f : Nat) (c : K) (acc : List N), Mon c (qeh rec many f c acc).1
  | 0, c, acc => Mon.refl c
  | f + 1, c, acc => by
    rw [qeh]
    split
    · split
      · exact ((qg9 hm c).trans (q8 _ _)).trans (qp1 many f _ _)
      · exact qg9 hm c
    · exact qg9 hm c
theorem qy7 (c : K) : Mon c (qhl rec c).1 := by
  unfold qhl
  split
  · exact q8 c _
  · exact (q8 c _).trans (qp1 hm _ _ _ _)
theorem qhj (c : K) : Mon c (qbj rec c).1 := by
  unfold qbj qge
  have h := qy7 hm c
  split
  · split
    · split
      · split
        · exact (h.trans (qq _ _)).trans (qq _ _)
        · exact h.trans (qq _ _)
      · exact h.trans (qq _ _)
    · exact h
  · exact Mon.refl c
end
def qrz (p : Nat) (r : Option (List N)) : AV := .tup [accV p (encs (r.getD [])), .bool r.isSome]
def qjp (rec : K → K × Option N) (c : K) : Prop := VCalls Tryz.prog 46 [curE c] [.ptr 0 0] fun H' o => H' = curE (qbj rec c).1 :: accE 5 (encs ((qbj rec c).2.getD [])) ∧ o = .val (qrz 1 (qbj rec c).2)
def q01 (many : Bool) (x : Bool × Nat × K × List N) : AF × List Ent :=
  (⟨[(0, .ptr 0 0), (4, accV 1 (encs x.2.2.2)), (5, .bool many), (6, .bool x.1)], []⟩, curE x.2.2.1 :: accE 5 (encs x.2.2.2))
section
variable {rec : K → K × Option N} {b : Nat} (hm : ∀ c, Mon c (rec c).1) (ih : ∀ c, c.good → rest c < b → qcp Tryz.prog 47 (curE c) (curE (rec c).1) [.ptr 0 0] (resP (rec c).2))
include hm ih
theorem qwu (c : K) (hg : c.good) (hr : rest c ≤ b) : qjp rec c := by
  unfold qjp
  obtain ⟨kk, hk1, hk2, hk0⟩ : ∃ k : Nat, ((qbj rec c).2.getD [] = [] → k = 1) ∧ ((qbj rec c).2.getD [] ≠ [] → k = 2) ∧ 1 ≤ k := by
    by_cases h : (qbj rec c).2.getD [] = []
    · exact ⟨1, fun _ => rfl, fun g => absurd h g, by omega⟩
    · exact ⟨2, fun g => absurd g h, fun _ => rfl, by omega⟩
  refine qj2 c0br kk (by simpa using hk0) (by simp) ?_
  have g1 : (qt c [40]).1.good := (q8 c _).1 hg
  have hr1 : rest (qt c [40]).1 ≤ b := by have := (q8 c [40]).2.1; omega
  by_cases ha : qir c [61, 62] = true
  · have hpa : qbj rec c = qge (qt c [40]).2 (qhl rec c) := by rw [qbj, if_pos ha]
    rw [hpa] at hk1 hk2 ⊢
    clear hpa
    unfold qhl at hk1 hk2 ⊢
    generalize htg : (if ((qt c [40]).2 && isK (qt c [40]).1 [41]) = true then ((qt c [40]).1, some []) else qeh rec (qt c [40]).2 (rest (qt c [40]).1 + 1) (qt c [40]).1 []) = tg at hk1 hk2 ⊢
    generalize hd0 : (qt c [40]).1 = d0 at *
    generalize hmn : (qt c [40]).2 = many at *
    have h0t : (!(many && isK d0 [41])) = true → qeh rec many (rest d0 + 1) d0 [] = tg := fun h => by
      rw [Bool.not_eq_true'] at h
      rw [← htg, if_neg (by rw [h]; simp)]
    have h0f : (!(many && isK d0 [41])) = false → tg = (d0, some []) := fun h => by
      rw [Bool.not_eq_false'] at h
      rw [← htg, if_pos h]
    clear htg
    obtain ⟨mm, hmm⟩ : ∃ mm, mm = many := ⟨_, rfl⟩
    cases many <;> (
      repeat' (first | refine ql ?_ | refine qk ?_ | ((first | refine qn ?_ | refine qm ?_ | refine qs ?_ | refine qi ?_ | refine qh ?_); simp (disch := first | omega | (simp only [List.length_set, List.length_append, List.length_cons, List.length_nil]; done) | (simp only [List.length_set, List.length_append, List.length_cons, List.length_nil]; omega)) only [ha, hd0, hmn, go_sem, ↓reduceIte, Nat.reduceEqDiff, Nat.reduceAdd, Nat.reduceSub, Nat.reduceMul, Nat.reduceLT, Nat.reduceLeDiff, reduceCtorEq, Int.reduceToNat]) | ((first | refine qf ?_ ?_ | refine qe ?_ ?_) <;> intro hc <;> simp only [hc, go_sem, ↓reduceIte, Nat.reduceEqDiff, Nat.reduceAdd, Nat.reduceSub, Nat.reduceMul, Nat.reduceLT, Nat.reduceLeDiff, reduceCtorEq, Int.reduceToNat] <;> (try simp only [qb, qa, decide_eq_true_eq, decide_eq_false_iff_not, Bool.and_eq_true] at hc)) | refine And.intro (by first | assumption | omega | (have := qg (by assumption); omega) | (unfold qp; omega)) ?_ | fail | ((first | refine q2e hg.ok hg.2.1 ?_ | refine qfh hg.ok ?_ | refine a_Is ?_); simp only [go_sem, ↓reduceIte, Nat.reduceEqDiff, Nat.reduceAdd, Nat.reduceSub, Nat.reduceMul, Nat.reduceLT, Nat.reduceLeDiff, reduceCtorEq, Int.reduceToNat]))
      refine qby (S := Bool × Nat × K × List N) (fun x => x.2.2.1.good ∧ rest x.2.2.1 ≤ b ∧ (x.1 = true → qeh rec mm x.2.1 x.2.2.1 x.2.2.2 = tg ∧ rest x.2.2.1 < x.2.1) ∧ (x.1 = false → tg = (x.2.2.1, some x.2.2.2)) ∧ x.2.2.2.length + rest x.2.2.1 ≤ 1048577)
        (q01 mm) (fun x => if x.1 = true then rest x.2.2.1 + 1 else 0) ?_ ?_
      · refine qbn (!(mm && isK d0 [41]), rest d0 + 1, d0, []) [0] ⟨g1, hr1, fun h => ⟨by rw [hmm]; exact h0t (by simp only [hmm] at h; exact h), Nat.lt_succ_self _⟩, fun h => h0f (by simp only [hmm] at h; exact h), ?_⟩ rfl (by simp) ?_ ?_ ?_
        · have h9 := g1.rest
          unfold rest
          simp only [List.length_nil]
          omega
        all_goals simp only [q01, encs, qbu, qbv, hmm, Bool.false_and, Bool.true_and, Bool.not_false]
        all_goals simp only [go_sem, ↓reduceIte, Nat.reduceEqDiff, Nat.reduceAdd, Nat.reduceSub, Nat.reduceMul, Nat.reduceLT, Nat.reduceLeDiff, reduceCtorEq, Int.reduceToNat]
      · rintro ⟨more, fu, d, acc⟩ ⟨i1, i2, i3, i4, i5⟩
        simp only at i1 i2 i3 i4 i5
        unfold q01
        have hcap : qp (acc.length + 1) 64 := capN (by omega)
        cases more with
        | false =>
          have i4 := i4 rfl
          subst i4
          clear i3
          by_cases hE : (qge mm (d, some acc)).2.getD [] = []
          · simp only [hmm] at hE
            obtain rfl := hk1 hE
            by_cases h0 : acc = []
            · subst h0
              simp only [encs, qbu, qbv, hmm]
              repeat' (first | refine ql ?_ | refine qk ?_ | ((first | refine qn ?_ | refine qm ?_ | refine qs ?_ | refine qi ?_ | refine qh ?_); simp (disch := first | omega | (simp only [List.length_set, List.length_append, List.length_cons, List.length_nil]; done) | (simp only [List.length_set, List.length_append, List.length_cons, List.length_nil]; omega)) only [hmm, go_sem, ↓reduceIte, Nat.reduceEqDiff, Nat.reduceAdd, Nat.reduceSub, Nat.reduceMul, Nat.reduceLT, Nat.reduceLeDiff, reduceCtorEq, Int.reduceToNat]) | ((first | refine qf ?_ ?_ | refine qe ?_ ?_) <;> intro hc <;> simp only [hc, go_sem, ↓reduceIte, Nat.reduceEqDiff, Nat.reduceAdd, Nat.reduceSub, Nat.reduceMul, Nat.reduceLT, Nat.reduceLeDiff, reduceCtorEq, Int.reduceToNat] <;> (try simp only [qb, qa, decide_eq_true_eq, decide_eq_false_iff_not, Bool.and_eq_true] at hc)) | refine And.intro (by first | assumption | omega | (have := qg (by assumption); omega) | (unfold qp; omega)) ?_ | fail | ((first | refine qd2 i1.ok ?_ | refine qd2 ((qq d _).1 i1).ok ?_); simp only [go_sem, ↓reduceIte, Nat.reduceEqDiff, Nat.reduceAdd, Nat.reduceSub, Nat.reduceMul, Nat.reduceLT, Nat.reduceLeDiff, reduceCtorEq, Int.reduceToNat]))
              all_goals (unfold qge; simp only [*, qrz, encs, qbu, qbv, if_true, if_false, reduceIte, Bool.false_eq_true, Option.isSome_some, Option.isSome_none, Option.getD_some, Option.getD_none, and_self, true_and, and_true, Bool.true_and, Bool.false_and, not_true_eq_false])
            · have hne := qci h0
              simp only [qb4 hne, qb3 hne, qbz, hmm]
              repeat' (first | refine ql ?_ | refine qk ?_ | ((first | refine qn ?_ | refine qm ?_ | refine qs ?_ | refine qi ?_ | refine qh ?_); simp (disch := first | omega | (simp only [List.length_set, List.length_append, List.length_cons, List.length_nil]; done) | (simp only [List.length_set, List.length_append, List.length_cons, List.length_nil]; omega)) only [hmm, go_sem, ↓reduceIte, Nat.reduceEqDiff, Nat.reduceAdd, Nat.reduceSub, Nat.reduceMul, Nat.reduceLT, Nat.reduceLeDiff, reduceCtorEq, Int.reduceToNat]) | ((first | refine qf ?_ ?_ | refine qe ?_ ?_) <;> intro hc <;> simp only [hc, go_sem, ↓reduceIte, Nat.reduceEqDiff, Nat.reduceAdd, Nat.reduceSub, Nat.reduceMul, Nat.reduceLT, Nat.reduceLeDiff, reduceCtorEq, Int.reduceToNat] <;> (try simp only [qb, qa, decide_eq_true_eq, decide_eq_false_iff_not, Bool.and_eq_true] at hc)) | refine And.intro (by first | assumption | omega | (have := qg (by assumption); omega) | (unfold qp; omega)) ?_ | fail | ((first | refine qd2 i1.ok ?_ | refine qd2 ((qq d _).1 i1).ok ?_); simp only [go_sem, ↓reduceIte, Nat.reduceEqDiff, Nat.reduceAdd, Nat.reduceSub, Nat.reduceMul, Nat.reduceLT, Nat.reduceLeDiff, reduceCtorEq, Int.reduceToNat]))
              all_goals first | (exfalso; unfold qge at hE; simp only [*, qrz, encs, qbu, qbv, if_true, if_false, reduceIte, Bool.false_eq_true, Option.isSome_some, Option.isSome_none, Option.getD_some, Option.getD_none, and_self, true_and, and_true, Bool.true_and, Bool.false_and, not_true_eq_false] at hE; done) | (unfold qge; simp only [*, qrz, encs, qbu, qbv, if_true, if_false, reduceIte, Bool.false_eq_true, Option.isSome_some, Option.isSome_none, Option.getD_some, Option.getD_none, and_self, true_and, and_true, Bool.true_and, Bool.false_and, not_true_eq_false])
          · simp only [hmm] at hE
            obtain rfl := hk2 hE
            have h0 : ¬ acc = [] := by
              intro h
              subst h
              apply hE
              unfold qge
              repeat' split
              all_goals rfl
            have hne := qci h0
            simp only [qb4 hne, qb3 hne, qbz, hmm]
            repeat' (first | refine ql ?_ | refine qk ?_ | ((first | refine qn ?_ | refine qm ?_ | refine qs ?_ | refine qi ?_ | refine qh ?_); simp (disch := first | omega | (simp only [List.length_set, List.length_append, List.length_cons, List.length_nil]; done) | (simp only [List.length_set, List.length_append, List.length_cons, List.length_nil]; omega)) only [hmm, go_sem, ↓reduceIte, Nat.reduceEqDiff, Nat.reduceAdd, Nat.reduceSub, Nat.reduceMul, Nat.reduceLT, Nat.reduceLeDiff, reduceCtorEq, Int.reduceToNat]) | ((first | refine qf ?_ ?_ | refine qe ?_ ?_) <;> intro hc <;> simp only [hc, go_sem, ↓reduceIte, Nat.reduceEqDiff, Nat.reduceAdd, Nat.reduceSub, Nat.reduceMul, Nat.reduceLT, Nat.reduceLeDiff, reduceCtorEq, Int.reduceToNat] <;> (try simp only [qb, qa, decide_eq_true_eq, decide_eq_false_iff_not, Bool.and_eq_true] at hc)) | refine And.intro (by first | assumption | omega | (have := qg (by assumption); omega) | (unfold qp; omega)) ?_ | fail | ((first | refine qd2 i1.ok ?_ | refine qd2 ((qq d _).1 i1).ok ?_); simp only [go_sem, ↓reduceIte, Nat.reduceEqDiff, Nat.reduceAdd, Nat.reduceSub, Nat.reduceMul, Nat.reduceLT, Nat.reduceLeDiff, reduceCtorEq, Int.reduceToNat]))
            all_goals first | (exfalso; unfold qge at hE; simp only [*, qrz, encs, qbu, qbv, if_true, if_false, reduceIte, Bool.false_eq_true, Option.isSome_some, Option.isSome_none, Option.getD_some, Option.getD_none, and_self, true_and, and_true, Bool.true_and, Bool.false_and, not_true_eq_false] at hE; done) | (unfold qge; simp only [*, qrz, encs, qbu, qbv, if_true, if_false, reduceIte, Bool.false_eq_true, Option.isSome_some, Option.isSome_none, Option.getD_some, Option.getD_none, and_self, true_and, and_true, Bool.true_and, Bool.false_and, not_true_eq_false]; rw [qb3 hne, qb4 hne, qbz]; exact ⟨rfl, rfl⟩)
        | true =>
          have i6 := (i3 rfl).2
          replace i3 := (i3 rfl).1
          clear i4
          obtain ⟨fu, rfl⟩ : ∃ k, fu = k + 1 := ⟨fu - 1, by omega⟩
          rw [qeh] at i3
          have j1 : (qbq rec d).1.good := (qg9 hm d).1 i1
          have j2 : rest (qbq rec d).1 ≤ rest d := (qg9 hm d).2.1
          have j3 : (qt (qbq rec d).1 [44]).1.good := (q8 _ _).1 j1
          have j4 := (q8 (qbq rec d).1 [44]).2.1
          by_cases hs : (qbq rec d).2.isSome = true
          · rw [if_pos hs] at i3
            have hlt := qi0 hm hs
            obtain ⟨d', hd', k1, k2, k3, k4⟩ : ∃ d', d' = (if mm = true then (qt (qbq rec d).1 [44]).1 else (qbq rec d).1) ∧ d'.good ∧ rest d' ≤ rest (qbq rec d).1 ∧ ((mm && (qt (qbq rec d).1 [44]).2) = true → qeh rec mm fu d' (acc ++ [(qbq rec d).2.getD N0]) = tg) ∧ ((mm && (qt (qbq rec d).1 [44]).2) = false → tg = (d', some (acc ++ [(qbq rec d).2.getD N0]))) := by
              refine ⟨_, rfl, ?_, ?_, fun h => ?_, fun h => ?_⟩
              · cases mm
                · exact j1
                · exact j3
              · cases mm
                · exact Nat.le_refl _
                · exact j4
              · rw [if_pos h] at i3
                rw [if_pos (by simp only [Bool.and_eq_true] at h; exact h.1)]
                exact i3
              · rw [if_neg (by rw [h]; simp)] at i3
                rw [← i3]
                clear hmm
                cases mm
                · rfl
                · rw [Bool.true_and] at h
                  rw [if_pos rfl, qdl h]
            by_cases h0 : acc = []
            · subst h0
              simp only [encs, qbu, qbv, hmm]
              repeat' (first | refine ql ?_ | refine qk ?_ | ((first | refine qn ?_ | refine qm ?_ | refine qs ?_ | refine qi ?_ | refine qh ?_); simp (disch := first | omega | (simp only [List.length_set, List.length_append, List.length_cons, List.length_nil]; done) | (simp only [List.length_set, List.length_append, List.length_cons, List.length_nil]; omega)) only [hmm, hs, go_sem, ↓reduceIte, Nat.reduceEqDiff, Nat.reduceAdd, Nat.reduceSub, Nat.reduceMul, Nat.reduceLT, Nat.reduceLeDiff, reduceCtorEq, Int.reduceToNat]) | ((first | refine qf ?_ ?_ | refine qe ?_ ?_) <;> intro hc <;> simp only [hc, go_sem, ↓reduceIte, Nat.reduceEqDiff, Nat.reduceAdd, Nat.reduceSub, Nat.reduceMul, Nat.reduceLT, Nat.reduceLeDiff, reduceCtorEq, Int.reduceToNat] <;> (try simp only [qb, qa, decide_eq_true_eq, decide_eq_false_iff_not, Bool.and_eq_true] at hc)) | refine And.intro (by first | assumption | omega | (have := qg (by assumption); omega) | (unfold qp; omega)) ?_ | fail | ((first | refine qdt (qnk hm ih d i1 i2) rfl ?_ | refine qfh j1.ok ?_); simp only [go_sem, ↓reduceIte, Nat.reduceEqDiff, Nat.reduceAdd, Nat.reduceSub, Nat.reduceMul, Nat.reduceLT, Nat.reduceLeDiff, reduceCtorEq, Int.reduceToNat]))
              · refine qbn (mm && (qt (qbq rec d).1 [44]).2, fu, d', [] ++ [(qbq rec d).2.getD N0]) [0, 2] ⟨⟨k1, by simp only; omega, fun h => ⟨by first | exact k3 h | (have := k3 h; simpa only [hmm] using this), by simp only; omega⟩, fun h => k4 h, ?_⟩, ?_⟩ rfl (by simp) ?_ ?_ ?_
                · simp only [List.length_append, List.length_cons, List.length_nil]; omega
                · simp only; split <;> omega
                all_goals simp only [hd', hmm, if_true, if_false, reduceIte, Bool.false_eq_true, Bool.true_and, Bool.false_and, q01, ← qz, qct, qcs, List.nil_append, encs, qdg, qdh]
                all_goals simp only [go_sem, ↓reduceIte, Nat.reduceEqDiff, Nat.reduceAdd, Nat.reduceSub, Nat.reduceMul, Nat.reduceLT, Nat.reduceLeDiff, reduceCtorEq, Int.reduceToNat]
            · have hne := qci h0
              simp only [qb4 hne, qb3 hne, qbz, hmm]
              repeat' (first | refine ql ?_ | refine qk ?_ | ((first | refine qn ?_ | refine qm ?_ | refine qs ?_ | refine qi ?_ | refine qh ?_); simp (disch := first | omega | (simp only [List.length_set, List.length_append, List.length_cons, List.length_nil]; done) | (simp only [List.length_set, List.length_append, List.length_cons, List.length_nil]; omega)) only [hmm, hs, go_sem, ↓reduceIte, Nat.reduceEqDiff, Nat.reduceAdd, Nat.reduceSub, Nat.reduceMul, Nat.reduceLT, Nat.reduceLeDiff, reduceCtorEq, Int.reduceToNat]) | ((first | refine qf ?_ ?_ | refine qe ?_ ?_) <;> intro hc <;> simp only [hc, go_sem, ↓reduceIte, Nat.reduceEqDiff, Nat.reduceAdd, Nat.reduceSub, Nat.reduceMul, Nat.reduceLT, Nat.reduceLeDiff, reduceCtorEq, Int.reduceToNat] <;> (try simp only [qb, qa, decide_eq_true_eq, decide_eq_false_iff_not, Bool.and_eq_true] at hc)) | refine And.intro (by first | assumption | omega | (have := qg (by assumption); omega) | (unfold qp; omega)) ?_ | fail | ((first | refine qdt (qnk hm ih d i1 i2) rfl ?_ | refine qfh j1.ok ?_); simp only [go_sem, ↓reduceIte, Nat.reduceEqDiff, Nat.reduceAdd, Nat.reduceSub, Nat.reduceMul, Nat.reduceLT, Nat.reduceLeDiff, reduceCtorEq, Int.reduceToNat]))
              · refine qbn (mm && (qt (qbq rec d).1 [44]).2, fu, d', acc ++ [(qbq rec d).2.getD N0]) [0, 3] ⟨⟨k1, by simp only; omega, fun h => ⟨by first | exact k3 h | (have := k3 h; simpa only [hmm] using this), by simp only; omega⟩, fun h => k4 h, ?_⟩, ?_⟩ rfl (by simp) ?_ ?_ ?_
                · simp only [List.length_append, List.length_cons, List.length_nil]; omega
                · simp only; split <;> omega
                all_goals simp only [hd', hmm, if_true, if_false, reduceIte, Bool.false_eq_true, Bool.true_and, Bool.false_and, q01, ← qz, qct, qcs, List.nil_append, encs, qdg, qdh]
                all_goals simp only [go_sem, ↓reduceIte, Nat.reduceEqDiff, Nat.reduceAdd, Nat.reduceSub, Nat.reduceMul, Nat.reduceLT, Nat.reduceLeDiff, reduceCtorEq, Int.reduceToNat]
                all_goals (try (rw [qz, qcb, qc5]; exact ⟨rfl, rfl⟩))
          · have hs : (qbq rec d).2.isSome = false := by simpa using hs
            rw [if_neg (by rw [hs]; simp)] at i3
            subst i3
            obtain rfl := hk1 rfl
            by_cases h0 : acc = []
            · subst h0
              simp only [encs, qbu, qbv, hmm]
              repeat' (first | refine ql ?_ | refine qk ?_ | ((first | refine qn ?_ | refine qm ?_ | refine qs ?_ | refine qi ?_ | refine qh ?_); simp (disch := first | omega | (simp only [List.length_set, List.length_append, List.length_cons, List.length_nil]; done) | (simp only [List.length_set, List.length_append, List.length_cons, List.length_nil]; omega)) only [hmm, hs, go_sem, ↓reduceIte, Nat.reduceEqDiff, Nat.reduceAdd, Nat.reduceSub, Nat.reduceMul, Nat.reduceLT, Nat.reduceLeDiff, reduceCtorEq, Int.reduceToNat]) | ((first | refine qf ?_ ?_ | refine qe ?_ ?_) <;> intro hc <;> simp only [hc, go_sem, ↓reduceIte, Nat.reduceEqDiff, Nat.reduceAdd, Nat.reduceSub, Nat.reduceMul, Nat.reduceLT, Nat.reduceLeDiff, reduceCtorEq, Int.reduceToNat] <;> (try simp only [qb, qa, decide_eq_true_eq, decide_eq_false_iff_not, Bool.and_eq_true] at hc)) | refine And.intro (by first | assumption | omega | (have := qg (by assumption); omega) | (unfold qp; omega)) ?_ | fail | ((first | refine qdt (qnk hm ih d i1 i2) rfl ?_ | refine qfh j1.ok ?_); simp only [go_sem, ↓reduceIte, Nat.reduceEqDiff, Nat.reduceAdd, Nat.reduceSub, Nat.reduceMul, Nat.reduceLT, Nat.reduceLeDiff, reduceCtorEq, Int.reduceToNat]))
              exact ⟨rfl, rfl⟩
            · have hne := qci h0
              simp only [qb4 hne, qb3 hne, qbz, hmm]
              repeat' (first | refine ql ?_ | refine qk ?_ | ((first | refine qn ?_ | refine qm ?_ | refine qs ?_ | refine qi ?_ | refine qh ?_); simp (disch := first | omega | (simp only [List.length_set, List.length_append, List.length_cons, List.length_nil]; done) | (simp only [List.length_set, List.length_append, List.length_cons, List.length_nil]; omega)) only [hmm, hs, go_sem, ↓reduceIte, Nat.reduceEqDiff, Nat.reduceAdd, Nat.reduceSub, Nat.reduceMul, Nat.reduceLT, Nat.reduceLeDiff, reduceCtorEq, Int.reduceToNat]) | ((first | refine qf ?_ ?_ | refine qe ?_ ?_) <;> intro hc <;> simp only [hc, go_sem, ↓reduceIte, Nat.reduceEqDiff, Nat.reduceAdd, Nat.reduceSub, Nat.reduceMul, Nat.reduceLT, Nat.reduceLeDiff, reduceCtorEq, Int.reduceToNat] <;> (try simp only [qb, qa, decide_eq_true_eq, decide_eq_false_iff_not, Bool.and_eq_true] at hc)) | refine And.intro (by first | assumption | omega | (have := qg (by assumption); omega) | (unfold qp; omega)) ?_ | fail | ((first | refine qdt (qnk hm ih d i1 i2) rfl ?_ | refine qfh j1.ok ?_); simp only [go_sem, ↓reduceIte, Nat.reduceEqDiff, Nat.reduceAdd, Nat.reduceSub, Nat.reduceMul, Nat.reduceLT, Nat.reduceLeDiff, reduceCtorEq, Int.reduceToNat]))
              exact ⟨rfl, rfl⟩
      )
  · have hpa : qbj rec c = (c, if qpr c = true then none else some []) := by rw [qbj, if_neg ha]
    rw [hpa] at hk1 hk2 ⊢
    obtain rfl := hk1 (by simp only; split <;> rfl)
    repeat' (first | refine ql ?_ | refine qk ?_ | ((first | refine qn ?_ | refine qm ?_ | refine qs ?_ | refine qi ?_ | refine qh ?_); simp (disch := first | omega | (simp only [List.length_set, List.length_append, List.length_cons, List.length_nil]; done) | (simp only [List.length_set, List.length_append, List.length_cons, List.length_nil]; omega)) only [ha, go_sem, ↓reduceIte, Nat.reduceEqDiff, Nat.reduceAdd, Nat.reduceSub, Nat.reduceMul, Nat.reduceLT, Nat.reduceLeDiff, reduceCtorEq, Int.reduceToNat]) | ((first | refine qf ?_ ?_ | refine qe ?_ ?_) <;> intro hc <;> simp only [hc, go_sem, ↓reduceIte, Nat.reduceEqDiff, Nat.reduceAdd, Nat.reduceSub, Nat.reduceMul, Nat.reduceLT, Nat.reduceLeDiff, reduceCtorEq, Int.reduceToNat] <;> (try simp only [qb, qa, decide_eq_true_eq, decide_eq_false_iff_not, Bool.and_eq_true] at hc)) | refine And.intro (by first | assumption | omega | (have := qg (by assumption); omega) | (unfold qp; omega)) ?_ | fail | ((first | refine q2e hg.ok hg.2.1 ?_ | refine qbdy hg.ok ?_); simp only [go_sem, ↓reduceIte, Nat.reduceEqDiff, Nat.reduceAdd, Nat.reduceSub, Nat.reduceMul, Nat.reduceLT, Nat.reduceLeDiff, reduceCtorEq, Int.reduceToNat]))
    cases qpr c <;> exact ⟨rfl, rfl⟩
end
set_option maxRecDepth 4000

theorem qqe {rec : K → K × Option N} {c : K} (h : qjp rec c) (h0 : (qbj rec c).2.getD [] = []) {L : List Ent} {Q : List Ent → VO → Prop} (hq : Q (curE (qbj rec c).1 :: L) (.val (.tup [.nils, .bool (qbj rec c).2.isSome]))) :
    VApp Tryz.prog (curE c :: L) (.fn 46 [] []) [.ptr 0 0] Q :=
  qb9 (r := .tup [.nils, .bool (qbj rec c).2.isSome]) (e' := curE (qbj rec c).1) (by
    unfold qjp at h
    rw [h0] at h
    unfold qcp
    have hr : qrz 1 (qbj rec c).2 = .tup [.nils, .bool (qbj rec c).2.isSome] := by rw [qrz, h0]; rfl
    rw [hr] at h
    exact h) (qbm _ _) (qbm _ _) rfl rfl fun _ => hq
theorem qz4 {rec : K → K × Option N} {c : K} (h : qjp rec c) {l : List N} (hl : (qbj rec c).2 = some l) (h0 : l ≠ []) {L : List Ent} {Q : List Ent → VO → Prop}
    (hq : Q (curE (qbj rec c).1 :: (L ++ [.app 5 (encs l)])) (.val (.tup [.row (L.length + 1) l.length, .bool true]))) :
    VApp Tryz.prog (curE c :: L) (.fn 46 [] []) [.ptr 0 0] Q :=
  qhw (first := []) (caps := []) (by
    simp only [List.nil_append, List.append_nil]
    have hne := qci h0
    have hs : AV.rens (sg [0]) [.ptr 0 0] = [.ptr 0 0] := rfl
    rw [← hs]
    have ha : AV.bds 1 [.ptr 0 0] = true := rfl
    have napp_ren : ∀ σ : Nat → Nat, (Ent.app 5 (encs l)).ren σ = .app 5 (encs l) := fun σ => Ent.ren_same (m := 0) (fun i hi => by omega) _ (by simp [Ent.bd, qcb])
    refine qgr (H0 := [curE c]) [0] h (by simp) (by simp) rfl ?_ ha ?_
    · intro j e2 hj
      obtain rfl : j = 0 := by have := (List.getElem?_eq_some_iff.1 hj).1; simp at this; omega
      simp only [List.getElem?_cons_zero, Option.some.injEq] at hj
      subst hj
      exact .inr ⟨qbm _ _, by rw [qno]; rfl⟩
    rintro H1 o ⟨rfl, rfl⟩
    rw [hl]
    simp only [Option.getD_some, qb3 hne, qrz, qb4 hne, qbz, Option.isSome_some, List.length_cons, List.length_nil, List.take_succ_cons, List.take_zero, List.map_nil, qcn, List.drop_zero, List.drop_succ_cons, List.map_cons, qno, napp_ren, VO.ren, AV.ren, AV.rens, sg', List.set_cons_zero]
    exact hq)
def qlp (p : Int) (l : List N) (t : N) : N := .mk 4 p 0 [] (l ++ [t])
def qe4 (f : Nat) (c : K) : K × Option N :=
  if (qbj (qca f) c).2.isSome = true then ((qca f (qbj (qca f) c).1).1, (qca f (qbj (qca f) c).1).2.map (qlp (qbd c).pos ((qbj (qca f) c).2.getD [])))
  else ((qbj (qca f) c).1, none)
theorem qqg {c : K} {L : List Ent} {p : Int} {l : List N} {t : N} {b : Bool} {Q : List Ent → VO → Prop} (hq : Q (curE c :: L) (.val (resP (qlu (qlp p l t) b)))) :
    VApp Tryz.prog (curE c :: L) (.fn 48 [] []) [.ptr 0 0, .agg [.int .i64 4, .int .i64 p, .int .i64 0, .str [], .sl 5 (encs l ++ [enc t])], .bool b] Q := by
  have h := qu3 (n := qlp p l t) hq
  simpa only [qlp, enc, qz] using h
theorem qwv {c : K} {L : List Ent} {p : Int} {t : N} {b : Bool} {Q : List Ent → VO → Prop} (hq : Q (curE c :: L) (.val (resP (qlu (qlp p [] t) b)))) :
    VApp Tryz.prog (curE c :: L) (.fn 48 [] []) [.ptr 0 0, .agg [.int .i64 4, .int .i64 p, .int .i64 0, .str [], .sl 5 [enc t]], .bool b] Q := qqg (l := []) hq
theorem qux {r : Option N} {p : Int} {l : List N} : qlu (qlp p l (r.getD N0)) r.isSome = r.map (qlp p l) := qr9
theorem qtn {rec : K → K × Option N} (hm : ∀ c, Mon c (rec c).1) (many : Bool) : ∀ (f : Nat) (c : K) (acc l : List N), (qeh rec many f c acc).2 = some l → l.length ≤ acc.length + rest c
  | 0, c, acc, l => fun h => by cases h
  | f + 1, c, acc, l => fun h => by
    rw [qeh] at h
    split at h
    · rename_i hs
      have h1 := qi0 hm hs
      split at h
      · have h2 := qtn hm many f _ _ _ h
        have h3 := (q8 (qbq rec c).1 [44]).2.1
        simp only [List.length_append, List.length_cons, List.length_nil] at h2
        omega
      · cases h
        simp only [List.length_append, List.length_cons, List.length_nil]
        omega
    · cases h
theorem qkw {m : Bool} {r : K × Option (List N)} {l : List N} (h : (qge m r).2 = some l) : r.2 = some l := by
  unfold qge at h
  repeat' split at h
  all_goals first | exact h | cases h
theorem qsy {rec : K → K × Option N} (hm : ∀ c, Mon c (rec c).1) {c : K} {l : List N} (h : (qbj rec c).2 = some l) : l.length ≤ rest c := by
  unfold qbj at h
  split at h
  · have h := qkw h
    unfold qhl at h
    split at h
    · cases h; exact Nat.zero_le _
    · have h1 := qtn hm _ _ _ _ _ h
      have h2 := (q8 c [40]).2.1
      simp only [List.length_nil] at h1
      omega
  · simp only at h
    split at h
    · cases h
    · cases h; exact Nat.zero_le _
theorem qyx (f : Nat) (c : K) (hg : c.good) (hr : rest c < f) : qcp Tryz.prog 22 (curE c) (curE (qe4 f c).1) [.ptr 0 0] (resP (qe4 f c).2) := by
  have hm := qg3 f
  have hP := qwu hm (q1a f) c hg (by omega)
  have g1 : (qbj (qca f) c).1.good := (qhj hm c).1 hg
  have hr1 : rest (qbj (qca f) c).1 < f := by have := (qhj hm c).2.1; omega
  refine qbe c0bq 1 (by simp) (by simp) ?_
  unfold qe4
  cases ho : (qbj (qca f) c).2 with
  | none =>
    have h0 : (qbj (qca f) c).2.getD [] = [] := by rw [ho]; rfl
    repeat' (first | refine ql ?_ | ((first | refine qn ?_ | refine qm ?_ | refine qi ?_ | refine qh ?_); simp (disch := first | omega | (simp only [List.length_set, List.length_append, List.length_cons, List.length_nil]; done) | (simp only [List.length_set, List.length_append, List.length_cons, List.length_nil]; omega)) only [ho, Option.isSome_none, go_sem, ↓reduceIte, Nat.reduceEqDiff, Nat.reduceAdd, Nat.reduceSub, Nat.reduceMul, Nat.reduceLT, Nat.reduceLeDiff, reduceCtorEq, Int.reduceToNat]) | ((first | refine qf ?_ ?_ | refine qe ?_ ?_) <;> intro hc <;> simp only [hc, go_sem, ↓reduceIte, Nat.reduceEqDiff, Nat.reduceAdd, Nat.reduceSub, Nat.reduceMul, Nat.reduceLT, Nat.reduceLeDiff, reduceCtorEq, Int.reduceToNat] <;> (try simp only [qb, qa, decide_eq_true_eq, decide_eq_false_iff_not, Bool.and_eq_true] at hc)) | refine And.intro (by first | assumption | omega | (have := qg (by assumption); omega) | (unfold qp; omega)) ?_ | fail | ((first | refine qdv ?_ | refine qqe hP h0 ?_); simp only [go_sem, ↓reduceIte, Nat.reduceEqDiff, Nat.reduceAdd, Nat.reduceSub, Nat.reduceMul, Nat.reduceLT, Nat.reduceLeDiff, reduceCtorEq, Int.reduceToNat]))
    rw [qd3]; rfl
  | some l =>
    have hlen := qsy hm ho
    have hlen2 := hg.rest
    by_cases h0 : l = []
    · subst h0
      have h0 : (qbj (qca f) c).2.getD [] = [] := by rw [ho]; rfl
      have hcap : qp 1 64 := capN (by omega)
      repeat' (first | refine ql ?_ | ((first | refine qn ?_ | refine qm ?_ | refine qi ?_ | refine qh ?_); simp (disch := first | omega | (simp only [List.length_set, List.length_append, List.length_cons, List.length_nil]; done) | (simp only [List.length_set, List.length_append, List.length_cons, List.length_nil]; omega)) only [ho, Option.isSome_some, go_sem, ↓reduceIte, Nat.reduceEqDiff, Nat.reduceAdd, Nat.reduceSub, Nat.reduceMul, Nat.reduceLT, Nat.reduceLeDiff, reduceCtorEq, Int.reduceToNat]) | ((first | refine qf ?_ ?_ | refine qe ?_ ?_) <;> intro hc <;> simp only [hc, go_sem, ↓reduceIte, Nat.reduceEqDiff, Nat.reduceAdd, Nat.reduceSub, Nat.reduceMul, Nat.reduceLT, Nat.reduceLeDiff, reduceCtorEq, Int.reduceToNat] <;> (try simp only [qb, qa, decide_eq_true_eq, decide_eq_false_iff_not, Bool.and_eq_true] at hc)) | refine And.intro (by first | assumption | omega | (have := qg (by assumption); omega) | (unfold qp; omega)) ?_ | fail | ((first | refine qdv ?_ | refine qqe hP h0 ?_ | refine qdt (q1a f _ g1 hr1) rfl ?_ | refine qwv ?_); simp only [go_sem, ↓reduceIte, Nat.reduceEqDiff, Nat.reduceAdd, Nat.reduceSub, Nat.reduceMul, Nat.reduceLT, Nat.reduceLeDiff, reduceCtorEq, Int.reduceToNat]))
      rw [qux]; rfl
    · have hcap : qp (l.length + 1) 64 := capN (by unfold rest at hlen; omega)
      repeat' (first | refine ql ?_ | ((first | refine qn ?_ | refine qm ?_ | refine qi ?_ | refine qh ?_); simp (disch := first | omega | (simp only [List.length_set, List.length_append, List.length_cons, List.length_nil]; done) | (simp only [List.length_set, List.length_append, List.length_cons, List.length_nil]; omega)) only [ho, Option.isSome_some, go_sem, ↓reduceIte, Nat.reduceEqDiff, Nat.reduceAdd, Nat.reduceSub, Nat.reduceMul, Nat.reduceLT, Nat.reduceLeDiff, reduceCtorEq, Int.reduceToNat]) | ((first | refine qf ?_ ?_ | refine qe ?_ ?_) <;> intro hc <;> simp only [hc, go_sem, ↓reduceIte, Nat.reduceEqDiff, Nat.reduceAdd, Nat.reduceSub, Nat.reduceMul, Nat.reduceLT, Nat.reduceLeDiff, reduceCtorEq, Int.reduceToNat] <;> (try simp only [qb, qa, decide_eq_true_eq, decide_eq_false_iff_not, Bool.and_eq_true] at hc)) | refine And.intro (by first | assumption | omega | (have := qg (by assumption); omega) | (unfold qp; omega)) ?_ | fail | ((first | refine qdv ?_ | refine qz4 hP ho h0 ?_ | refine qdt (q1a f _ g1 hr1) rfl ?_ | refine qqg ?_); simp only [go_sem, ↓reduceIte, Nat.reduceEqDiff, Nat.reduceAdd, Nat.reduceSub, Nat.reduceMul, Nat.reduceLT, Nat.reduceLeDiff, reduceCtorEq, Int.reduceToNat]))
      rw [qux]; rfl

/-! The size of what is read. -/
theorem qhs : ∀ (a b : List N), szs (a ++ b) = szs a + szs b
  | [], b => by simp [szs]
  | x :: a, b => by rw [List.cons_append, szs, szs, qhs a b]; omega
theorem qwc (c : K) (k : Int) (ks : List N) : sz (qh1 c k ks) = szs ks + 1 := by rw [qi1]; rfl
section
variable {rec : K → K × Option N} (hm : ∀ c, Mon c (rec c).1) (ih : ∀ c n, (rec c).2 = some n → sz n + rest (rec c).1 ≤ rest c)
include hm ih
omit hm in
theorem qme {c : K} {n : N} (h : (qb2 rec c).2 = some n) : sz n + rest (qb2 rec c).1 ≤ rest c := by
  unfold qb2 at h ⊢
  split at h
  · rename_i h1
    rw [if_pos h1]
    cases h
    have := qbo (c := c) (by omega)
    rw [qwc]; simp only [szs]; omega
  · rename_i h1
    rw [if_neg h1]
    split at h
    · rename_i h2
      rw [if_pos h2]
      cases h
      have := qbo (c := c) (by omega)
      rw [qwc]; simp only [szs]; omega
    · rename_i h2
      rw [if_neg h2]
      split at h
      · rename_i h3
        rw [if_pos h3]
        split at h
        · rename_i h4
          rw [if_pos h4]
          have hp := qbo (c := (qj c).1) (by rw [qeo h4]; exact qdo h3)
          have h0 := (qx c).2.1
          split at h
          · rename_i h5
            rw [if_pos h5]
            simp only at h ⊢
            split at h
            · have h6 := ih _ _ h
              have h7 := (qq (rec (q9 (qj c).1)).1 [41]).2.1
              have h8 := (qbw (qv (rec (q9 (qj c).1)).1 [41]).1).2.1
              omega
            · cases h
          · cases h
        · cases h
      · cases h
omit hm in
theorem qqo : ∀ (f : Nat) (c : K) (acc l : List N), (qdz rec f c acc).2 = some l → szs l + rest (qdz rec f c acc).1 ≤ szs acc + rest c
  | 0, c, acc, l => fun h => by cases h
  | f + 1, c, acc, l => fun h => by
    rw [qdz] at h ⊢
    split at h
    · rename_i h1
      rw [if_pos h1]
      split at h
      · rename_i h2
        rw [if_pos h2]
        obtain ⟨n, hn⟩ := Option.isSome_iff_exists.1 h2
        have h3 := qqo f _ _ _ h
        have h4 := qme ih hn
        rw [qhs, hn] at h3
        simp only [Option.getD_some, szs] at h3
        rw [hn]
        simp only [Option.getD_some]
        omega
      · cases h
    · rename_i h1
      rw [if_neg h1]
      cases h
      exact Nat.le_refl _
omit hm in
theorem qtk {c : K} {n : N} (h : (qce rec c).2 = some n) : sz n + rest (qce rec c).1 ≤ rest c := by
  unfold qce at h ⊢
  split at h
  · rename_i h1
    rw [if_pos h1]
    obtain ⟨l, hl, rfl⟩ := Option.map_eq_some_iff.1 h
    have h2 := qqo ih _ _ _ _ hl
    have h3 := qbo (c := c) (by omega)
    rw [qwc]
    simp only [szs] at h2 ⊢
    omega
  · rename_i h1
    rw [if_neg h1]
    exact qme ih h
omit hm in
theorem qz1 {c : K} {n : N} (h : (qbq rec c).2 = some n) : sz n + rest (qbq rec c).1 ≤ rest c := by
  unfold qbq at h ⊢
  split at h
  · rename_i h1
    rw [if_pos h1]
    obtain ⟨m, hk, rfl⟩ := Option.map_eq_some_iff.1 h
    have h2 := qme ih hk
    obtain ⟨e1, e2⟩ := qk2 h1
    rw [(qr8 h1).1] at h2 ⊢
    have h3 := qbo (c := c) (by omega)
    have : sz (qnw (qis c 2) m) = sz m + 1 := by rw [qi1]; simp [qnw, N.kids, szs]
    simp only at h2 ⊢
    omega
  · cases h
omit hm in
theorem qs2 (many : Bool) : ∀ (f : Nat) (c : K) (acc l : List N), (qeh rec many f c acc).2 = some l → szs l + rest (qeh rec many f c acc).1 ≤ szs acc + rest c
  | 0, c, acc, l => fun h => by cases h
  | f + 1, c, acc, l => fun h => by
    rw [qeh] at h ⊢
    split at h
    · rename_i h1
      rw [if_pos h1]
      obtain ⟨n, hn⟩ := Option.isSome_iff_exists.1 h1
      have h4 := qz1 ih hn
      split at h
      · rename_i h2
        rw [if_pos h2]
        have h3 := qs2 many f _ _ _ h
        have h5 := (q8 (qbq rec c).1 [44]).2.1
        rw [qhs, hn] at h3
        simp only [Option.getD_some, szs] at h3
        rw [hn]
        simp only [Option.getD_some]
        omega
      · rename_i h2
        rw [if_neg h2]
        cases h
        rw [hn, qhs]
        simp only [Option.getD_some, szs]
        omega
    · cases h
end
theorem qsn : ∀ (f : Nat) (c : K) (n : N), (qca f c).2 = some n → sz n + rest (qca f c).1 ≤ rest c
  | 0, _, _ => fun h => by cases h
  | f + 1, c, n => fun h => by
    have ih := qsn f
    have h0 := (qx c).2.1
    rw [qca] at h ⊢
    split at h
    · rename_i h1
      rw [if_pos h1]
      split at h
      · rename_i h2
        rw [if_pos h2]
        obtain ⟨m, hm⟩ := Option.isSome_iff_exists.1 h2
        have h3 := qtk ih hm
        split at h
        · rename_i h4
          rw [if_pos h4]
          obtain ⟨q, hq, rfl⟩ := Option.map_eq_some_iff.1 h
          have h5 := ih _ _ hq
          have h6 := (qbw (qca f (qt (qce (qca f) (qj c).1).1 [45, 62]).1).1).2.1
          have h7 : rest (qt (qce (qca f) (qj c).1).1 [45, 62]).1 + 1 ≤ rest (qce (qca f) (qj c).1).1 := by
            unfold qt at h4 ⊢
            split at h4
            · rename_i h8
              rw [if_pos h8]
              have := qbo (qdo h8)
              simp only; omega
            · cases h4
          have : sz (qh2 ((qce (qca f) (qj c).1).2.getD N0) q) = sz m + sz q + 1 := by rw [qi1, hm]; simp [qh2, N.kids, szs]
          simp only
          omega
        · rename_i h4
          rw [if_neg h4]
          have h5 := (qbw (qce (qca f) (qj c).1).1).2.1
          have h6 := qtk ih h
          simp only
          omega
      · cases h
    · cases h
theorem qz5 {f : Nat} {c : K} {n : N} (h : (qe4 f c).2 = some n) : sz n + rest (qe4 f c).1 ≤ rest c + 1 := by
  unfold qe4 at h ⊢
  split at h
  · rename_i h1
    rw [if_pos h1]
    obtain ⟨l, hl⟩ := Option.isSome_iff_exists.1 h1
    obtain ⟨q, hq, rfl⟩ := Option.map_eq_some_iff.1 h
    have h2 := qsn f _ _ hq
    rw [hl]
    have h3 : szs l + rest (qbj (qca f) c).1 ≤ rest c := by
      have hx := hl
      unfold qbj at hx ⊢
      split at hx
      · rename_i ha
        rw [if_pos ha]
        have h5 := qkw hx
        have h6 : szs l + rest (qhl (qca f) c).1 ≤ rest c := by
          unfold qhl at h5 ⊢
          have ht := (q8 c [40]).2.1
          split at h5
          · rename_i hb
            rw [if_pos hb]
            cases h5
            simp only [szs]; omega
          · rename_i hb
            rw [if_neg hb]
            have := qs2 (qsn f) _ _ _ _ _ h5
            simp only [szs] at this
            omega
        have h7 : rest (qge (qt c [40]).2 (qhl (qca f) c)).1 ≤ rest (qhl (qca f) c).1 := by
          unfold qge
          split
          · split
            · split
              · exact Nat.le_trans (qq _ _).2.1 (qq _ _).2.1
              · exact (qq _ _).2.1
            · exact (qq _ _).2.1
          · exact Nat.le_refl _
        omega
      · rename_i ha
        rw [if_neg ha]
        simp only at hx ⊢
        split at hx
        · cases hx
        · cases hx; simp only [szs]; omega
    have : sz (qlp (qbd c).pos l q) = szs l + sz q + 1 := by rw [qi1]; simp [qlp, N.kids, qhs, szs]
    simp only [Option.getD_some]
    omega
  · cases h
theorem qu6 {l : List T} (h : l.length ≤ 1048577) : (newK l).good := ⟨Nat.zero_le _, Nat.le_trans (qjz l) h, Nat.zero_le _⟩

/-- What is all there is. -/
def qmx (c : K) (n : N) : N × Int × Int :=
  if (qjc c).2 = 0 then if depR n > 100 then (N0, n.pos, 2) else (n, 0, 0) else (N0, (qjc c).1, (qjc c).2)
def qba8 (rd : K → K × Option N) (s : List UInt8) : N × Int × Int :=
  if (lexV s).2.2 = 0 then qmx (rd (newK (lexV s).1)).1 ((rd (newK (lexV s).1)).2.getD N0)
  else (N0, (lexV s).2.1, (lexV s).2.2)
def resV (r : N × Int × Int) : AV := .tup [enc r.1, .int .i64 r.2.1, .int .i64 r.2.2]
attribute [go_sem] resV lexR
theorem q16 {c : K} (h : (qjc c).2 = 0) : c.err = 0 := by
  by_cases he : c.err = 0
  · exact he
  · rw [qlj he] at h; exact absurd h he
theorem qki (f : Nat) (c : K) : Mon c (qe4 f c).1 := by
  have hm := qg3 f
  unfold qe4
  split
  · exact (qhj hm c).trans (hm _)
  · exact qhj hm c
set_option maxRecDepth 4000

theorem qiy {c : K} (h : (qbd c).kind ≠ 0) : em (q9 c) < em c := by
  have h1 := qbo h
  rw [qbj5 (qgw h).1]
  have := qji (q9 c)
  omega
theorem qee {c : K} {x : List UInt8} (h : (qt c x).2 = true) : em (qt c x).1 < em c := by
  unfold qt at h ⊢
  split at h
  · rename_i h1
    rw [if_pos h1]
    exact qiy (qdo h1)
  · cases h
theorem qez {c : K} (h : isK c [40] = true) : em (qv (qj c).1 [40]).1 < em c := by
  rw [qbj5 (qvm h)]
  cases he : (qj c).2 with
  | false => rw [qb8 (qf9 he), qb5s (qf9 he)]; omega
  | true =>
    have h1 : isK (qj c).1 [40] = true := by rw [qm5 he]; exact h
    have h2 := qbo (qdo h1)
    have h3 := (qx c).2.1
    have h4 := qji (q9 (qj c).1)
    rw [qnm h1]
    simp only; omega
def qcy (rec : K → K × N) (c : K) : K × N :=
  if c.err = 0 then
    if (qbd c).kind = 1 then (q9 c, qh1 c 1 [])
    else if (qbd c).kind = 2 then (q9 c, qh1 c 2 [])
    else if isK c [40] = true then (qch (qv (rec (qv (qj c).1 [40]).1).1 [41]).1, (rec (qv (qj c).1 [40]).1).2)
    else (qe6 c 5, N0)
  else (c, N0)
def qeb (rec : K → K × N) : Nat → K → List N → K × List N
  | 0, c, acc => (c, acc)
  | f + 1, c, acc => if begT c = true then qeb rec f (qcy rec c).1 (acc ++ [(qcy rec c).2]) else (c, acc)
def qdb (rec : K → K × N) (c : K) : K × N :=
  if (qbd c).kind = 2 then ((qeb rec (em (q9 c) + 1) (q9 c) []).1, qh1 c 2 (qeb rec (em (q9 c) + 1) (q9 c) []).2) else qcy rec c
def qcg : Nat → K → K × N
  | 0, c => (c, N0)
  | f + 1, c =>
    if (qt (qdb (qcg f) (qj c).1).1 [45, 62]).2 = true then
      (qch (qcg f (qt (qdb (qcg f) (qj c).1).1 [45, 62]).1).1, qh2 (qdb (qcg f) (qj c).1).2 (qcg f (qt (qdb (qcg f) (qj c).1).1 [45, 62]).1).2)
    else (qch (qdb (qcg f) (qj c).1).1, (qdb (qcg f) (qj c).1).2)
section
variable {rec : K → K × N} (hm : ∀ c, Mon c (rec c).1)
include hm
theorem qnf (c : K) : Mon (qv (qj c).1 [40]).1 (qch (qv (rec (qv (qj c).1 [40]).1).1 [41]).1) := ((hm _).trans (qq _ _)).trans (qbw _)
theorem qgc (c : K) : Mon c (qcy rec c).1 := by
  unfold qcy
  split
  · split
    · exact qbs c
    · split
      · exact qbs c
      · split
        · exact ((qx c).trans (qq _ _)).trans (qnf hm c)
        · exact qfk c 5
  · exact Mon.refl c
theorem qh4 {c : K} (h : begT c = true) : em (qcy rec c).1 < em c := by
  unfold qcy
  rw [if_pos (q0q h)]
  split
  · exact qiy (by omega)
  · split
    · exact qiy (by omega)
    · rename_i h1 h2
      have hk : isK c [40] = true := by simpa only [begT, decide_eq_false h1, decide_eq_false h2, Bool.false_or] using h
      rw [if_pos hk]
      have h3 := qez hk
      have h4 := (qnf hm c).em
      simp only; omega
theorem qmv : ∀ (f : Nat) (c : K) (acc : List N), Mon c (qeb rec f c acc).1
  | 0, c, acc => Mon.refl c
  | f + 1, c, acc => by
    rw [qeb]
    split
    · exact (qgc hm c).trans (qmv f _ _)
    · exact Mon.refl c
theorem qkl (c : K) : Mon c (qdb rec c).1 := by
  unfold qdb
  split
  · exact (qbs c).trans (qmv hm _ _ _)
  · exact qgc hm c
end
theorem qd7 : ∀ (f : Nat) (c : K), Mon c (qcg f c).1
  | 0, c => Mon.refl c
  | f + 1, c => by
    have hr := (qx c).trans (qkl (qd7 f) (qj c).1)
    rw [qcg]
    split
    · exact ((hr.trans (q8 _ _)).trans (qd7 f _)).trans (qbw _)
    · exact hr.trans (qbw _)

/-! The program. -/
theorem qho (c : K) : qbf Tryz.prog 117 [refC c] (.bool (begT c)) := by
  refine qu c0bm (by simp) (by simp only [go_sem]) rfl fun hw => ?_
  repeat' (first | refine ql ?_ | ((first | refine qn ?_ | refine qm ?_ | refine qc (qw c) fun _ => ?_ | refine qc (qc4 c _) fun _ => ?_ | refine qd  (qw c) ?_ | refine qd  (qc4 c _) ?_); simp only [go_sem, ↓reduceIte, Nat.reduceEqDiff, Nat.reduceAdd, Nat.reduceSub, Nat.reduceMul, Nat.reduceLT, Nat.reduceLeDiff, reduceCtorEq, Int.reduceToNat]) | ((first | refine qf ?_ ?_ | refine qe ?_ ?_) <;> intro hc <;> simp only [hc, go_sem, ↓reduceIte, Nat.reduceEqDiff, Nat.reduceAdd, Nat.reduceSub, Nat.reduceMul, Nat.reduceLT, Nat.reduceLeDiff, reduceCtorEq, Int.reduceToNat] <;> (try simp only [qb, qa, decide_eq_true_eq, decide_eq_false_iff_not, Bool.and_eq_true] at hc)) | refine And.intro (by first | assumption | omega | (have := qg (by assumption); omega) | (unfold qp; omega)) ?_ | fail)
  all_goals (have := @q4r c; unfold begT at *; simp_all)
def qub (p : Int) (t : List UInt8) (c : K) (acc : List N) : AF × List Ent :=
  (⟨[(1, .ptr 0 0), (2, .ptr 1 0), (3, .ptr 2 0), (5, .ptr 3 0)], []⟩,
    .blk (refC c).cells :: .blk [.nils, .int .i64 0, .int .i64 0, .int .i64 0, .str [], .int .i64 0, .int .i64 0, .int .i64 0] :: .blk [.int .i64 0, .int .i64 0, .int .i64 0, .str [], .nils] :: .blk [.int .i64 2, .int .i64 p, .int .i64 0, .str t, accV 4 (encs acc)] :: accE 5 (encs acc))
section
variable {rec : K → K × N} {b : Nat} (hm : ∀ c, Mon c (rec c).1) (ih : ∀ c, c.good → em c < b → qbf Tryz.prog 54 [refC c] (.tup [refC (rec c).1, enc (rec c).2]))
include hm ih
theorem qfb (c : K) (hg : c.good) (hr : em c ≤ b) : qbf Tryz.prog 116 [refC c] (.tup [refC (qcy rec c).1, enc (qcy rec c).2]) := by
  have g1 : (qv (qj c).1 [40]).1.good := ((qx c).trans (qq _ _)).1 hg
  have g2 : (qv (rec (qv (qj c).1 [40]).1).1 [41]).1.good := ((hm _).trans (qq _ _)).1 g1
  refine qu c0bn (by simp) (by simp only [go_sem]) (by simp only [go_sem]) fun hw => ?_
  repeat' (first | refine ql ?_ | refine qk ?_ | ((first | refine qn ?_ | refine qbc (by rfl) ?_ | refine qy ?_ | refine qm ?_ | refine qi ?_ | refine qh ?_ | refine qc (qw c) fun _ => ?_ | refine qc (qc4 c _) fun _ => ?_ | refine qc (qc3 c _) fun _ => ?_ | refine qc (qco c) fun _ => ?_ | refine qc (qbg _ _) fun _ => ?_ | refine qc (ih _ g1 (Nat.lt_of_lt_of_le (qez (by assumption)) hr)) fun _ => ?_ | refine qc (qb1 _ g2.2.2) fun _ => ?_ | refine qc (qcf c) fun _ => ?_ | refine qd  (qw c) ?_ | refine qd  (qc4 c _) ?_ | refine qd  (qc3 c _) ?_ | refine qd  (qco c) ?_ | refine qd  (qbg _ _) ?_ | refine qd  (ih _ g1 (Nat.lt_of_lt_of_le (qez (by assumption)) hr)) ?_ | refine qd  (qb1 _ g2.2.2) ?_ | refine qd  (qcf c) ?_); simp only [go_sem, ↓reduceIte, Nat.reduceEqDiff, Nat.reduceAdd, Nat.reduceSub, Nat.reduceMul, Nat.reduceLT, Nat.reduceLeDiff, reduceCtorEq, Int.reduceToNat]) | ((first | refine qf ?_ ?_ | refine qe ?_ ?_) <;> intro hc <;> simp only [hc, go_sem, ↓reduceIte, Nat.reduceEqDiff, Nat.reduceAdd, Nat.reduceSub, Nat.reduceMul, Nat.reduceLT, Nat.reduceLeDiff, reduceCtorEq, Int.reduceToNat] <;> (try simp only [qb, qa, decide_eq_true_eq, decide_eq_false_iff_not, Bool.and_eq_true] at hc)) | refine And.intro (by first | assumption | omega | (have := qg (by assumption); omega) | (unfold qp; omega)) ?_ | fail)
  all_goals (unfold qcy qh1; simp only [*, qd3, Int.reduceEq, if_true, if_false, reduceIte, Bool.false_eq_true, Option.getD_none, Option.getD_some, Option.isSome_none, Option.isSome_some, and_self, true_and, and_true]; try rfl)
theorem q47 (c : K) (hg : c.good) (hr : em c ≤ b) : qbf Tryz.prog 87 [refC c] (.tup [refC (qdb rec c).1, enc (qdb rec c).2]) := by
  refine qu c0bo (by simp) (by simp only [go_sem]) (by simp only [go_sem]) fun hw => ?_
  by_cases hk : (qbd c).kind = 2
  · have hpa : qdb rec c = ((qeb rec (em (q9 c) + 1) (q9 c) []).1, qh1 c 2 (qeb rec (em (q9 c) + 1) (q9 c) []).2) := by rw [qdb, if_pos hk]
    rw [hpa]
    clear hpa
    have g1 : (q9 c).good := (qbs _).1 hg
    have hr1 : em (q9 c) ≤ b := by have := (qbs c).em; omega
    generalize htg : qeb rec (em (q9 c) + 1) (q9 c) [] = tg
    repeat' (first | refine ql ?_ | refine qk ?_ | ((first | refine qn ?_ | refine qbc (by rfl) ?_ | refine qy ?_ | refine qm ?_ | refine qs ?_ | refine qi ?_ | refine qh ?_); simp (disch := first | omega | (simp only [List.length_set, List.length_append, List.length_cons, List.length_nil]; done) | (simp only [List.length_set, List.length_append, List.length_cons, List.length_nil]; omega)) only [hk, Int.reduceEq, go_sem, ↓reduceIte, Nat.reduceEqDiff, Nat.reduceAdd, Nat.reduceSub, Nat.reduceMul, Nat.reduceLT, Nat.reduceLeDiff, reduceCtorEq, Int.reduceToNat]) | ((first | refine qf ?_ ?_ | refine qe ?_ ?_) <;> intro hc <;> simp only [hc, go_sem, ↓reduceIte, Nat.reduceEqDiff, Nat.reduceAdd, Nat.reduceSub, Nat.reduceMul, Nat.reduceLT, Nat.reduceLeDiff, reduceCtorEq, Int.reduceToNat] <;> (try simp only [qb, qa, decide_eq_true_eq, decide_eq_false_iff_not, Bool.and_eq_true] at hc)) | refine And.intro (by first | assumption | omega | (have := qg (by assumption); omega) | (unfold qp; omega)) ?_ | fail | ((first | refine qc (qw _) fun _ => ?_ | refine qc (qcf _) fun _ => ?_ | refine qd  (qw _) ?_ | refine qd  (qcf _) ?_); simp only [go_sem, ↓reduceIte, Nat.reduceEqDiff, Nat.reduceAdd, Nat.reduceSub, Nat.reduceMul, Nat.reduceLT, Nat.reduceLeDiff, reduceCtorEq, Int.reduceToNat]))
    refine qby (S := Nat × K × List N) (fun x => x.2.1.good ∧ em x.2.1 ≤ b ∧ qeb rec x.1 x.2.1 x.2.2 = tg ∧ em x.2.1 < x.1 ∧ x.2.2.length + em x.2.1 ≤ 1048578)
      (fun x => qub (qbd c).pos (qbd c).text x.2.1 x.2.2) (fun x => em x.2.1) ?_ ?_
    · refine qbn (em (q9 c) + 1, q9 c, []) [0, 1, 2, 4] ⟨g1, hr1, htg, by simp only; omega, ?_⟩ rfl (by simp) ?_ ?_ ?_
      · have h9 := g1.rest
        have h8 := qji (q9 c)
        unfold rest at h8
        simp only [List.length_nil]
        omega
      all_goals simp only [qub, encs, qbu, qbv]
      all_goals simp only [go_sem, ↓reduceIte, Nat.reduceEqDiff, Nat.reduceAdd, Nat.reduceSub, Nat.reduceMul, Nat.reduceLT, Nat.reduceLeDiff, reduceCtorEq, Int.reduceToNat]
    · rintro ⟨fu, d, acc⟩ ⟨i1, i2, i3, i4, i5⟩
      simp only at i1 i2 i3 i4 i5
      unfold qub
      obtain ⟨fu, rfl⟩ : ∃ k, fu = k + 1 := ⟨fu - 1, by omega⟩
      rw [qeb] at i3
      have hcap : qp (acc.length + 1) 64 := capN (by omega)
      have j1 : (qcy rec d).1.good := (qgc hm d).1 i1
      have j2 : em (qcy rec d).1 ≤ em d := (qgc hm d).em
      by_cases h0 : acc = []
      · subst h0
        simp only [encs, qbu, qbv]
        repeat' (first | refine ql ?_ | refine qk ?_ | ((first | refine qn ?_ | refine qbc (by rfl) ?_ | refine qy ?_ | refine qm ?_ | refine qs ?_ | refine qi ?_ | refine qh ?_ | refine qc (qho _) fun _ => ?_ | refine qc (qfb hm ih _ i1 i2) fun _ => ?_ | refine qd  (qho _) ?_ | refine qd  (qfb hm ih _ i1 i2) ?_); simp only [go_sem, ↓reduceIte, Nat.reduceEqDiff, Nat.reduceAdd, Nat.reduceSub, Nat.reduceMul, Nat.reduceLT, Nat.reduceLeDiff, reduceCtorEq, Int.reduceToNat]) | ((first | refine qf ?_ ?_ | refine qe ?_ ?_) <;> intro hc <;> simp only [hc, go_sem, ↓reduceIte, Nat.reduceEqDiff, Nat.reduceAdd, Nat.reduceSub, Nat.reduceMul, Nat.reduceLT, Nat.reduceLeDiff, reduceCtorEq, Int.reduceToNat] <;> (try simp only [qb, qa, decide_eq_true_eq, decide_eq_false_iff_not, Bool.and_eq_true] at hc)) | refine And.intro (by first | assumption | omega | (have := qg (by assumption); omega) | (unfold qp; omega)) ?_ | fail)
        · have hb : begT d = true := by assumption
          rw [if_pos hb] at i3
          have hlt := qh4 hm hb
          refine qbn (fu, (qcy rec d).1, [] ++ [(qcy rec d).2]) [0, 1, 2, 3, 6] ⟨⟨j1, by simp only; omega, i3, by simp only; omega, ?_⟩, by simp only; omega⟩ rfl (by simp) ?_ ?_ ?_
          · simp only [List.length_append, List.length_cons, List.length_nil]; omega
          all_goals simp only [qub, ← qz, qct, qcs, List.nil_append, encs, qdg, qdh]
          all_goals simp only [go_sem, ↓reduceIte, Nat.reduceEqDiff, Nat.reduceAdd, Nat.reduceSub, Nat.reduceMul, Nat.reduceLT, Nat.reduceLeDiff, reduceCtorEq, Int.reduceToNat]
        · have hb : begT d = false := by assumption
          rw [if_neg (by rw [hb]; simp)] at i3
          subst i3
          rfl
      · have hne := qci h0
        simp only [qb4 hne, qb3 hne, qbz]
        repeat' (first | refine ql ?_ | refine qk ?_ | ((first | refine qn ?_ | refine qbc (by rfl) ?_ | refine qy ?_ | refine qm ?_ | refine qs ?_ | refine qi ?_ | refine qh ?_ | refine qc (qho _) fun _ => ?_ | refine qc (qfb hm ih _ i1 i2) fun _ => ?_ | refine qd  (qho _) ?_ | refine qd  (qfb hm ih _ i1 i2) ?_); simp only [go_sem, ↓reduceIte, Nat.reduceEqDiff, Nat.reduceAdd, Nat.reduceSub, Nat.reduceMul, Nat.reduceLT, Nat.reduceLeDiff, reduceCtorEq, Int.reduceToNat]) | ((first | refine qf ?_ ?_ | refine qe ?_ ?_) <;> intro hc <;> simp only [hc, go_sem, ↓reduceIte, Nat.reduceEqDiff, Nat.reduceAdd, Nat.reduceSub, Nat.reduceMul, Nat.reduceLT, Nat.reduceLeDiff, reduceCtorEq, Int.reduceToNat] <;> (try simp only [qb, qa, decide_eq_true_eq, decide_eq_false_iff_not, Bool.and_eq_true] at hc)) | refine And.intro (by first | assumption | omega | (have := qg (by assumption); omega) | (unfold qp; omega)) ?_ | fail)
        · have hb : begT d = true := by assumption
          rw [if_pos hb] at i3
          have hlt := qh4 hm hb
          refine qbn (fu, (qcy rec d).1, acc ++ [(qcy rec d).2]) [0, 1, 2, 3, 7] ⟨⟨j1, by simp only; omega, i3, by simp only; omega, ?_⟩, by simp only; omega⟩ rfl (by simp) ?_ ?_ ?_
          · simp only [List.length_append, List.length_cons, List.length_nil]; omega
          all_goals simp only [qub, ← qz, qct, qcs, List.nil_append, encs, qdg, qdh]
          all_goals simp only [go_sem, ↓reduceIte, Nat.reduceEqDiff, Nat.reduceAdd, Nat.reduceSub, Nat.reduceMul, Nat.reduceLT, Nat.reduceLeDiff, reduceCtorEq, Int.reduceToNat]
          rw [qz, qcb, qc5]; exact ⟨rfl, rfl⟩
        · have hb : begT d = false := by assumption
          rw [if_neg (by rw [hb]; simp)] at i3
          subst i3
          rfl
  · repeat' (first | refine ql ?_ | refine qk ?_ | ((first | refine qn ?_ | refine qbc (by rfl) ?_ | refine qy ?_ | refine qm ?_ | refine qs ?_ | refine qi ?_ | refine qh ?_); simp (disch := first | omega | (simp only [List.length_set, List.length_append, List.length_cons, List.length_nil]; done) | (simp only [List.length_set, List.length_append, List.length_cons, List.length_nil]; omega)) only [hk, go_sem, ↓reduceIte, Nat.reduceEqDiff, Nat.reduceAdd, Nat.reduceSub, Nat.reduceMul, Nat.reduceLT, Nat.reduceLeDiff, reduceCtorEq, Int.reduceToNat]) | ((first | refine qf ?_ ?_ | refine qe ?_ ?_) <;> intro hc <;> simp only [hc, go_sem, ↓reduceIte, Nat.reduceEqDiff, Nat.reduceAdd, Nat.reduceSub, Nat.reduceMul, Nat.reduceLT, Nat.reduceLeDiff, reduceCtorEq, Int.reduceToNat] <;> (try simp only [qb, qa, decide_eq_true_eq, decide_eq_false_iff_not, Bool.and_eq_true] at hc)) | refine And.intro (by first | assumption | omega | (have := qg (by assumption); omega) | (unfold qp; omega)) ?_ | fail | ((first | refine qc (qw _) fun _ => ?_ | refine qc (qfb hm ih c hg hr) fun _ => ?_ | refine qd  (qw _) ?_ | refine qd  (qfb hm ih c hg hr) ?_); simp only [go_sem, ↓reduceIte, Nat.reduceEqDiff, Nat.reduceAdd, Nat.reduceSub, Nat.reduceMul, Nat.reduceLT, Nat.reduceLeDiff, reduceCtorEq, Int.reduceToNat]))
    rw [qdb, if_neg hk]
end
theorem qr6 {f : Nat} (ih : ∀ c, c.good → em c < f → qbf Tryz.prog 54 [refC c] (.tup [refC (qcg f c).1, enc (qcg f c).2])) (c : K) (hg : c.good) (hr : em c < f + 1) :
    qbf Tryz.prog 54 [refC c] (.tup [refC (qcg (f + 1) c).1, enc (qcg (f + 1) c).2]) := by
  have hm := qd7 f
  have g1 : (qj c).1.good := (qx c).1 hg
  have hr1 : em (qj c).1 ≤ f := by have := (qx c).em; omega
  have hrow := q47 hm ih _ g1 hr1
  have mrow := qkl hm (qj c).1
  have hpa : qcg (f + 1) c = if (qt (qdb (qcg f) (qj c).1).1 [45, 62]).2 = true then
      (qch (qcg f (qt (qdb (qcg f) (qj c).1).1 [45, 62]).1).1, qh2 (qdb (qcg f) (qj c).1).2 (qcg f (qt (qdb (qcg f) (qj c).1).1 [45, 62]).1).2)
    else (qch (qdb (qcg f) (qj c).1).1, (qdb (qcg f) (qj c).1).2) := by rw [qcg]
  rw [hpa]
  clear hpa
  generalize qdb (qcg f) (qj c).1 = r at *
  have g2 : r.1.good := mrow.1 g1
  have g3 : (qt r.1 [45, 62]).1.good := (q8 _ _).1 g2
  have g4 : (qcg f (qt r.1 [45, 62]).1).1.good := (hm _).1 g3
  have hlt : (qt r.1 [45, 62]).2 = true → em (qt r.1 [45, 62]).1 < f := fun h => by
    have := qee h
    have := mrow.em
    omega
  refine qu c0bp (by simp) (by simp only [go_sem]) (by simp only [go_sem]) fun hw => ?_
  repeat' (first | refine ql ?_ | ((first | refine qn ?_ | refine qbc (by rfl) ?_ | refine qy ?_ | refine qm ?_ | refine qi ?_ | refine qh ?_ | refine qc (qco c) fun _ => ?_ | refine qc hrow fun _ => ?_ | refine qc (qbk _ _) fun _ => ?_ | refine qc (ih _ g3 (hlt (by assumption))) fun _ => ?_ | refine qc (qb1 _ g4.2.2) fun _ => ?_ | refine qc (qb1 _ g3.2.2) fun _ => ?_ | refine qd  (qco c) ?_ | refine qd  hrow ?_ | refine qd  (qbk _ _) ?_ | refine qd  (ih _ g3 (hlt (by assumption))) ?_ | refine qd  (qb1 _ g4.2.2) ?_ | refine qd  (qb1 _ g3.2.2) ?_); simp only [go_sem, ↓reduceIte, Nat.reduceEqDiff, Nat.reduceAdd, Nat.reduceSub, Nat.reduceMul, Nat.reduceLT, Nat.reduceLeDiff, reduceCtorEq, Int.reduceToNat]) | ((first | refine qf ?_ ?_ | refine qe ?_ ?_) <;> intro hc <;> simp only [hc, go_sem, ↓reduceIte, Nat.reduceEqDiff, Nat.reduceAdd, Nat.reduceSub, Nat.reduceMul, Nat.reduceLT, Nat.reduceLeDiff, reduceCtorEq, Int.reduceToNat] <;> (try simp only [qb, qa, decide_eq_true_eq, decide_eq_false_iff_not, Bool.and_eq_true] at hc)) | refine And.intro (by first | assumption | omega | (have := qg (by assumption); omega) | (unfold qp; omega)) ?_ | fail)
  · simp only [qh2, enc, encs]
  · rw [qdl (by assumption)]
theorem qw2 (f : Nat) : ∀ c : K, c.good → em c < f → qbf Tryz.prog 54 [refC c] (.tup [refC (qcg f c).1, enc (qcg f c).2]) := by
  induction f with
  | zero => exact fun c _ h => absurd h (by omega)
  | succ f ih => exact qr6 ih
set_option maxRecDepth 4000

def qb5 (rec : K → K × N) (c : K) : K × N := ((qcy rec (qbp c 2).1).1, qnw (qis c 2) (qcy rec (qbp c 2).1).2)
def qd1 (rec : K → K × N) : Nat → K → List N → K × List N
  | 0, c, acc => (c, acc)
  | f + 1, c, acc =>
    if (qt (qb5 rec c).1 [44]).2 = true then qd1 rec f (qt (qb5 rec c).1 [44]).1 (acc ++ [(qb5 rec c).2])
    else ((qb5 rec c).1, acc ++ [(qb5 rec c).2])
def qfi (rec : K → K × N) (c : K) : K × List N :=
  if isK c [41] = true then (c, []) else qd1 rec (em c + 2) c []
def qdx (rec : K → K × N) (c : K) : K × List N :=
  if qir c [61, 62] = true then
    if (qt c [40]).2 = true then ((qv (qv (qfi rec (qt c [40]).1).1 [41]).1 [61, 62]).1, (qfi rec (qt c [40]).1).2)
    else ((qv (qb5 rec c).1 [61, 62]).1, [(qb5 rec c).2])
  else (c, [])
section
variable {rec : K → K × N} (hm : ∀ c, Mon c (rec c).1)
include hm
theorem qe3 (c : K) : Mon c (qb5 rec c).1 := (qcx c 2).trans (qgc hm _)
theorem qk1 : ∀ (f : Nat) (c : K) (acc : List N), Mon c (qd1 rec f c acc).1
  | 0, c, acc => Mon.refl c
  | f + 1, c, acc => by
    rw [qd1]
    split
    · exact ((qe3 hm c).trans (q8 _ _)).trans (qk1 f _ _)
    · exact qe3 hm c
theorem qlb (c : K) : Mon c (qfi rec c).1 := by
  unfold qfi
  split
  · exact Mon.refl c
  · exact qk1 hm _ _ _
theorem qhm (c : K) : Mon c (qdx rec c).1 := by
  unfold qdx
  split
  · split
    · exact (((q8 c _).trans (qlb hm _)).trans (qq _ _)).trans (qq _ _)
    · exact (qe3 hm c).trans (qq _ _)
  · exact Mon.refl c
end
def qtc (x : Bool × Nat × K × List N) : AF × List Ent :=
  (⟨[(2, .ptr 0 0), (4, accV 2 (encs x.2.2.2)), (5, .ptr 1 0), (9, .bool x.1)], []⟩,
    .blk [.nils, .int .i64 0, .int .i64 0, .int .i64 0, .str [], .int .i64 0, .int .i64 0, .int .i64 0] :: .blk (refC x.2.2.1).cells :: accE 5 (encs x.2.2.2))
section
variable {rec : K → K × N} {b : Nat} (hm : ∀ c, Mon c (rec c).1) (ih : ∀ c, c.good → em c < b → qbf Tryz.prog 54 [refC c] (.tup [refC (rec c).1, enc (rec c).2]))
include hm ih
theorem qgs (c : K) (hg : c.good) (hr : em c ≤ b) : qbf Tryz.prog 86 [refC c] (.tup [refC (qb5 rec c).1, enc (qb5 rec c).2]) := by
  have g1 : (qbp c 2).1.good := (qcx c 2).1 hg
  have hr1 : em (qbp c 2).1 ≤ b := by have := (qcx c 2).em; omega
  refine qu c0bj (by simp) (by simp only [go_sem]) (by simp only [go_sem]) fun hw => ?_
  repeat' (first | refine ql ?_ | ((first | refine qn ?_ | refine qbc (by rfl) ?_ | refine qy ?_ | refine qm ?_ | refine qc (qgu c 2) fun _ => ?_ | refine qc (qfb hm ih _ g1 hr1) fun _ => ?_ | refine qd  (qgu c 2) ?_ | refine qd  (qfb hm ih _ g1 hr1) ?_); simp only [go_sem, ↓reduceIte, Nat.reduceEqDiff, Nat.reduceAdd, Nat.reduceSub, Nat.reduceMul, Nat.reduceLT, Nat.reduceLeDiff, reduceCtorEq, Int.reduceToNat]) | ((first | refine qf ?_ ?_ | refine qe ?_ ?_) <;> intro hc <;> simp only [hc, go_sem, ↓reduceIte, Nat.reduceEqDiff, Nat.reduceAdd, Nat.reduceSub, Nat.reduceMul, Nat.reduceLT, Nat.reduceLeDiff, reduceCtorEq, Int.reduceToNat] <;> (try simp only [qb, qa, decide_eq_true_eq, decide_eq_false_iff_not, Bool.and_eq_true] at hc)) | refine And.intro (by first | assumption | omega | (have := qg (by assumption); omega) | (unfold qp; omega)) ?_ | fail)
  all_goals (simp only [qb5, qnw, enc, encs])
theorem qvj (c : K) (hg : c.good) (hr : em c ≤ b) : qbf Tryz.prog 53 [refC c] (.tup [refC (qdx rec c).1, .sl 5 (encs (qdx rec c).2)]) := by
  refine qu c0bk (by simp) (by simp only [go_sem]) (by simp only [go_sem]) fun hw => ?_
  have g1 : (qt c [40]).1.good := (q8 c _).1 hg
  have hr1 : em (qt c [40]).1 ≤ b := by have := (q8 c [40]).em; omega
  unfold qdx
  by_cases ha : qir c [61, 62] = true
  · rw [if_pos ha]
    by_cases ht : (qt c [40]).2 = true
    · rw [if_pos ht]
      generalize htg : qfi rec (qt c [40]).1 = tg
      have gt : tg.1.good := htg ▸ (qlb hm _).1 g1
      unfold qfi at htg
      by_cases hi : isK (qt c [40]).1 [41] = true
      · rw [if_pos hi] at htg
        subst htg
        repeat' (first | refine ql ?_ | refine qk ?_ | ((first | refine qn ?_ | refine qbc (by rfl) ?_ | refine qy ?_ | refine qm ?_ | refine qs ?_ | refine qi ?_ | refine qh ?_); simp (disch := first | omega | (simp only [List.length_set, List.length_append, List.length_cons, List.length_nil]; done) | (simp only [List.length_set, List.length_append, List.length_cons, List.length_nil]; omega)) only [ha, ht, hi, go_sem, ↓reduceIte, Nat.reduceEqDiff, Nat.reduceAdd, Nat.reduceSub, Nat.reduceMul, Nat.reduceLT, Nat.reduceLeDiff, reduceCtorEq, Int.reduceToNat]) | ((first | refine qf ?_ ?_ | refine qe ?_ ?_) <;> intro hc <;> simp only [hc, go_sem, ↓reduceIte, Nat.reduceEqDiff, Nat.reduceAdd, Nat.reduceSub, Nat.reduceMul, Nat.reduceLT, Nat.reduceLeDiff, reduceCtorEq, Int.reduceToNat] <;> (try simp only [qb, qa, decide_eq_true_eq, decide_eq_false_iff_not, Bool.and_eq_true] at hc)) | refine And.intro (by first | assumption | omega | (have := qg (by assumption); omega) | (unfold qp; omega)) ?_ | fail | ((first | refine qc (qei c hg.2.1 _) fun _ => ?_ | refine qc (qbk c _) fun _ => ?_ | refine qc (qc4 _ _) fun _ => ?_ | refine qc (qbg _ _) fun _ => ?_ | refine qd  (qei c hg.2.1 _) ?_ | refine qd  (qbk c _) ?_ | refine qd  (qc4 _ _) ?_ | refine qd  (qbg _ _) ?_); simp only [go_sem, ↓reduceIte, Nat.reduceEqDiff, Nat.reduceAdd, Nat.reduceSub, Nat.reduceMul, Nat.reduceLT, Nat.reduceLeDiff, reduceCtorEq, Int.reduceToNat]))
        rfl
      · rw [if_neg hi] at htg
        repeat' (first | refine ql ?_ | refine qk ?_ | ((first | refine qn ?_ | refine qbc (by rfl) ?_ | refine qy ?_ | refine qm ?_ | refine qs ?_ | refine qi ?_ | refine qh ?_); simp (disch := first | omega | (simp only [List.length_set, List.length_append, List.length_cons, List.length_nil]; done) | (simp only [List.length_set, List.length_append, List.length_cons, List.length_nil]; omega)) only [ha, ht, hi, go_sem, ↓reduceIte, Nat.reduceEqDiff, Nat.reduceAdd, Nat.reduceSub, Nat.reduceMul, Nat.reduceLT, Nat.reduceLeDiff, reduceCtorEq, Int.reduceToNat]) | ((first | refine qf ?_ ?_ | refine qe ?_ ?_) <;> intro hc <;> simp only [hc, go_sem, ↓reduceIte, Nat.reduceEqDiff, Nat.reduceAdd, Nat.reduceSub, Nat.reduceMul, Nat.reduceLT, Nat.reduceLeDiff, reduceCtorEq, Int.reduceToNat] <;> (try simp only [qb, qa, decide_eq_true_eq, decide_eq_false_iff_not, Bool.and_eq_true] at hc)) | refine And.intro (by first | assumption | omega | (have := qg (by assumption); omega) | (unfold qp; omega)) ?_ | fail | ((first | refine qc (qei c hg.2.1 _) fun _ => ?_ | refine qc (qbk c _) fun _ => ?_ | refine qc (qc4 _ _) fun _ => ?_ | refine qc (qbg _ _) fun _ => ?_ | refine qd  (qei c hg.2.1 _) ?_ | refine qd  (qbk c _) ?_ | refine qd  (qc4 _ _) ?_ | refine qd  (qbg _ _) ?_); simp only [go_sem, ↓reduceIte, Nat.reduceEqDiff, Nat.reduceAdd, Nat.reduceSub, Nat.reduceMul, Nat.reduceLT, Nat.reduceLeDiff, reduceCtorEq, Int.reduceToNat]))
        refine qby (S := Bool × Nat × K × List N) (fun x => x.2.2.1.good ∧ em x.2.2.1 ≤ b ∧ (x.1 = true → qd1 rec x.2.1 x.2.2.1 x.2.2.2 = tg ∧ em x.2.2.1 < x.2.1 ∧ x.2.2.2.length + em x.2.2.1 ≤ 1048578) ∧ (x.1 = false → tg = (x.2.2.1, x.2.2.2)))
          qtc (fun x => if x.1 = true then em x.2.2.1 + 1 else 0) ?_ ?_
        · refine qbn (true, em (qt c [40]).1 + 2, (qt c [40]).1, []) [1, 2] ⟨g1, hr1, fun _ => ⟨htg, by simp only; omega, ?_⟩, (by intro h; cases h)⟩ rfl (by simp) ?_ ?_ ?_
          · have h9 := g1.rest
            have h8 := qji (qt c [40]).1
            unfold rest at h8
            simp only [List.length_nil]
            omega
          all_goals simp only [qtc, encs, qbu, qbv]
          all_goals simp only [go_sem, ↓reduceIte, Nat.reduceEqDiff, Nat.reduceAdd, Nat.reduceSub, Nat.reduceMul, Nat.reduceLT, Nat.reduceLeDiff, reduceCtorEq, Int.reduceToNat]
        · rintro ⟨more, fu, d, acc⟩ ⟨i1, i2, i3, i4⟩
          simp only at i1 i2 i3 i4
          unfold qtc
          cases more with
          | false =>
            have i4 := i4 rfl
            subst i4
            clear i3
            by_cases h0 : acc = []
            · subst h0
              simp only [encs, qbu, qbv]
              repeat' (first | refine ql ?_ | refine qk ?_ | ((first | refine qn ?_ | refine qbc (by rfl) ?_ | refine qy ?_ | refine qm ?_ | refine qs ?_ | refine qi ?_ | refine qh ?_ | refine qc (qbg _ _) fun _ => ?_ | refine qd  (qbg _ _) ?_); simp only [go_sem, ↓reduceIte, Nat.reduceEqDiff, Nat.reduceAdd, Nat.reduceSub, Nat.reduceMul, Nat.reduceLT, Nat.reduceLeDiff, reduceCtorEq, Int.reduceToNat]) | ((first | refine qf ?_ ?_ | refine qe ?_ ?_) <;> intro hc <;> simp only [hc, go_sem, ↓reduceIte, Nat.reduceEqDiff, Nat.reduceAdd, Nat.reduceSub, Nat.reduceMul, Nat.reduceLT, Nat.reduceLeDiff, reduceCtorEq, Int.reduceToNat] <;> (try simp only [qb, qa, decide_eq_true_eq, decide_eq_false_iff_not, Bool.and_eq_true] at hc)) | refine And.intro (by first | assumption | omega | (have := qg (by assumption); omega) | (unfold qp; omega)) ?_ | fail)
            · have hne := qci h0
              simp only [qb4 hne, qb3 hne, qbz]
              repeat' (first | refine ql ?_ | refine qk ?_ | ((first | refine qn ?_ | refine qbc (by rfl) ?_ | refine qy ?_ | refine qm ?_ | refine qs ?_ | refine qi ?_ | refine qh ?_ | refine qc (qbg _ _) fun _ => ?_ | refine qd  (qbg _ _) ?_); simp only [go_sem, ↓reduceIte, Nat.reduceEqDiff, Nat.reduceAdd, Nat.reduceSub, Nat.reduceMul, Nat.reduceLT, Nat.reduceLeDiff, reduceCtorEq, Int.reduceToNat]) | ((first | refine qf ?_ ?_ | refine qe ?_ ?_) <;> intro hc <;> simp only [hc, go_sem, ↓reduceIte, Nat.reduceEqDiff, Nat.reduceAdd, Nat.reduceSub, Nat.reduceMul, Nat.reduceLT, Nat.reduceLeDiff, reduceCtorEq, Int.reduceToNat] <;> (try simp only [qb, qa, decide_eq_true_eq, decide_eq_false_iff_not, Bool.and_eq_true] at hc)) | refine And.intro (by first | assumption | omega | (have := qg (by assumption); omega) | (unfold qp; omega)) ?_ | fail)
          | true =>
            obtain ⟨i3, i5, i6⟩ := i3 rfl
            clear i4
            obtain ⟨fu, rfl⟩ : ∃ k, fu = k + 1 := ⟨fu - 1, by omega⟩
            rw [qd1] at i3
            have hcap : qp (acc.length + 1) 64 := capN (by omega)
            have j1 : (qb5 rec d).1.good := (qe3 hm d).1 i1
            have j2 := (qe3 hm d).em
            have j3 : (qt (qb5 rec d).1 [44]).1.good := (q8 _ _).1 j1
            have j4 := (q8 (qb5 rec d).1 [44]).em
            have k3 : (qt (qb5 rec d).1 [44]).2 = true → qd1 rec fu (qt (qb5 rec d).1 [44]).1 (acc ++ [(qb5 rec d).2]) = tg ∧ em (qt (qb5 rec d).1 [44]).1 < fu ∧ (acc ++ [(qb5 rec d).2]).length + em (qt (qb5 rec d).1 [44]).1 ≤ 1048578 := fun h => by
              rw [if_pos h] at i3
              have := qee h
              refine ⟨i3, by omega, ?_⟩
              simp only [List.length_append, List.length_cons, List.length_nil]; omega
            have k4 : (qt (qb5 rec d).1 [44]).2 = false → tg = ((qt (qb5 rec d).1 [44]).1, acc ++ [(qb5 rec d).2]) := fun h => by
              rw [if_neg (by rw [h]; simp)] at i3
              rw [qdl h, ← i3]
            have k5 : (if (qt (qb5 rec d).1 [44]).2 = true then em (qt (qb5 rec d).1 [44]).1 + 1 else 0) < em d + 1 := by
              split
              · rename_i h
                have := qee h
                omega
              · omega
            by_cases h0 : acc = []
            · subst h0
              simp only [encs, qbu, qbv]
              repeat' (first | refine ql ?_ | refine qk ?_ | ((first | refine qn ?_ | refine qbc (by rfl) ?_ | refine qy ?_ | refine qm ?_ | refine qs ?_ | refine qi ?_ | refine qh ?_ | refine qc (qgs hm ih d i1 i2) fun _ => ?_ | refine qc (qbk _ _) fun _ => ?_ | refine qd  (qgs hm ih d i1 i2) ?_ | refine qd  (qbk _ _) ?_); simp only [go_sem, ↓reduceIte, Nat.reduceEqDiff, Nat.reduceAdd, Nat.reduceSub, Nat.reduceMul, Nat.reduceLT, Nat.reduceLeDiff, reduceCtorEq, Int.reduceToNat]) | ((first | refine qf ?_ ?_ | refine qe ?_ ?_) <;> intro hc <;> simp only [hc, go_sem, ↓reduceIte, Nat.reduceEqDiff, Nat.reduceAdd, Nat.reduceSub, Nat.reduceMul, Nat.reduceLT, Nat.reduceLeDiff, reduceCtorEq, Int.reduceToNat] <;> (try simp only [qb, qa, decide_eq_true_eq, decide_eq_false_iff_not, Bool.and_eq_true] at hc)) | refine And.intro (by first | assumption | omega | (have := qg (by assumption); omega) | (unfold qp; omega)) ?_ | fail)
              refine qbn ((qt (qb5 rec d).1 [44]).2, fu, (qt (qb5 rec d).1 [44]).1, [] ++ [(qb5 rec d).2]) [0, 1, 4] ⟨⟨j3, by simp only; omega, k3, k4⟩, k5⟩ rfl (by simp) ?_ ?_ ?_
              all_goals simp only [qtc, ← qz, qct, qcs, List.nil_append, encs, qdg, qdh]
              all_goals simp only [go_sem, ↓reduceIte, Nat.reduceEqDiff, Nat.reduceAdd, Nat.reduceSub, Nat.reduceMul, Nat.reduceLT, Nat.reduceLeDiff, reduceCtorEq, Int.reduceToNat]
            · have hne := qci h0
              simp only [qb4 hne, qb3 hne, qbz]
              repeat' (first | refine ql ?_ | refine qk ?_ | ((first | refine qn ?_ | refine qbc (by rfl) ?_ | refine qy ?_ | refine qm ?_ | refine qs ?_ | refine qi ?_ | refine qh ?_ | refine qc (qgs hm ih d i1 i2) fun _ => ?_ | refine qc (qbk _ _) fun _ => ?_ | refine qd  (qgs hm ih d i1 i2) ?_ | refine qd  (qbk _ _) ?_); simp only [go_sem, ↓reduceIte, Nat.reduceEqDiff, Nat.reduceAdd, Nat.reduceSub, Nat.reduceMul, Nat.reduceLT, Nat.reduceLeDiff, reduceCtorEq, Int.reduceToNat]) | ((first | refine qf ?_ ?_ | refine qe ?_ ?_) <;> intro hc <;> simp only [hc, go_sem, ↓reduceIte, Nat.reduceEqDiff, Nat.reduceAdd, Nat.reduceSub, Nat.reduceMul, Nat.reduceLT, Nat.reduceLeDiff, reduceCtorEq, Int.reduceToNat] <;> (try simp only [qb, qa, decide_eq_true_eq, decide_eq_false_iff_not, Bool.and_eq_true] at hc)) | refine And.intro (by first | assumption | omega | (have := qg (by assumption); omega) | (unfold qp; omega)) ?_ | fail)
              refine qbn ((qt (qb5 rec d).1 [44]).2, fu, (qt (qb5 rec d).1 [44]).1, acc ++ [(qb5 rec d).2]) [0, 1, 5] ⟨⟨j3, by simp only; omega, k3, k4⟩, k5⟩ rfl (by simp) ?_ ?_ ?_
              all_goals simp only [qtc, ← qz, qct, qcs, List.nil_append, encs, qdg, qdh]
              all_goals simp only [go_sem, ↓reduceIte, Nat.reduceEqDiff, Nat.reduceAdd, Nat.reduceSub, Nat.reduceMul, Nat.reduceLT, Nat.reduceLeDiff, reduceCtorEq, Int.reduceToNat]
              rw [qz, qcb, qc5]; exact ⟨rfl, rfl⟩
    · rw [if_neg ht]
      repeat' (first | refine ql ?_ | refine qk ?_ | ((first | refine qn ?_ | refine qbc (by rfl) ?_ | refine qy ?_ | refine qm ?_ | refine qs ?_ | refine qi ?_ | refine qh ?_); simp (disch := first | omega | (simp only [List.length_set, List.length_append, List.length_cons, List.length_nil]; done) | (simp only [List.length_set, List.length_append, List.length_cons, List.length_nil]; omega)) only [ha, ht, go_sem, ↓reduceIte, Nat.reduceEqDiff, Nat.reduceAdd, Nat.reduceSub, Nat.reduceMul, Nat.reduceLT, Nat.reduceLeDiff, reduceCtorEq, Int.reduceToNat]) | ((first | refine qf ?_ ?_ | refine qe ?_ ?_) <;> intro hc <;> simp only [hc, go_sem, ↓reduceIte, Nat.reduceEqDiff, Nat.reduceAdd, Nat.reduceSub, Nat.reduceMul, Nat.reduceLT, Nat.reduceLeDiff, reduceCtorEq, Int.reduceToNat] <;> (try simp only [qb, qa, decide_eq_true_eq, decide_eq_false_iff_not, Bool.and_eq_true] at hc)) | refine And.intro (by first | assumption | omega | (have := qg (by assumption); omega) | (unfold qp; omega)) ?_ | fail | ((first | refine qc (qei c hg.2.1 _) fun _ => ?_ | refine qc (qbk c _) fun _ => ?_ | refine qc (qbg _ _) fun _ => ?_ | refine qc (qgs hm ih c hg hr) fun _ => ?_ | refine qd  (qei c hg.2.1 _) ?_ | refine qd  (qbk c _) ?_ | refine qd  (qbg _ _) ?_ | refine qd  (qgs hm ih c hg hr) ?_); simp only [go_sem, ↓reduceIte, Nat.reduceEqDiff, Nat.reduceAdd, Nat.reduceSub, Nat.reduceMul, Nat.reduceLT, Nat.reduceLeDiff, reduceCtorEq, Int.reduceToNat]))
      rfl
  · rw [if_neg ha]
    repeat' (first | refine ql ?_ | refine qk ?_ | ((first | refine qn ?_ | refine qbc (by rfl) ?_ | refine qy ?_ | refine qm ?_ | refine qs ?_ | refine qi ?_ | refine qh ?_); simp (disch := first | omega | (simp only [List.length_set, List.length_append, List.length_cons, List.length_nil]; done) | (simp only [List.length_set, List.length_append, List.length_cons, List.length_nil]; omega)) only [ha, go_sem, ↓reduceIte, Nat.reduceEqDiff, Nat.reduceAdd, Nat.reduceSub, Nat.reduceMul, Nat.reduceLT, Nat.reduceLeDiff, reduceCtorEq, Int.reduceToNat]) | ((first | refine qf ?_ ?_ | refine qe ?_ ?_) <;> intro hc <;> simp only [hc, go_sem, ↓reduceIte, Nat.reduceEqDiff, Nat.reduceAdd, Nat.reduceSub, Nat.reduceMul, Nat.reduceLT, Nat.reduceLeDiff, reduceCtorEq, Int.reduceToNat] <;> (try simp only [qb, qa, decide_eq_true_eq, decide_eq_false_iff_not, Bool.and_eq_true] at hc)) | refine And.intro (by first | assumption | omega | (have := qg (by assumption); omega) | (unfold qp; omega)) ?_ | fail | ((first | refine qc (qei c hg.2.1 _) fun _ => ?_ | refine qd  (qei c hg.2.1 _) ?_); simp only [go_sem, ↓reduceIte, Nat.reduceEqDiff, Nat.reduceAdd, Nat.reduceSub, Nat.reduceMul, Nat.reduceLT, Nat.reduceLeDiff, reduceCtorEq, Int.reduceToNat]))
    rfl
end
def qja (f : Nat) (c : K) : K × N := ((qcg f (qdx (qcg f) c).1).1, qlp (qbd c).pos (qdx (qcg f) c).2 (qcg f (qdx (qcg f) c).1).2)
theorem qll {rec : K → K × N} (hm : ∀ c, Mon c (rec c).1) : ∀ (f : Nat) (c : K) (acc : List N), (qd1 rec f c acc).2.length ≤ acc.length + em c + 1
  | 0, c, acc => by simp only [qd1]; omega
  | f + 1, c, acc => by
    rw [qd1]
    split
    · rename_i h
      have h1 := qll hm f (qt (qb5 rec c).1 [44]).1 (acc ++ [(qb5 rec c).2])
      have h2 := qee h
      have h3 := (qe3 hm c).em
      simp only [List.length_append, List.length_cons, List.length_nil] at h1
      omega
    · simp only [List.length_append, List.length_cons, List.length_nil]; omega
theorem qs8 {rec : K → K × N} (hm : ∀ c, Mon c (rec c).1) (c : K) : (qdx rec c).2.length ≤ em c + 1 := by
  unfold qdx
  split
  · split
    · rename_i h
      have h2 := qee h
      unfold qfi
      split
      · simp
      · have := qll hm (em (qt c [40]).1 + 2) (qt c [40]).1 []
        simp only [List.length_nil] at this
        simp only; omega
    · simp
  · simp
theorem q0n (f : Nat) (c : K) (hg : c.good) (hr : em c < f) : qbf Tryz.prog 26 [refC c] (.tup [refC (qja f c).1, enc (qja f c).2]) := by
  have hm := qd7 f
  have g1 : (qdx (qcg f) c).1.good := (qhm hm c).1 hg
  have hr1 : em (qdx (qcg f) c).1 < f := by have := (qhm hm c).em; omega
  have hP := qvj hm (qw2 f) c hg (by omega)
  have hA := qw2 f _ g1 hr1
  have hln := qs8 hm c
  have hem := qji c
  have hrs := hg.rest
  unfold rest at hem
  unfold qja
  refine qu c0bl (by simp) (by simp only [go_sem]) (by simp only [go_sem]) fun hw => ?_
  generalize hp : qdx (qcg f) c = p at *
  by_cases h0 : p.2 = []
  · rw [h0] at hP ⊢
    repeat' (first | refine ql ?_ | ((first | refine qn ?_ | refine qbc (by rfl) ?_ | refine qy ?_ | refine qm ?_); simp (disch := first | omega | (simp only [List.length_set, List.length_append, List.length_cons, List.length_nil]; done) | (simp only [List.length_set, List.length_append, List.length_cons, List.length_nil]; omega)) only [List.length_nil, go_sem, ↓reduceIte, Nat.reduceEqDiff, Nat.reduceAdd, Nat.reduceSub, Nat.reduceMul, Nat.reduceLT, Nat.reduceLeDiff, reduceCtorEq, Int.reduceToNat]) | ((first | refine qf ?_ ?_ | refine qe ?_ ?_) <;> intro hc <;> simp only [hc, go_sem, ↓reduceIte, Nat.reduceEqDiff, Nat.reduceAdd, Nat.reduceSub, Nat.reduceMul, Nat.reduceLT, Nat.reduceLeDiff, reduceCtorEq, Int.reduceToNat] <;> (try simp only [qb, qa, decide_eq_true_eq, decide_eq_false_iff_not, Bool.and_eq_true] at hc)) | refine And.intro (by first | assumption | omega | (have := qg (by assumption); omega) | (unfold qp; omega)) ?_ | fail | ((first | refine qc (qw c) fun _ => ?_ | refine qc hP fun _ => ?_ | refine qc hA fun _ => ?_ | refine qd  (qw c) ?_ | refine qd  hP ?_ | refine qd  hA ?_); simp only [go_sem, ↓reduceIte, Nat.reduceEqDiff, Nat.reduceAdd, Nat.reduceSub, Nat.reduceMul, Nat.reduceLT, Nat.reduceLeDiff, reduceCtorEq, Int.reduceToNat]))
    simp only [qlp, enc, encs, List.nil_append]
  · have hne := qci h0
    have hnl : ¬ p.2.length = 0 := fun h => h0 (List.length_eq_zero_iff.1 h)
    have hc1 : qp p.2.length 64 := capN (by omega)
    have hc2 : qp (p.2.length + 1) 64 := capN (by omega)
    repeat' (first | refine ql ?_ | ((first | refine qn ?_ | refine qbc (by rfl) ?_ | refine qy ?_ | refine qm ?_); simp (disch := first | omega | (simp only [List.length_set, List.length_append, List.length_cons, List.length_nil]; done) | (simp only [List.length_set, List.length_append, List.length_cons, List.length_nil]; omega)) only [hnl, hc1, hc2, go_sem, ↓reduceIte, Nat.reduceEqDiff, Nat.reduceAdd, Nat.reduceSub, Nat.reduceMul, Nat.reduceLT, Nat.reduceLeDiff, reduceCtorEq, Int.reduceToNat]) | ((first | refine qf ?_ ?_ | refine qe ?_ ?_) <;> intro hc <;> simp only [hc, go_sem, ↓reduceIte, Nat.reduceEqDiff, Nat.reduceAdd, Nat.reduceSub, Nat.reduceMul, Nat.reduceLT, Nat.reduceLeDiff, reduceCtorEq, Int.reduceToNat] <;> (try simp only [qb, qa, decide_eq_true_eq, decide_eq_false_iff_not, Bool.and_eq_true] at hc)) | refine And.intro (by first | assumption | omega | (have := qg (by assumption); omega) | (unfold qp; omega)) ?_ | fail | ((first | refine qc (qw c) fun _ => ?_ | refine qc hP fun _ => ?_ | refine qc hA fun _ => ?_ | refine qd  (qw c) ?_ | refine qd  hP ?_ | refine qd  hA ?_); simp only [go_sem, ↓reduceIte, Nat.reduceEqDiff, Nat.reduceAdd, Nat.reduceSub, Nat.reduceMul, Nat.reduceLT, Nat.reduceLeDiff, reduceCtorEq, Int.reduceToNat]))
    simp only [qlp, enc, qz, qcb, and_self]

/-- The program's state is the reference's, and so is what is read, if there is something; else something failed. -/
def qed {α : Type} (p : K × Option α) (r : K × α) : Prop := p.1 = r.1 ∧ (∀ n, p.2 = some n → n = r.2) ∧ (p.2 = none → p.1.err ≠ 0)
theorem qje {rec : K → K × N} {c : K} (h : c.err ≠ 0) : qcy rec c = (c, N0) := if_neg h
theorem qtd {rec : K → K × N} {c : K} (h : c.err ≠ 0) (f : Nat) (acc : List N) : qeb rec f c acc = (c, acc) := by
  cases f with
  | zero => rfl
  | succ f => rw [qeb, if_neg (by rw [q4r h]; simp)]
theorem qnx {rec : K → K × N} {c : K} (h : c.err ≠ 0) : qdb rec c = (c, N0) := by
  rw [qdb, qfo h, if_neg (by decide), qje h]
theorem qly (f : Nat) {c : K} (h : c.err ≠ 0) : qcg f c = (c, N0) := by
  cases f with
  | zero => rfl
  | succ f => rw [qcg, qh0 h, qnx h, qft h, if_neg (by simp), qcl h]
section
variable {rp : K → K × Option N} {rr : K → K × N} {b : Nat} (hx : ∀ c : K, c.err ≠ 0 → (rr c).1 = c) (ih : ∀ c, em c < b → qed (rp c) (rr c))
include hx ih
theorem qkx {c : K} (hr : em c ≤ b) : qed (qb2 rp c) (qcy rr c) := by
  by_cases h0 : c.err = 0
  · unfold qb2 qcy
    rw [if_pos h0]
    by_cases h1 : (qbd c).kind = 1
    · rw [if_pos h1, if_pos h1]; exact ⟨rfl, (fun n h => by cases h; rfl), (fun h => by cases h)⟩
    · rw [if_neg h1, if_neg h1]
      by_cases h2 : (qbd c).kind = 2
      · rw [if_pos h2, if_pos h2]; exact ⟨rfl, (fun n h => by cases h; rfl), (fun h => by cases h)⟩
      · rw [if_neg h2, if_neg h2]
        by_cases hk : isK c [40] = true
        · rw [if_pos hk, if_pos hk]
          have hem := qez hk
          by_cases he : (qj c).2 = true
          · rw [if_pos he]
            have hk' : isK (qj c).1 [40] = true := by rw [qm5 he]; exact hk
            rw [qnm hk'] at hem ⊢
            simp only at hem ⊢
            obtain ⟨a1, a2, a3⟩ := ih (q9 (qj c).1) (by omega)
            rw [← a1]
            generalize rp (q9 (qj c).1) = r at *
            obtain ⟨d, o⟩ := r
            simp only at a1 a2 a3 ⊢
            cases o with
            | none =>
              have h3 := a3 rfl
              rw [if_neg (by simp), qb8 h3, qcl h3]
              exact ⟨rfl, (fun n h => by cases h), fun _ => h3⟩
            | some n =>
              rw [if_pos (by rfl)]
              by_cases hw : (qv d [41]).2 = true
              · rw [if_pos hw]
                exact ⟨rfl, fun m h => a2 m h, (fun h => by cases h)⟩
              · rw [if_neg hw]
                have h3 := qec (by simpa using hw)
                exact ⟨rfl, (fun n h => by cases h), fun _ => by simp only; rw [qcl h3]; exact h3⟩
          · have he' : (qj c).2 = false := by simpa using he
            have h1 := qf9 he'
            rw [if_neg he]
            rw [qb8 h1] at hem ⊢
            simp only at hem ⊢
            rw [hx _ h1, qb8 h1, qcl h1]
            exact ⟨rfl, (fun n h => by cases h), fun _ => h1⟩
        · rw [if_neg hk, if_neg hk]
          exact ⟨rfl, (fun n h => by cases h), fun _ => qhf c⟩
  · rw [qje h0, qb2, qfo h0, if_neg (by decide), if_neg (by decide), if_neg (by rw [qvw h0]; simp), qf8 h0]
    exact ⟨rfl, (fun n h => by cases h), fun _ => h0⟩
theorem qnv (hp : ∀ c, Mon c (rp c).1) (hm : ∀ c, Mon c (rr c).1) : ∀ (f g : Nat) (c : K) (acc : List N), rest c < f → em c < g → em c ≤ b → qed (qdz rp f c acc) (qeb rr g c acc)
  | 0, _, _, _ => fun h _ _ => by omega
  | _, 0, _, _ => fun _ h _ => by omega
  | f + 1, g + 1, c, acc => fun hf hg hb => by
    rw [qdz, qeb]
    by_cases hk : begT c = true
    · rw [if_pos hk, if_pos hk]
      obtain ⟨a1, a2, a3⟩ := qkx hx ih hb
      have hl := qh4 hm hk
      rw [← a1] at hl ⊢
      cases ho : (qb2 rp c).2 with
      | none =>
        have h3 := a3 ho
        rw [if_neg (by simp), qtd h3]
        exact ⟨rfl, (fun n h => by cases h), fun _ => h3⟩
      | some n =>
        rw [if_pos (by rfl), ← a2 n ho]
        exact qnv hp hm f g _ _ (by have := qgb hp (c := c) (by rw [ho]; rfl); omega) (by omega) (by omega)
    · rw [if_neg hk, if_neg hk]
      exact ⟨rfl, (fun l h => by cases h; rfl), (fun h => by cases h)⟩
theorem q0b (hp : ∀ c, Mon c (rp c).1) (hm : ∀ c, Mon c (rr c).1) {c : K} (hr : em c ≤ b) : qed (qce rp c) (qdb rr c) := by
  unfold qce qdb
  by_cases hk : (qbd c).kind = 2
  · rw [if_pos hk, if_pos hk]
    have h1 := qbo (c := c) (by omega)
    have h2 := qiy (c := c) (by omega)
    obtain ⟨a1, a2, a3⟩ := qnv hx ih hp hm (rest c + 1) (em (q9 c) + 1) (q9 c) [] (by omega) (by omega) (by omega)
    refine ⟨a1, fun n h => ?_, fun h => a3 (by simpa using h)⟩
    obtain ⟨l, hl, rfl⟩ := Option.map_eq_some_iff.1 h
    rw [a2 l hl]
  · rw [if_neg hk, if_neg hk]
    exact qkx hx ih hr
theorem qqn {c : K} (hr : em c ≤ b) : qed (qbq rp c) (qb5 rr c) := by
  have h1 := (qcx c 2).em
  obtain ⟨a1, a2, a3⟩ := qkx hx ih (c := (qbp c 2).1) (by omega)
  unfold qbq qb5
  by_cases hk : (qbp c 2).2 = true
  · rw [if_pos hk]
    refine ⟨a1, fun n h => ?_, fun h => a3 (by simpa using h)⟩
    obtain ⟨m, hm, rfl⟩ := Option.map_eq_some_iff.1 h
    rw [a2 m hm]
  · rw [if_neg hk]
    have h2 := qyf (c := c) (k := 2) (by simpa using hk)
    rw [qje h2]
    exact ⟨rfl, (fun n h => by cases h), fun _ => h2⟩
end
theorem qod : ∀ (f : Nat) (c : K), em c < f → qed (qca f c) (qcg f c)
  | 0, _ => fun h => by omega
  | f + 1, c => fun hf => by
    have ih := qod f
    have hx : ∀ c : K, c.err ≠ 0 → (qcg f c).1 = c := fun c h => by rw [qly f h]
    rw [qca, qcg]
    by_cases he : (qj c).2 = true
    · have h1 := (qx c).em
      rw [if_pos he]
      obtain ⟨a1, a2, a3⟩ := q0b hx ih (qg3 f) (qd7 f) (c := (qj c).1) (by omega)
      have hl := (qkl (qd7 f) (qj c).1).em
      rw [← a1] at hl ⊢
      cases ho : (qce (qca f) (qj c).1).2 with
      | none =>
        have h3 := a3 ho
        rw [if_neg (by simp), qft h3, if_neg (by simp)]
        exact ⟨rfl, (fun n h => by cases h), fun _ => by simp only; rw [qcl h3]; exact h3⟩
      | some n =>
        rw [if_pos (by rfl), ← a2 n ho]
        by_cases ht : (qt (qce (qca f) (qj c).1).1 [45, 62]).2 = true
        · rw [if_pos ht, if_pos ht]
          have h5 := qee ht
          obtain ⟨b1, b2, b3⟩ := ih (qt (qce (qca f) (qj c).1).1 [45, 62]).1 (by omega)
          refine ⟨by simp only; rw [b1], fun m h => ?_, fun h => ?_⟩
          · obtain ⟨q, hq, rfl⟩ := Option.map_eq_some_iff.1 h
            rw [b2 q hq]; rfl
          · have h6 := b3 (by simpa using h)
            simp only
            rw [qcl h6]; exact h6
        · rw [if_neg ht, if_neg ht]
          exact ⟨rfl, (fun m h => by cases h; rfl), (fun h => by cases h)⟩
    · have he' : (qj c).2 = false := by simpa using he
      have h1 := qf9 he'
      rw [if_neg he, qnx h1, qft h1, if_neg (by simp), qcl h1]
      exact ⟨rfl, (fun n h => by cases h), fun _ => h1⟩
section
variable {rp : K → K × Option N} {rr : K → K × N} {b : Nat} (hx : ∀ c : K, c.err ≠ 0 → (rr c).1 = c) (ih : ∀ c, em c < b → qed (rp c) (rr c)) (hp : ∀ c, Mon c (rp c).1) (hm : ∀ c, Mon c (rr c).1)
include hx ih hp hm
theorem qmp : ∀ (f g : Nat) (c : K) (acc : List N), rest c < f → em c < g → em c ≤ b → qed (qeh rp true f c acc) (qd1 rr g c acc)
  | 0, _, _, _ => fun h _ _ => by omega
  | _, 0, _, _ => fun _ h _ => by omega
  | f + 1, g + 1, c, acc => fun hf hg hb => by
    rw [qeh, qd1]
    obtain ⟨a1, a2, a3⟩ := qqn hx ih hb
    have hl := (qe3 hm c).em
    rw [← a1] at hl ⊢
    cases ho : (qbq rp c).2 with
    | none =>
      have h3 := a3 ho
      rw [if_neg (by simp), qft h3, if_neg (by simp)]
      exact ⟨rfl, (fun n h => by cases h), fun _ => h3⟩
    | some n =>
      rw [if_pos (by rfl), Bool.true_and, ← a2 n ho]
      by_cases ht : (qt (qbq rp c).1 [44]).2 = true
      · rw [if_pos ht, if_pos ht]
        have h5 := qee ht
        have h6 := qi0 hp (c := c) (by rw [ho]; rfl)
        have h7 := (q8 (qbq rp c).1 [44]).2.1
        exact qmp f g _ _ (by omega) (by omega) (by omega)
      · rw [if_neg ht, if_neg ht]
        exact ⟨rfl, (fun l h => by cases h; rfl), (fun h => by cases h)⟩
/-- The ends of a context. -/
theorem qwb {c : K} (hg : ∀ t ∈ c.l, t.kind ≠ 0) (hr : em c ≤ b) : qed (qbj rp c) (qdx rr c) := by
  unfold qbj qdx
  by_cases ha : qir c [61, 62] = true
  · rw [if_pos ha, if_pos ha]
    unfold qhl
    by_cases ht : (qt c [40]).2 = true
    · rw [if_pos ht, ht, Bool.true_and]
      have h5 := qee ht
      have hB : qed (if isK (qt c [40]).1 [41] = true then ((qt c [40]).1, some []) else qeh rp true (rest (qt c [40]).1 + 1) (qt c [40]).1 []) (qfi rr (qt c [40]).1) := by
        unfold qfi
        split
        · exact ⟨rfl, (fun l h => by cases h; rfl), (fun h => by cases h)⟩
        · exact qmp hx ih hp hm _ _ _ _ (by omega) (by omega) (by omega)
      obtain ⟨a1, a2, a3⟩ := hB
      generalize (if isK (qt c [40]).1 [41] = true then ((qt c [40]).1, some []) else qeh rp true (rest (qt c [40]).1 + 1) (qt c [40]).1 []) = p at *
      rw [← a1]
      unfold qge
      cases ho : p.2 with
      | none =>
        have h3 := a3 ho
        rw [if_neg (by simp), qb8 h3, qb8 h3]
        exact ⟨rfl, (fun n h => by cases h), fun _ => h3⟩
      | some l =>
        rw [if_pos (by rfl), if_pos rfl, ← a2 l ho]
        by_cases hw : (qv p.1 [41]).2 = true
        · rw [if_pos hw]
          by_cases hw2 : (qv (qv p.1 [41]).1 [61, 62]).2 = true
          · rw [if_pos hw2]; exact ⟨rfl, (fun m h => by cases h; rfl), (fun h => by cases h)⟩
          · rw [if_neg hw2]
            exact ⟨rfl, (fun n h => by cases h), fun _ => qec (by simpa using hw2)⟩
        · rw [if_neg hw]
          have h3 := qec (c := p.1) (x := [41]) (by simpa using hw)
          rw [qb8 h3]
          exact ⟨rfl, (fun n h => by cases h), fun _ => h3⟩
    · have ht' : (qt c [40]).2 = false := by simpa using ht
      have hsm := qdl ht'
      rw [if_neg ht, ht', hsm, Bool.false_and, if_neg (by simp)]
      unfold qge
      obtain ⟨a1, a2, a3⟩ := qqn hx ih hr
      rw [qeh, ← a1]
      cases ho : (qbq rp c).2 with
      | none =>
        have h3 := a3 ho
        rw [if_neg (by simp), if_neg (by simp), qb8 h3]
        exact ⟨rfl, (fun n h => by cases h), fun _ => h3⟩
      | some n =>
        rw [if_pos (by rfl), Bool.false_and, if_neg (by simp), if_pos (by rfl), if_neg (by simp), ← a2 n ho]
        simp only [Option.getD_some, List.nil_append]
        by_cases hw : (qv (qbq rp c).1 [61, 62]).2 = true
        · rw [if_pos hw]; exact ⟨rfl, (fun m h => by cases h; rfl), (fun h => by cases h)⟩
        · rw [if_neg hw]
          exact ⟨rfl, (fun n h => by cases h), fun _ => qec (by simpa using hw)⟩
  · rw [if_neg ha, if_neg ha]
    by_cases he : c.err = 0
    · have hf : qpr c = false := by
        unfold qpr
        by_cases hl : c.at' < c.l.length
        · have hk : (qbd c).kind ≠ 0 := by rw [qsg he (by omega)]; exact hg _ (qxv hl)
          rw [qrj he (by omega), decide_eq_false hk]; rfl
        · rw [qn8 he (by omega)]; rfl
      rw [hf]
      exact ⟨rfl, (fun m h => by cases h; rfl), (fun h => by cases h)⟩
    · have hf : qpr c = true := by
        unfold qpr
        rw [qlj he, qfo he]
        simp [he, T0]
      rw [hf]
      exact ⟨rfl, (fun m h => by cases h), fun _ => he⟩
end
theorem qy0 (f : Nat) (c : K) (hg : ∀ t ∈ c.l, t.kind ≠ 0) (hr : em c < f) : qed (qe4 f c) (qja f c) := by
  have hx : ∀ c : K, c.err ≠ 0 → (qcg f c).1 = c := fun c h => by rw [qly f h]
  obtain ⟨a1, a2, a3⟩ := qwb hx (qod f) (qg3 f) (qd7 f) hg (b := f) (by omega)
  have hl := (qhm (qd7 f) c).em
  unfold qe4 qja
  rw [← a1] at hl ⊢
  cases ho : (qbj (qca f) c).2 with
  | none =>
    have h3 := a3 ho
    rw [if_neg (by simp), qly f h3]
    exact ⟨rfl, (fun n h => by cases h), fun _ => h3⟩
  | some l =>
    rw [if_pos (by rfl), ← a2 l ho]
    obtain ⟨b1, b2, b3⟩ := qod f (qbj (qca f) c).1 (by omega)
    refine ⟨b1, fun m h => ?_, fun h => b3 (by simpa using h)⟩
    obtain ⟨q, hq, rfl⟩ := Option.map_eq_some_iff.1 h
    rw [b2 q hq]; rfl
theorem qkv : ∀ {l : List T} {t : T}, t ∈ qgj l → t.kind ≠ 0
  | [], t, h => by simp [qgj] at h
  | u :: r, t, h => by
    rw [qgj] at h
    split at h
    · simp at h
    · rename_i hk
      rcases List.mem_cons.1 h with rfl | h
      · exact hk
      · exact qkv h
end Go.Proofs.YtmekebfgmjaenaaGreat
