/- Texts of this proof, joined. -/
import Derived.Test.YtlmcofjcpadmiaaGreatBay
import Derived.Test.YtlmcofjcpadmiaaGreatBaz

/- types: contexts: the program -/
set_option maxRecDepth 4000
namespace Go.Proofs.YtlmcofjcpadmiaaGreat
open Go Go.RowKit Go.V
set_option linter.unusedVariables false
set_option linter.unusedSimpArgs false

theorem qed (c : K) (k : Int) : Mon c (kindK c k).1 := by
 unfold kindK
 split
 ·exact qcb c
 ·exact qg1 c 5
theorem qq5 {c : K} {k : Int} (h : (kindK c k).2 = true) : c.err = 0 ∧ (qt c).kind = k := by
 unfold kindK at h
 split at h
 ·rename_i h1
  simp only [Bool.and_eq_true, decide_eq_true_eq] at h1
  exact h1
 ·cases h
theorem q1s {c : K} {k : Int} (h : (kindK c k).2 = true) : kindK c k = (qj c, true) ∧ qja c k = qt c := by
 obtain ⟨h1, h2⟩ := qq5 h
 exact ⟨qqh h1 h2, qt5 h1 h2⟩
def qqi (c : K) : Bool := !decide ((qiq c).2 = 0) && (!decide ((qiq c).2 = 5) || decide ((qt c).kind = 0))
theorem qxt (c : K) (hk : c.ok) : qbq Tryz.prog 181 (curE c) (curE c) [.ptr 0 0] (.bool (qqi c)) := by
 refine qk c0dy 1 (by simp) (by simp) ?_
 repeat' (first | refine vs_ ?_ | ((first | refine vr_ ?_ | refine qb1v hk ?_ | refine qcx ?_ | (refine cs_ ?_ ?_ <;> intro hc) | refine cj_ ?_ | fail) <;> (try refine ev_ ?_)) | with_reducible exact ti_)
 all_goals (unfold qqi; simp_all)
theorem qbeo {c : K} {L : List Ent} {Q : List Ent → VO → Prop} (hk : c.ok) (hq : Q (curE c :: L) (.val (.bool (qqi c)))) : VApp Tryz.prog (curE c :: L) (.fn 181 [] []) [.ptr 0 0] Q := qbh (qxt c hk) (qo _ _) (qo _ _) rfl rfl fun _ => hq
def qqm (t : T) (n : N) : N := .mk 3 t.pos 0 t.text [n]
def qba (rec : K → K × Option N) (c : K) : K × Option N :=
 if (kindK c 2).2 = true then ((qbf rec (kindK c 2).1).1, (qbf rec (kindK c 2).1).2.map (qqm (qja c 2)))
 else ((kindK c 2).1, none)
theorem qyr {c : K} {L : List Ent} {t : T} {n : N} {b : Bool} {Q : List Ent → VO → Prop} (hq : Q (curE c :: L) (.val (resP (qkj (qqm t n) b)))) :
 VApp Tryz.prog (curE c :: L) (.fn 147 [] []) [.ptr 0 0, .agg [.int .i64 3, .int .i64 t.pos, .int .i64 0, .str t.text, .sl 5 [enc n]], .bool b] Q := by
 have h := qr8 (n := qqm t n) hq
 simpa only [qqm, enc, encs] using h
theorem q3g {r : Option N} {t : T} : qkj (qqm t (r.getD N0)) r.isSome = r.map (qqm t) := qpo
section
variable {rec : K → K × Option N} {b : Nat} (hm : ∀ c, Mon c (rec c).1) (ih : ∀ c, c.good → rest c < b → qbq Tryz.prog 93 (curE c) (curE (rec c).1) [.ptr 0 0] (resP (rec c).2))
include hm ih
theorem qla (c : K) (hg : c.good) (hr : rest c ≤ b) : qbq Tryz.prog 182 (curE c) (curE (qba rec c).1) [.ptr 0 0] (resP (qba rec c).2) := by
 have g1 : (kindK c 2).1.good := (qed c 2).1 hg
 have hr1 : rest (kindK c 2).1 ≤ b := by have := (qed c 2).2.1; omega
 refine qk c0dz 1 (by simp) (by simp) ?_
 repeat' (first | refine vs_ ?_ | ((first | refine vr_ ?_ | refine qpe hg.ok ?_ | refine qcu (qh8 hm ih _ g1 hr1) rfl ?_ | refine qyr ?_ | (refine cs_ ?_ ?_ <;> intro hc) | refine cj_ ?_ | fail) <;> (try refine ev_ ?_)) | with_reducible exact ti_)
 all_goals (try simp only [q3g])
 all_goals (unfold qba; simp only [*, qdg, Int.reduceEq, if_true, if_false, reduceIte, Bool.false_eq_true, Option.getD_none, Option.getD_some, Option.isSome_none, Option.isSome_some, and_self, true_and, and_true]; try rfl)
end
set_option maxRecDepth 4000

def qds (rec : K → K × Option N) (many : Bool) : Nat → K → List N → K × Option (List N)
 | 0, c, _ => (c, none)
 | f + 1, c, acc =>
   if (qba rec c).2.isSome = true then
    if (many && (qm (qba rec c).1 [44]).2) = true then qds rec many f (qm (qba rec c).1 [44]).1 (acc ++ [(qba rec c).2.getD N0])
    else ((qba rec c).1, some (acc ++ [(qba rec c).2.getD N0]))
   else ((qba rec c).1, none)
def qew (many : Bool) (r : K × Option (List N)) : K × Option (List N) :=
 if r.2.isSome = true then
  if many = true then
   if (qx r.1 [41]).2 = true then ((qx (qx r.1 [41]).1 [61, 62]).1, if (qx (qx r.1 [41]).1 [61, 62]).2 = true then r.2 else none)
   else ((qx r.1 [41]).1, none)
  else ((qx r.1 [61, 62]).1, if (qx r.1 [61, 62]).2 = true then r.2 else none)
 else (r.1, none)
def qg5 (rec : K → K × Option N) (c : K) : K × Option (List N) :=
 if ((qm c [40]).2 && isK (qm c [40]).1 [41]) = true then ((qm c [40]).1, some []) else qds rec (qm c [40]).2 (rest (qm c [40]).1 + 1) (qm c [40]).1 []
def qw (rec : K → K × Option N) (c : K) : K × Option (List N) :=
 if qjf c [61, 62] = true then qew (qm c [40]).2 (qg5 rec c)
 else (c, if qqi c = true then none else some [])
section
variable {rec : K → K × Option N} (hm : ∀ c, Mon c (rec c).1)
include hm
theorem qe8 (c : K) : Mon c (qba rec c).1 := by
 unfold qba
 split
 ·exact (qed c 2).trans (qd9 hm _)
 ·exact qed c 2
theorem qkv {c : K} (h : (qba rec c).2.isSome = true) : rest (qba rec c).1 < rest c := by
 unfold qba at h ⊢
 split at h
 ·rename_i h1
  rw [if_pos h1]
  have h2 := (qed c 2).2.1
  have h3 := qei hm (c := (kindK c 2).1) (by simpa using h)
  simp only; omega
 ·cases h
theorem qpb (many : Bool) : ∀ (f : Nat) (c : K) (acc : List N), Mon c (qds rec many f c acc).1
 | 0, c, acc => Mon.refl c
 | f + 1, c, acc => by
   rw [qds]
   split
   ·split
    ·exact ((qe8 hm c).trans (q8 _ _)).trans (qpb many f _ _)
    ·exact qe8 hm c
   ·exact qe8 hm c
theorem qxj (c : K) : Mon c (qg5 rec c).1 := by
 unfold qg5
 split
 ·exact q8 c _
 ·exact (q8 c _).trans (qpb hm _ _ _ _)
theorem qf4 (c : K) : Mon c (qw rec c).1 := by
 unfold qw qew
 have h := qxj hm c
 split
 ·split
  ·split
   ·split
    ·exact (h.trans (qn _ _)).trans (qn _ _)
    ·exact h.trans (qn _ _)
   ·exact h.trans (qn _ _)
  ·exact h
 ·exact Mon.refl c
end
def qqq (p : Nat) (r : Option (List N)) : AV := .tup [accV p (encs (r.getD [])), .bool r.isSome]
def qhy (rec : K → K × Option N) (c : K) : Prop := VCalls Tryz.prog 146 [curE c] [.ptr 0 0] fun H' o => H' = curE (qw rec c).1 :: accE 5 (encs ((qw rec c).2.getD [])) ∧ o = .val (qqq 1 (qw rec c).2)
def q4o (many : Bool) (x : Bool × Nat × K × List N) : AF × List Ent :=
 (⟨[(0, .ptr 0 0), (4, accV 1 (encs x.2.2.2)), (5, .bool many), (6, .bool x.1)], []⟩, curE x.2.2.1 :: accE 5 (encs x.2.2.2))
section
variable {rec : K → K × Option N} {b : Nat} (hm : ∀ c, Mon c (rec c).1) (ih : ∀ c, c.good → rest c < b → qbq Tryz.prog 93 (curE c) (curE (rec c).1) [.ptr 0 0] (resP (rec c).2))
include hm ih
theorem quv (c : K) (hg : c.good) (hr : rest c ≤ b) : qhy rec c := by
 unfold qhy
 obtain ⟨kk, hk1, hk2, hk0⟩ : ∃ k : Nat, ((qw rec c).2.getD [] = [] → k = 1) ∧ ((qw rec c).2.getD [] ≠ [] → k = 2) ∧ 1 ≤ k := by
  by_cases h : (qw rec c).2.getD [] = []
  ·exact ⟨1, fun _ => rfl, fun g => absurd h g, by omega⟩
  ·exact ⟨2, fun g => absurd g h, fun _ => rfl, by omega⟩
 refine qia c0dx kk (by simpa using hk0) (by simp) ?_
 have g1 : (qm c [40]).1.good := (q8 c _).1 hg
 have hr1 : rest (qm c [40]).1 ≤ b := by have := (q8 c [40]).2.1; omega
 by_cases ha : qjf c [61, 62] = true
 ·have hpa : qw rec c = qew (qm c [40]).2 (qg5 rec c) := by rw [qw, if_pos ha]
  rw [hpa] at hk1 hk2 ⊢
  clear hpa
  unfold qg5 at hk1 hk2 ⊢
  generalize htg : (if ((qm c [40]).2 && isK (qm c [40]).1 [41]) = true then ((qm c [40]).1, some []) else qds rec (qm c [40]).2 (rest (qm c [40]).1 + 1) (qm c [40]).1 []) = tg at hk1 hk2 ⊢
  generalize hd0 : (qm c [40]).1 = d0 at *
  generalize hmn : (qm c [40]).2 = many at *
  have h0t : (!(many && isK d0 [41])) = true → qds rec many (rest d0 + 1) d0 [] = tg := fun h => by
   rw [Bool.not_eq_true'] at h
   rw [← htg, if_neg (by rw [h]; simp)]
  have h0f : (!(many && isK d0 [41])) = false → tg = (d0, some []) := fun h => by
   rw [Bool.not_eq_false'] at h
   rw [← htg, if_pos h]
  clear htg
  obtain ⟨mm, hmm⟩ : ∃ mm, mm = many := ⟨_, rfl⟩
  cases many <;> (
   repeat' (first | refine vs_ ?_ | ((first | refine vr_ ?_ | fail) <;> (try simp only [ha, hd0, hmn, go_sem, ↓reduceIte])) | ((first | (refine cs_ ?_ ?_ <;> intro hc) | refine cj_ ?_ | fail | refine q12 hg.ok hg.2.1 ?_ | refine qdv hg.ok ?_ | refine a_Is ?_) <;> (try refine ev_ ?_)) | with_reducible exact ti_)
   refine qch (S := Bool × Nat × K × List N) (fun x => x.2.2.1.good ∧ rest x.2.2.1 ≤ b ∧ (x.1 = true → qds rec mm x.2.1 x.2.2.1 x.2.2.2 = tg ∧ rest x.2.2.1 < x.2.1) ∧ (x.1 = false → tg = (x.2.2.1, some x.2.2.2)) ∧ x.2.2.2.length + rest x.2.2.1 ≤ 1048577)
    (q4o mm) (fun x => if x.1 = true then rest x.2.2.1 + 1 else 0) ?_ ?_
   ·refine qbj (!(mm && isK d0 [41]), rest d0 + 1, d0, []) [0] ⟨g1, hr1, fun h => ⟨by rw [hmm]; exact h0t (by simp only [hmm] at h; exact h), Nat.lt_succ_self _⟩, fun h => h0f (by simp only [hmm] at h; exact h), ?_⟩ rfl (by simp) ?_ ?_ ?_
    ·have h9 := g1.rest
     unfold rest
     simp only [List.length_nil]
     omega
    all_goals simp only [q4o, encs, qbu, qb0, hmm, Bool.false_and, Bool.true_and, Bool.not_false]
    all_goals (refine ev_ ?_; (try with_reducible exact ti_))
   ·rintro ⟨more, fu, d, acc⟩ ⟨i1, i2, i3, i4, i5⟩
    simp only at i1 i2 i3 i4 i5
    unfold q4o
    have hcap : qfo (acc.length + 1) 64 := capN (by omega)
    cases more with
    | false =>
      have i4 := i4 rfl
      subst i4
      clear i3
      by_cases hE : (qew mm (d, some acc)).2.getD [] = []
      ·simp only [hmm] at hE
       obtain rfl := hk1 hE
       by_cases h0 : acc = []
       ·subst h0
        simp only [encs, qbu, qb0, hmm]
        repeat' (first | refine vs_ ?_ | ((first | refine vr_ ?_ | fail) <;> (try simp only [hmm, go_sem, ↓reduceIte])) | ((first | (refine cs_ ?_ ?_ <;> intro hc) | refine cj_ ?_ | fail | refine qc4 i1.ok ?_ | refine qc4 ((qn d _).1 i1).ok ?_) <;> (try refine ev_ ?_)) | with_reducible exact ti_)
        all_goals (unfold qew; simp only [*, qqq, encs, qbu, qb0, if_true, if_false, reduceIte, Bool.false_eq_true, Option.isSome_some, Option.isSome_none, Option.getD_some, Option.getD_none, and_self, true_and, and_true, Bool.true_and, Bool.false_and, not_true_eq_false])
       ·have hne := qci h0
        simp only [qcd hne, qce hne, qbs, hmm]
        repeat' (first | refine vs_ ?_ | ((first | refine vr_ ?_ | fail) <;> (try simp only [hmm, go_sem, ↓reduceIte])) | ((first | (refine cs_ ?_ ?_ <;> intro hc) | refine cj_ ?_ | fail | refine qc4 i1.ok ?_ | refine qc4 ((qn d _).1 i1).ok ?_) <;> (try refine ev_ ?_)) | with_reducible exact ti_)
        all_goals first | (exfalso; unfold qew at hE; simp only [*, qqq, encs, qbu, qb0, if_true, if_false, reduceIte, Bool.false_eq_true, Option.isSome_some, Option.isSome_none, Option.getD_some, Option.getD_none, and_self, true_and, and_true, Bool.true_and, Bool.false_and, not_true_eq_false] at hE; done) | (unfold qew; simp only [*, qqq, encs, qbu, qb0, if_true, if_false, reduceIte, Bool.false_eq_true, Option.isSome_some, Option.isSome_none, Option.getD_some, Option.getD_none, and_self, true_and, and_true, Bool.true_and, Bool.false_and, not_true_eq_false])
      ·simp only [hmm] at hE
       obtain rfl := hk2 hE
       have h0 : ¬ acc = [] := by
        intro h
        subst h
        apply hE
        unfold qew
        repeat' split
        all_goals rfl
       have hne := qci h0
       simp only [qcd hne, qce hne, qbs, hmm]
       repeat' (first | refine vs_ ?_ | ((first | refine vr_ ?_ | fail) <;> (try simp only [hmm, go_sem, ↓reduceIte])) | ((first | (refine cs_ ?_ ?_ <;> intro hc) | refine cj_ ?_ | fail | refine qc4 i1.ok ?_ | refine qc4 ((qn d _).1 i1).ok ?_) <;> (try refine ev_ ?_)) | with_reducible exact ti_)
       all_goals first | (exfalso; unfold qew at hE; simp only [*, qqq, encs, qbu, qb0, if_true, if_false, reduceIte, Bool.false_eq_true, Option.isSome_some, Option.isSome_none, Option.getD_some, Option.getD_none, and_self, true_and, and_true, Bool.true_and, Bool.false_and, not_true_eq_false] at hE; done) | (unfold qew; simp only [*, qqq, encs, qbu, qb0, if_true, if_false, reduceIte, Bool.false_eq_true, Option.isSome_some, Option.isSome_none, Option.getD_some, Option.getD_none, and_self, true_and, and_true, Bool.true_and, Bool.false_and, not_true_eq_false]; rw [qce hne, qcd hne, qbs]; exact ⟨rfl, rfl⟩)
    | true =>
      have i6 := (i3 rfl).2
      replace i3 := (i3 rfl).1
      clear i4
      obtain ⟨fu, rfl⟩ : ∃ k, fu = k + 1 := ⟨fu - 1, by omega⟩
      rw [qds] at i3
      have j1 : (qba rec d).1.good := (qe8 hm d).1 i1
      have j2 : rest (qba rec d).1 ≤ rest d := (qe8 hm d).2.1
      have j3 : (qm (qba rec d).1 [44]).1.good := (q8 _ _).1 j1
      have j4 := (q8 (qba rec d).1 [44]).2.1
      by_cases hs : (qba rec d).2.isSome = true
      ·rw [if_pos hs] at i3
       have hlt := qkv hm hs
       obtain ⟨d', hd', k1, k2, k3, k4⟩ : ∃ d', d' = (if mm = true then (qm (qba rec d).1 [44]).1 else (qba rec d).1) ∧ d'.good ∧ rest d' ≤ rest (qba rec d).1 ∧ ((mm && (qm (qba rec d).1 [44]).2) = true → qds rec mm fu d' (acc ++ [(qba rec d).2.getD N0]) = tg) ∧ ((mm && (qm (qba rec d).1 [44]).2) = false → tg = (d', some (acc ++ [(qba rec d).2.getD N0]))) := by
        refine ⟨_, rfl, ?_, ?_, fun h => ?_, fun h => ?_⟩
        ·cases mm
         ·exact j1
         ·exact j3
        ·cases mm
         ·exact Nat.le_refl _
         ·exact j4
        ·rw [if_pos h] at i3
         rw [if_pos (by simp only [Bool.and_eq_true] at h; exact h.1)]
         exact i3
        ·rw [if_neg (by rw [h]; simp)] at i3
         rw [← i3]
         clear hmm
         cases mm
         ·rfl
         ·rw [Bool.true_and] at h
          rw [if_pos rfl, qdm h]
       by_cases h0 : acc = []
       ·subst h0
        simp only [encs, qbu, qb0, hmm]
        repeat' (first | refine vs_ ?_ | ((first | refine vr_ ?_ | fail) <;> (try simp only [hmm, hs, go_sem, ↓reduceIte])) | ((first | (refine cs_ ?_ ?_ <;> intro hc) | refine cj_ ?_ | fail | refine qcu (qla hm ih d i1 i2) rfl ?_ | refine qdv j1.ok ?_) <;> (try refine ev_ ?_)) | with_reducible exact ti_)
        ·refine qbj (mm && (qm (qba rec d).1 [44]).2, fu, d', [] ++ [(qba rec d).2.getD N0]) [0, 2] ⟨⟨k1, by simp only; omega, fun h => ⟨by first | exact k3 h | (have := k3 h; simpa only [hmm] using this), by simp only; omega⟩, fun h => k4 h, ?_⟩, ?_⟩ rfl (by simp) ?_ ?_ ?_
         ·simp only [List.length_append, List.length_cons, List.length_nil]; omega
         ·simp only; split <;> omega
         all_goals simp only [hd', hmm, if_true, if_false, reduceIte, Bool.false_eq_true, Bool.true_and, Bool.false_and, q4o, ← qr, qej, qek, List.nil_append, encs, qfs, qfr]
         all_goals (refine ev_ ?_; (try with_reducible exact ti_))
       ·have hne := qci h0
        simp only [qcd hne, qce hne, qbs, hmm]
        repeat' (first | refine vs_ ?_ | ((first | refine vr_ ?_ | fail) <;> (try simp only [hmm, hs, go_sem, ↓reduceIte])) | ((first | (refine cs_ ?_ ?_ <;> intro hc) | refine cj_ ?_ | fail | refine qcu (qla hm ih d i1 i2) rfl ?_ | refine qdv j1.ok ?_) <;> (try refine ev_ ?_)) | with_reducible exact ti_)
        ·refine qbj (mm && (qm (qba rec d).1 [44]).2, fu, d', acc ++ [(qba rec d).2.getD N0]) [0, 3] ⟨⟨k1, by simp only; omega, fun h => ⟨by first | exact k3 h | (have := k3 h; simpa only [hmm] using this), by simp only; omega⟩, fun h => k4 h, ?_⟩, ?_⟩ rfl (by simp) ?_ ?_ ?_
         ·simp only [List.length_append, List.length_cons, List.length_nil]; omega
         ·simp only; split <;> omega
         all_goals simp only [hd', hmm, if_true, if_false, reduceIte, Bool.false_eq_true, Bool.true_and, Bool.false_and, q4o, ← qr, qej, qek, List.nil_append, encs, qfs, qfr]
         all_goals (refine ev_ ?_; (try with_reducible exact ti_))
         all_goals (try (rw [qr, qcf, qdc]; exact ⟨rfl, rfl⟩))
      ·have hs : (qba rec d).2.isSome = false := by simpa using hs
       rw [if_neg (by rw [hs]; simp)] at i3
       subst i3
       obtain rfl := hk1 rfl
       by_cases h0 : acc = []
       ·subst h0
        simp only [encs, qbu, qb0, hmm]
        repeat' (first | refine vs_ ?_ | ((first | refine vr_ ?_ | fail) <;> (try simp only [hmm, hs, go_sem, ↓reduceIte])) | ((first | (refine cs_ ?_ ?_ <;> intro hc) | refine cj_ ?_ | fail | refine qcu (qla hm ih d i1 i2) rfl ?_ | refine qdv j1.ok ?_) <;> (try refine ev_ ?_)) | with_reducible exact ti_)
        exact ⟨rfl, rfl⟩
       ·have hne := qci h0
        simp only [qcd hne, qce hne, qbs, hmm]
        repeat' (first | refine vs_ ?_ | ((first | refine vr_ ?_ | fail) <;> (try simp only [hmm, hs, go_sem, ↓reduceIte])) | ((first | (refine cs_ ?_ ?_ <;> intro hc) | refine cj_ ?_ | fail | refine qcu (qla hm ih d i1 i2) rfl ?_ | refine qdv j1.ok ?_) <;> (try refine ev_ ?_)) | with_reducible exact ti_)
        exact ⟨rfl, rfl⟩
   )
 ·have hpa : qw rec c = (c, if qqi c = true then none else some []) := by rw [qw, if_neg ha]
  rw [hpa] at hk1 hk2 ⊢
  obtain rfl := hk1 (by simp only; split <;> rfl)
  repeat' (first | refine vs_ ?_ | ((first | refine vr_ ?_ | fail) <;> (try simp only [ha, go_sem, ↓reduceIte])) | ((first | (refine cs_ ?_ ?_ <;> intro hc) | refine cj_ ?_ | fail | refine q12 hg.ok hg.2.1 ?_ | refine qbeo hg.ok ?_) <;> (try refine ev_ ?_)) | with_reducible exact ti_)
  cases qqi c <;> exact ⟨rfl, rfl⟩
end
set_option maxRecDepth 4000

theorem qpk {rec : K → K × Option N} {c : K} (h : qhy rec c) (h0 : (qw rec c).2.getD [] = []) {L : List Ent} {Q : List Ent → VO → Prop} (hq : Q (curE (qw rec c).1 :: L) (.val (.tup [.nils, .bool (qw rec c).2.isSome]))) :
 VApp Tryz.prog (curE c :: L) (.fn 146 [] []) [.ptr 0 0] Q :=
 qbh (r := .tup [.nils, .bool (qw rec c).2.isSome]) (e' := curE (qw rec c).1) (by
  unfold qhy at h
  rw [h0] at h
  unfold qbq
  have hr : qqq 1 (qw rec c).2 = .tup [.nils, .bool (qw rec c).2.isSome] := by rw [qqq, h0]; rfl
  rw [hr] at h
  exact h) (qo _ _) (qo _ _) rfl rfl fun _ => hq
theorem qyz {rec : K → K × Option N} {c : K} (h : qhy rec c) {l : List N} (hl : (qw rec c).2 = some l) (h0 : l ≠ []) {L : List Ent} {Q : List Ent → VO → Prop}
 (hq : Q (curE (qw rec c).1 :: (L ++ [.app 5 (encs l)])) (.val (.tup [.row (L.length + 1) l.length, .bool true]))) :
 VApp Tryz.prog (curE c :: L) (.fn 146 [] []) [.ptr 0 0] Q :=
 qeq (first := []) (caps := []) (by
  simp only [List.nil_append, List.append_nil]
  have hne := qci h0
  have hs : AV.rens (sg [0]) [.ptr 0 0] = [.ptr 0 0] := rfl
  rw [← hs]
  have ha : AV.bds 1 [.ptr 0 0] = true := rfl
  have napp_ren : ∀ σ : Nat → Nat, (Ent.app 5 (encs l)).ren σ = .app 5 (encs l) := fun σ => Ent.ren_same (m := 0) (fun i hi => by omega) _ (by simp [Ent.bd, qcf])
  refine qd6 (H0 := [curE c]) [0] h (by simp) (by simp) rfl ?_ ha ?_
  ·intro j e2 hj
   obtain rfl : j = 0 := by have := (List.getElem?_eq_some_iff.1 hj).1; simp at this; omega
   simp only [List.getElem?_cons_zero, Option.some.injEq] at hj
   subst hj
   exact .inr ⟨qo _ _, by rw [qlj]; rfl⟩
  rintro H1 o ⟨rfl, rfl⟩
  rw [hl]
  simp only [Option.getD_some, qce hne, qqq, qcd hne, qbs, Option.isSome_some, List.length_cons, List.length_nil, List.take_succ_cons, List.take_zero, List.map_nil, qbp, List.drop_zero, List.drop_succ_cons, List.map_cons, qlj, napp_ren, VO.ren, AV.ren, AV.rens, sg', List.set_cons_zero]
  exact hq)
def qp3 (p : Int) (l : List N) (t : N) : N := .mk 4 p 0 [] (l ++ [t])
def qdz (f : Nat) (c : K) : K × Option N :=
 if (qw (qbe f) c).2.isSome = true then ((qbe f (qw (qbe f) c).1).1, (qbe f (qw (qbe f) c).1).2.map (qp3 (qt c).pos ((qw (qbe f) c).2.getD [])))
 else ((qw (qbe f) c).1, none)
theorem qod {c : K} {L : List Ent} {p : Int} {l : List N} {t : N} {b : Bool} {Q : List Ent → VO → Prop} (hq : Q (curE c :: L) (.val (resP (qkj (qp3 p l t) b)))) :
 VApp Tryz.prog (curE c :: L) (.fn 147 [] []) [.ptr 0 0, .agg [.int .i64 4, .int .i64 p, .int .i64 0, .str [], .sl 5 (encs l ++ [enc t])], .bool b] Q := by
 have h := qr8 (n := qp3 p l t) hq
 simpa only [qp3, enc, qr] using h
theorem qtz {c : K} {L : List Ent} {p : Int} {t : N} {b : Bool} {Q : List Ent → VO → Prop} (hq : Q (curE c :: L) (.val (resP (qkj (qp3 p [] t) b)))) :
 VApp Tryz.prog (curE c :: L) (.fn 147 [] []) [.ptr 0 0, .agg [.int .i64 4, .int .i64 p, .int .i64 0, .str [], .sl 5 [enc t]], .bool b] Q := qod (l := []) hq
theorem qte {r : Option N} {p : Int} {l : List N} : qkj (qp3 p l (r.getD N0)) r.isSome = r.map (qp3 p l) := qpo
theorem qsw {rec : K → K × Option N} (hm : ∀ c, Mon c (rec c).1) (many : Bool) : ∀ (f : Nat) (c : K) (acc l : List N), (qds rec many f c acc).2 = some l → l.length ≤ acc.length + rest c
 | 0, c, acc, l => fun h => by cases h
 | f + 1, c, acc, l => fun h => by
   rw [qds] at h
   split at h
   ·rename_i hs
    have h1 := qkv hm hs
    split at h
    ·have h2 := qsw hm many f _ _ _ h
     have h3 := (q8 (qba rec c).1 [44]).2.1
     simp only [List.length_append, List.length_cons, List.length_nil] at h2
     omega
    ·cases h
     simp only [List.length_append, List.length_cons, List.length_nil]
     omega
   ·cases h
theorem qlx {m : Bool} {r : K × Option (List N)} {l : List N} (h : (qew m r).2 = some l) : r.2 = some l := by
 unfold qew at h
 repeat' split at h
 all_goals first | exact h | cases h
theorem qsj {rec : K → K × Option N} (hm : ∀ c, Mon c (rec c).1) {c : K} {l : List N} (h : (qw rec c).2 = some l) : l.length ≤ rest c := by
 unfold qw at h
 split at h
 ·have h := qlx h
  unfold qg5 at h
  split at h
  ·cases h; exact Nat.zero_le _
  ·have h1 := qsw hm _ _ _ _ _ h
   have h2 := (q8 c [40]).2.1
   simp only [List.length_nil] at h1
   omega
 ·simp only at h
  split at h
  ·cases h
  ·cases h; exact Nat.zero_le _
theorem qo8 (f : Nat) (c : K) (hg : c.good) (hr : rest c < f) : qbq Tryz.prog 92 (curE c) (curE (qdz f c).1) [.ptr 0 0] (resP (qdz f c).2) := by
 have hm := qfa f
 have hP := quv hm (qwn f) c hg (by omega)
 have g1 : (qw (qbe f) c).1.good := (qf4 hm c).1 hg
 have hr1 : rest (qw (qbe f) c).1 < f := by have := (qf4 hm c).2.1; omega
 refine qk c0dw 1 (by simp) (by simp) ?_
 unfold qdz
 cases ho : (qw (qbe f) c).2 with
 | none =>
   have h0 : (qw (qbe f) c).2.getD [] = [] := by rw [ho]; rfl
   repeat' (first | refine vs_ ?_ | ((first | refine vr_ ?_ | fail) <;> (try simp only [ho, Option.isSome_none, go_sem, ↓reduceIte])) | ((first | (refine cs_ ?_ ?_ <;> intro hc) | refine cj_ ?_ | fail | refine qcx ?_ | refine qpk hP h0 ?_) <;> (try refine ev_ ?_)) | with_reducible exact ti_)
   rw [qdg]; rfl
 | some l =>
   have hlen := qsj hm ho
   have hlen2 := hg.rest
   by_cases h0 : l = []
   ·subst h0
    have h0 : (qw (qbe f) c).2.getD [] = [] := by rw [ho]; rfl
    have hcap : qfo 1 64 := capN (by omega)
    repeat' (first | refine vs_ ?_ | ((first | refine vr_ ?_ | fail) <;> (try simp only [ho, Option.isSome_some, go_sem, ↓reduceIte])) | ((first | (refine cs_ ?_ ?_ <;> intro hc) | refine cj_ ?_ | fail | refine qcx ?_ | refine qpk hP h0 ?_ | refine qcu (qwn f _ g1 hr1) rfl ?_ | refine qtz ?_) <;> (try refine ev_ ?_)) | with_reducible exact ti_)
    rw [qte]; rfl
   ·have hcap : qfo (l.length + 1) 64 := capN (by unfold rest at hlen; omega)
    repeat' (first | refine vs_ ?_ | ((first | refine vr_ ?_ | fail) <;> (try simp only [ho, Option.isSome_some, go_sem, ↓reduceIte])) | ((first | (refine cs_ ?_ ?_ <;> intro hc) | refine cj_ ?_ | fail | refine qcx ?_ | refine qyz hP ho h0 ?_ | refine qcu (qwn f _ g1 hr1) rfl ?_ | refine qod ?_) <;> (try refine ev_ ?_)) | with_reducible exact ti_)
    rw [qte]; rfl

theorem q0s {P : Program} {f : FuncId} {e e' : Ent} {L : List Ent} {first args0 args : List AV} {r : AV} {Q : List Ent → VO → Prop} (k : Nat) (h : qbq P f e e' args0 r) (hk : L[k]? = some e) (hb : e.bd 0 = true) (hb' : e'.bd 0 = true) (ha : AV.bds 1 args0 = true) (hr : r.bd 0 = true) (hs : AV.rens (sg [k]) args0 = first ++ args) (hq : r.wf → Q (L.set k e') (.val r)) :
 VApp P L (.fn f first []) args Q :=
 qeq (first := first) (caps := []) (by
  simp only [List.append_nil]
  rw [← hs]
  have hlt : k < L.length := (List.getElem?_eq_some_iff.1 hk).1
  refine qd6 (H0 := [e]) [k] (h.mono' (Q' := fun H' o => (H' = [e'] ∧ o = .val r) ∧ r.wf) fun H' o hw ho => ⟨ho, by have := ho.2; subst this; exact hw⟩) (by simp) (by simpa using hlt) rfl ?_ ha ?_
  ·intro j e2 hj
   obtain rfl : j = 0 := by have := (List.getElem?_eq_some_iff.1 hj).1; simp at this; omega
   simp only [List.getElem?_cons_zero, Option.some.injEq] at hj
   subst hj
   exact .inr ⟨Ent.bd_le (Nat.zero_le _) _ hb, by rw [Ent.ren_same (m := 0) (fun i hi => by omega) _ hb]; exact hk⟩
  ·rintro H1 o ⟨⟨rfl, rfl⟩, hw⟩
   have h1 : e'.ren (sg' [k] L.length) = e' := Ent.ren_same (m := 0) (fun i hi => by omega) _ hb'
   have h2 : r.ren (sg' [k] L.length) = r := ren_same (m := 0) (fun i hi => by omega) _ hr
   simp only [List.length_cons, List.length_nil, List.take_succ_cons, List.take_zero, List.map_cons, List.map_nil, qbp, h1, VO.ren, h2, List.drop_succ_cons, List.drop_nil, List.append_nil]
   exact hq hw)

/-! The size of what is read. -/
theorem qeo : ∀ (a b : List N), szs (a ++ b) = szs a + szs b
 | [], b => by simp [szs]
 | x :: a, b => by rw [List.cons_append, szs, szs, qeo a b]; omega
theorem qvg (c : K) (k : Int) (ks : List N) : sz (qiu c k ks) = szs ks + 1 := by rw [qes]; rfl
section
variable {rec : K → K × Option N} (hm : ∀ c, Mon c (rec c).1) (ih : ∀ c n, (rec c).2 = some n → sz n + rest (rec c).1 ≤ rest c)
include hm ih
omit hm in
theorem qh5 {c : K} {n : N} (h : (qbf rec c).2 = some n) : sz n + rest (qbf rec c).1 ≤ rest c := by
 unfold qbf at h ⊢
 split at h
 ·rename_i h1
  rw [if_pos h1]
  cases h
  have := q9 (c := c) (by omega)
  rw [qvg]; simp only [szs]; omega
 ·rename_i h1
  rw [if_neg h1]
  split at h
  ·rename_i h2
   rw [if_pos h2]
   cases h
   have := q9 (c := c) (by omega)
   rw [qvg]; simp only [szs]; omega
  ·rename_i h2
   rw [if_neg h2]
   split at h
   ·rename_i h3
    rw [if_pos h3]
    split at h
    ·rename_i h4
     rw [if_pos h4]
     have hp := q9 (c := (qd c).1) (by rw [qde h4]; exact qdf h3)
     have h0 := (qv c).2.1
     split at h
     ·rename_i h5
      rw [if_pos h5]
      simp only at h ⊢
      split at h
      ·have h6 := ih _ _ h
       have h7 := (qn (rec (qj (qd c).1)).1 [41]).2.1
       have h8 := (qbn (qx (rec (qj (qd c).1)).1 [41]).1).2.1
       omega
      ·cases h
     ·cases h
    ·cases h
   ·cases h
omit hm in
theorem qpd : ∀ (f : Nat) (c : K) (acc l : List N), (qc5 rec f c acc).2 = some l → szs l + rest (qc5 rec f c acc).1 ≤ szs acc + rest c
 | 0, c, acc, l => fun h => by cases h
 | f + 1, c, acc, l => fun h => by
   rw [qc5] at h ⊢
   split at h
   ·rename_i h1
    rw [if_pos h1]
    split at h
    ·rename_i h2
     rw [if_pos h2]
     obtain ⟨n, hn⟩ := Option.isSome_iff_exists.1 h2
     have h3 := qpd f _ _ _ h
     have h4 := qh5 ih hn
     rw [qeo, hn] at h3
     simp only [Option.getD_some, szs] at h3
     rw [hn]
     simp only [Option.getD_some]
     omega
    ·cases h
   ·rename_i h1
    rw [if_neg h1]
    cases h
    exact Nat.le_refl _
omit hm in
theorem qs7 {c : K} {n : N} (h : (qbm rec c).2 = some n) : sz n + rest (qbm rec c).1 ≤ rest c := by
 unfold qbm at h ⊢
 split at h
 ·rename_i h1
  rw [if_pos h1]
  obtain ⟨l, hl, rfl⟩ := Option.map_eq_some_iff.1 h
  have h2 := qpd ih _ _ _ _ hl
  have h3 := q9 (c := c) (by omega)
  rw [qvg]
  simp only [szs] at h2 ⊢
  omega
 ·rename_i h1
  rw [if_neg h1]
  exact qh5 ih h
omit hm in
theorem qxq {c : K} {n : N} (h : (qba rec c).2 = some n) : sz n + rest (qba rec c).1 ≤ rest c := by
 unfold qba at h ⊢
 split at h
 ·rename_i h1
  rw [if_pos h1]
  obtain ⟨m, hk, rfl⟩ := Option.map_eq_some_iff.1 h
  have h2 := qh5 ih hk
  obtain ⟨e1, e2⟩ := qq5 h1
  rw [(q1s h1).1] at h2 ⊢
  have h3 := q9 (c := c) (by omega)
  have : sz (qqm (qja c 2) m) = sz m + 1 := by rw [qes]; simp [qqm, N.kids, szs]
  simp only at h2 ⊢
  omega
 ·cases h
omit hm in
theorem qsf (many : Bool) : ∀ (f : Nat) (c : K) (acc l : List N), (qds rec many f c acc).2 = some l → szs l + rest (qds rec many f c acc).1 ≤ szs acc + rest c
 | 0, c, acc, l => fun h => by cases h
 | f + 1, c, acc, l => fun h => by
   rw [qds] at h ⊢
   split at h
   ·rename_i h1
    rw [if_pos h1]
    obtain ⟨n, hn⟩ := Option.isSome_iff_exists.1 h1
    have h4 := qxq ih hn
    split at h
    ·rename_i h2
     rw [if_pos h2]
     have h3 := qsf many f _ _ _ h
     have h5 := (q8 (qba rec c).1 [44]).2.1
     rw [qeo, hn] at h3
     simp only [Option.getD_some, szs] at h3
     rw [hn]
     simp only [Option.getD_some]
     omega
    ·rename_i h2
     rw [if_neg h2]
     cases h
     rw [hn, qeo]
     simp only [Option.getD_some, szs]
     omega
   ·cases h
end
theorem qi1 : ∀ (f : Nat) (c : K) (n : N), (qbe f c).2 = some n → sz n + rest (qbe f c).1 ≤ rest c
 | 0, _, _ => fun h => by cases h
 | f + 1, c, n => fun h => by
   have ih := qi1 f
   have h0 := (qv c).2.1
   rw [qbe] at h ⊢
   split at h
   ·rename_i h1
    rw [if_pos h1]
    split at h
    ·rename_i h2
     rw [if_pos h2]
     obtain ⟨m, hm⟩ := Option.isSome_iff_exists.1 h2
     have h3 := qs7 ih hm
     split at h
     ·rename_i h4
      rw [if_pos h4]
      obtain ⟨q, hq, rfl⟩ := Option.map_eq_some_iff.1 h
      have h5 := ih _ _ hq
      have h6 := (qbn (qbe f (qm (qbm (qbe f) (qd c).1).1 [45, 62]).1).1).2.1
      have h7 : rest (qm (qbm (qbe f) (qd c).1).1 [45, 62]).1 + 1 ≤ rest (qbm (qbe f) (qd c).1).1 := by
       unfold qm at h4 ⊢
       split at h4
       ·rename_i h8
        rw [if_pos h8]
        have := q9 (qdf h8)
        simp only; omega
       ·cases h4
      have : sz (qie ((qbm (qbe f) (qd c).1).2.getD N0) q) = sz m + sz q + 1 := by rw [qes, hm]; simp [qie, N.kids, szs]
      simp only
      omega
     ·rename_i h4
      rw [if_neg h4]
      have h5 := (qbn (qbm (qbe f) (qd c).1).1).2.1
      have h6 := qs7 ih h
      simp only
      omega
    ·cases h
   ·cases h
theorem qpj {f : Nat} {c : K} {n : N} (h : (qdz f c).2 = some n) : sz n + rest (qdz f c).1 ≤ rest c + 1 := by
 unfold qdz at h ⊢
 split at h
 ·rename_i h1
  rw [if_pos h1]
  obtain ⟨l, hl⟩ := Option.isSome_iff_exists.1 h1
  obtain ⟨q, hq, rfl⟩ := Option.map_eq_some_iff.1 h
  have h2 := qi1 f _ _ hq
  rw [hl]
  have h3 : szs l + rest (qw (qbe f) c).1 ≤ rest c := by
   have hx := hl
   unfold qw at hx ⊢
   split at hx
   ·rename_i ha
    rw [if_pos ha]
    have h5 := qlx hx
    have h6 : szs l + rest (qg5 (qbe f) c).1 ≤ rest c := by
     unfold qg5 at h5 ⊢
     have ht := (q8 c [40]).2.1
     split at h5
     ·rename_i hb
      rw [if_pos hb]
      cases h5
      simp only [szs]; omega
     ·rename_i hb
      rw [if_neg hb]
      have := qsf (qi1 f) _ _ _ _ _ h5
      simp only [szs] at this
      omega
    have h7 : rest (qew (qm c [40]).2 (qg5 (qbe f) c)).1 ≤ rest (qg5 (qbe f) c).1 := by
     unfold qew
     split
     ·split
      ·split
       ·exact Nat.le_trans (qn _ _).2.1 (qn _ _).2.1
       ·exact (qn _ _).2.1
      ·exact (qn _ _).2.1
     ·exact Nat.le_refl _
    omega
   ·rename_i ha
    rw [if_neg ha]
    simp only at hx ⊢
    split at hx
    ·cases hx
    ·cases hx; simp only [szs]; omega
  have : sz (qp3 (qt c).pos l q) = szs l + sz q + 1 := by rw [qes]; simp [qp3, N.kids, qeo, szs]
  simp only [Option.getD_some]
  omega
 ·cases h
theorem qni {l : List T} (h : l.length ≤ 1048577) : (newK l).good := ⟨Nat.zero_le _, Nat.le_trans (qh7 l) h, Nat.zero_le _⟩
set_option maxRecDepth 4000

def qtl (c : K) (n : N) : N × Int × Int :=
 if (qiq c).2 = 0 then if depR n > 100 then (N0, n.pos, 2) else (n, 0, 0) else (N0, (qiq c).1, (qiq c).2)
def qk4 (rd : K → K × Option N) (s : List UInt8) : N × Int × Int :=
 if (lexV s).2.2 = 0 then qtl (rd (newK (lexV s).1)).1 ((rd (newK (lexV s).1)).2.getD N0)
 else (N0, (lexV s).2.1, (lexV s).2.2)
def resV (r : N × Int × Int) : AV := .tup [enc r.1, .int .i64 r.2.1, .int .i64 r.2.2]
attribute [go_sem] resV lexR
theorem q3k {so : FuncId} {q : Bool} {rd : K → K × Option N} {s : List UInt8} (hs : s.length ≤ 900000) (hrd : ∀ c : K, c.good → rest c ≤ 900001 → qbq Tryz.prog so (curE c) (curE (rd c).1) [.agg [.bool q], .ptr 0 0] (resP (rd c).2))
 (hm : ∀ c, Mon c (rd c).1) (hsz : ∀ c n, (rd c).2 = some n → sz n ≤ rest c + 1) : ql Tryz.prog 50 [.str s, .fn so [.agg [.bool q]] []] (resV (qk4 rd s)) := by
 have g := qni (qfz s).1
 have g2 : (rd (newK (lexV s).1)).1.good := (hm _).1 g
 have hr : rest (newK (lexV s).1) ≤ 900001 := by
  have h2 := qh7 (lexV s).1
  have h3 := (qfz s).2
  have h4 : rest (newK (lexV s).1) = (qe7 (lexV s).1).length := rfl
  omega
 have hsz' : sz ((rd (newK (lexV s).1)).2.getD N0) ≤ 1000000 := by
  cases ho : (rd (newK (lexV s).1)).2 with
  | none => rw [Option.getD_none, qes]; simp [N0, N.kids, szs]
  | some n =>
    have h1 := hsz _ _ ho
    simp only [Option.getD_some]
    omega
 have hdp := qkc hsz'
 refine qg c0dt (by simp) (by simp only [go_sem]) (by simp only [go_sem]) fun hw => ?_
 repeat' (first | refine vs_ ?_ | ((first | refine vr_ ?_ | refine qa (qga s) fun _ => ?_ | refine qp7 (qqf _ (qfz s).1) (qo _ _) (by simp only [go_sem]) ?_ | refine q0s 1 (hrd _ g hr) (by rfl) (qo _ _) (qo _ _) (by rfl) (qq4 _ _) (by rfl) fun _ => ?_ | refine qjh 1 (qln _ g2.ok) (by rfl) (qo _ _) (qo _ _) (by rfl) (by rfl) (by rfl) fun _ => ?_ | refine qa (qin (qj5 _) (by rw [hdp])) fun _ => ?_ | refine qe (qga s) ?_ | refine qe (qin (qj5 _) (by rw [hdp])) ?_ | (refine cs_ ?_ ?_ <;> intro hc) | refine cj_ ?_ | fail) <;> (try refine ev_ ?_)) | with_reducible exact ti_)
 all_goals (try rw [qdg])
 all_goals unfold qk4 qtl
 all_goals (repeat' split)
 all_goals first | omega | rfl | (exfalso; omega) | simp_all [go_sem]
def qnu (q : Bool) (c : K) : K × Option N := if q = true then qdz (rest c + 2) c else qbe (rest c + 2) c
theorem q7y (q : Bool) (c : K) (hg : c.good) (hr : rest c ≤ 900001) : qbq Tryz.prog 49 (curE c) (curE (qnu q c).1) [.agg [.bool q], .ptr 0 0] (resP (qnu q c).2) := by
 refine qk c0du 1 (by simp) (by simp) ?_
 repeat' (first | refine vs_ ?_ | ((first | refine vr_ ?_ | refine qcu (qwn (rest c + 2) c hg (by omega)) rfl ?_ | refine qcu (qo8 (rest c + 2) c hg (by omega)) rfl ?_ | (refine cs_ ?_ ?_ <;> intro hc) | refine cj_ ?_ | fail) <;> (try refine ev_ ?_)) | with_reducible exact ti_)
 ·rw [qnu, if_pos rfl]; exact ⟨rfl, rfl⟩
 ·rw [qnu, if_neg (by simp)]; exact ⟨rfl, rfl⟩
theorem qgz (f : Nat) (c : K) : Mon c (qdz f c).1 := by
 have hm := qfa f
 unfold qdz
 split
 ·exact (qf4 hm c).trans (hm _)
 ·exact qf4 hm c
theorem q20 (q : Bool) (c : K) : Mon c (qnu q c).1 := by
 unfold qnu
 split
 ·exact qgz _ c
 ·exact qfa _ c
theorem qbaf {q : Bool} {c : K} {n : N} (h : (qnu q c).2 = some n) : sz n ≤ rest c + 1 := by
 unfold qnu at h
 split at h
 ·have := qpj h; omega
 ·have := qi1 _ _ _ h; omega
theorem qvs (s : List UInt8) (hs : s.length ≤ 900000) : ql Tryz.prog 22 [.str s] (resV (qk4 (qnu false) s)) := by
 refine qg c0dv (by simp) (by simp only [go_sem]) (by simp only [go_sem]) fun hw => ?_
 repeat' (first | refine vs_ ?_ | ((first | refine vr_ ?_ | refine qa (q3k hs (q7y false) (q20 false) fun _ _ h => qbaf h) fun _ => ?_ | (refine cs_ ?_ ?_ <;> intro hc) | refine cj_ ?_ | fail) <;> (try refine ev_ ?_)) | with_reducible exact ti_)
set_option maxRecDepth 4000

/-! Patterns. -/
def qib (c : K) : Option N :=
 if (qt c).kind = 1 then some (.mk 11 (qt c).pos 0 (qt c).text [])
 else if (qt c).kind = 2 then some (.mk 14 (qt c).pos 0 (qt c).text [])
 else if (qt c).kind = 3 then some (.mk 13 (qt c).pos (qt c).num [] [])
 else if isK c [95] = true then some (.mk 12 (qt c).pos 0 [] [])
 else none
def begP (c : K) : Bool := (qib c).isSome || isK c [40]
def qbd (rec : K → K × Option N) (c : K) : K × Option N :=
 if (qib c).isSome = true then (qj c, qib c)
 else if isK c [40] = true then
  if (qd c).2 = true then
   if (rec (qj (qd c).1)).2.isSome = true then
    if (qx (rec (qj (qd c).1)).1 [41]).2 = true then (qcy (qx (rec (qj (qd c).1)).1 [41]).1, (rec (qj (qd c).1)).2)
    else ((qx (rec (qj (qd c).1)).1 [41]).1, none)
   else ((rec (qj (qd c).1)).1, none)
  else ((qd c).1, none)
 else (qer c 5, none)
def qgj (rec : K → K × Option N) : Nat → K → List N → K × Option (List N)
 | 0, c, acc => (c, none)
 | f + 1, c, acc =>
   if begP c = true then
    if (qbd rec c).2.isSome = true then qgj rec f (qbd rec c).1 (acc ++ [(qbd rec c).2.getD N0])
    else ((qbd rec c).1, none)
   else (c, some acc)
def qbz : Nat → K → K × Option N
 | 0, c => (c, none)
 | f + 1, c =>
   if (qd c).2 = true then
    if (qt (qd c).1).kind = 2 then
     (qcy (qgj (qbz f) (rest (qd c).1 + 1) (qj (qd c).1) []).1, (qgj (qbz f) (rest (qd c).1 + 1) (qj (qd c).1) []).2.map fun ks => .mk 14 (qt (qd c).1).pos 0 (qt (qd c).1).text ks)
    else (qcy (qbd (qbz f) (qd c).1).1, (qbd (qbz f) (qd c).1).2)
   else ((qd c).1, none)

theorem qsl {c : K} {n : N} (h : qib c = some n) : (qt c).kind ≠ 0 := by
 unfold qib at h
 split at h
 ·omega
 ·split at h
  ·omega
  ·split at h
   ·omega
   ·split at h
    ·exact qdf (by assumption)
    ·cases h
section
variable {rec : K → K × Option N} (hm : ∀ c, Mon c (rec c).1)
include hm
theorem qh4 (c : K) : Mon c (qbd rec c).1 := by
 unfold qbd
 split
 ·exact qcb c
 ·split
  ·split
   ·have h1 := ((qv c).trans (qcb _)).trans (hm _)
    split
    ·split
     ·exact (h1.trans (qn _ _)).trans (qbn _)
     ·exact h1.trans (qn _ _)
    ·exact h1
   ·exact qv c
  ·exact qg1 c 5
theorem qsi {c : K} (h : (qbd rec c).2.isSome = true) : rest (qbd rec c).1 < rest c := by
 unfold qbd at h ⊢
 split at h
 ·rename_i hl
  rw [if_pos hl]
  obtain ⟨n, hn⟩ := Option.isSome_iff_exists.1 hl
  have := q9 (qsl hn)
  simp only; omega
 ·rename_i hl
  rw [if_neg hl]
  split at h
  ·rename_i hk
   rw [if_pos hk]
   split at h
   ·rename_i he
    rw [if_pos he]
    have hp := q9 (c := (qd c).1) (by rw [qde he]; exact qdf hk)
    have h0 := (qv c).2.1
    have h1 := (hm (qj (qd c).1)).2.1
    split at h
    ·rename_i hr
     rw [if_pos hr]
     have h2 := (qn (rec (qj (qd c).1)).1 [41]).2.1
     split at h
     ·rename_i hw
      rw [if_pos hw]
      have h3 := (qbn (qx (rec (qj (qd c).1)).1 [41]).1).2.1
      simp only; omega
     ·cases h
    ·cases h
   ·cases h
  ·cases h
theorem qq1 : ∀ (f : Nat) (c : K) (acc : List N), Mon c (qgj rec f c acc).1
 | 0, c, acc => Mon.refl c
 | f + 1, c, acc => by
   rw [qgj]
   split
   ·split
    ·exact (qh4 hm c).trans (qq1 f _ _)
    ·exact qh4 hm c
   ·exact Mon.refl c
end
theorem qeg : ∀ (f : Nat) (c : K), Mon c (qbz f c).1
 | 0, c => Mon.refl c
 | f + 1, c => by
   rw [qbz]
   split
   ·split
    ·exact (((qv c).trans (qcb _)).trans (qq1 (qeg f) _ _ _)).trans (qbn _)
    ·exact ((qv c).trans (qh4 (qeg f) _)).trans (qbn _)
   ·exact qv c
theorem q2z (c : K) : qbq Tryz.prog 153 (curE c) (curE c) [.ptr 0 0] (resP (qib c)) := by
 refine qk c0dp 1 (by simp) (by simp) ?_
 repeat' (first | refine vs_ ?_ | ((first | refine vr_ ?_ | refine qcx ?_ | refine a_Is ?_ | (refine cs_ ?_ ?_ <;> intro hc) | refine cj_ ?_ | fail) <;> (try refine ev_ ?_)) | with_reducible exact ti_)
 all_goals (unfold qib; simp_all [enc, encs, N0])
theorem q3z {c : K} {L : List Ent} {Q : List Ent → VO → Prop} (hq : Q (curE c :: L) (.val (resP (qib c)))) : VApp Tryz.prog (curE c :: L) (.fn 153 [] []) [.ptr 0 0] Q := qcu (q2z c) rfl hq
theorem qvi (c : K) : qbq Tryz.prog 97 (curE c) (curE c) [.ptr 0 0] (.bool (begP c)) := by
 refine qk c0dq 1 (by simp) (by simp) ?_
 repeat' (first | refine vs_ ?_ | ((first | refine vr_ ?_ | refine q3z ?_ | refine a_Is ?_ | (refine cs_ ?_ ?_ <;> intro hc) | refine cj_ ?_ | fail) <;> (try refine ev_ ?_)) | with_reducible exact ti_)
 all_goals (unfold begP; simp_all)
theorem qbcf {c : K} {L : List Ent} {Q : List Ent → VO → Prop} (hq : Q (curE c :: L) (.val (.bool (begP c)))) : VApp Tryz.prog (curE c :: L) (.fn 97 [] []) [.ptr 0 0] Q := qbh (qvi c) (qo _ _) (qo _ _) rfl rfl fun _ => hq
theorem qm8 {rec : K → K × Option N} {b : Nat} (hm : ∀ c, Mon c (rec c).1) (ih : ∀ c, c.good → rest c < b → qbq Tryz.prog 54 (curE c) (curE (rec c).1) [.ptr 0 0] (resP (rec c).2)) (c : K) (hg : c.good) (hr : rest c ≤ b) :
 qbq Tryz.prog 96 (curE c) (curE (qbd rec c).1) [.ptr 0 0] (resP (qbd rec c).2) := by
 have g1 : (qd c).1.good := (qv c).1 hg
 have g2 : (qj (qd c).1).good := (qcb _).1 g1
 have g3 : (rec (qj (qd c).1)).1.good := (hm _).1 g2
 have g4 : (qx (rec (qj (qd c).1)).1 [41]).1.good := (qn _ _).1 g3
 have hrr : isK c [40] = true → (qd c).2 = true → rest (qj (qd c).1) < b := fun h1 h2 => by
  have := q9 (c := (qd c).1) (by rw [qde h2]; exact qdf h1)
  have := (qv c).2.1
  omega
 refine qk c0dr 1 (by simp) (by simp) ?_
 repeat' (first | refine vs_ ?_ | ((first | refine vr_ ?_ | refine q3z ?_ | refine a_Is ?_ | refine qos ?_ | refine qf6 ?_ | refine qhd hg.ok ?_ | refine qhd g1.ok ?_ | refine qcu (ih _ g2 (hrr (by assumption) (by assumption))) rfl ?_ | refine qc4 g3.ok ?_ | refine qd7 g4.2.2 ?_ | (refine cs_ ?_ ?_ <;> intro hc) | refine cj_ ?_ | fail) <;> (try refine ev_ ?_)) | with_reducible exact ti_)
 all_goals (unfold qbd; simp only [*, qdg, Int.reduceEq, if_true, if_false, reduceIte, Bool.false_eq_true, Option.getD_none, Option.getD_some, Option.isSome_none, Option.isSome_some, and_self, true_and, and_true]; try rfl)
def conZ (c : K) : AV := .tup [.agg [.int .i64 14, .int .i64 (qt c).pos, .int .i64 0, .str (qt c).text, .nils], .bool true]
attribute [go_sem] conZ
theorem q08 (k : Nat) (c : K) : (conZ c).bd k = true := rfl
theorem qya (c : K) (hc : (qt c).kind = 2) : qbq Tryz.prog 153 (curE c) (curE c) [.ptr 0 0] (conZ c) := by
 refine qia c0dp 1 (by simp) (by simp) ?_
 repeat' (first | refine vs_ ?_ | ((first | refine vr_ ?_ | fail) <;> (try simp only [hc, Int.reduceEq, go_sem, ↓reduceIte])) | ((first | (refine cs_ ?_ ?_ <;> intro hc) | refine cj_ ?_ | fail | refine qcx ?_ | refine a_Is ?_) <;> (try refine ev_ ?_)) | with_reducible exact ti_)
theorem qye (c : K) (hg : c.good) (hc : (qt c).kind = 2) : qbq Tryz.prog 96 (curE c) (curE (qj c)) [.ptr 0 0] (conZ c) := by
 refine qia c0dr 1 (by simp) (by simp) ?_
 repeat' (first | refine vs_ ?_ | ((first | refine vr_ ?_ | fail) <;> (try simp only [hc, go_sem, ↓reduceIte])) | ((first | (refine cs_ ?_ ?_ <;> intro hc) | refine cj_ ?_ | fail | refine qbh (qya c hc) (qo _ _) (qo _ _) rfl (q08 _ _) fun _ => ?_ | refine qhd hg.ok ?_) <;> (try refine ev_ ?_)) | with_reducible exact ti_)
def q2n (p : Int) (t : List UInt8) (x : Bool × Nat × K × List N) : AF × List Ent :=
 (⟨[(0, .ptr 0 0), (2, .ptr 1 0), (4, .bool true), (5, .ptr 2 0), (6, .bool x.1)], []⟩,
   curE x.2.2.1 :: .blk [.int .i64 0, .int .i64 0, .int .i64 0, .str [], .nils] :: .blk [.int .i64 14, .int .i64 p, .int .i64 0, .str t, accV 3 (encs x.2.2.2)] :: accE 5 (encs x.2.2.2))
theorem qre {f : Nat} (ih : ∀ c, c.good → rest c < f → qbq Tryz.prog 54 (curE c) (curE (qbz f c).1) [.ptr 0 0] (resP (qbz f c).2)) (c : K) (hg : c.good) (hr : rest c < f + 1) :
 qbq Tryz.prog 54 (curE c) (curE (qbz (f + 1) c).1) [.ptr 0 0] (resP (qbz (f + 1) c).2) := by
 have hm := qeg f
 have g1 : (qd c).1.good := (qv c).1 hg
 have hr1 : rest (qd c).1 ≤ f := by have := (qv c).2.1; omega
 refine qk c0ds 1 (by simp) (by simp) ?_
 by_cases hk : (qd c).2 = true ∧ (qt (qd c).1).kind = 2
 ·obtain ⟨hk1, hk2⟩ := hk
  have g2 : (qj (qd c).1).good := (qcb _).1 g1
  have hpa : qbz (f + 1) c = (qcy (qgj (qbz f) (rest (qd c).1 + 1) (qj (qd c).1) []).1, (qgj (qbz f) (rest (qd c).1 + 1) (qj (qd c).1) []).2.map fun ks => .mk 14 (qt (qd c).1).pos 0 (qt (qd c).1).text ks) := by rw [qbz, if_pos hk1, if_pos hk2]
  rw [hpa]
  clear hpa
  generalize htg : qgj (qbz f) (rest (qd c).1 + 1) (qj (qd c).1) [] = tg
  have hmt : Mon (qj (qd c).1) tg.1 := htg ▸ qq1 hm _ _ _
  have g3 : tg.1.good := hmt.1 g2
  repeat' (first | refine vs_ ?_ | ((first | refine vr_ ?_ | fail) <;> (try simp only [hk1, hk2, Int.reduceEq, go_sem, ↓reduceIte])) | ((first | (refine cs_ ?_ ?_ <;> intro hc) | refine cj_ ?_ | fail | refine qf6 ?_ | refine qcx ?_ | refine qbh (qye _ g1 hk2) (qo _ _) (qo _ _) rfl (q08 _ _) fun _ => ?_) <;> (try refine ev_ ?_)) | with_reducible exact ti_)
  refine qch (S := Bool × Nat × K × List N) (fun x => x.2.2.1.good ∧ rest x.2.2.1 ≤ f ∧ (x.1 = true → qgj (qbz f) x.2.1 x.2.2.1 x.2.2.2 = tg ∧ rest x.2.2.1 < x.2.1) ∧ (x.1 = false → tg = (x.2.2.1, none)) ∧ x.2.2.2.length + rest x.2.2.1 ≤ 1048577)
   (q2n (qt (qd c).1).pos (qt (qd c).1).text) (fun x => if x.1 = true then rest x.2.2.1 + 1 else 0) ?_ ?_
  ·have hrn := (qcb (qd c).1).2.1
   refine qbj (true, rest (qd c).1 + 1, qj (qd c).1, []) [0, 1, 2] ⟨g2, by simp only; omega, fun _ => ⟨htg, by simp only; omega⟩, (by intro h; cases h), ?_⟩ rfl (by simp) ?_ ?_ ?_
   ·have h9 := g2.rest
    unfold rest
    simp only [List.length_nil]
    omega
   all_goals simp only [q2n, encs, qbu, qb0]
   all_goals (refine ev_ ?_; (try with_reducible exact ti_))
  ·rintro ⟨b, fu, d, acc⟩ ⟨i1, i2, i3, i4, i5⟩
   simp only at i1 i2 i3 i4 i5
   unfold q2n
   cases b with
   | false =>
     have i4 := i4 rfl
     subst i4
     repeat' (first | refine vs_ ?_ | ((first | refine vr_ ?_ | refine qd7 i1.2.2 ?_ | (refine cs_ ?_ ?_ <;> intro hc) | refine cj_ ?_ | fail) <;> (try refine ev_ ?_)) | with_reducible exact ti_)
     simp only [Option.map_none, Option.getD_none, Option.isSome_none, qdg]
   | true =>
     have i6 := (i3 rfl).2
     replace i3 := (i3 rfl).1
     clear i4
     obtain ⟨fu, rfl⟩ : ∃ k, fu = k + 1 := ⟨fu - 1, by omega⟩
     rw [qgj] at i3
     have hcap : qfo (acc.length + 1) 64 := capN (by omega)
     have j1 : (qbd (qbz f) d).1.good := (qh4 hm d).1 i1
     have j2 : rest (qbd (qbz f) d).1 ≤ rest d := (qh4 hm d).2.1
     by_cases h0 : acc = []
     ·subst h0
      simp only [encs, qbu, qb0]
      repeat' (first | refine vs_ ?_ | ((first | refine vr_ ?_ | refine qbcf ?_ | refine qcu (qm8 hm ih _ i1 i2) rfl ?_ | refine qd7 i1.2.2 ?_ | (refine cs_ ?_ ?_ <;> intro hc) | refine cj_ ?_ | fail) <;> (try refine ev_ ?_)) | with_reducible exact ti_)
      ·have hb : begP d = true := by assumption
       have hs : (qbd (qbz f) d).2.isSome = true := by assumption
       rw [if_pos hb, if_pos hs] at i3
       have hlt := qsi hm hs
       refine qbj (true, fu, (qbd (qbz f) d).1, [] ++ [(qbd (qbz f) d).2.getD N0]) [0, 1, 2, 4] ⟨⟨j1, by simp only; omega, fun _ => ⟨i3, by simp only; omega⟩, (by intro h; cases h), ?_⟩, by simp only [if_true]; omega⟩ rfl (by simp) ?_ ?_ ?_
       ·simp only [List.length_append, List.length_cons, List.length_nil]; omega
       all_goals simp only [← qr, qej, qek, List.nil_append, encs, qfs, qfr]
       all_goals (refine ev_ ?_; (try with_reducible exact ti_))
      ·have hb : begP d = true := by assumption
       have hs : (qbd (qbz f) d).2.isSome = false := by assumption
       rw [if_pos hb, if_neg (by rw [hs]; simp)] at i3
       refine qbj (false, 0, (qbd (qbz f) d).1, []) [0, 1, 2] ⟨⟨j1, by simp only; omega, (by intro h; cases h), fun _ => i3.symm, by simp only; omega⟩, by simp only [if_true, Bool.false_eq_true, if_false]; omega⟩ rfl (by simp) ?_ ?_ ?_
       all_goals simp only [encs, qbu, qb0]
       all_goals (refine ev_ ?_; (try with_reducible exact ti_))
      ·have hb : begP d = false := by assumption
       rw [if_neg (by rw [hb]; simp)] at i3
       subst i3
       simp only [Option.map_some, Option.getD_some, Option.isSome_some, enc, encs, and_self]
     ·have hne := qci h0
      simp only [qcd hne, qce hne, qbs]
      repeat' (first | refine vs_ ?_ | ((first | refine vr_ ?_ | refine qbcf ?_ | refine qcu (qm8 hm ih _ i1 i2) rfl ?_ | refine qd7 i1.2.2 ?_ | (refine cs_ ?_ ?_ <;> intro hc) | refine cj_ ?_ | fail) <;> (try refine ev_ ?_)) | with_reducible exact ti_)
      ·have hb : begP d = true := by assumption
       have hs : (qbd (qbz f) d).2.isSome = true := by assumption
       rw [if_pos hb, if_pos hs] at i3
       have hlt := qsi hm hs
       refine qbj (true, fu, (qbd (qbz f) d).1, acc ++ [(qbd (qbz f) d).2.getD N0]) [0, 1, 2, 5] ⟨⟨j1, by simp only; omega, fun _ => ⟨i3, by simp only; omega⟩, (by intro h; cases h), ?_⟩, by simp only [if_true]; omega⟩ rfl (by simp) ?_ ?_ ?_
       ·simp only [List.length_append, List.length_cons, List.length_nil]; omega
       all_goals simp only [← qr, qej, qek, List.nil_append, encs, qfs, qfr]
       all_goals (refine ev_ ?_; (try with_reducible exact ti_))
       rw [qr, qcf, qdc]; exact ⟨rfl, rfl⟩
      ·have hb : begP d = true := by assumption
       have hs : (qbd (qbz f) d).2.isSome = false := by assumption
       rw [if_pos hb, if_neg (by rw [hs]; simp)] at i3
       refine qbj (false, 0, (qbd (qbz f) d).1, acc) [0, 1, 2, 3] ⟨⟨j1, by simp only; omega, (by intro h; cases h), fun _ => i3.symm, by simp only; omega⟩, by simp only [if_true, Bool.false_eq_true, if_false]; omega⟩ rfl (by simp) ?_ ?_ ?_
       all_goals simp only [qcd hne, qce hne, qbs]
       all_goals (refine ev_ ?_; (try with_reducible exact ti_))
      ·have hb : begP d = false := by assumption
       rw [if_neg (by rw [hb]; simp)] at i3
       subst i3
       simp only [Option.map_some, Option.getD_some, Option.isSome_some, enc, encs, and_self]
 ·by_cases hk1 : (qd c).2 = true
  ·have hk2 : ¬ (qt (qd c).1).kind = 2 := fun h => hk ⟨hk1, h⟩
   have j1 : (qbd (qbz f) (qd c).1).1.good := (qh4 hm _).1 g1
   have hpa : qbz (f + 1) c = (qcy (qbd (qbz f) (qd c).1).1, (qbd (qbz f) (qd c).1).2) := by rw [qbz, if_pos hk1, if_neg hk2]
   rw [hpa]
   clear hpa
   repeat' (first | refine vs_ ?_ | ((first | refine vr_ ?_ | fail) <;> (try simp only [hk1, hk2, go_sem, ↓reduceIte])) | ((first | (refine cs_ ?_ ?_ <;> intro hc) | refine cj_ ?_ | fail | refine qf6 ?_ | refine qcx ?_ | refine qcu (qm8 hm ih _ g1 hr1) rfl ?_) <;> (try refine ev_ ?_)) | with_reducible exact ti_)
   generalize hr' : qbd (qbz f) (qd c).1 = r at j1
   refine qch (S := Unit) (fun _ => True) (fun _ => (⟨[(0, .ptr 0 0), (2, .ptr 1 0), (4, .bool false), (5, .ptr 2 0), (6, .bool r.2.isSome)], []⟩, [curE r.1, .blk [.int .i64 0, .int .i64 0, .int .i64 0, .str [], .nils], .blk (enc (r.2.getD N0)).cells])) (fun _ => 0) ?_ ?_
   ·refine qbj () [0, 1, 2] trivial rfl (by simp) ?_ ?_ ?_ <;> (try refine ev_ ?_) <;> (try with_reducible exact ti_) <;> (try simp (disch := omega) only [qi, and_true, true_and])
   ·intro _ _
    repeat' (first | refine vs_ ?_ | ((first | refine vr_ ?_ | refine qd7 j1.2.2 ?_ | (refine cs_ ?_ ?_ <;> intro hc) | refine cj_ ?_ | fail) <;> (try refine ev_ ?_)) | with_reducible exact ti_)
    have hs : r.2 = none := by
     have : r.2.isSome = false := by assumption
     revert this
     cases r.2 <;> simp
    rw [hs, qdg]; rfl
  ·have hk1 : (qd c).2 = false := by simpa using hk1
   have hpa : qbz (f + 1) c = ((qd c).1, none) := by rw [qbz, if_neg (by rw [hk1]; simp)]
   rw [hpa]
   repeat' (first | refine vs_ ?_ | ((first | refine vr_ ?_ | fail) <;> (try simp only [hk1, go_sem, ↓reduceIte])) | ((first | (refine cs_ ?_ ?_ <;> intro hc) | refine cj_ ?_ | fail | refine qf6 ?_) <;> (try refine ev_ ?_)) | with_reducible exact ti_)
   rw [qdg]; rfl
theorem qzp (f : Nat) : ∀ c : K, c.good → rest c < f → qbq Tryz.prog 54 (curE c) (curE (qbz f c).1) [.ptr 0 0] (resP (qbz f c).2) := by
 induction f with
 | zero => exact fun c _ h => absurd h (by omega)
 | succ f ih => exact qre ih
end Go.Proofs.YtlmcofjcpadmiaaGreat
