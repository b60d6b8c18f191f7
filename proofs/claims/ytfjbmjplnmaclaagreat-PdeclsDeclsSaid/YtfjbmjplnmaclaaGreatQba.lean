/- Texts of this proof, joined. -/
import Derived.Test.YtfjbmjplnmaclaaGreatQax
import Derived.Test.YtfjbmjplnmaclaaGreatQay
import Derived.Test.YtfjbmjplnmaclaaGreatQaz

/- types: contexts: the program -/
set_option maxRecDepth 4000
namespace Go.Proofs.YtfjbmjplnmaclaaGreat
open Go Go.RowKit Go.V
set_option linter.unusedVariables false
set_option linter.unusedSimpArgs false

theorem qbf (c : K) (k : Int) : Mon c (qn c k).1 := by
 unfold qn
 split
 ·exact qbo c
 ·exact qeg c 5
theorem qhm {c : K} {k : Int} (h : (qn c k).2 = true) : c.err = 0 ∧ (qq c).kind = k := by
 unfold qn at h
 split at h
 ·rename_i h1
  simp only [Bool.and_eq_true, decide_eq_true_eq] at h1
  exact h1
 ·cases h
theorem qlk {c : K} {k : Int} (h : (qn c k).2 = true) : qn c k = (qu c, true) ∧ qev c k = qq c := by
 obtain ⟨h1, h2⟩ := qhm h
 exact ⟨qqz h1 h2, qu2 h1 h2⟩
theorem qnc {c : K} {k : Int} (h : (qn c k).2 = false) : (qn c k).1.err ≠ 0 := by
 unfold qn at h ⊢
 split at h
 ·cases h
 ·rename_i h1; rw [if_neg h1]; exact qg1 c
def qs7 (c : K) : Bool := !decide ((qki c).2 = 0) && (!decide ((qki c).2 = 5) || decide ((qq c).kind = 0))
theorem q57 (c : K) (hk : c.ok) : qce Tryz.prog 111 (curE c) (curE c) [.ptr 0 0] (.bool (qs7 c)) := by
 refine qp c0ca 1 (by simp) (by simp) ?_
 repeat' (first | refine vs_ ?_ | ((first | refine vr_ ?_ | refine qck7 hk ?_ | refine qb6 ?_ | (refine cs_ ?_ ?_ <;> intro hc) | refine cj_ ?_ | fail) <;> (try refine ev_ ?_)) | with_reducible exact ti_)
 all_goals (unfold qs7; simp_all)
theorem qbzt {c : K} {L : List Ent} {Q : List Ent → VO → Prop} (hk : c.ok) (hq : Q (curE c :: L) (.val (.bool (qs7 c)))) : VApp Tryz.prog (curE c :: L) (.fn 111 [] []) [.ptr 0 0] Q := qb9 (q57 c hk) (qbi _ _) (qbi _ _) rfl rfl fun _ => hq
def qr6 (t : T) (n : N) : N := .mk 3 t.pos 0 t.text [n]
def qbq (rec : K → K × Option N) (c : K) : K × Option N :=
 if (qn c 2).2 = true then ((qbz rec (qn c 2).1).1, (qbz rec (qn c 2).1).2.map (qr6 (qev c 2)))
 else ((qn c 2).1, none)
theorem q5y {c : K} {L : List Ent} {t : T} {n : N} {b : Bool} {Q : List Ent → VO → Prop} (hq : Q (curE c :: L) (.val (resP (qob (qr6 t n) b)))) :
 VApp Tryz.prog (curE c :: L) (.fn 106 [] []) [.ptr 0 0, .agg [.int .i64 3, .int .i64 t.pos, .int .i64 0, .str t.text, .sl 5 [enc n]], .bool b] Q := by
 have h := qza (n := qr6 t n) hq
 simpa only [qr6, enc, encs] using h
theorem q9i {r : Option N} {t : T} : qob (qr6 t (r.getD N0)) r.isSome = r.map (qr6 t) := qv1
section
variable {rec : K → K × Option N} {b : Nat} (hm : ∀ c, Mon c (rec c).1) (ih : ∀ c, c.good → rest c < b → qce Tryz.prog 104 (curE c) (curE (rec c).1) [.ptr 0 0] (resP (rec c).2))
include hm ih
theorem qp7 (c : K) (hg : c.good) (hr : rest c ≤ b) : qce Tryz.prog 112 (curE c) (curE (qbq rec c).1) [.ptr 0 0] (resP (qbq rec c).2) := by
 have g1 : (qn c 2).1.good := (qbf c 2).1 hg
 have hr1 : rest (qn c 2).1 ≤ b := by have := (qbf c 2).2.1; omega
 refine qp c0cb 1 (by simp) (by simp) ?_
 repeat' (first | refine vs_ ?_ | ((first | refine vr_ ?_ | refine qdi hg.ok ?_ | refine qcs (qi8 hm ih _ g1 hr1) rfl ?_ | refine q5y ?_ | (refine cs_ ?_ ?_ <;> intro hc) | refine cj_ ?_ | fail) <;> (try refine ev_ ?_)) | with_reducible exact ti_)
 all_goals (try simp only [q9i])
 all_goals (unfold qbq; simp only [*, qdt, Int.reduceEq, if_true, if_false, reduceIte, Bool.false_eq_true, Option.getD_none, Option.getD_some, Option.isSome_none, Option.isSome_some, and_self, true_and, and_true]; try rfl)
end
set_option maxRecDepth 4000

def qew (rec : K → K × Option N) (many : Bool) : Nat → K → List N → K × Option (List N)
 | 0, c, _ => (c, none)
 | f + 1, c, acc =>
   if (qbq rec c).2.isSome = true then
    if (many && (qf (qbq rec c).1 [44]).2) = true then qew rec many f (qf (qbq rec c).1 [44]).1 (acc ++ [(qbq rec c).2.getD N0])
    else ((qbq rec c).1, some (acc ++ [(qbq rec c).2.getD N0]))
   else ((qbq rec c).1, none)
def qgi (many : Bool) (r : K × Option (List N)) : K × Option (List N) :=
 if r.2.isSome = true then
  if many = true then
   if (qi r.1 [41]).2 = true then ((qi (qi r.1 [41]).1 [61, 62]).1, if (qi (qi r.1 [41]).1 [61, 62]).2 = true then r.2 else none)
   else ((qi r.1 [41]).1, none)
  else ((qi r.1 [61, 62]).1, if (qi r.1 [61, 62]).2 = true then r.2 else none)
 else (r.1, none)
def qg2 (rec : K → K × Option N) (c : K) : K × Option (List N) :=
 if ((qf c [40]).2 && isK (qf c [40]).1 [41]) = true then ((qf c [40]).1, some []) else qew rec (qf c [40]).2 (rest (qf c [40]).1 + 1) (qf c [40]).1 []
def qbj (rec : K → K × Option N) (c : K) : K × Option (List N) :=
 if qkf c [61, 62] = true then qgi (qf c [40]).2 (qg2 rec c)
 else (c, if qs7 c = true then none else some [])
section
variable {rec : K → K × Option N} (hm : ∀ c, Mon c (rec c).1)
include hm
theorem qh3 (c : K) : Mon c (qbq rec c).1 := by
 unfold qbq
 split
 ·exact (qbf c 2).trans (qey hm _)
 ·exact qbf c 2
theorem qk9 {c : K} (h : (qbq rec c).2.isSome = true) : rest (qbq rec c).1 < rest c := by
 unfold qbq at h ⊢
 split at h
 ·rename_i h1
  rw [if_pos h1]
  have h2 := (qbf c 2).2.1
  have h3 := qd9 hm (c := (qn c 2).1) (by simpa using h)
  simp only; omega
 ·cases h
theorem qtf (many : Bool) : ∀ (f : Nat) (c : K) (acc : List N), Mon c (qew rec many f c acc).1
 | 0, c, acc => Mon.refl c
 | f + 1, c, acc => by
   rw [qew]
   split
   ·split
    ·exact ((qh3 hm c).trans (qk _ _)).trans (qtf many f _ _)
    ·exact qh3 hm c
   ·exact qh3 hm c
theorem q4s (c : K) : Mon c (qg2 rec c).1 := by
 unfold qg2
 split
 ·exact qk c _
 ·exact (qk c _).trans (qtf hm _ _ _ _)
theorem qhc (c : K) : Mon c (qbj rec c).1 := by
 unfold qbj qgi
 have h := q4s hm c
 split
 ·split
  ·split
   ·split
    ·exact (h.trans (qd _ _)).trans (qd _ _)
    ·exact h.trans (qd _ _)
   ·exact h.trans (qd _ _)
  ·exact h
 ·exact Mon.refl c
end
def qve (p : Nat) (r : Option (List N)) : AV := .tup [accV p (encs (r.getD [])), .bool r.isSome]
def qi5 (rec : K → K × Option N) (c : K) : Prop := VCalls Tryz.prog 68 [curE c] [.ptr 0 0] fun H' o => H' = curE (qbj rec c).1 :: accE 5 (encs ((qbj rec c).2.getD [])) ∧ o = .val (qve 1 (qbj rec c).2)
def q71 (many : Bool) (x : Bool × Nat × K × List N) : AF × List Ent :=
 (⟨[(0, .ptr 0 0), (4, accV 1 (encs x.2.2.2)), (5, .bool many), (6, .bool x.1)], []⟩, curE x.2.2.1 :: accE 5 (encs x.2.2.2))
section
variable {rec : K → K × Option N} {b : Nat} (hm : ∀ c, Mon c (rec c).1) (ih : ∀ c, c.good → rest c < b → qce Tryz.prog 104 (curE c) (curE (rec c).1) [.ptr 0 0] (resP (rec c).2))
include hm ih
theorem qqj (c : K) (hg : c.good) (hr : rest c ≤ b) : qi5 rec c := by
 unfold qi5
 obtain ⟨kk, hk1, hk2, hk0⟩ : ∃ k : Nat, ((qbj rec c).2.getD [] = [] → k = 1) ∧ ((qbj rec c).2.getD [] ≠ [] → k = 2) ∧ 1 ≤ k := by
  by_cases h : (qbj rec c).2.getD [] = []
  ·exact ⟨1, fun _ => rfl, fun g => absurd h g, by omega⟩
  ·exact ⟨2, fun g => absurd g h, fun _ => rfl, by omega⟩
 refine qd1 c0bz kk (by simpa using hk0) (by simp) ?_
 have g1 : (qf c [40]).1.good := (qk c _).1 hg
 have hr1 : rest (qf c [40]).1 ≤ b := by have := (qk c [40]).2.1; omega
 by_cases ha : qkf c [61, 62] = true
 ·have hpa : qbj rec c = qgi (qf c [40]).2 (qg2 rec c) := by rw [qbj, if_pos ha]
  rw [hpa] at hk1 hk2 ⊢
  clear hpa
  unfold qg2 at hk1 hk2 ⊢
  generalize htg : (if ((qf c [40]).2 && isK (qf c [40]).1 [41]) = true then ((qf c [40]).1, some []) else qew rec (qf c [40]).2 (rest (qf c [40]).1 + 1) (qf c [40]).1 []) = tg at hk1 hk2 ⊢
  generalize hd0 : (qf c [40]).1 = d0 at *
  generalize hmn : (qf c [40]).2 = many at *
  have h0t : (!(many && isK d0 [41])) = true → qew rec many (rest d0 + 1) d0 [] = tg := fun h => by
   rw [Bool.not_eq_true'] at h
   rw [← htg, if_neg (by rw [h]; simp)]
  have h0f : (!(many && isK d0 [41])) = false → tg = (d0, some []) := fun h => by
   rw [Bool.not_eq_false'] at h
   rw [← htg, if_pos h]
  clear htg
  obtain ⟨mm, hmm⟩ : ∃ mm, mm = many := ⟨_, rfl⟩
  cases many <;> (
   repeat' (first | refine vs_ ?_ | ((first | refine vr_ ?_ | fail) <;> (try simp only [ha, hd0, hmn, go_sem, ↓reduceIte])) | ((first | (refine cs_ ?_ ?_ <;> intro hc) | refine cj_ ?_ | fail | refine q9m hg.ok hg.2.1 ?_ | refine qes hg.ok ?_ | refine a_Is ?_) <;> (try refine ev_ ?_)) | with_reducible exact ti_)
   refine qbm (S := Bool × Nat × K × List N) (fun x => x.2.2.1.good ∧ rest x.2.2.1 ≤ b ∧ (x.1 = true → qew rec mm x.2.1 x.2.2.1 x.2.2.2 = tg ∧ rest x.2.2.1 < x.2.1) ∧ (x.1 = false → tg = (x.2.2.1, some x.2.2.2)) ∧ x.2.2.2.length + rest x.2.2.1 ≤ 1048577)
    (q71 mm) (fun x => if x.1 = true then rest x.2.2.1 + 1 else 0) ?_ ?_
   ·refine q8 (!(mm && isK d0 [41]), rest d0 + 1, d0, []) [0] ⟨g1, hr1, fun h => ⟨by rw [hmm]; exact h0t (by simp only [hmm] at h; exact h), Nat.lt_succ_self _⟩, fun h => h0f (by simp only [hmm] at h; exact h), ?_⟩ rfl (by simp) ?_ ?_ ?_
    ·have h9 := g1.rest
     unfold rest
     simp only [List.length_nil]
     omega
    all_goals simp only [q71, encs, qr, qt, hmm, Bool.false_and, Bool.true_and, Bool.not_false]
    all_goals (refine ev_ ?_; (try with_reducible exact ti_))
   ·rintro ⟨more, fu, d, acc⟩ ⟨i1, i2, i3, i4, i5⟩
    simp only at i1 i2 i3 i4 i5
    unfold q71
    have hcap : qdq (acc.length + 1) 64 := capN (by omega)
    cases more with
    | false =>
      have i4 := i4 rfl
      subst i4
      clear i3
      by_cases hE : (qgi mm (d, some acc)).2.getD [] = []
      ·simp only [hmm] at hE
       obtain rfl := hk1 hE
       by_cases h0 : acc = []
       ·subst h0
        simp only [encs, qr, qt, hmm]
        repeat' (first | refine vs_ ?_ | ((first | refine vr_ ?_ | fail) <;> (try simp only [hmm, go_sem, ↓reduceIte])) | ((first | (refine cs_ ?_ ?_ <;> intro hc) | refine cj_ ?_ | fail | refine qcf i1.ok ?_ | refine qcf ((qd d _).1 i1).ok ?_) <;> (try refine ev_ ?_)) | with_reducible exact ti_)
        all_goals (unfold qgi; simp only [*, qve, encs, qr, qt, if_true, if_false, reduceIte, Bool.false_eq_true, Option.isSome_some, Option.isSome_none, Option.getD_some, Option.getD_none, and_self, true_and, and_true, Bool.true_and, Bool.false_and, not_true_eq_false])
       ·have hne := q9 h0
        simp only [qbd hne, qbc hne, qx, hmm]
        repeat' (first | refine vs_ ?_ | ((first | refine vr_ ?_ | fail) <;> (try simp only [hmm, go_sem, ↓reduceIte])) | ((first | (refine cs_ ?_ ?_ <;> intro hc) | refine cj_ ?_ | fail | refine qcf i1.ok ?_ | refine qcf ((qd d _).1 i1).ok ?_) <;> (try refine ev_ ?_)) | with_reducible exact ti_)
        all_goals first | (exfalso; unfold qgi at hE; simp only [*, qve, encs, qr, qt, if_true, if_false, reduceIte, Bool.false_eq_true, Option.isSome_some, Option.isSome_none, Option.getD_some, Option.getD_none, and_self, true_and, and_true, Bool.true_and, Bool.false_and, not_true_eq_false] at hE; done) | (unfold qgi; simp only [*, qve, encs, qr, qt, if_true, if_false, reduceIte, Bool.false_eq_true, Option.isSome_some, Option.isSome_none, Option.getD_some, Option.getD_none, and_self, true_and, and_true, Bool.true_and, Bool.false_and, not_true_eq_false])
      ·simp only [hmm] at hE
       obtain rfl := hk2 hE
       have h0 : ¬ acc = [] := by
        intro h
        subst h
        apply hE
        unfold qgi
        repeat' split
        all_goals rfl
       have hne := q9 h0
       simp only [qbd hne, qbc hne, qx, hmm]
       repeat' (first | refine vs_ ?_ | ((first | refine vr_ ?_ | fail) <;> (try simp only [hmm, go_sem, ↓reduceIte])) | ((first | (refine cs_ ?_ ?_ <;> intro hc) | refine cj_ ?_ | fail | refine qcf i1.ok ?_ | refine qcf ((qd d _).1 i1).ok ?_) <;> (try refine ev_ ?_)) | with_reducible exact ti_)
       all_goals first | (exfalso; unfold qgi at hE; simp only [*, qve, encs, qr, qt, if_true, if_false, reduceIte, Bool.false_eq_true, Option.isSome_some, Option.isSome_none, Option.getD_some, Option.getD_none, and_self, true_and, and_true, Bool.true_and, Bool.false_and, not_true_eq_false] at hE; done) | (unfold qgi; simp only [*, qve, encs, qr, qt, if_true, if_false, reduceIte, Bool.false_eq_true, Option.isSome_some, Option.isSome_none, Option.getD_some, Option.getD_none, and_self, true_and, and_true, Bool.true_and, Bool.false_and, not_true_eq_false]; rw [qbc hne, qbd hne, qx]; exact ⟨rfl, rfl⟩)
    | true =>
      have i6 := (i3 rfl).2
      replace i3 := (i3 rfl).1
      clear i4
      obtain ⟨fu, rfl⟩ : ∃ k, fu = k + 1 := ⟨fu - 1, by omega⟩
      rw [qew] at i3
      have j1 : (qbq rec d).1.good := (qh3 hm d).1 i1
      have j2 : rest (qbq rec d).1 ≤ rest d := (qh3 hm d).2.1
      have j3 : (qf (qbq rec d).1 [44]).1.good := (qk _ _).1 j1
      have j4 := (qk (qbq rec d).1 [44]).2.1
      by_cases hs : (qbq rec d).2.isSome = true
      ·rw [if_pos hs] at i3
       have hlt := qk9 hm hs
       obtain ⟨d', hd', k1, k2, k3, k4⟩ : ∃ d', d' = (if mm = true then (qf (qbq rec d).1 [44]).1 else (qbq rec d).1) ∧ d'.good ∧ rest d' ≤ rest (qbq rec d).1 ∧ ((mm && (qf (qbq rec d).1 [44]).2) = true → qew rec mm fu d' (acc ++ [(qbq rec d).2.getD N0]) = tg) ∧ ((mm && (qf (qbq rec d).1 [44]).2) = false → tg = (d', some (acc ++ [(qbq rec d).2.getD N0]))) := by
        refine ⟨_, rfl, ?_, ?_, fun h => ?_, fun h => ?_⟩
        ·cases mm
         ·exact j1
         ·exact j3
        ·cases mm
         ·exact Nat.le_refl _
         ·exact j4
        ·rw [if_pos h] at i3
         rw [if_pos (by simp only [Bool.and_eq_true] at h; exact h.1)]
         exact i3
        ·rw [if_neg (by rw [h]; simp)] at i3
         rw [← i3]
         clear hmm
         cases mm
         ·rfl
         ·rw [Bool.true_and] at h
          rw [if_pos rfl, qc2 h]
       by_cases h0 : acc = []
       ·subst h0
        simp only [encs, qr, qt, hmm]
        repeat' (first | refine vs_ ?_ | ((first | refine vr_ ?_ | fail) <;> (try simp only [hmm, hs, go_sem, ↓reduceIte])) | ((first | (refine cs_ ?_ ?_ <;> intro hc) | refine cj_ ?_ | fail | refine qcs (qp7 hm ih d i1 i2) rfl ?_ | refine qes j1.ok ?_) <;> (try refine ev_ ?_)) | with_reducible exact ti_)
        ·refine q8 (mm && (qf (qbq rec d).1 [44]).2, fu, d', [] ++ [(qbq rec d).2.getD N0]) [0, 2] ⟨⟨k1, by simp only; omega, fun h => ⟨by first | exact k3 h | (have := k3 h; simpa only [hmm] using this), by simp only; omega⟩, fun h => k4 h, ?_⟩, ?_⟩ rfl (by simp) ?_ ?_ ?_
         ·simp only [List.length_append, List.length_cons, List.length_nil]; omega
         ·simp only; split <;> omega
         all_goals simp only [hd', hmm, if_true, if_false, reduceIte, Bool.false_eq_true, Bool.true_and, Bool.false_and, q71, ← qe, qbs, qbr, List.nil_append, encs, qby, qbx]
         all_goals (refine ev_ ?_; (try with_reducible exact ti_))
       ·have hne := q9 h0
        simp only [qbd hne, qbc hne, qx, hmm]
        repeat' (first | refine vs_ ?_ | ((first | refine vr_ ?_ | fail) <;> (try simp only [hmm, hs, go_sem, ↓reduceIte])) | ((first | (refine cs_ ?_ ?_ <;> intro hc) | refine cj_ ?_ | fail | refine qcs (qp7 hm ih d i1 i2) rfl ?_ | refine qes j1.ok ?_) <;> (try refine ev_ ?_)) | with_reducible exact ti_)
        ·refine q8 (mm && (qf (qbq rec d).1 [44]).2, fu, d', acc ++ [(qbq rec d).2.getD N0]) [0, 3] ⟨⟨k1, by simp only; omega, fun h => ⟨by first | exact k3 h | (have := k3 h; simpa only [hmm] using this), by simp only; omega⟩, fun h => k4 h, ?_⟩, ?_⟩ rfl (by simp) ?_ ?_ ?_
         ·simp only [List.length_append, List.length_cons, List.length_nil]; omega
         ·simp only; split <;> omega
         all_goals simp only [hd', hmm, if_true, if_false, reduceIte, Bool.false_eq_true, Bool.true_and, Bool.false_and, q71, ← qe, qbs, qbr, List.nil_append, encs, qby, qbx]
         all_goals (refine ev_ ?_; (try with_reducible exact ti_))
         all_goals (try (rw [qe, qo, qbb]; exact ⟨rfl, rfl⟩))
      ·have hs : (qbq rec d).2.isSome = false := by simpa using hs
       rw [if_neg (by rw [hs]; simp)] at i3
       subst i3
       obtain rfl := hk1 rfl
       by_cases h0 : acc = []
       ·subst h0
        simp only [encs, qr, qt, hmm]
        repeat' (first | refine vs_ ?_ | ((first | refine vr_ ?_ | fail) <;> (try simp only [hmm, hs, go_sem, ↓reduceIte])) | ((first | (refine cs_ ?_ ?_ <;> intro hc) | refine cj_ ?_ | fail | refine qcs (qp7 hm ih d i1 i2) rfl ?_ | refine qes j1.ok ?_) <;> (try refine ev_ ?_)) | with_reducible exact ti_)
        exact ⟨rfl, rfl⟩
       ·have hne := q9 h0
        simp only [qbd hne, qbc hne, qx, hmm]
        repeat' (first | refine vs_ ?_ | ((first | refine vr_ ?_ | fail) <;> (try simp only [hmm, hs, go_sem, ↓reduceIte])) | ((first | (refine cs_ ?_ ?_ <;> intro hc) | refine cj_ ?_ | fail | refine qcs (qp7 hm ih d i1 i2) rfl ?_ | refine qes j1.ok ?_) <;> (try refine ev_ ?_)) | with_reducible exact ti_)
        exact ⟨rfl, rfl⟩
   )
 ·have hpa : qbj rec c = (c, if qs7 c = true then none else some []) := by rw [qbj, if_neg ha]
  rw [hpa] at hk1 hk2 ⊢
  obtain rfl := hk1 (by simp only; split <;> rfl)
  repeat' (first | refine vs_ ?_ | ((first | refine vr_ ?_ | fail) <;> (try simp only [ha, go_sem, ↓reduceIte])) | ((first | (refine cs_ ?_ ?_ <;> intro hc) | refine cj_ ?_ | fail | refine q9m hg.ok hg.2.1 ?_ | refine qbzt hg.ok ?_) <;> (try refine ev_ ?_)) | with_reducible exact ti_)
  cases qs7 c <;> exact ⟨rfl, rfl⟩
end
set_option maxRecDepth 4000

theorem qot {rec : K → K × Option N} {c : K} (h : qi5 rec c) (h0 : (qbj rec c).2.getD [] = []) {L : List Ent} {Q : List Ent → VO → Prop} (hq : Q (curE (qbj rec c).1 :: L) (.val (.tup [.nils, .bool (qbj rec c).2.isSome]))) :
 VApp Tryz.prog (curE c :: L) (.fn 68 [] []) [.ptr 0 0] Q :=
 qb9 (r := .tup [.nils, .bool (qbj rec c).2.isSome]) (e' := curE (qbj rec c).1) (by
  unfold qi5 at h
  rw [h0] at h
  unfold qce
  have hr : qve 1 (qbj rec c).2 = .tup [.nils, .bool (qbj rec c).2.isSome] := by rw [qve, h0]; rfl
  rw [hr] at h
  exact h) (qbi _ _) (qbi _ _) rfl rfl fun _ => hq
theorem qun {rec : K → K × Option N} {c : K} (h : qi5 rec c) {l : List N} (hl : (qbj rec c).2 = some l) (h0 : l ≠ []) {L : List Ent} {Q : List Ent → VO → Prop}
 (hq : Q (curE (qbj rec c).1 :: (L ++ [.app 5 (encs l)])) (.val (.tup [.row (L.length + 1) l.length, .bool true]))) :
 VApp Tryz.prog (curE c :: L) (.fn 68 [] []) [.ptr 0 0] Q :=
 qcd (first := []) (caps := []) (by
  simp only [List.nil_append, List.append_nil]
  have hne := q9 h0
  have hs : AV.rens (sg [0]) [.ptr 0 0] = [.ptr 0 0] := rfl
  rw [← hs]
  have ha : AV.bds 1 [.ptr 0 0] = true := rfl
  have napp_ren : ∀ σ : Nat → Nat, (Ent.app 5 (encs l)).ren σ = .app 5 (encs l) := fun σ => Ent.ren_same (m := 0) (fun i hi => by omega) _ (by simp [Ent.bd, qo])
  refine qhu (H0 := [curE c]) [0] h (by simp) (by simp) rfl ?_ ha ?_
  ·intro j e2 hj
   obtain rfl : j = 0 := by have := (List.getElem?_eq_some_iff.1 hj).1; simp at this; omega
   simp only [List.getElem?_cons_zero, Option.some.injEq] at hj
   subst hj
   exact .inr ⟨qbi _ _, by rw [qc9]; rfl⟩
  rintro H1 o ⟨rfl, rfl⟩
  rw [hl]
  simp only [Option.getD_some, qbc hne, qve, qbd hne, qx, Option.isSome_some, List.length_cons, List.length_nil, List.take_succ_cons, List.take_zero, List.map_nil, qbw, List.drop_zero, List.drop_succ_cons, List.map_cons, qc9, napp_ren, VO.ren, AV.ren, AV.rens, sg', List.set_cons_zero]
  exact hq)
def qoj (p : Int) (l : List N) (t : N) : N := .mk 4 p 0 [] (l ++ [t])
def qfu (f : Nat) (c : K) : K × Option N :=
 if (qbj (qb3 f) c).2.isSome = true then ((qb3 f (qbj (qb3 f) c).1).1, (qb3 f (qbj (qb3 f) c).1).2.map (qoj (qq c).pos ((qbj (qb3 f) c).2.getD [])))
 else ((qbj (qb3 f) c).1, none)
theorem qtp {c : K} {L : List Ent} {p : Int} {l : List N} {t : N} {b : Bool} {Q : List Ent → VO → Prop} (hq : Q (curE c :: L) (.val (resP (qob (qoj p l t) b)))) :
 VApp Tryz.prog (curE c :: L) (.fn 106 [] []) [.ptr 0 0, .agg [.int .i64 4, .int .i64 p, .int .i64 0, .str [], .sl 5 (encs l ++ [enc t])], .bool b] Q := by
 have h := qza (n := qoj p l t) hq
 simpa only [qoj, enc, qe] using h
theorem q00 {c : K} {L : List Ent} {p : Int} {t : N} {b : Bool} {Q : List Ent → VO → Prop} (hq : Q (curE c :: L) (.val (resP (qob (qoj p [] t) b)))) :
 VApp Tryz.prog (curE c :: L) (.fn 106 [] []) [.ptr 0 0, .agg [.int .i64 4, .int .i64 p, .int .i64 0, .str [], .sl 5 [enc t]], .bool b] Q := qtp (l := []) hq
theorem qxn {r : Option N} {p : Int} {l : List N} : qob (qoj p l (r.getD N0)) r.isSome = r.map (qoj p l) := qv1
theorem qzn {rec : K → K × Option N} (hm : ∀ c, Mon c (rec c).1) (many : Bool) : ∀ (f : Nat) (c : K) (acc l : List N), (qew rec many f c acc).2 = some l → l.length ≤ acc.length + rest c
 | 0, c, acc, l => fun h => by cases h
 | f + 1, c, acc, l => fun h => by
   rw [qew] at h
   split at h
   ·rename_i hs
    have h1 := qk9 hm hs
    split at h
    ·have h2 := qzn hm many f _ _ _ h
     have h3 := (qk (qbq rec c).1 [44]).2.1
     simp only [List.length_append, List.length_cons, List.length_nil] at h2
     omega
    ·cases h
     simp only [List.length_append, List.length_cons, List.length_nil]
     omega
   ·cases h
theorem qji {m : Bool} {r : K × Option (List N)} {l : List N} (h : (qgi m r).2 = some l) : r.2 = some l := by
 unfold qgi at h
 repeat' split at h
 all_goals first | exact h | cases h
theorem qpb {rec : K → K × Option N} (hm : ∀ c, Mon c (rec c).1) {c : K} {l : List N} (h : (qbj rec c).2 = some l) : l.length ≤ rest c := by
 unfold qbj at h
 split at h
 ·have h := qji h
  unfold qg2 at h
  split at h
  ·cases h; exact Nat.zero_le _
  ·have h1 := qzn hm _ _ _ _ _ h
   have h2 := (qk c [40]).2.1
   simp only [List.length_nil] at h1
   omega
 ·simp only at h
  split at h
  ·cases h
  ·cases h; exact Nat.zero_le _
theorem q5p (f : Nat) (c : K) (hg : c.good) (hr : rest c < f) : qce Tryz.prog 71 (curE c) (curE (qfu f c).1) [.ptr 0 0] (resP (qfu f c).2) := by
 have hm := qcy f
 have hP := qqj hm (qy3 f) c hg (by omega)
 have g1 : (qbj (qb3 f) c).1.good := (qhc hm c).1 hg
 have hr1 : rest (qbj (qb3 f) c).1 < f := by have := (qhc hm c).2.1; omega
 refine qp c0by 1 (by simp) (by simp) ?_
 unfold qfu
 cases ho : (qbj (qb3 f) c).2 with
 | none =>
   have h0 : (qbj (qb3 f) c).2.getD [] = [] := by rw [ho]; rfl
   repeat' (first | refine vs_ ?_ | ((first | refine vr_ ?_ | fail) <;> (try simp only [ho, Option.isSome_none, go_sem, ↓reduceIte])) | ((first | (refine cs_ ?_ ?_ <;> intro hc) | refine cj_ ?_ | fail | refine qb6 ?_ | refine qot hP h0 ?_) <;> (try refine ev_ ?_)) | with_reducible exact ti_)
   rw [qdt]; rfl
 | some l =>
   have hlen := qpb hm ho
   have hlen2 := hg.rest
   by_cases h0 : l = []
   ·subst h0
    have h0 : (qbj (qb3 f) c).2.getD [] = [] := by rw [ho]; rfl
    have hcap : qdq 1 64 := capN (by omega)
    repeat' (first | refine vs_ ?_ | ((first | refine vr_ ?_ | fail) <;> (try simp only [ho, Option.isSome_some, go_sem, ↓reduceIte])) | ((first | (refine cs_ ?_ ?_ <;> intro hc) | refine cj_ ?_ | fail | refine qb6 ?_ | refine qot hP h0 ?_ | refine qcs (qy3 f _ g1 hr1) rfl ?_ | refine q00 ?_) <;> (try refine ev_ ?_)) | with_reducible exact ti_)
    rw [qxn]; rfl
   ·have hcap : qdq (l.length + 1) 64 := capN (by unfold rest at hlen; omega)
    repeat' (first | refine vs_ ?_ | ((first | refine vr_ ?_ | fail) <;> (try simp only [ho, Option.isSome_some, go_sem, ↓reduceIte])) | ((first | (refine cs_ ?_ ?_ <;> intro hc) | refine cj_ ?_ | fail | refine qb6 ?_ | refine qun hP ho h0 ?_ | refine qcs (qy3 f _ g1 hr1) rfl ?_ | refine qtp ?_) <;> (try refine ev_ ?_)) | with_reducible exact ti_)
    rw [qxn]; rfl

/-! The size of what is read. -/
theorem qhd : ∀ (a b : List N), szs (a ++ b) = szs a + szs b
 | [], b => by simp [szs]
 | x :: a, b => by rw [List.cons_append, szs, szs, qhd a b]; omega
theorem q08 (c : K) (k : Int) (ks : List N) : sz (qie c k ks) = szs ks + 1 := by rw [qkl]; rfl
section
variable {rec : K → K × Option N} (hm : ∀ c, Mon c (rec c).1) (ih : ∀ c n, (rec c).2 = some n → sz n + rest (rec c).1 ≤ rest c)
include hm ih
omit hm in
theorem qlr {c : K} {n : N} (h : (qbz rec c).2 = some n) : sz n + rest (qbz rec c).1 ≤ rest c := by
 unfold qbz at h ⊢
 split at h
 ·rename_i h1
  rw [if_pos h1]
  cases h
  have := qbk (c := c) (by omega)
  rw [q08]; simp only [szs]; omega
 ·rename_i h1
  rw [if_neg h1]
  split at h
  ·rename_i h2
   rw [if_pos h2]
   cases h
   have := qbk (c := c) (by omega)
   rw [q08]; simp only [szs]; omega
  ·rename_i h2
   rw [if_neg h2]
   split at h
   ·rename_i h3
    rw [if_pos h3]
    split at h
    ·rename_i h4
     rw [if_pos h4]
     have hp := qbk (c := (qc c).1) (by rw [qe7 h4]; exact qdu h3)
     have h0 := (qm c).2.1
     split at h
     ·rename_i h5
      rw [if_pos h5]
      simp only at h ⊢
      split at h
      ·have h6 := ih _ _ h
       have h7 := (qd (rec (qu (qc c).1)).1 [41]).2.1
       have h8 := (qbv (qi (rec (qu (qc c).1)).1 [41]).1).2.1
       omega
      ·cases h
     ·cases h
    ·cases h
   ·cases h
omit hm in
theorem qtr : ∀ (f : Nat) (c : K) (acc l : List N), (qef rec f c acc).2 = some l → szs l + rest (qef rec f c acc).1 ≤ szs acc + rest c
 | 0, c, acc, l => fun h => by cases h
 | f + 1, c, acc, l => fun h => by
   rw [qef] at h ⊢
   split at h
   ·rename_i h1
    rw [if_pos h1]
    split at h
    ·rename_i h2
     rw [if_pos h2]
     obtain ⟨n, hn⟩ := Option.isSome_iff_exists.1 h2
     have h3 := qtr f _ _ _ h
     have h4 := qlr ih hn
     rw [qhd, hn] at h3
     simp only [Option.getD_some, szs] at h3
     rw [hn]
     simp only [Option.getD_some]
     omega
    ·cases h
   ·rename_i h1
    rw [if_neg h1]
    cases h
    exact Nat.le_refl _
omit hm in
theorem qxt {c : K} {n : N} (h : (qch rec c).2 = some n) : sz n + rest (qch rec c).1 ≤ rest c := by
 unfold qch at h ⊢
 split at h
 ·rename_i h1
  rw [if_pos h1]
  obtain ⟨l, hl, rfl⟩ := Option.map_eq_some_iff.1 h
  have h2 := qtr ih _ _ _ _ hl
  have h3 := qbk (c := c) (by omega)
  rw [q08]
  simp only [szs] at h2 ⊢
  omega
 ·rename_i h1
  rw [if_neg h1]
  exact qlr ih h
omit hm in
theorem q4t {c : K} {n : N} (h : (qbq rec c).2 = some n) : sz n + rest (qbq rec c).1 ≤ rest c := by
 unfold qbq at h ⊢
 split at h
 ·rename_i h1
  rw [if_pos h1]
  obtain ⟨m, hk, rfl⟩ := Option.map_eq_some_iff.1 h
  have h2 := qlr ih hk
  obtain ⟨e1, e2⟩ := qhm h1
  rw [(qlk h1).1] at h2 ⊢
  have h3 := qbk (c := c) (by omega)
  have : sz (qr6 (qev c 2) m) = sz m + 1 := by rw [qkl]; simp [qr6, N.kids, szs]
  simp only at h2 ⊢
  omega
 ·cases h
omit hm in
theorem qry (many : Bool) : ∀ (f : Nat) (c : K) (acc l : List N), (qew rec many f c acc).2 = some l → szs l + rest (qew rec many f c acc).1 ≤ szs acc + rest c
 | 0, c, acc, l => fun h => by cases h
 | f + 1, c, acc, l => fun h => by
   rw [qew] at h ⊢
   split at h
   ·rename_i h1
    rw [if_pos h1]
    obtain ⟨n, hn⟩ := Option.isSome_iff_exists.1 h1
    have h4 := q4t ih hn
    split at h
    ·rename_i h2
     rw [if_pos h2]
     have h3 := qry many f _ _ _ h
     have h5 := (qk (qbq rec c).1 [44]).2.1
     rw [qhd, hn] at h3
     simp only [Option.getD_some, szs] at h3
     rw [hn]
     simp only [Option.getD_some]
     omega
    ·rename_i h2
     rw [if_neg h2]
     cases h
     rw [hn, qhd]
     simp only [Option.getD_some, szs]
     omega
   ·cases h
end
theorem qnq : ∀ (f : Nat) (c : K) (n : N), (qb3 f c).2 = some n → sz n + rest (qb3 f c).1 ≤ rest c
 | 0, _, _ => fun h => by cases h
 | f + 1, c, n => fun h => by
   have ih := qnq f
   have h0 := (qm c).2.1
   rw [qb3] at h ⊢
   split at h
   ·rename_i h1
    rw [if_pos h1]
    split at h
    ·rename_i h2
     rw [if_pos h2]
     obtain ⟨m, hm⟩ := Option.isSome_iff_exists.1 h2
     have h3 := qxt ih hm
     split at h
     ·rename_i h4
      rw [if_pos h4]
      obtain ⟨q, hq, rfl⟩ := Option.map_eq_some_iff.1 h
      have h5 := ih _ _ hq
      have h6 := (qbv (qb3 f (qf (qch (qb3 f) (qc c).1).1 [45, 62]).1).1).2.1
      have h7 : rest (qf (qch (qb3 f) (qc c).1).1 [45, 62]).1 + 1 ≤ rest (qch (qb3 f) (qc c).1).1 := by
       unfold qf at h4 ⊢
       split at h4
       ·rename_i h8
        rw [if_pos h8]
        have := qbk (qdu h8)
        simp only; omega
       ·cases h4
      have : sz (qi2 ((qch (qb3 f) (qc c).1).2.getD N0) q) = sz m + sz q + 1 := by rw [qkl, hm]; simp [qi2, N.kids, szs]
      simp only
      omega
     ·rename_i h4
      rw [if_neg h4]
      have h5 := (qbv (qch (qb3 f) (qc c).1).1).2.1
      have h6 := qxt ih h
      simp only
      omega
    ·cases h
   ·cases h
theorem q37 {f : Nat} {c : K} {n : N} (h : (qfu f c).2 = some n) : sz n + rest (qfu f c).1 ≤ rest c + 1 := by
 unfold qfu at h ⊢
 split at h
 ·rename_i h1
  rw [if_pos h1]
  obtain ⟨l, hl⟩ := Option.isSome_iff_exists.1 h1
  obtain ⟨q, hq, rfl⟩ := Option.map_eq_some_iff.1 h
  have h2 := qnq f _ _ hq
  rw [hl]
  have h3 : szs l + rest (qbj (qb3 f) c).1 ≤ rest c := by
   have hx := hl
   unfold qbj at hx ⊢
   split at hx
   ·rename_i ha
    rw [if_pos ha]
    have h5 := qji hx
    have h6 : szs l + rest (qg2 (qb3 f) c).1 ≤ rest c := by
     unfold qg2 at h5 ⊢
     have ht := (qk c [40]).2.1
     split at h5
     ·rename_i hb
      rw [if_pos hb]
      cases h5
      simp only [szs]; omega
     ·rename_i hb
      rw [if_neg hb]
      have := qry (qnq f) _ _ _ _ _ h5
      simp only [szs] at this
      omega
    have h7 : rest (qgi (qf c [40]).2 (qg2 (qb3 f) c)).1 ≤ rest (qg2 (qb3 f) c).1 := by
     unfold qgi
     split
     ·split
      ·split
       ·exact Nat.le_trans (qd _ _).2.1 (qd _ _).2.1
       ·exact (qd _ _).2.1
      ·exact (qd _ _).2.1
     ·exact Nat.le_refl _
    omega
   ·rename_i ha
    rw [if_neg ha]
    simp only at hx ⊢
    split at hx
    ·cases hx
    ·cases hx; simp only [szs]; omega
  have : sz (qoj (qq c).pos l q) = szs l + sz q + 1 := by rw [qkl]; simp [qoj, N.kids, qhd, szs]
  simp only [Option.getD_some]
  omega
 ·cases h
theorem qq4 {l : List T} (h : l.length ≤ 1048577) : (newK l).good := ⟨Nat.zero_le _, Nat.le_trans (qll l) h, Nat.zero_le _⟩

def qkc (c : K) (n : N) : N × Int × Int :=
 if (qki c).2 = 0 then if depR n > 100 then (N0, n.pos, 2) else (n, 0, 0) else (N0, (qki c).1, (qki c).2)
def qym (rd : K → K × Option N) (s : List UInt8) : N × Int × Int :=
 if (lexV s).2.2 = 0 then qkc (rd (newK (lexV s).1)).1 ((rd (newK (lexV s).1)).2.getD N0)
 else (N0, (lexV s).2.1, (lexV s).2.2)
def resV (r : N × Int × Int) : AV := .tup [enc r.1, .int .i64 r.2.1, .int .i64 r.2.2]
attribute [go_sem] resV lexR
theorem q0u {c : K} (h : (qki c).2 = 0) : c.err = 0 := by
 by_cases he : c.err = 0
 ·exact he
 ·rw [qns he] at h; exact absurd h he
theorem qmj (f : Nat) (c : K) : Mon c (qfu f c).1 := by
 have hm := qcy f
 unfold qfu
 split
 ·exact (qhc hm c).trans (hm _)
 ·exact qhc hm c
end Go.Proofs.YtfjbmjplnmaclaaGreat
