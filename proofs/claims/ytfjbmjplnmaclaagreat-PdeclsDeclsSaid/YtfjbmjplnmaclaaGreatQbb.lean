/- A text of this proof. -/
import Derived.Test.YtfjbmjplnmaclaaGreatQba

/- patterns: what is read (plain); the program -/
set_option maxRecDepth 4000
namespace Go.Proofs.YtfjbmjplnmaclaaGreat
open Go Go.RowKit Go.V
set_option linter.unusedVariables false
set_option linter.unusedSimpArgs false

/-! Patterns. -/
def qkg (c : K) : Option N :=
 if (qq c).kind = 1 then some (.mk 11 (qq c).pos 0 (qq c).text [])
 else if (qq c).kind = 2 then some (.mk 14 (qq c).pos 0 (qq c).text [])
 else if (qq c).kind = 3 then some (.mk 13 (qq c).pos (qq c).num [] [])
 else if isK c [95] = true then some (.mk 12 (qq c).pos 0 [] [])
 else none
def begP (c : K) : Bool := (qkg c).isSome || isK c [40]
def qb0 (rec : K → K × Option N) (c : K) : K × Option N :=
 if (qkg c).isSome = true then (qu c, qkg c)
 else if isK c [40] = true then
  if (qc c).2 = true then
   if (rec (qu (qc c).1)).2.isSome = true then
    if (qi (rec (qu (qc c).1)).1 [41]).2 = true then (qcj (qi (rec (qu (qc c).1)).1 [41]).1, (rec (qu (qc c).1)).2)
    else ((qi (rec (qu (qc c).1)).1 [41]).1, none)
   else ((rec (qu (qc c).1)).1, none)
  else ((qc c).1, none)
 else (qdh c 5, none)
def qif (rec : K → K × Option N) : Nat → K → List N → K × Option (List N)
 | 0, c, acc => (c, none)
 | f + 1, c, acc =>
   if begP c = true then
    if (qb0 rec c).2.isSome = true then qif rec f (qb0 rec c).1 (acc ++ [(qb0 rec c).2.getD N0])
    else ((qb0 rec c).1, none)
   else (c, some acc)
def qcz : Nat → K → K × Option N
 | 0, c => (c, none)
 | f + 1, c =>
   if (qc c).2 = true then
    if (qq (qc c).1).kind = 2 then
     (qcj (qif (qcz f) (rest (qc c).1 + 1) (qu (qc c).1) []).1, (qif (qcz f) (rest (qc c).1 + 1) (qu (qc c).1) []).2.map fun ks => .mk 14 (qq (qc c).1).pos 0 (qq (qc c).1).text ks)
    else (qcj (qb0 (qcz f) (qc c).1).1, (qb0 (qcz f) (qc c).1).2)
   else ((qc c).1, none)

theorem qnd {c : K} {n : N} (h : qkg c = some n) : (qq c).kind ≠ 0 := by
 unfold qkg at h
 split at h
 ·omega
 ·split at h
  ·omega
  ·split at h
   ·omega
   ·split at h
    ·exact qdu (by assumption)
    ·cases h
section
variable {rec : K → K × Option N} (hm : ∀ c, Mon c (rec c).1)
include hm
theorem qjv (c : K) : Mon c (qb0 rec c).1 := by
 unfold qb0
 split
 ·exact qbo c
 ·split
  ·split
   ·have h1 := ((qm c).trans (qbo _)).trans (hm _)
    split
    ·split
     ·exact (h1.trans (qd _ _)).trans (qbv _)
     ·exact h1.trans (qd _ _)
    ·exact h1
   ·exact qm c
  ·exact qeg c 5
theorem qrk {c : K} (h : (qb0 rec c).2.isSome = true) : rest (qb0 rec c).1 < rest c := by
 unfold qb0 at h ⊢
 split at h
 ·rename_i hl
  rw [if_pos hl]
  obtain ⟨n, hn⟩ := Option.isSome_iff_exists.1 hl
  have := qbk (qnd hn)
  simp only; omega
 ·rename_i hl
  rw [if_neg hl]
  split at h
  ·rename_i hk
   rw [if_pos hk]
   split at h
   ·rename_i he
    rw [if_pos he]
    have hp := qbk (c := (qc c).1) (by rw [qe7 he]; exact qdu hk)
    have h0 := (qm c).2.1
    have h1 := (hm (qu (qc c).1)).2.1
    split at h
    ·rename_i hr
     rw [if_pos hr]
     have h2 := (qd (rec (qu (qc c).1)).1 [41]).2.1
     split at h
     ·rename_i hw
      rw [if_pos hw]
      have h3 := (qbv (qi (rec (qu (qc c).1)).1 [41]).1).2.1
      simp only; omega
     ·cases h
    ·cases h
   ·cases h
  ·cases h
theorem qw2 : ∀ (f : Nat) (c : K) (acc : List N), Mon c (qif rec f c acc).1
 | 0, c, acc => Mon.refl c
 | f + 1, c, acc => by
   rw [qif]
   split
   ·split
    ·exact (qjv hm c).trans (qw2 f _ _)
    ·exact qjv hm c
   ·exact Mon.refl c
end
theorem qe0 : ∀ (f : Nat) (c : K), Mon c (qcz f c).1
 | 0, c => Mon.refl c
 | f + 1, c => by
   rw [qcz]
   split
   ·split
    ·exact (((qm c).trans (qbo _)).trans (qw2 (qe0 f) _ _ _)).trans (qbv _)
    ·exact ((qm c).trans (qjv (qe0 f) _)).trans (qbv _)
   ·exact qm c
theorem q6u (c : K) : qce Tryz.prog 167 (curE c) (curE c) [.ptr 0 0] (resP (qkg c)) := by
 refine qp c0bu 1 (by simp) (by simp) ?_
 repeat' (first | refine vs_ ?_ | ((first | refine vr_ ?_ | refine qb6 ?_ | refine a_Is ?_ | (refine cs_ ?_ ?_ <;> intro hc) | refine cj_ ?_ | fail) <;> (try refine ev_ ?_)) | with_reducible exact ti_)
 all_goals (unfold qkg; simp_all [enc, encs, N0])
theorem qbb5 {c : K} {L : List Ent} {Q : List Ent → VO → Prop} (hq : Q (curE c :: L) (.val (resP (qkg c)))) : VApp Tryz.prog (curE c :: L) (.fn 167 [] []) [.ptr 0 0] Q := qcs (q6u c) rfl hq
theorem q09 (c : K) : qce Tryz.prog 166 (curE c) (curE c) [.ptr 0 0] (.bool (begP c)) := by
 refine qp c0bv 1 (by simp) (by simp) ?_
 repeat' (first | refine vs_ ?_ | ((first | refine vr_ ?_ | refine qbb5 ?_ | refine a_Is ?_ | (refine cs_ ?_ ?_ <;> intro hc) | refine cj_ ?_ | fail) <;> (try refine ev_ ?_)) | with_reducible exact ti_)
 all_goals (unfold begP; simp_all)
theorem qbma {c : K} {L : List Ent} {Q : List Ent → VO → Prop} (hq : Q (curE c :: L) (.val (.bool (begP c)))) : VApp Tryz.prog (curE c :: L) (.fn 166 [] []) [.ptr 0 0] Q := qb9 (q09 c) (qbi _ _) (qbi _ _) rfl rfl fun _ => hq
theorem qsr {rec : K → K × Option N} {b : Nat} (hm : ∀ c, Mon c (rec c).1) (ih : ∀ c, c.good → rest c < b → qce Tryz.prog 160 (curE c) (curE (rec c).1) [.ptr 0 0] (resP (rec c).2)) (c : K) (hg : c.good) (hr : rest c ≤ b) :
 qce Tryz.prog 165 (curE c) (curE (qb0 rec c).1) [.ptr 0 0] (resP (qb0 rec c).2) := by
 have g1 : (qc c).1.good := (qm c).1 hg
 have g2 : (qu (qc c).1).good := (qbo _).1 g1
 have g3 : (rec (qu (qc c).1)).1.good := (hm _).1 g2
 have g4 : (qi (rec (qu (qc c).1)).1 [41]).1.good := (qd _ _).1 g3
 have hrr : isK c [40] = true → (qc c).2 = true → rest (qu (qc c).1) < b := fun h1 h2 => by
  have := qbk (c := (qc c).1) (by rw [qe7 h2]; exact qdu h1)
  have := (qm c).2.1
  omega
 refine qp c0bw 1 (by simp) (by simp) ?_
 repeat' (first | refine vs_ ?_ | ((first | refine vr_ ?_ | refine qbb5 ?_ | refine a_Is ?_ | refine qud ?_ | refine qi1 ?_ | refine qlf hg.ok ?_ | refine qlf g1.ok ?_ | refine qcs (ih _ g2 (hrr (by assumption) (by assumption))) rfl ?_ | refine qcf g3.ok ?_ | refine qgn g4.2.2 ?_ | (refine cs_ ?_ ?_ <;> intro hc) | refine cj_ ?_ | fail) <;> (try refine ev_ ?_)) | with_reducible exact ti_)
 all_goals (unfold qb0; simp only [*, qdt, Int.reduceEq, if_true, if_false, reduceIte, Bool.false_eq_true, Option.getD_none, Option.getD_some, Option.isSome_none, Option.isSome_some, and_self, true_and, and_true]; try rfl)
def conZ (c : K) : AV := .tup [.agg [.int .i64 14, .int .i64 (qq c).pos, .int .i64 0, .str (qq c).text, .nils], .bool true]
attribute [go_sem] conZ
theorem qbbv (k : Nat) (c : K) : (conZ c).bd k = true := rfl
theorem q5w (c : K) (hc : (qq c).kind = 2) : qce Tryz.prog 167 (curE c) (curE c) [.ptr 0 0] (conZ c) := by
 refine qd1 c0bu 1 (by simp) (by simp) ?_
 repeat' (first | refine vs_ ?_ | ((first | refine vr_ ?_ | fail) <;> (try simp only [hc, Int.reduceEq, go_sem, ↓reduceIte])) | ((first | (refine cs_ ?_ ?_ <;> intro hc) | refine cj_ ?_ | fail | refine qb6 ?_ | refine a_Is ?_) <;> (try refine ev_ ?_)) | with_reducible exact ti_)
theorem q4i (c : K) (hg : c.good) (hc : (qq c).kind = 2) : qce Tryz.prog 165 (curE c) (curE (qu c)) [.ptr 0 0] (conZ c) := by
 refine qd1 c0bw 1 (by simp) (by simp) ?_
 repeat' (first | refine vs_ ?_ | ((first | refine vr_ ?_ | fail) <;> (try simp only [hc, go_sem, ↓reduceIte])) | ((first | (refine cs_ ?_ ?_ <;> intro hc) | refine cj_ ?_ | fail | refine qb9 (q5w c hc) (qbi _ _) (qbi _ _) rfl (qbbv _ _) fun _ => ?_ | refine qlf hg.ok ?_) <;> (try refine ev_ ?_)) | with_reducible exact ti_)
def q8s (p : Int) (t : List UInt8) (x : Bool × Nat × K × List N) : AF × List Ent :=
 (⟨[(0, .ptr 0 0), (2, .ptr 1 0), (4, .bool true), (5, .ptr 2 0), (6, .bool x.1)], []⟩,
   curE x.2.2.1 :: .blk [.int .i64 0, .int .i64 0, .int .i64 0, .str [], .nils] :: .blk [.int .i64 14, .int .i64 p, .int .i64 0, .str t, accV 3 (encs x.2.2.2)] :: accE 5 (encs x.2.2.2))
theorem qyf {f : Nat} (ih : ∀ c, c.good → rest c < f → qce Tryz.prog 160 (curE c) (curE (qcz f c).1) [.ptr 0 0] (resP (qcz f c).2)) (c : K) (hg : c.good) (hr : rest c < f + 1) :
 qce Tryz.prog 160 (curE c) (curE (qcz (f + 1) c).1) [.ptr 0 0] (resP (qcz (f + 1) c).2) := by
 have hm := qe0 f
 have g1 : (qc c).1.good := (qm c).1 hg
 have hr1 : rest (qc c).1 ≤ f := by have := (qm c).2.1; omega
 refine qp c0bx 1 (by simp) (by simp) ?_
 by_cases hk : (qc c).2 = true ∧ (qq (qc c).1).kind = 2
 ·obtain ⟨hk1, hk2⟩ := hk
  have g2 : (qu (qc c).1).good := (qbo _).1 g1
  have hpa : qcz (f + 1) c = (qcj (qif (qcz f) (rest (qc c).1 + 1) (qu (qc c).1) []).1, (qif (qcz f) (rest (qc c).1 + 1) (qu (qc c).1) []).2.map fun ks => .mk 14 (qq (qc c).1).pos 0 (qq (qc c).1).text ks) := by rw [qcz, if_pos hk1, if_pos hk2]
  rw [hpa]
  clear hpa
  generalize htg : qif (qcz f) (rest (qc c).1 + 1) (qu (qc c).1) [] = tg
  have hmt : Mon (qu (qc c).1) tg.1 := htg ▸ qw2 hm _ _ _
  have g3 : tg.1.good := hmt.1 g2
  repeat' (first | refine vs_ ?_ | ((first | refine vr_ ?_ | fail) <;> (try simp only [hk1, hk2, Int.reduceEq, go_sem, ↓reduceIte])) | ((first | (refine cs_ ?_ ?_ <;> intro hc) | refine cj_ ?_ | fail | refine qi1 ?_ | refine qb6 ?_ | refine qb9 (q4i _ g1 hk2) (qbi _ _) (qbi _ _) rfl (qbbv _ _) fun _ => ?_) <;> (try refine ev_ ?_)) | with_reducible exact ti_)
  refine qbm (S := Bool × Nat × K × List N) (fun x => x.2.2.1.good ∧ rest x.2.2.1 ≤ f ∧ (x.1 = true → qif (qcz f) x.2.1 x.2.2.1 x.2.2.2 = tg ∧ rest x.2.2.1 < x.2.1) ∧ (x.1 = false → tg = (x.2.2.1, none)) ∧ x.2.2.2.length + rest x.2.2.1 ≤ 1048577)
   (q8s (qq (qc c).1).pos (qq (qc c).1).text) (fun x => if x.1 = true then rest x.2.2.1 + 1 else 0) ?_ ?_
  ·have hrn := (qbo (qc c).1).2.1
   refine q8 (true, rest (qc c).1 + 1, qu (qc c).1, []) [0, 1, 2] ⟨g2, by simp only; omega, fun _ => ⟨htg, by simp only; omega⟩, (by intro h; cases h), ?_⟩ rfl (by simp) ?_ ?_ ?_
   ·have h9 := g2.rest
    unfold rest
    simp only [List.length_nil]
    omega
   all_goals simp only [q8s, encs, qr, qt]
   all_goals (refine ev_ ?_; (try with_reducible exact ti_))
  ·rintro ⟨b, fu, d, acc⟩ ⟨i1, i2, i3, i4, i5⟩
   simp only at i1 i2 i3 i4 i5
   unfold q8s
   cases b with
   | false =>
     have i4 := i4 rfl
     subst i4
     repeat' (first | refine vs_ ?_ | ((first | refine vr_ ?_ | refine qgn i1.2.2 ?_ | (refine cs_ ?_ ?_ <;> intro hc) | refine cj_ ?_ | fail) <;> (try refine ev_ ?_)) | with_reducible exact ti_)
     simp only [Option.map_none, Option.getD_none, Option.isSome_none, qdt]
   | true =>
     have i6 := (i3 rfl).2
     replace i3 := (i3 rfl).1
     clear i4
     obtain ⟨fu, rfl⟩ : ∃ k, fu = k + 1 := ⟨fu - 1, by omega⟩
     rw [qif] at i3
     have hcap : qdq (acc.length + 1) 64 := capN (by omega)
     have j1 : (qb0 (qcz f) d).1.good := (qjv hm d).1 i1
     have j2 : rest (qb0 (qcz f) d).1 ≤ rest d := (qjv hm d).2.1
     by_cases h0 : acc = []
     ·subst h0
      simp only [encs, qr, qt]
      repeat' (first | refine vs_ ?_ | ((first | refine vr_ ?_ | refine qbma ?_ | refine qcs (qsr hm ih _ i1 i2) rfl ?_ | refine qgn i1.2.2 ?_ | (refine cs_ ?_ ?_ <;> intro hc) | refine cj_ ?_ | fail) <;> (try refine ev_ ?_)) | with_reducible exact ti_)
      ·have hb : begP d = true := by assumption
       have hs : (qb0 (qcz f) d).2.isSome = true := by assumption
       rw [if_pos hb, if_pos hs] at i3
       have hlt := qrk hm hs
       refine q8 (true, fu, (qb0 (qcz f) d).1, [] ++ [(qb0 (qcz f) d).2.getD N0]) [0, 1, 2, 4] ⟨⟨j1, by simp only; omega, fun _ => ⟨i3, by simp only; omega⟩, (by intro h; cases h), ?_⟩, by simp only [if_true]; omega⟩ rfl (by simp) ?_ ?_ ?_
       ·simp only [List.length_append, List.length_cons, List.length_nil]; omega
       all_goals simp only [← qe, qbs, qbr, List.nil_append, encs, qby, qbx]
       all_goals (refine ev_ ?_; (try with_reducible exact ti_))
      ·have hb : begP d = true := by assumption
       have hs : (qb0 (qcz f) d).2.isSome = false := by assumption
       rw [if_pos hb, if_neg (by rw [hs]; simp)] at i3
       refine q8 (false, 0, (qb0 (qcz f) d).1, []) [0, 1, 2] ⟨⟨j1, by simp only; omega, (by intro h; cases h), fun _ => i3.symm, by simp only; omega⟩, by simp only [if_true, Bool.false_eq_true, if_false]; omega⟩ rfl (by simp) ?_ ?_ ?_
       all_goals simp only [encs, qr, qt]
       all_goals (refine ev_ ?_; (try with_reducible exact ti_))
      ·have hb : begP d = false := by assumption
       rw [if_neg (by rw [hb]; simp)] at i3
       subst i3
       simp only [Option.map_some, Option.getD_some, Option.isSome_some, enc, encs, and_self]
     ·have hne := q9 h0
      simp only [qbd hne, qbc hne, qx]
      repeat' (first | refine vs_ ?_ | ((first | refine vr_ ?_ | refine qbma ?_ | refine qcs (qsr hm ih _ i1 i2) rfl ?_ | refine qgn i1.2.2 ?_ | (refine cs_ ?_ ?_ <;> intro hc) | refine cj_ ?_ | fail) <;> (try refine ev_ ?_)) | with_reducible exact ti_)
      ·have hb : begP d = true := by assumption
       have hs : (qb0 (qcz f) d).2.isSome = true := by assumption
       rw [if_pos hb, if_pos hs] at i3
       have hlt := qrk hm hs
       refine q8 (true, fu, (qb0 (qcz f) d).1, acc ++ [(qb0 (qcz f) d).2.getD N0]) [0, 1, 2, 5] ⟨⟨j1, by simp only; omega, fun _ => ⟨i3, by simp only; omega⟩, (by intro h; cases h), ?_⟩, by simp only [if_true]; omega⟩ rfl (by simp) ?_ ?_ ?_
       ·simp only [List.length_append, List.length_cons, List.length_nil]; omega
       all_goals simp only [← qe, qbs, qbr, List.nil_append, encs, qby, qbx]
       all_goals (refine ev_ ?_; (try with_reducible exact ti_))
       rw [qe, qo, qbb]; exact ⟨rfl, rfl⟩
      ·have hb : begP d = true := by assumption
       have hs : (qb0 (qcz f) d).2.isSome = false := by assumption
       rw [if_pos hb, if_neg (by rw [hs]; simp)] at i3
       refine q8 (false, 0, (qb0 (qcz f) d).1, acc) [0, 1, 2, 3] ⟨⟨j1, by simp only; omega, (by intro h; cases h), fun _ => i3.symm, by simp only; omega⟩, by simp only [if_true, Bool.false_eq_true, if_false]; omega⟩ rfl (by simp) ?_ ?_ ?_
       all_goals simp only [qbd hne, qbc hne, qx]
       all_goals (refine ev_ ?_; (try with_reducible exact ti_))
      ·have hb : begP d = false := by assumption
       rw [if_neg (by rw [hb]; simp)] at i3
       subst i3
       simp only [Option.map_some, Option.getD_some, Option.isSome_some, enc, encs, and_self]
 ·by_cases hk1 : (qc c).2 = true
  ·have hk2 : ¬ (qq (qc c).1).kind = 2 := fun h => hk ⟨hk1, h⟩
   have j1 : (qb0 (qcz f) (qc c).1).1.good := (qjv hm _).1 g1
   have hpa : qcz (f + 1) c = (qcj (qb0 (qcz f) (qc c).1).1, (qb0 (qcz f) (qc c).1).2) := by rw [qcz, if_pos hk1, if_neg hk2]
   rw [hpa]
   clear hpa
   repeat' (first | refine vs_ ?_ | ((first | refine vr_ ?_ | fail) <;> (try simp only [hk1, hk2, go_sem, ↓reduceIte])) | ((first | (refine cs_ ?_ ?_ <;> intro hc) | refine cj_ ?_ | fail | refine qi1 ?_ | refine qb6 ?_ | refine qcs (qsr hm ih _ g1 hr1) rfl ?_) <;> (try refine ev_ ?_)) | with_reducible exact ti_)
   generalize hr' : qb0 (qcz f) (qc c).1 = r at j1
   refine qbm (S := Unit) (fun _ => True) (fun _ => (⟨[(0, .ptr 0 0), (2, .ptr 1 0), (4, .bool false), (5, .ptr 2 0), (6, .bool r.2.isSome)], []⟩, [curE r.1, .blk [.int .i64 0, .int .i64 0, .int .i64 0, .str [], .nils], .blk (enc (r.2.getD N0)).cells])) (fun _ => 0) ?_ ?_
   ·refine q8 () [0, 1, 2] trivial rfl (by simp) ?_ ?_ ?_ <;> (try refine ev_ ?_) <;> (try with_reducible exact ti_) <;> (try simp (disch := omega) only [qs, and_true, true_and])
   ·intro _ _
    repeat' (first | refine vs_ ?_ | ((first | refine vr_ ?_ | refine qgn j1.2.2 ?_ | (refine cs_ ?_ ?_ <;> intro hc) | refine cj_ ?_ | fail) <;> (try refine ev_ ?_)) | with_reducible exact ti_)
    have hs : r.2 = none := by
     have : r.2.isSome = false := by assumption
     revert this
     cases r.2 <;> simp
    rw [hs, qdt]; rfl
  ·have hk1 : (qc c).2 = false := by simpa using hk1
   have hpa : qcz (f + 1) c = ((qc c).1, none) := by rw [qcz, if_neg (by rw [hk1]; simp)]
   rw [hpa]
   repeat' (first | refine vs_ ?_ | ((first | refine vr_ ?_ | fail) <;> (try simp only [hk1, go_sem, ↓reduceIte])) | ((first | (refine cs_ ?_ ?_ <;> intro hc) | refine cj_ ?_ | fail | refine qi1 ?_) <;> (try refine ev_ ?_)) | with_reducible exact ti_)
   rw [qdt]; rfl
theorem qbp1 (f : Nat) : ∀ c : K, c.good → rest c < f → qce Tryz.prog 160 (curE c) (curE (qcz f c).1) [.ptr 0 0] (resP (qcz f c).2) := by
 induction f with
 | zero => exact fun c _ h => absurd h (by omega)
 | succ f ih => exact qyf ih
end Go.Proofs.YtfjbmjplnmaclaaGreat
