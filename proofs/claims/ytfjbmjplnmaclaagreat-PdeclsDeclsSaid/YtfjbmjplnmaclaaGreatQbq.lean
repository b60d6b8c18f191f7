/- Texts of this proof, joined. -/
import Derived.Test.YtfjbmjplnmaclaaGreatQbn
import Derived.Test.YtfjbmjplnmaclaaGreatQbe
import Derived.Test.YtfjbmjplnmaclaaGreatQbp

/- declarations: the reference: programs -/
set_option maxRecDepth 4000
namespace Go.Proofs.YtfjbmjplnmaclaaGreat
open Go Go.RowKit Go.V
set_option linter.unusedVariables false
set_option linter.unusedSimpArgs false

set_option maxHeartbeats 2000000 in
theorem qw3 (s : List UInt8) : qz Tryz.prog 7 [.str s] (resV (qj2 s)) := by
 have g := qq4 (qlx s).1
 have e0 : (newK (lexV s).1).err = 0 := rfl
 have hwh := qyl (q3n (c := newK (lexV s).1) (fun t ht => qh0 ht) e0)
 have hlx := qzy s
 have hnw := qye (lexV s).1
 have hpv : qj2 s = if (lexV s).2.2 = 0 then qkc (qqi (newK (lexV s).1)).1 (qqi (newK (lexV s).1)).2 else (N0, (lexV s).2.1, (lexV s).2.2) := by
  unfold qj2 qym
  split
  ·rw [hwh]
  ·rfl
 rw [hpv]
 clear hpv hwh
 generalize newK (lexV s).1 = c at *
 generalize lexV s = lx at *
 refine qj c0gh (by simp) (by simp only [go_sem]) (by simp only [go_sem]) fun hw => ?_
 by_cases hl : lx.2.2 = 0
 ·rw [if_pos hl]
  unfold qqi qmy
  have h7 := qgo c
  have h6 := g.rest
  unfold rest at h7
  generalize htg : (if 0 < rest c then qfk (em c + 2) c [] else (c, [])) = tg
  have hrl : rest c = c.l.length - c.at' := rfl
  have hon : 0 < rest c → qfk (em c + 2) c [] = tg := fun h => by rw [← htg, if_pos h]
  have hoff : ¬ 0 < rest c → tg = (c, []) := fun h => by rw [← htg, if_neg h]
  clear htg
  have hdl : (c.l.drop c.at').length = c.l.length - c.at' := List.length_drop
  by_cases hr : 0 < rest c
  ·have hri : (0 : Int) < ((c.l.length - c.at' : Nat) : Int) := by omega
   repeat' (first | refine vs_ ?_ | ((first | refine vr_ ?_ | fail) <;> (try simp only [hl, hdl, hri, decide_true, go_sem, ↓reduceIte])) | ((first | (refine cs_ ?_ ?_ <;> intro hc) | refine cj_ ?_ | fail | refine qa hlx fun _ => ?_ | refine qa hnw fun _ => ?_) <;> (try refine ev_ ?_)) | with_reducible exact ti_)
   refine qbm (S := Bool × Nat × K × List N) (fun x => x.2.2.1.good ∧ (x.1 = true → qfk x.2.1 x.2.2.1 x.2.2.2 = tg ∧ em x.2.2.1 < x.2.1) ∧ (x.1 = false → tg = (x.2.2.1, x.2.2.2)) ∧ x.2.2.2.length + (if x.1 = true then em x.2.2.1 + 1 else 0) ≤ 2097158) ql8 (fun x => if x.1 = true then em x.2.2.1 + 1 else 0) ?_ ?_
   ·refine q8 (true, em c + 2, c, []) [0, 1, 2] ⟨g, fun _ => ⟨hon hr, by simp only; omega⟩, (by intro h; cases h), ?_⟩ rfl (by simp) ?_ ?_ ?_
    ·simp only [List.length_nil]; (try split) <;> (try simp only [if_true]) <;> omega
    all_goals simp only [ql8, zEN, encs, qr, qt]
    all_goals (refine ev_ ?_; (try with_reducible exact ti_))
   ·rintro ⟨on, fu, d, acc⟩ ⟨k1, k2, k3, k4⟩
    simp only at k1 k2 k3 k4
    unfold ql8 zEN
    have hcap : qdq (acc.length + 1) 64 := capB (by split at k4 <;> omega)
    clear hon hoff
    cases on with
    | false =>
      have k3 := k3 rfl
      subst k3
      have hWh := qmn d (qpm acc)
      generalize hWv : qkc d (qpm acc) = W at *
      by_cases h0 : acc = []
      ·subst h0
       have hWh2 : qz Tryz.prog 24 [refC d, .agg [.int .i64 37, .int .i64 0, .int .i64 0, .str [], .sl 5 []]] (resV W) := by rw [qqw]; exact hWh
       simp only [encs, qr, qt]
       repeat' (first | refine vs_ ?_ | ((first | refine vr_ ?_ | refine qa hWh2 fun _ => ?_ | (refine cs_ ?_ ?_ <;> intro hc) | refine cj_ ?_ | fail) <;> (try refine ev_ ?_)) | with_reducible exact ti_)
      ·have hne := q9 h0
       have hWh2 : qz Tryz.prog 24 [refC d, .agg [.int .i64 37, .int .i64 0, .int .i64 0, .str [], .sl 5 (encs acc)]] (resV W) := by rw [qp4]; exact hWh
       simp only [qbd hne, qbc hne, qx]
       repeat' (first | refine vs_ ?_ | ((first | refine vr_ ?_ | refine qa hWh2 fun _ => ?_ | (refine cs_ ?_ ?_ <;> intro hc) | refine cj_ ?_ | fail) <;> (try refine ev_ ?_)) | with_reducible exact ti_)
    | true =>
      obtain ⟨k2, k6⟩ := k2 rfl
      obtain ⟨fu, rfl⟩ : ∃ k, fu = k + 1 := ⟨fu - 1, by omega⟩
      rw [qfk] at k2
      have hx := qor d k1
      have j1 := (qis d).1 k1
      have j2 := (qis d).em
      generalize qet d = r at *
      obtain ⟨d', nn⟩ := r
      simp only at hx j1 j2 k2
      have j3 : (qdk d').1.good := (qja d').1 j1
      have j4 := (qja d').em
      have m3 : (qdk d').2 = true → qfk fu (qdk d').1 (acc ++ [nn]) = tg ∧ em (qdk d').1 < fu := fun h => by
       rw [if_pos h] at k2
       have := qnt h
       exact ⟨k2, by omega⟩
      have m4 : (qdk d').2 = false → tg = ((qdk d').1, acc ++ [nn]) := fun h => by
       rw [if_neg (by rw [h]; simp)] at k2
       exact k2.symm
      have m5 : (if (qdk d').2 = true then em (qdk d').1 + 1 else 0) < em d + 1 := by
       split
       ·rename_i h; have := qnt h; omega
       ·omega
      have m6 : (acc ++ [nn]).length + (if (qdk d').2 = true then em (qdk d').1 + 1 else 0) ≤ 2097158 := by
       simp only [if_true] at k4
       simp only [List.length_append, List.length_cons, List.length_nil]
       omega
      have hcs : decide ((0 : Int) < (rest (qf d' [59]).1 : Int)) = decide (0 < rest (qf d' [59]).1) := by simp
      have hdl2 : ((qf d' [59]).1.l.drop (qf d' [59]).1.at').length = rest (qf d' [59]).1 := List.length_drop
      by_cases h0 : acc = []
      ·subst h0
       simp only [encs, qr, qt]
       repeat' (first | refine vs_ ?_ | ((first | refine vr_ ?_ | fail) <;> (try simp only [hdl2, go_sem, ↓reduceIte])) | ((first | (refine cs_ ?_ ?_ <;> intro hc) | refine cj_ ?_ | fail | refine qa hx fun _ => ?_ | refine qa (qv d' _) fun _ => ?_) <;> (try refine ev_ ?_)) | with_reducible exact ti_)
       all_goals (
        refine q8 ((qdk d').2, fu, (qdk d').1, [] ++ [nn]) [0, 1, 2, 5] ⟨⟨j3, m3, m4, m6⟩, by simpa using m5⟩ rfl (by simp) ?_ ?_ ?_
        all_goals (clear m3 m4 m5 m6 k2 j3 j4)
        all_goals simp only [ql8, qdk, zEN, ← qe, qbs, qbr, List.nil_append, encs, qby, qbx, decide_true, Bool.true_and, Bool.false_and, *]
        all_goals (refine ev_ ?_; (try with_reducible exact ti_))
        all_goals (try (rw [qe, qo, qbb]; exact ⟨rfl, rfl⟩))
        all_goals (try rw [hcs]))
      ·have hne := q9 h0
       simp only [qbd hne, qbc hne, qx]
       repeat' (first | refine vs_ ?_ | ((first | refine vr_ ?_ | fail) <;> (try simp only [hdl2, go_sem, ↓reduceIte])) | ((first | (refine cs_ ?_ ?_ <;> intro hc) | refine cj_ ?_ | fail | refine qa hx fun _ => ?_ | refine qa (qv d' _) fun _ => ?_) <;> (try refine ev_ ?_)) | with_reducible exact ti_)
       all_goals (
        refine q8 ((qdk d').2, fu, (qdk d').1, acc ++ [nn]) [0, 1, 2, 6] ⟨⟨j3, m3, m4, m6⟩, by simpa using m5⟩ rfl (by simp) ?_ ?_ ?_
        all_goals (clear m3 m4 m5 m6 k2 j3 j4)
        all_goals simp only [ql8, qdk, zEN, ← qe, qbs, qbr, List.nil_append, encs, qby, qbx, decide_true, Bool.true_and, Bool.false_and, *]
        all_goals (refine ev_ ?_; (try with_reducible exact ti_))
        all_goals (try (rw [qe, qo, qbb]; exact ⟨rfl, rfl⟩))
        all_goals (try rw [hcs]))
  ·have hri : ¬ (0 : Int) < ((c.l.length - c.at' : Nat) : Int) := by omega
   repeat' (first | refine vs_ ?_ | ((first | refine vr_ ?_ | fail) <;> (try simp only [hl, hdl, hri, decide_false, go_sem, ↓reduceIte])) | ((first | (refine cs_ ?_ ?_ <;> intro hc) | refine cj_ ?_ | fail | refine qa hlx fun _ => ?_ | refine qa hnw fun _ => ?_) <;> (try refine ev_ ?_)) | with_reducible exact ti_)
   refine qbm (S := Bool × Nat × K × List N) (fun x => x.2.2.1.good ∧ (x.1 = true → qfk x.2.1 x.2.2.1 x.2.2.2 = tg ∧ em x.2.2.1 < x.2.1) ∧ (x.1 = false → tg = (x.2.2.1, x.2.2.2)) ∧ x.2.2.2.length + (if x.1 = true then em x.2.2.1 + 1 else 0) ≤ 2097158) ql8 (fun x => if x.1 = true then em x.2.2.1 + 1 else 0) ?_ ?_
   ·refine q8 (false, em c + 2, c, []) [0, 1, 2] ⟨g, (by intro h; cases h), fun _ => hoff hr, ?_⟩ rfl (by simp) ?_ ?_ ?_
    ·simp only [List.length_nil]; (try split) <;> (try simp only [if_true]) <;> omega
    all_goals simp only [ql8, zEN, encs, qr, qt]
    all_goals (refine ev_ ?_; (try with_reducible exact ti_))
   ·rintro ⟨on, fu, d, acc⟩ ⟨k1, k2, k3, k4⟩
    simp only at k1 k2 k3 k4
    unfold ql8 zEN
    have hcap : qdq (acc.length + 1) 64 := capB (by split at k4 <;> omega)
    clear hon hoff
    cases on with
    | false =>
      have k3 := k3 rfl
      subst k3
      have hWh := qmn d (qpm acc)
      generalize hWv : qkc d (qpm acc) = W at *
      by_cases h0 : acc = []
      ·subst h0
       have hWh2 : qz Tryz.prog 24 [refC d, .agg [.int .i64 37, .int .i64 0, .int .i64 0, .str [], .sl 5 []]] (resV W) := by rw [qqw]; exact hWh
       simp only [encs, qr, qt]
       repeat' (first | refine vs_ ?_ | ((first | refine vr_ ?_ | refine qa hWh2 fun _ => ?_ | (refine cs_ ?_ ?_ <;> intro hc) | refine cj_ ?_ | fail) <;> (try refine ev_ ?_)) | with_reducible exact ti_)
      ·have hne := q9 h0
       have hWh2 : qz Tryz.prog 24 [refC d, .agg [.int .i64 37, .int .i64 0, .int .i64 0, .str [], .sl 5 (encs acc)]] (resV W) := by rw [qp4]; exact hWh
       simp only [qbd hne, qbc hne, qx]
       repeat' (first | refine vs_ ?_ | ((first | refine vr_ ?_ | refine qa hWh2 fun _ => ?_ | (refine cs_ ?_ ?_ <;> intro hc) | refine cj_ ?_ | fail) <;> (try refine ev_ ?_)) | with_reducible exact ti_)
    | true =>
      obtain ⟨k2, k6⟩ := k2 rfl
      obtain ⟨fu, rfl⟩ : ∃ k, fu = k + 1 := ⟨fu - 1, by omega⟩
      rw [qfk] at k2
      have hx := qor d k1
      have j1 := (qis d).1 k1
      have j2 := (qis d).em
      generalize qet d = r at *
      obtain ⟨d', nn⟩ := r
      simp only at hx j1 j2 k2
      have j3 : (qdk d').1.good := (qja d').1 j1
      have j4 := (qja d').em
      have m3 : (qdk d').2 = true → qfk fu (qdk d').1 (acc ++ [nn]) = tg ∧ em (qdk d').1 < fu := fun h => by
       rw [if_pos h] at k2
       have := qnt h
       exact ⟨k2, by omega⟩
      have m4 : (qdk d').2 = false → tg = ((qdk d').1, acc ++ [nn]) := fun h => by
       rw [if_neg (by rw [h]; simp)] at k2
       exact k2.symm
      have m5 : (if (qdk d').2 = true then em (qdk d').1 + 1 else 0) < em d + 1 := by
       split
       ·rename_i h; have := qnt h; omega
       ·omega
      have m6 : (acc ++ [nn]).length + (if (qdk d').2 = true then em (qdk d').1 + 1 else 0) ≤ 2097158 := by
       simp only [if_true] at k4
       simp only [List.length_append, List.length_cons, List.length_nil]
       omega
      have hcs : decide ((0 : Int) < (rest (qf d' [59]).1 : Int)) = decide (0 < rest (qf d' [59]).1) := by simp
      have hdl2 : ((qf d' [59]).1.l.drop (qf d' [59]).1.at').length = rest (qf d' [59]).1 := List.length_drop
      by_cases h0 : acc = []
      ·subst h0
       simp only [encs, qr, qt]
       repeat' (first | refine vs_ ?_ | ((first | refine vr_ ?_ | fail) <;> (try simp only [hdl2, go_sem, ↓reduceIte])) | ((first | (refine cs_ ?_ ?_ <;> intro hc) | refine cj_ ?_ | fail | refine qa hx fun _ => ?_ | refine qa (qv d' _) fun _ => ?_) <;> (try refine ev_ ?_)) | with_reducible exact ti_)
       all_goals (
        refine q8 ((qdk d').2, fu, (qdk d').1, [] ++ [nn]) [0, 1, 2, 5] ⟨⟨j3, m3, m4, m6⟩, by simpa using m5⟩ rfl (by simp) ?_ ?_ ?_
        all_goals (clear m3 m4 m5 m6 k2 j3 j4)
        all_goals simp only [ql8, qdk, zEN, ← qe, qbs, qbr, List.nil_append, encs, qby, qbx, decide_true, Bool.true_and, Bool.false_and, *]
        all_goals (refine ev_ ?_; (try with_reducible exact ti_))
        all_goals (try (rw [qe, qo, qbb]; exact ⟨rfl, rfl⟩))
        all_goals (try rw [hcs]))
      ·have hne := q9 h0
       simp only [qbd hne, qbc hne, qx]
       repeat' (first | refine vs_ ?_ | ((first | refine vr_ ?_ | fail) <;> (try simp only [hdl2, go_sem, ↓reduceIte])) | ((first | (refine cs_ ?_ ?_ <;> intro hc) | refine cj_ ?_ | fail | refine qa hx fun _ => ?_ | refine qa (qv d' _) fun _ => ?_) <;> (try refine ev_ ?_)) | with_reducible exact ti_)
       all_goals (
        refine q8 ((qdk d').2, fu, (qdk d').1, acc ++ [nn]) [0, 1, 2, 6] ⟨⟨j3, m3, m4, m6⟩, by simpa using m5⟩ rfl (by simp) ?_ ?_ ?_
        all_goals (clear m3 m4 m5 m6 k2 j3 j4)
        all_goals simp only [ql8, qdk, zEN, ← qe, qbs, qbr, List.nil_append, encs, qby, qbx, decide_true, Bool.true_and, Bool.false_and, *]
        all_goals (refine ev_ ?_; (try with_reducible exact ti_))
        all_goals (try (rw [qe, qo, qbb]; exact ⟨rfl, rfl⟩))
        all_goals (try rw [hcs]))
 ·rw [if_neg hl]
  repeat' (first | refine vs_ ?_ | ((first | refine vr_ ?_ | fail) <;> (try simp only [hl, ne_eq, not_false_eq_true, decide_true, go_sem, ↓reduceIte])) | ((first | (refine cs_ ?_ ?_ <;> intro hc) | refine cj_ ?_ | fail | refine qa hlx fun _ => ?_ | refine qa hnw fun _ => ?_) <;> (try refine ev_ ?_)) | with_reducible exact ti_)
  all_goals (try rw [qdt])
  all_goals trace_state
set_option maxRecDepth 4000

def dcS : List UInt8 := [99, 108, 97, 115, 115, 32, 69, 113, 32, 97, 32, 61, 62, 32, 79, 114, 100, 32, 97, 32, 119, 104, 101, 114, 101, 32, 123, 32, 108, 116, 32, 58, 58, 32, 97, 32, 45, 62, 32, 97, 32, 45, 62, 32, 66, 32, 125, 59, 32, 105, 110, 115, 116, 97, 110, 99, 101, 32, 69, 113, 32, 66, 32, 119, 104, 101, 114, 101, 32, 123, 32, 101, 113, 32, 120, 32, 121, 32, 61, 32, 84, 59, 32, 125, 59, 32, 102, 32, 58, 58, 32, 66, 59, 32, 102, 32, 61, 32, 84]
def dn1k : N := .mk 33 0 0 [66] [.mk 34 9 0 [84] [], .mk 34 13 0 [70] []]
def dn1 : N := .mk 37 0 0 [] [dn1k]
def dn2a : List N := [.mk 3 6 0 [69, 113] [.mk 1 9 0 [97] []], .mk 1 18 0 [97] [], .mk 32 28 0 [108, 116] [.mk 4 34 0 [] [.mk 2 34 0 [45, 62] [.mk 1 34 0 [97] [], .mk 2 39 0 [45, 62] [.mk 1 39 0 [97] [], .mk 2 44 0 [66] []]]]]]
def dn2b : List N := [.mk 2 61 0 [66] [], .mk 31 71 0 [101, 113] [.mk 25 74 0 [120] [.mk 25 76 0 [121] [.mk 22 80 0 [84] []]]]]
def dn2c : List N := [.mk 32 86 0 [102] [.mk 4 91 0 [] [.mk 2 91 0 [66] []]], .mk 31 94 0 [102] [.mk 22 98 0 [84] []]]
def dn2 : N := .mk 37 0 0 [] (.mk 35 0 1 [79, 114, 100] dn2a :: .mk 36 49 0 [69, 113] dn2b :: dn2c)
def dn3 : N := .mk 33 0 1 [77] [.mk 1 7 0 [97] [], .mk 34 11 0 [78] [], .mk 34 15 0 [74] [.mk 1 17 0 [97] []]]
def dn5 : N := .mk 37 0 0 [] []
theorem awD1 : qz Tryz.prog 6 [.str [100, 97, 116, 97, 32, 66, 32, 61, 32, 84, 32, 124, 32, 70, 59]] (.tup [enc dn1, .int .i64 0, .int .i64 0]) := qql (qff _ (by decide)) (by rw [show qj2 [100, 97, 116, 97, 32, 66, 32, 61, 32, 84, 32, 124, 32, 70, 59] = (dn1, 0, 0) by kernel_rfl]; rfl)
theorem awD2 : qz Tryz.prog 6 [.str dcS] (.tup [enc dn2, .int .i64 0, .int .i64 0]) := qql (qff _ (by decide)) (by rw [show qj2 dcS = (dn2, 0, 0) by kernel_rfl]; rfl)
theorem awD3 : qz Tryz.prog 10 [.str [100, 97, 116, 97, 32, 77, 32, 97, 32, 61, 32, 78, 32, 124, 32, 74, 32, 97]] (.tup [enc dn3, .int .i64 0, .int .i64 0]) := qql (qsj _ (by decide)) (by rw [show qml [100, 97, 116, 97, 32, 77, 32, 97, 32, 61, 32, 78, 32, 124, 32, 74, 32, 97] = (dn3, 0, 0) by kernel_rfl]; rfl)
theorem awD4 : qz Tryz.prog 6 [.str [120, 32, 61, 32, 49, 59, 32, 59]] (.tup [enc N0, .int .i64 7, .int .i64 5]) := qql (qff _ (by decide)) (by rw [show qj2 [120, 32, 61, 32, 49, 59, 32, 59] = (N0, 7, 5) by kernel_rfl]; rfl)
theorem awD5 : qz Tryz.prog 6 [.str []] (.tup [enc dn5, .int .i64 0, .int .i64 0]) := qql (qff _ (by decide)) (by rw [show qj2 [] = (dn5, 0, 0) by kernel_rfl]; rfl)
theorem qbt5 : dn1.kids.length = 1 := rfl
theorem qbkx : (encs dn1.kids).getD 0 .junk = .agg [.int .i64 33, .int .i64 0, .int .i64 0, .str [66], .sl 5 [enc (.mk 34 9 0 [84] []), enc (.mk 34 13 0 [70] [])]] := rfl
theorem qb4z : dn2.kids.length = 4 := rfl
theorem qblf : (encs dn2.kids).getD 0 .junk = .agg [.int .i64 35, .int .i64 0, .int .i64 1, .str [79, 114, 100], .sl 5 (encs dn2a)] := rfl
theorem qbg1 : (encs dn2.kids).getD 1 .junk = .agg [.int .i64 36, .int .i64 49, .int .i64 0, .str [69, 113], .sl 5 (encs dn2b)] := rfl
theorem qbpa : dn3.num = 1 := rfl
theorem qbux : dn3.kids.length = 3 := rfl
theorem qbcq : dn5.kind = 37 := rfl
attribute [go_sem] qbt5 qbkx qb4z qblf qbg1 qbpa qbux qbcq
theorem qgm : qz Tryz.prog 5 [] (.bool true) := by
 refine qj c0gi (by simp) (by simp only [go_sem]) rfl fun hw => ?_
 have h2 := awD2
 unfold dcS at h2
 repeat' (first | refine vs_ ?_ | ((first | refine vr_ ?_ | fail) <;> (try simp only [Int.reduceLT, Int.reduceLE, Int.reduceEq, decide_true, ne_eq, not_true_eq_false, go_sem, ↓reduceIte])) | ((first | (refine cs_ ?_ ?_ <;> intro hc) | refine cj_ ?_ | simp (disch := omega) only [qh, qs] | refine qa awD1 fun _ => ?_ | refine qa h2 fun _ => ?_ | refine qa awD3 fun _ => ?_ | refine qa awD4 fun _ => ?_ | refine qa awD5 fun _ => ?_) <;> (try refine ev_ ?_)) | with_reducible exact ti_)
 all_goals first | exact absurd rfl (by assumption) | trace_state
set_option maxRecDepth 4000

theorem qz3 (s : List UInt8) : qz Tryz.prog 3 [.str s] (.bool true) := by
 refine qj c0a (by simp) (by simp only [go_sem]) rfl fun hw => ?_
 by_cases hs : s.length ≤ 3000
 ·have hJ : qz Tryz.prog 8 [enc (qj2 s).1, enc (qj2 s).1] (.bool true) := qql (qux _ _) (by rw [qyc])
  have hP : (qj2 s).2.2 = 0 → qz Tryz.prog 9 [enc (qj2 s).1] (.bool true) := fun h => qql (qtn _) (by rw [(q22 hs h).1])
  have hK : (qj2 s).2.2 = 0 → (qj2 s).1.kind = 37 := fun h => (q22 hs h).2
  have h1 := qff s (by omega)
  have h2 := qw3 s
  have hsi : ¬ (3000 : Int) < s.length := by omega
  generalize qj2 s = r at *
  by_cases he : r.2.2 = 0
  ·have hP := hP he
   have hK := hK he
   repeat' (first | refine vs_ ?_ | ((first | refine vr_ ?_ | fail) <;> (try simp only [hsi, he, Int.reduceEq, decide_true, ne_eq, not_true_eq_false, go_sem, ↓reduceIte])) | ((first | (refine cs_ ?_ ?_ <;> intro hc) | refine cj_ ?_ | fail | refine qa qgm fun _ => ?_ | refine qa h1 fun _ => ?_ | refine qa h2 fun _ => ?_ | refine qa hJ fun _ => ?_ | refine qa hP fun _ => ?_) <;> (try refine ev_ ?_)) | with_reducible exact ti_)
   all_goals first | exact absurd hK (by assumption) | trace_state
  ·repeat' (first | refine vs_ ?_ | ((first | refine vr_ ?_ | fail) <;> (try simp only [hsi, he, Int.reduceEq, decide_true, ne_eq, not_true_eq_false, go_sem, ↓reduceIte])) | ((first | (refine cs_ ?_ ?_ <;> intro hc) | refine cj_ ?_ | fail | refine qa qgm fun _ => ?_ | refine qa h1 fun _ => ?_ | refine qa h2 fun _ => ?_ | refine qa hJ fun _ => ?_) <;> (try refine ev_ ?_)) | with_reducible exact ti_)
   all_goals first | exact absurd (by assumption) he | trace_state
 ·have hsi : (3000 : Int) < s.length := by omega
  repeat' (first | refine vs_ ?_ | ((first | refine vr_ ?_ | fail) <;> (try simp only [hsi, go_sem, ↓reduceIte])) | ((first | (refine cs_ ?_ ?_ <;> intro hc) | refine cj_ ?_ | fail | refine qa qgm fun _ => ?_) <;> (try refine ev_ ?_)) | with_reducible exact ti_)
theorem qop (s : List UInt8) : qz Tryz.prog 4 [.str s] (.bool true) := by
 refine qj c0b (by simp) (by simp only [go_sem]) rfl fun hw => ?_
 by_cases hs : s.length ≤ 3000
 ·have hJ : qz Tryz.prog 8 [enc (qml s).1, enc (qml s).1] (.bool true) := qql (qux _ _) (by rw [qyc])
  have hP : (qml s).2.2 = 0 → qz Tryz.prog 9 [enc (qml s).1] (.bool true) := fun h => qql (qtn _) (by rw [(q1v hs h).1])
  have hK : (qml s).2.2 = 0 → ¬ (qml s).1.kind = 37 := fun h => (q1v hs h).2
  have h1 := qsj s (by omega)
  have h2 := q58 s
  have hsi : ¬ (3000 : Int) < s.length := by omega
  generalize qml s = r at *
  by_cases he : r.2.2 = 0
  ·have hP := hP he
   have hK := hK he
   repeat' (first | refine vs_ ?_ | ((first | refine vr_ ?_ | fail) <;> (try simp only [hsi, he, hK, Int.reduceEq, decide_true, ne_eq, not_true_eq_false, not_false_eq_true, go_sem, ↓reduceIte])) | ((first | (refine cs_ ?_ ?_ <;> intro hc) | refine cj_ ?_ | fail | refine qa qgm fun _ => ?_ | refine qa h1 fun _ => ?_ | refine qa h2 fun _ => ?_ | refine qa hJ fun _ => ?_ | refine qa hP fun _ => ?_) <;> (try refine ev_ ?_)) | with_reducible exact ti_)
   all_goals first | exact absurd (by assumption) hK | trace_state
  ·repeat' (first | refine vs_ ?_ | ((first | refine vr_ ?_ | fail) <;> (try simp only [hsi, he, Int.reduceEq, decide_true, ne_eq, not_true_eq_false, go_sem, ↓reduceIte])) | ((first | (refine cs_ ?_ ?_ <;> intro hc) | refine cj_ ?_ | fail | refine qa qgm fun _ => ?_ | refine qa h1 fun _ => ?_ | refine qa h2 fun _ => ?_ | refine qa hJ fun _ => ?_) <;> (try refine ev_ ?_)) | with_reducible exact ti_)
   all_goals first | exact absurd (by assumption) he | trace_state
 ·have hsi : (3000 : Int) < s.length := by omega
  repeat' (first | refine vs_ ?_ | ((first | refine vr_ ?_ | fail) <;> (try simp only [hsi, go_sem, ↓reduceIte])) | ((first | (refine cs_ ?_ ?_ <;> intro hc) | refine cj_ ?_ | fail | refine qa qgm fun _ => ?_) <;> (try refine ev_ ?_)) | with_reducible exact ti_)
end Go.Proofs.YtfjbmjplnmaclaaGreat
