/- A text of this proof. -/
import Derived.Test.YtfjbmjplnmaclaaGreatQao
import Derived.Test.YtfjbmjplnmaclaaGreatQap

/- the lexer's words: one word -/
set_option maxRecDepth 4000
namespace Go.Proofs.YtfjbmjplnmaclaaGreat
open Go Go.RowKit Go.V
set_option linter.unusedVariables false
set_option linter.unusedSimpArgs false

theorem blank_iff {c : Int} : qel c = true ↔ c = 9 ∨ c = 10 ∨ c = 13 ∨ c = 32 := by simp [qel, or_assoc]
theorem line_iff {c : Int} : qkk c = true ↔ c ≠ 10 := by simp [qkk]
theorem qbbd (a : Nat) : (a : Int) + 1 = ((a + 1 : Nat) : Int) := rfl
theorem qoq (l : List UInt8) (k : Nat) (hk : k ≤ l.length) : qz Tryz.prog 40 [.str l, .int .i64 k] (.int .i64 ((k + qc4 (l.drop k) : Nat) : Int)) := by
 refine qj c0dj (by simp) (by simp only [go_sem]) rfl fun hw => ?_
 have hl : l.length ≤ maxLen := hw.1
 repeat' (first | refine vs_ ?_ | ((first | refine vr_ ?_ | (refine cs_ ?_ ?_ <;> intro hc) | refine cj_ ?_ | simp (disch := omega) only [qh, qs]) <;> (try refine ev_ ?_)) | with_reducible exact ti_)
 refine qbm (S := Nat) (fun n => n ≤ l.length ∧ k + qc4 (l.drop k) = n + qc4 (l.drop n)) (fun n => (⟨[(0, .str l), (1, .int .i64 n)], []⟩, [])) (fun n => l.length - n) ?_ fun n hn => ?_
 ·refine q8 k [] ⟨hk, rfl⟩ rfl (by simp) ?_ ?_ ?_ <;> (try refine ev_ ?_) <;> (try with_reducible exact ti_) <;> (try simp (disch := omega) only [qs, and_true, true_and])
 ·obtain ⟨hn, ha⟩ := hn
  have nxt : n < l.length → ¬ qel (l.getD n 0).toNat = true → ¬ pfx [45, 45] (l.drop n) = true → VO.val (AV.int IntKind.i64 ↑n) = VO.val (AV.int IntKind.i64 ↑(k + qc4 (List.drop k l))) := by
   intro h1 h2 h3
   rw [ha, quc (by simpa using h3)]
   ·rfl
   ·rw [qee h1, if_neg h2]
  have hp : pfx [45, 45] (l.drop n) = true → n + 1 < l.length ∧ (l.getD n 0).toNat = 45 ∧ (l.getD (n + 1) 0).toNat = 45 := by
   intro h
   have h1 : n < l.length := by
    apply Decidable.byContradiction
    intro h2
    rw [List.drop_of_length_le (by omega)] at h
    simp [pfx] at h
   rw [qei h1, pfx] at h
   have h2 : n + 1 < l.length := by
    apply Decidable.byContradiction
    intro h2
    rw [List.drop_of_length_le (i := n + 1) (by omega)] at h
    simp at h
   rw [qei h2] at h
   generalize l.getD n 0 = x at h ⊢
   generalize l.getD (n + 1) 0 = y at h ⊢
   simp at h
   exact ⟨h2, by rw [h.1]; rfl, by rw [h.2]; rfl⟩
  have nxp : n < l.length → ¬ qel (l.getD n 0).toNat = true → ¬ (n + 1 < l.length ∧ (l.getD n 0).toNat = 45 ∧ (l.getD (n + 1) 0).toNat = 45) → VO.val (AV.int IntKind.i64 ↑n) = VO.val (AV.int IntKind.i64 ↑(k + qc4 (List.drop k l))) := fun h1 h2 h3 => nxt h1 h2 fun h4 => h3 (hp h4)
  repeat' (first | refine vs_ ?_ | ((first | refine vr_ ?_ | fail) <;> (try simp (disch := first | omega | (simp only [List.length_set, List.length_append, List.length_cons, List.length_nil]; done) | (simp only [List.length_set, List.length_append, List.length_cons, List.length_nil]; omega)) only [qe9, go_sem, ↓reduceIte])) | ((first | simp (disch := omega) only [qe9] | simp (disch := omega) only [qs] | simp (disch := omega) only [qbbd] | simp (disch := omega) only [Int.toNat_natCast] | (refine cs_ ?_ ?_ <;> intro hc) | refine cj_ ?_ | simp (disch := omega) only [qh, qs]) <;> (try refine ev_ ?_)) | with_reducible exact ti_)
  ·refine q8 (n + 1) [] ⟨⟨by omega, ?_⟩, by omega⟩ rfl (by simp) ?_ ?_ ?_ <;> (try refine ev_ ?_) <;> (try with_reducible exact ti_) <;> (try simp (disch := omega) only [qs, and_true, true_and])
   rw [ha, qei (i := n) (by omega), qj5 (blank_iff.2 (by omega))]; omega
  ·refine q8 (n + 1) [] ⟨⟨by omega, ?_⟩, by omega⟩ rfl (by simp) ?_ ?_ ?_ <;> (try refine ev_ ?_) <;> (try with_reducible exact ti_) <;> (try simp (disch := omega) only [qs, and_true, true_and])
   rw [ha, qei (i := n) (by omega), qj5 (blank_iff.2 (by omega))]; omega
  ·refine q8 (n + 1) [] ⟨⟨by omega, ?_⟩, by omega⟩ rfl (by simp) ?_ ?_ ?_ <;> (try refine ev_ ?_) <;> (try with_reducible exact ti_) <;> (try simp (disch := omega) only [qs, and_true, true_and])
   rw [ha, qei (i := n) (by omega), qj5 (blank_iff.2 (by omega))]; omega
  ·refine q8 (n + 1) [] ⟨⟨by omega, ?_⟩, by omega⟩ rfl (by simp) ?_ ?_ ?_ <;> (try refine ev_ ?_) <;> (try with_reducible exact ti_) <;> (try simp (disch := omega) only [qs, and_true, true_and])
   rw [ha, qei (i := n) (by omega), qj5 (blank_iff.2 (by omega))]; omega
  ·rename_i q1 q2 q3 q4 q5 q6 q7
   have hpp : pfx [45, 45] (l.drop n) = true := by
    have e1 : l.getD n 0 = 45 := UInt8.toNat_inj.1 (by rw [show (45 : UInt8).toNat = 45 from rfl]; omega)
    have e2 : l.getD (n + 1) 0 = 45 := UInt8.toNat_inj.1 (by rw [show (45 : UInt8).toNat = 45 from rfl]; omega)
    rw [qei (i := n) (by omega), qei (i := n + 1) (by omega), e1, e2]
    simp [pfx]
   have hsl := q31 hpp
   rw [List.drop_drop] at hsl
   have hpos : qbg qkk (l.drop n) ≠ 0 := by
    rw [qee (by omega), show qkk (l.getD n 0).toNat = true from line_iff.2 (by omega)]; simp
   refine qbm (S := Nat) (fun m => n ≤ m ∧ m ≤ l.length ∧ n + qbg qkk (l.drop n) = m + qbg qkk (l.drop m)) (fun n => (⟨[(0, .str l), (1, .int .i64 n)], []⟩, [])) (fun n => l.length - n) ?_ fun m hm => ?_
   ·refine q8 n [] ⟨Nat.le_refl _, by omega, rfl⟩ rfl (by simp) ?_ ?_ ?_ <;> (try refine ev_ ?_) <;> (try with_reducible exact ti_) <;> (try simp (disch := omega) only [qs, and_true, true_and])
   ·obtain ⟨hm1, hm2, hm3⟩ := hm
    have hend : n + qbg qkk (l.drop n) = m → (m ≤ l.length ∧ k + qc4 (List.drop k l) = m + qc4 (List.drop m l)) ∧ l.length - m < l.length - n := by
     intro h
     refine ⟨⟨by omega, ?_⟩, by omega⟩
     rw [ha, hsl, h]; omega
    repeat' (first | refine vs_ ?_ | ((first | refine vr_ ?_ | fail) <;> (try simp (disch := first | omega | (simp only [List.length_set, List.length_append, List.length_cons, List.length_nil]; done) | (simp only [List.length_set, List.length_append, List.length_cons, List.length_nil]; omega)) only [qe9, go_sem, ↓reduceIte])) | ((first | simp (disch := omega) only [qe9] | simp (disch := omega) only [qs] | simp (disch := omega) only [qbbd] | simp (disch := omega) only [Int.toNat_natCast] | (refine cs_ ?_ ?_ <;> intro hc) | refine cj_ ?_ | simp (disch := omega) only [qh, qs]) <;> (try refine ev_ ?_)) | with_reducible exact ti_)
    ·refine q8 (m + 1) [] ⟨⟨by omega, by omega, ?_⟩, by omega⟩ rfl (by simp) ?_ ?_ ?_ <;> (try refine ev_ ?_) <;> (try with_reducible exact ti_) <;> (try simp (disch := omega) only [qs, and_true, true_and])
     rw [hm3, qee (i := m) (by omega), if_pos (line_iff.2 (by omega))]; omega
    ·refine q8 m [] (hend ?_) rfl (by simp) ?_ ?_ ?_ <;> (try refine ev_ ?_) <;> (try with_reducible exact ti_) <;> (try simp (disch := omega) only [qs, and_true, true_and])
     rw [hm3, qee (i := m) (by omega), if_neg (mt line_iff.1 (by omega))]; rfl
    ·refine q8 m [] (hend ?_) rfl (by simp) ?_ ?_ ?_ <;> (try refine ev_ ?_) <;> (try with_reducible exact ti_) <;> (try simp (disch := omega) only [qs, and_true, true_and])
     rw [hm3, List.drop_of_length_le (by omega)]; rfl
  ·exact nxp (by omega) (mt blank_iff.1 (by omega)) (by omega)
  ·exact nxp (by omega) (mt blank_iff.1 (by omega)) (by omega)
  ·exact nxp (by omega) (mt blank_iff.1 (by omega)) (by omega)
  ·rw [ha, List.drop_of_length_le (by omega)]
   have : qc4 [] = 0 := quc rfl rfl
   rw [this]; rfl

def qbdx (l : List UInt8) : Int := if l = [95] then 5 else if resW l then 4 else if conW l then 2 else 1
def qxc (l : List UInt8) : T := ⟨qbdx l, 0, 0, l⟩
theorem q6e (l : List UInt8) : qz Tryz.prog 136 [.str l] (encT (qxc l)) := by
 refine qj c0dk (by simp) (by simp only [go_sem]) rfl fun hw => ?_
 have hl : l.length ≤ maxLen := hw.1
 repeat' (first | refine vs_ ?_ | ((first | refine vr_ ?_ | refine qa (ql7 _) fun _ => ?_ | refine qa (qg8 _) fun _ => ?_ | (refine cs_ ?_ ?_ <;> intro hc) | refine cj_ ?_ | fail) <;> (try refine ev_ ?_)) | with_reducible exact ti_)
 all_goals simp_all [encT, qxc, qbdx]

def marksW : List (List UInt8) := [[45, 62], [61, 62], [58, 58], [40], [41], [123], [125], [59], [44], [61], [124], [92]]
def qpl (l : List UInt8) : List (List UInt8) → Nat
 | [] => 0
 | m :: r => if pfx m l then m.length else qpl l r
def qkh (l : List UInt8) : Nat := qpl l marksW
theorem qbbe : (marksW.map AV.str).length = 12 := rfl
theorem qbaf {i : Nat} (h : i < 12) : (marksW.map AV.str).getD i .junk = .str (marksW.getD i []) := by
 have h' : i < marksW.length := h
 rw [List.getD_eq_getElem?_getD, List.getElem?_map, List.getD_eq_getElem?_getD, List.getElem?_eq_getElem h']; rfl
theorem qtg {i : Nat} (h : i < 12) : marksW.drop i = marksW.getD i [] :: marksW.drop (i + 1) := by
 have h' : i < marksW.length := h
 rw [List.drop_eq_getElem_cons h', List.getD_eq_getElem?_getD, List.getElem?_eq_getElem h']; rfl
theorem q45 (l : List UInt8) : qz Tryz.prog 137 [.str l] (.int .i64 (qkh l)) := by
 refine qj c0dl (by simp) (by simp only [go_sem]) rfl fun hw => ?_
 repeat' (first | refine vs_ ?_ | ((first | refine vr_ ?_ | (refine cs_ ?_ ?_ <;> intro hc) | refine cj_ ?_ | simp (disch := omega) only [qh, qs]) <;> (try refine ev_ ?_)) | with_reducible exact ti_)
 refine qbm (S := Nat) (fun i => i ≤ 12 ∧ qpl l (marksW.drop i) = qkh l) (fun i => (⟨[(0, .str l), (5, .agg (marksW.map AV.str)), (6, .int .i64 i)], []⟩, [])) (fun i => 12 - i) ?_ fun i hi => ?_
 ·refine q8 0 [] ⟨Nat.zero_le _, rfl⟩ rfl (by simp) ?_ ?_ ?_ <;> (try refine ev_ ?_) <;> (try with_reducible exact ti_) <;> (try simp (disch := omega) only [qs, and_true, true_and])
  exact ⟨rfl, rfl⟩
 ·obtain ⟨hi, ha⟩ := hi
  repeat' (first | refine vs_ ?_ | ((first | refine vr_ ?_ | refine qa (qgl _ _) fun _ => ?_ | (refine cs_ ?_ ?_ <;> intro hc) | refine cj_ ?_ | simp (disch := omega) only [qh, qs]) <;> (try refine ev_ ?_)) | with_reducible exact ti_)
  ·simp (disch := omega) only [qbbe, qbaf, Nat.mul_one]
   refine ⟨by omega, ?_⟩
   repeat' (first | refine vs_ ?_ | ((first | refine vr_ ?_ | refine qa (qgl _ _) fun _ => ?_ | (refine cs_ ?_ ?_ <;> intro hc) | refine cj_ ?_ | simp (disch := omega) only [qh, qs]) <;> (try refine ev_ ?_)) | with_reducible exact ti_)
   ·rw [← ha, qtg (i := i) (by omega), qpl, if_pos hc]
   ·refine q8 (i + 1) [] ⟨⟨by omega, ?_⟩, by omega⟩ rfl (by simp) ?_ ?_ ?_ <;> (try refine ev_ ?_) <;> (try with_reducible exact ti_) <;> (try simp (disch := omega) only [qs, and_true, true_and])
    ·rw [← ha, qtg (i := i) (by omega), qpl, hc]; rfl
    ·have : i < maxLen := by unfold maxLen; omega
     rw [qs this]
     exact ⟨⟨rfl, rfl⟩, rfl⟩
  ·rw [← ha, show i = 12 by omega]; rfl
theorem q78 (c d : UInt8) : c = d ↔ (c.toNat : Int) = d.toNat := by rw [Int.ofNat_inj, UInt8.toNat_inj]
theorem q4z (l : List UInt8) (hne : l ≠ []) : qz Tryz.prog 79 [.str l] (.str (l.take (qkh l))) := by
 refine qj c0dm (by simp) (by simp only [go_sem]) rfl fun hw => ?_
 have hl : l.length ≤ maxLen := hw.1
 rcases l with _ | ⟨c, _ | ⟨d, r⟩⟩
 ·exact absurd rfl hne
 ·repeat' (first | refine vs_ ?_ | ((first | refine vr_ ?_ | (refine cs_ ?_ ?_ <;> intro hc) | refine cj_ ?_ | simp (disch := omega) only [qh, qs]) <;> (try refine ev_ ?_)) | with_reducible exact ti_)
  all_goals first | (simp_all [qkh, marksW, qpl, pfx, q78]; done) | (simp_all [qkh, marksW, qpl, pfx, q78]; omega)
 ·repeat' (first | refine vs_ ?_ | ((first | refine vr_ ?_ | (refine cs_ ?_ ?_ <;> intro hc) | refine cj_ ?_ | simp (disch := omega) only [qh, qs]) <;> (try refine ev_ ?_)) | with_reducible exact ti_)
  all_goals first | (simp_all [qkh, marksW, qpl, pfx, q78]; done) | (simp_all [qkh, marksW, qpl, pfx, q78]; omega) | skip
  have : qkh (c :: d :: r) = 0 := by
   simp_all [qkh, marksW, qpl, pfx, q78]
   rw [if_neg (by rintro ⟨h1, h2⟩; simp_all), if_neg (by rintro ⟨h1, h2⟩; simp_all)]
  rw [this]; rfl

def qc8 (l : List UInt8) : T × Int :=
 if qcm (l.getD 0 0).toNat then (⟨3, 0, (qpo (l.take (qbg qcm l))).1, l.take (qbg qcm l)⟩, (qpo (l.take (qbg qcm l))).2)
 else if onW (l.getD 0 0).toNat && !decide (((l.getD 0 0).toNat : Int) = 39) then (qxc (l.take (qbg onW l)), 0)
 else if qkh l = 0 then (T0, 3)
 else (⟨5, 0, 0, l.take (qkh l)⟩, 0)
def qbjv (p : T × Int) : AV := .tup [encT p.1, .int .i64 p.2]
theorem q3w (l : List UInt8) : ∀ ms, qpl l ms ≤ l.length
 | [] => Nat.zero_le _
 | m :: r => by
   rw [qpl]
   split
   ·rename_i h
    have := congrArg List.length (of_decide_eq_true h)
    rw [List.length_take] at this
    omega
   ·exact q3w l r
theorem qvz (l : List UInt8) : qkh l ≤ l.length := q3w l _
attribute [go_sem] qbrm
theorem q5q (l : List UInt8) (hne : l ≠ []) : qz Tryz.prog 101 [.str l] (qbjv (qc8 l)) := by
 refine qj c0dn (by simp) (by simp only [go_sem]) rfl fun hw => ?_
 have hl : l.length ≤ maxLen := hw.1
 have h1 := qg3 qcm l
 have h2 := qg3 onW l
 have h3 := qvz l
 have h4 := List.length_pos_iff.2 hne
 repeat' (first | refine vs_ ?_ | ((first | refine vr_ ?_ | refine qa (qmq _) fun _ => ?_ | refine qa (qj6 qmq _) fun _ => ?_ | refine qa (q7b _) fun _ => ?_ | refine qa (q2b _) fun _ => ?_ | refine qa (qj6 q2b _) fun _ => ?_ | refine qa (q6e _) fun _ => ?_ | refine qa (q45 _) fun _ => ?_ | (refine cs_ ?_ ?_ <;> intro hc) | refine cj_ ?_ | simp (disch := omega) only [qh, qs]) <;> (try refine ev_ ?_)) | with_reducible exact ti_)
 all_goals (unfold qc8 qbjv; simp_all only [↓reduceIte, Bool.false_eq_true, decide_true, decide_false, Bool.not_true, Bool.not_false, Bool.and_true, Bool.and_false, Bool.true_and, Bool.false_and, Int.natCast_eq_zero]; try rfl)
 all_goals trace_state
end Go.Proofs.YtfjbmjplnmaclaaGreat
