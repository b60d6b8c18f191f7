/- A text of this proof. -/
import Derived.Test.YtfjbmjplnmaclaaGreatPao
import Derived.Test.YtfjbmjplnmaclaaGreatPap

/- the lexer's words: one word -/
set_option maxRecDepth 4000
namespace Go.Proofs.YtfjbmjplnmaclaaGreat
open Go Go.RowKit Go.V
set_option linter.unusedVariables false
set_option linter.unusedSimpArgs false

theorem blank_iff {c : Int} : qeh c = true ↔ c = 9 ∨ c = 10 ∨ c = 13 ∨ c = 32 := by simp [qeh, or_assoc]
theorem line_iff {c : Int} : qkf c = true ↔ c ≠ 10 := by simp [qkf]
theorem q7u (a : Nat) : (a : Int) + 1 = ((a + 1 : Nat) : Int) := rfl
theorem qok (l : List UInt8) (k : Nat) (hk : k ≤ l.length) : qz Tryz.prog 40 [.str l, .int .i64 k] (.int .i64 ((k + qc4 (l.drop k) : Nat) : Int)) := by
 refine qj c0dh (by simp) (by simp only [go_sem]) rfl fun hw => ?_
 have hl : l.length ≤ maxLen := hw.1
 repeat' (first | refine vs_ ?_ | ((first | refine vr_ ?_ | (refine cs_ ?_ ?_ <;> intro hc) | refine cj_ ?_ | simp (disch := omega) only [qh, qs]) <;> (try refine ev_ ?_)) | with_reducible exact ti_)
 refine qbm (S := Nat) (fun n => n ≤ l.length ∧ k + qc4 (l.drop k) = n + qc4 (l.drop n)) (fun n => (⟨[(0, .str l), (1, .int .i64 n)], []⟩, [])) (fun n => l.length - n) ?_ fun n hn => ?_
 ·refine q8 k [] ⟨hk, rfl⟩ rfl (by simp) ?_ ?_ ?_ <;> (try refine ev_ ?_) <;> (try with_reducible exact ti_) <;> (try simp (disch := omega) only [qs, and_true, true_and])
 ·obtain ⟨hn, ha⟩ := hn
  have nxt : n < l.length → ¬ qeh (l.getD n 0).toNat = true → ¬ pfx [45, 45] (l.drop n) = true → VO.val (AV.int IntKind.i64 ↑n) = VO.val (AV.int IntKind.i64 ↑(k + qc4 (List.drop k l))) := by
   intro h1 h2 h3
   rw [ha, qtw (by simpa using h3)]
   ·rfl
   ·rw [qee h1, if_neg h2]
  have hp : pfx [45, 45] (l.drop n) = true → n + 1 < l.length ∧ (l.getD n 0).toNat = 45 ∧ (l.getD (n + 1) 0).toNat = 45 := by
   intro h
   have h1 : n < l.length := by
    apply Decidable.byContradiction
    intro h2
    rw [List.drop_of_length_le (by omega)] at h
    simp [pfx] at h
   rw [qel h1, pfx] at h
   have h2 : n + 1 < l.length := by
    apply Decidable.byContradiction
    intro h2
    rw [List.drop_of_length_le (i := n + 1) (by omega)] at h
    simp at h
   rw [qel h2] at h
   generalize l.getD n 0 = x at h ⊢
   generalize l.getD (n + 1) 0 = y at h ⊢
   simp at h
   exact ⟨h2, by rw [h.1]; rfl, by rw [h.2]; rfl⟩
  have nxp : n < l.length → ¬ qeh (l.getD n 0).toNat = true → ¬ (n + 1 < l.length ∧ (l.getD n 0).toNat = 45 ∧ (l.getD (n + 1) 0).toNat = 45) → VO.val (AV.int IntKind.i64 ↑n) = VO.val (AV.int IntKind.i64 ↑(k + qc4 (List.drop k l))) := fun h1 h2 h3 => nxt h1 h2 fun h4 => h3 (hp h4)
  repeat' (first | refine vs_ ?_ | ((first | refine vr_ ?_ | fail) <;> (try simp (disch := first | omega | (simp only [List.length_set, List.length_append, List.length_cons, List.length_nil]; done) | (simp only [List.length_set, List.length_append, List.length_cons, List.length_nil]; omega)) only [qe9, go_sem, ↓reduceIte])) | ((first | simp (disch := omega) only [qe9] | simp (disch := omega) only [qs] | simp (disch := omega) only [q7u] | simp (disch := omega) only [Int.toNat_natCast] | (refine cs_ ?_ ?_ <;> intro hc) | refine cj_ ?_ | simp (disch := omega) only [qh, qs]) <;> (try refine ev_ ?_)) | with_reducible exact ti_)
  ·refine q8 (n + 1) [] ⟨⟨by omega, ?_⟩, by omega⟩ rfl (by simp) ?_ ?_ ?_ <;> (try refine ev_ ?_) <;> (try with_reducible exact ti_) <;> (try simp (disch := omega) only [qs, and_true, true_and])
   rw [ha, qel (i := n) (by omega), qjk (blank_iff.2 (by omega))]; omega
  ·refine q8 (n + 1) [] ⟨⟨by omega, ?_⟩, by omega⟩ rfl (by simp) ?_ ?_ ?_ <;> (try refine ev_ ?_) <;> (try with_reducible exact ti_) <;> (try simp (disch := omega) only [qs, and_true, true_and])
   rw [ha, qel (i := n) (by omega), qjk (blank_iff.2 (by omega))]; omega
  ·refine q8 (n + 1) [] ⟨⟨by omega, ?_⟩, by omega⟩ rfl (by simp) ?_ ?_ ?_ <;> (try refine ev_ ?_) <;> (try with_reducible exact ti_) <;> (try simp (disch := omega) only [qs, and_true, true_and])
   rw [ha, qel (i := n) (by omega), qjk (blank_iff.2 (by omega))]; omega
  ·refine q8 (n + 1) [] ⟨⟨by omega, ?_⟩, by omega⟩ rfl (by simp) ?_ ?_ ?_ <;> (try refine ev_ ?_) <;> (try with_reducible exact ti_) <;> (try simp (disch := omega) only [qs, and_true, true_and])
   rw [ha, qel (i := n) (by omega), qjk (blank_iff.2 (by omega))]; omega
  ·rename_i q1 q2 q3 q4 q5 q6 q7
   have hpp : pfx [45, 45] (l.drop n) = true := by
    have e1 : l.getD n 0 = 45 := UInt8.toNat_inj.1 (by rw [show (45 : UInt8).toNat = 45 from rfl]; omega)
    have e2 : l.getD (n + 1) 0 = 45 := UInt8.toNat_inj.1 (by rw [show (45 : UInt8).toNat = 45 from rfl]; omega)
    rw [qel (i := n) (by omega), qel (i := n + 1) (by omega), e1, e2]
    simp [pfx]
   have hsl := q46 hpp
   rw [List.drop_drop] at hsl
   have hpos : qbg qkf (l.drop n) ≠ 0 := by
    rw [qee (by omega), show qkf (l.getD n 0).toNat = true from line_iff.2 (by omega)]; simp
   refine qbm (S := Nat) (fun m => n ≤ m ∧ m ≤ l.length ∧ n + qbg qkf (l.drop n) = m + qbg qkf (l.drop m)) (fun n => (⟨[(0, .str l), (1, .int .i64 n)], []⟩, [])) (fun n => l.length - n) ?_ fun m hm => ?_
   ·refine q8 n [] ⟨Nat.le_refl _, by omega, rfl⟩ rfl (by simp) ?_ ?_ ?_ <;> (try refine ev_ ?_) <;> (try with_reducible exact ti_) <;> (try simp (disch := omega) only [qs, and_true, true_and])
   ·obtain ⟨hm1, hm2, hm3⟩ := hm
    have hend : n + qbg qkf (l.drop n) = m → (m ≤ l.length ∧ k + qc4 (List.drop k l) = m + qc4 (List.drop m l)) ∧ l.length - m < l.length - n := by
     intro h
     refine ⟨⟨by omega, ?_⟩, by omega⟩
     rw [ha, hsl, h]; omega
    repeat' (first | refine vs_ ?_ | ((first | refine vr_ ?_ | fail) <;> (try simp (disch := first | omega | (simp only [List.length_set, List.length_append, List.length_cons, List.length_nil]; done) | (simp only [List.length_set, List.length_append, List.length_cons, List.length_nil]; omega)) only [qe9, go_sem, ↓reduceIte])) | ((first | simp (disch := omega) only [qe9] | simp (disch := omega) only [qs] | simp (disch := omega) only [q7u] | simp (disch := omega) only [Int.toNat_natCast] | (refine cs_ ?_ ?_ <;> intro hc) | refine cj_ ?_ | simp (disch := omega) only [qh, qs]) <;> (try refine ev_ ?_)) | with_reducible exact ti_)
    ·refine q8 (m + 1) [] ⟨⟨by omega, by omega, ?_⟩, by omega⟩ rfl (by simp) ?_ ?_ ?_ <;> (try refine ev_ ?_) <;> (try with_reducible exact ti_) <;> (try simp (disch := omega) only [qs, and_true, true_and])
     rw [hm3, qee (i := m) (by omega), if_pos (line_iff.2 (by omega))]; omega
    ·refine q8 m [] (hend ?_) rfl (by simp) ?_ ?_ ?_ <;> (try refine ev_ ?_) <;> (try with_reducible exact ti_) <;> (try simp (disch := omega) only [qs, and_true, true_and])
     rw [hm3, qee (i := m) (by omega), if_neg (mt line_iff.1 (by omega))]; rfl
    ·refine q8 m [] (hend ?_) rfl (by simp) ?_ ?_ ?_ <;> (try refine ev_ ?_) <;> (try with_reducible exact ti_) <;> (try simp (disch := omega) only [qs, and_true, true_and])
     rw [hm3, List.drop_of_length_le (by omega)]; rfl
  ·exact nxp (by omega) (mt blank_iff.1 (by omega)) (by omega)
  ·exact nxp (by omega) (mt blank_iff.1 (by omega)) (by omega)
  ·exact nxp (by omega) (mt blank_iff.1 (by omega)) (by omega)
  ·rw [ha, List.drop_of_length_le (by omega)]
   have : qc4 [] = 0 := qtw rfl rfl
   rw [this]; rfl

def qbch (l : List UInt8) : Int := if l = [95] then 5 else if resW l then 4 else if conW l then 2 else 1
def qxc (l : List UInt8) : T := ⟨qbch l, 0, 0, l⟩
theorem q5z (l : List UInt8) : qz Tryz.prog 136 [.str l] (encT (qxc l)) := by
 refine qj c0di (by simp) (by simp only [go_sem]) rfl fun hw => ?_
 have hl : l.length ≤ maxLen := hw.1
 repeat' (first | refine vs_ ?_ | ((first | refine vr_ ?_ | refine qa (ql5 _) fun _ => ?_ | refine qa (qg5 _) fun _ => ?_ | (refine cs_ ?_ ?_ <;> intro hc) | refine cj_ ?_ | fail) <;> (try refine ev_ ?_)) | with_reducible exact ti_)
 all_goals simp_all [encT, qxc, qbch]

def marksW : List (List UInt8) := [[45, 62], [61, 62], [58, 58], [40], [41], [123], [125], [59], [44], [61], [124], [92]]
def qpj (l : List UInt8) : List (List UInt8) → Nat
 | [] => 0
 | m :: r => if pfx m l then m.length else qpj l r
def qke (l : List UInt8) : Nat := qpj l marksW
theorem q6b : (marksW.map AV.str).length = 12 := rfl
theorem qbaq {i : Nat} (h : i < 12) : (marksW.map AV.str).getD i .junk = .str (marksW.getD i []) := by
 have h' : i < marksW.length := h
 rw [List.getD_eq_getElem?_getD, List.getElem?_map, List.getD_eq_getElem?_getD, List.getElem?_eq_getElem h']; rfl
theorem qtx {i : Nat} (h : i < 12) : marksW.drop i = marksW.getD i [] :: marksW.drop (i + 1) := by
 have h' : i < marksW.length := h
 rw [List.drop_eq_getElem_cons h', List.getD_eq_getElem?_getD, List.getElem?_eq_getElem h']; rfl
theorem q4x (l : List UInt8) : qz Tryz.prog 137 [.str l] (.int .i64 (qke l)) := by
 refine qj c0dj (by simp) (by simp only [go_sem]) rfl fun hw => ?_
 repeat' (first | refine vs_ ?_ | ((first | refine vr_ ?_ | (refine cs_ ?_ ?_ <;> intro hc) | refine cj_ ?_ | simp (disch := omega) only [qh, qs]) <;> (try refine ev_ ?_)) | with_reducible exact ti_)
 refine qbm (S := Nat) (fun i => i ≤ 12 ∧ qpj l (marksW.drop i) = qke l) (fun i => (⟨[(0, .str l), (5, .agg (marksW.map AV.str)), (6, .int .i64 i)], []⟩, [])) (fun i => 12 - i) ?_ fun i hi => ?_
 ·refine q8 0 [] ⟨Nat.zero_le _, rfl⟩ rfl (by simp) ?_ ?_ ?_ <;> (try refine ev_ ?_) <;> (try with_reducible exact ti_) <;> (try simp (disch := omega) only [qs, and_true, true_and])
  exact ⟨rfl, rfl⟩
 ·obtain ⟨hi, ha⟩ := hi
  repeat' (first | refine vs_ ?_ | ((first | refine vr_ ?_ | refine qa (qgl _ _) fun _ => ?_ | (refine cs_ ?_ ?_ <;> intro hc) | refine cj_ ?_ | simp (disch := omega) only [qh, qs]) <;> (try refine ev_ ?_)) | with_reducible exact ti_)
  ·simp (disch := omega) only [q6b, qbaq, Nat.mul_one]
   refine ⟨by omega, ?_⟩
   repeat' (first | refine vs_ ?_ | ((first | refine vr_ ?_ | refine qa (qgl _ _) fun _ => ?_ | (refine cs_ ?_ ?_ <;> intro hc) | refine cj_ ?_ | simp (disch := omega) only [qh, qs]) <;> (try refine ev_ ?_)) | with_reducible exact ti_)
   ·rw [← ha, qtx (i := i) (by omega), qpj, if_pos hc]
   ·refine q8 (i + 1) [] ⟨⟨by omega, ?_⟩, by omega⟩ rfl (by simp) ?_ ?_ ?_ <;> (try refine ev_ ?_) <;> (try with_reducible exact ti_) <;> (try simp (disch := omega) only [qs, and_true, true_and])
    ·rw [← ha, qtx (i := i) (by omega), qpj, hc]; rfl
    ·have : i < maxLen := by unfold maxLen; omega
     rw [qs this]
     exact ⟨⟨rfl, rfl⟩, rfl⟩
  ·rw [← ha, show i = 12 by omega]; rfl
theorem q9e (c d : UInt8) : c = d ↔ (c.toNat : Int) = d.toNat := by rw [Int.ofNat_inj, UInt8.toNat_inj]
theorem q43 (l : List UInt8) (hne : l ≠ []) : qz Tryz.prog 79 [.str l] (.str (l.take (qke l))) := by
 refine qj c0dk (by simp) (by simp only [go_sem]) rfl fun hw => ?_
 have hl : l.length ≤ maxLen := hw.1
 rcases l with _ | ⟨c, _ | ⟨d, r⟩⟩
 ·exact absurd rfl hne
 ·repeat' (first | refine vs_ ?_ | ((first | refine vr_ ?_ | (refine cs_ ?_ ?_ <;> intro hc) | refine cj_ ?_ | simp (disch := omega) only [qh, qs]) <;> (try refine ev_ ?_)) | with_reducible exact ti_)
  all_goals first | (simp_all [qke, marksW, qpj, pfx, q9e]; done) | (simp_all [qke, marksW, qpj, pfx, q9e]; omega)
 ·repeat' (first | refine vs_ ?_ | ((first | refine vr_ ?_ | (refine cs_ ?_ ?_ <;> intro hc) | refine cj_ ?_ | simp (disch := omega) only [qh, qs]) <;> (try refine ev_ ?_)) | with_reducible exact ti_)
  all_goals first | (simp_all [qke, marksW, qpj, pfx, q9e]; done) | (simp_all [qke, marksW, qpj, pfx, q9e]; omega) | skip
  have : qke (c :: d :: r) = 0 := by
   simp_all [qke, marksW, qpj, pfx, q9e]
   rw [if_neg (by rintro ⟨h1, h2⟩; simp_all), if_neg (by rintro ⟨h1, h2⟩; simp_all)]
  rw [this]; rfl

def qc8 (l : List UInt8) : T × Int :=
 if qcn (l.getD 0 0).toNat then (⟨3, 0, (qpo (l.take (qbg qcn l))).1, l.take (qbg qcn l)⟩, (qpo (l.take (qbg qcn l))).2)
 else if onW (l.getD 0 0).toNat && !decide (((l.getD 0 0).toNat : Int) = 39) then (qxc (l.take (qbg onW l)), 0)
 else if qke l = 0 then (T0, 3)
 else (⟨5, 0, 0, l.take (qke l)⟩, 0)
def qbdn (p : T × Int) : AV := .tup [encT p.1, .int .i64 p.2]
theorem q3d (l : List UInt8) : ∀ ms, qpj l ms ≤ l.length
 | [] => Nat.zero_le _
 | m :: r => by
   rw [qpj]
   split
   ·rename_i h
    have := congrArg List.length (of_decide_eq_true h)
    rw [List.length_take] at this
    omega
   ·exact q3d l r
theorem qv5 (l : List UInt8) : qke l ≤ l.length := q3d l _
attribute [go_sem] qb1i
theorem q37 (l : List UInt8) (hne : l ≠ []) : qz Tryz.prog 101 [.str l] (qbdn (qc8 l)) := by
 refine qj c0dl (by simp) (by simp only [go_sem]) rfl fun hw => ?_
 have hl : l.length ≤ maxLen := hw.1
 have h1 := qg6 qcn l
 have h2 := qg6 onW l
 have h3 := qv5 l
 have h4 := List.length_pos_iff.2 hne
 repeat' (first | refine vs_ ?_ | ((first | refine vr_ ?_ | refine qa (qmc _) fun _ => ?_ | refine qa (qjv qmc _) fun _ => ?_ | refine qa (q99 _) fun _ => ?_ | refine qa (q1k _) fun _ => ?_ | refine qa (qjv q1k _) fun _ => ?_ | refine qa (q5z _) fun _ => ?_ | refine qa (q4x _) fun _ => ?_ | (refine cs_ ?_ ?_ <;> intro hc) | refine cj_ ?_ | simp (disch := omega) only [qh, qs]) <;> (try refine ev_ ?_)) | with_reducible exact ti_)
 all_goals (unfold qc8 qbdn; simp_all only [↓reduceIte, Bool.false_eq_true, decide_true, decide_false, Bool.not_true, Bool.not_false, Bool.and_true, Bool.and_false, Bool.true_and, Bool.false_and, Int.natCast_eq_zero]; try rfl)
 all_goals trace_state
end Go.Proofs.YtfjbmjplnmaclaaGreat
