/- Texts of this proof, joined. -/
import Derived.Test.YtlahgbhhejkgbaaGreatKah
import Derived.Test.YtlahgbhhejkgbaaGreatKan

/- names -/
set_option maxRecDepth 4000
namespace Go.Proofs.YtlahgbhhejkgbaaGreat
open Go Go.RowKit Go.V
set_option linter.unusedVariables false
set_option linter.unusedSimpArgs false

def qp0 (c : Int) : Bool := decide (97 ≤ c) && decide (c ≤ 122) || decide (c = 95)
def qgk (c : Int) : Bool := decide (65 ≤ c) && decide (c ≤ 90)
def qc1 (c : Int) : Bool := decide (48 ≤ c) && decide (c ≤ 57)

theorem qq8 (c : Int) : qj Tryz.prog 113 [.int .u8 c] (.bool (qp0 c)) := by
 refine qg c0ck (by simp) (by simp only [go_sem]) rfl fun hw => ?_
 repeat' (first | refine vs_ ?_ | ((first | refine vr_ ?_ | (refine cs_ ?_ ?_ <;> intro hc) | refine cj_ ?_ | fail) <;> (try refine ev_ ?_)) | with_reducible exact ti_)
 all_goals simp [qp0, *]
theorem qqt (c : Int) : qj Tryz.prog 121 [.int .u8 c] (.bool (qp0 c)) := by
 refine qg c0cl (by simp) (by simp only [go_sem]) rfl fun hw => ?_
 repeat' (first | refine vs_ ?_ | ((first | refine vr_ ?_ | (refine cs_ ?_ ?_ <;> intro hc) | refine cj_ ?_ | fail) <;> (try refine ev_ ?_)) | with_reducible exact ti_)
 all_goals simp [qp0, *]
theorem qj6 (c : Int) : qj Tryz.prog 100 [.int .u8 c] (.bool (qgk c)) := by
 refine qg c0cm (by simp) (by simp only [go_sem]) rfl fun hw => ?_
 repeat' (first | refine vs_ ?_ | ((first | refine vr_ ?_ | (refine cs_ ?_ ?_ <;> intro hc) | refine cj_ ?_ | fail) <;> (try refine ev_ ?_)) | with_reducible exact ti_)
 all_goals simp [qgk, *]
theorem qj3 (c : Int) : qj Tryz.prog 93 [.int .u8 c] (.bool (qgk c)) := by
 refine qg c0cn (by simp) (by simp only [go_sem]) rfl fun hw => ?_
 repeat' (first | refine vs_ ?_ | ((first | refine vr_ ?_ | (refine cs_ ?_ ?_ <;> intro hc) | refine cj_ ?_ | fail) <;> (try refine ev_ ?_)) | with_reducible exact ti_)
 all_goals simp [qgk, *]
theorem qqc (c : Int) : qj Tryz.prog 122 [.int .u8 c] (.bool (qc1 c)) := by
 refine qg c0co (by simp) (by simp only [go_sem]) rfl fun hw => ?_
 repeat' (first | refine vs_ ?_ | ((first | refine vr_ ?_ | (refine cs_ ?_ ?_ <;> intro hc) | refine cj_ ?_ | fail) <;> (try refine ev_ ?_)) | with_reducible exact ti_)
 all_goals simp [qc1, *]
def onW (c : Int) : Bool := qp0 c || qgk c || qc1 c || decide (c = 39)
theorem q09 (c : Int) : qj Tryz.prog 111 [.int .u8 c] (.bool (onW c)) := by
 refine qg c0cp (by simp) (by simp only [go_sem]) rfl fun hw => ?_
 repeat' (first | refine vs_ ?_ | ((first | refine vr_ ?_ | refine qa (qqt _) fun _ => ?_ | refine qa (qj3 _) fun _ => ?_ | refine qa (qqc _) fun _ => ?_ | (refine cs_ ?_ ?_ <;> intro hc) | refine cj_ ?_ | fail) <;> (try refine ev_ ?_)) | with_reducible exact ti_)
 all_goals simp [onW, *]

def onsW (l : List UInt8) : Bool := l.all fun c => onW c.toNat
theorem qkz {l : List UInt8} {i : Nat} (h : i < l.length) : l.drop i = l.getD i 0 :: l.drop (i + 1) := by
 rw [List.drop_eq_getElem_cons h, List.getD_eq_getElem?_getD, List.getElem?_eq_getElem h]; rfl
theorem qe7 {l : List UInt8} {i : Nat} (h : i < l.length) : onsW (l.drop i) = (onW (l.getD i 0).toNat && onsW (l.drop (i + 1))) := by
 rw [qkz h]; rfl
theorem qvc (l : List UInt8) : qj Tryz.prog 101 [.str l] (.bool (onsW l)) := by
 refine qg c0cq (by simp) (by simp only [go_sem]) rfl fun hw => ?_
 have hl : l.length ≤ maxLen := hw.1
 repeat' (first | refine vs_ ?_ | ((first | refine vr_ ?_ | (refine cs_ ?_ ?_ <;> intro hc) | refine cj_ ?_ | simp (disch := omega) only [encs_getN, qb]) <;> (try refine ev_ ?_)) | with_reducible exact ti_)
 refine qq (S := Nat) (fun i => i ≤ l.length ∧ onsW (l.drop i) = onsW l) (fun i => (⟨[(0, .str l), (6, .int .i64 l.length), (7, .int .i64 i)], []⟩, [])) (fun i => l.length - i) ?_ fun i hi => ?_
 ·refine qi 0 [] ⟨Nat.zero_le _, rfl⟩ rfl (by simp) ?_ ?_ ?_ <;> (try refine ev_ ?_) <;> (try with_reducible exact ti_) <;> (try simp (disch := omega) only [qb, and_true, true_and])
 ·obtain ⟨hi, ha⟩ := hi
  repeat' (first | refine vs_ ?_ | ((first | refine vr_ ?_ | refine qa (qq8 _) fun _ => ?_ | refine qa (qj6 _) fun _ => ?_ | (refine cs_ ?_ ?_ <;> intro hc) | refine cj_ ?_ | simp (disch := omega) only [encs_getN, qb]) <;> (try refine ev_ ?_)) | with_reducible exact ti_)
  all_goals first
   | (refine qi (i + 1) [] ⟨⟨by omega, ?_⟩, by omega⟩ rfl (by simp) ?_ ?_ ?_ <;> (try refine ev_ ?_) <;> (try with_reducible exact ti_) <;> (try simp (disch := omega) only [qb, and_true, true_and])
      rw [← ha, qe7 (l := l) (i := i) (by omega)]
      simp_all [onW, qc1]
      try omega)
   | (rw [← ha, show i = l.length by omega, List.drop_length]; rfl)
   | (rw [← ha, qe7 (l := l) (i := i) (by omega)]
      simp_all [onW, qc1]
      try omega)

theorem q0m (l : List UInt8) : qj Tryz.prog 94 [.str l] (.bool (onsW (l.drop 1))) := by
 refine qg c0cr (by simp) (by simp only [go_sem]) rfl fun hw => ?_
 have hl : l.length ≤ maxLen := hw.1
 repeat' (first | refine vs_ ?_ | ((first | refine vr_ ?_ | (refine cs_ ?_ ?_ <;> intro hc) | refine cj_ ?_ | simp (disch := omega) only [encs_getN, qb]) <;> (try refine ev_ ?_)) | with_reducible exact ti_)
 refine qq (S := Nat) (fun i => 1 ≤ i ∧ onsW (l.drop i) = onsW (l.drop 1)) (fun i => (⟨[(0, .str l), (3, .int .i64 i)], []⟩, [])) (fun i => l.length - i) ?_ fun i hi => ?_
 ·refine qi 1 [] ⟨Nat.le_refl _, rfl⟩ rfl (by simp) ?_ ?_ ?_ <;> (try refine ev_ ?_) <;> (try with_reducible exact ti_) <;> (try simp (disch := omega) only [qb, and_true, true_and])
 ·obtain ⟨hi, ha⟩ := hi
  repeat' (first | refine vs_ ?_ | ((first | refine vr_ ?_ | refine qa (q09 _) fun _ => ?_ | (refine cs_ ?_ ?_ <;> intro hc) | refine cj_ ?_ | simp (disch := omega) only [encs_getN, qb]) <;> (try refine ev_ ?_)) | with_reducible exact ti_)
  ·rw [← ha, qe7 (l := l) (i := i) (by omega), hc]; rfl
  ·refine qi (i + 1) [] ⟨⟨by omega, ?_⟩, by omega⟩ rfl (by simp) ?_ ?_ ?_ <;> (try refine ev_ ?_) <;> (try with_reducible exact ti_) <;> (try simp (disch := omega) only [qb, and_true, true_and])
   rw [← ha, qe7 (l := l) (i := i) (by omega), hc, Bool.true_and]
  ·rw [← ha, List.drop_of_length_le (by omega)]; rfl

def conW (l : List UInt8) : Bool := decide (l ≠ []) && qgk (l.getD 0 0).toNat && onsW l
theorem qy0 (l : List UInt8) : qj Tryz.prog 81 [.str l] (.bool (conW l)) := by
 refine qg c0cs (by simp) (by simp only [go_sem]) rfl fun hw => ?_
 have hl : l.length ≤ maxLen := hw.1
 repeat' (first | refine vs_ ?_ | ((first | refine vr_ ?_ | refine qa (qvc _) fun _ => ?_ | refine qa (qj6 _) fun _ => ?_ | (refine cs_ ?_ ?_ <;> intro hc) | refine cj_ ?_ | simp (disch := omega) only [encs_getN, qb]) <;> (try refine ev_ ?_)) | with_reducible exact ti_)
 all_goals simp_all [conW]
theorem qz3 {l : List UInt8} (h : ¬ l = []) : onsW l = (onW (l.getD 0 0).toNat && onsW (l.drop 1)) := qe7 (l := l) (i := 0) (qho h)
theorem q4j {c : Int} (h : qgk c = true) : onW c = true := by simp [onW, h]
theorem qyh (l : List UInt8) : qj Tryz.prog 69 [.str l] (.bool (conW l)) := by
 refine qg c0ct (by simp) (by simp only [go_sem]) rfl fun hw => ?_
 have hl : l.length ≤ maxLen := hw.1
 have hk : conW l = (decide (l ≠ []) && qgk (l.getD 0 0).toNat && onsW (l.drop 1)) := by
  by_cases h : l = []
  ·subst h; rfl
  ·rw [conW, qz3 h]
   cases hg : qgk (l.getD 0 0).toNat
   ·simp
   ·rw [q4j hg]; simp
 rw [hk]
 repeat' (first | refine vs_ ?_ | ((first | refine vr_ ?_ | refine qa (q0m _) fun _ => ?_ | refine qa (qj3 _) fun _ => ?_ | (refine cs_ ?_ ?_ <;> intro hc) | refine cj_ ?_ | simp (disch := omega) only [encs_getN, qb]) <;> (try refine ev_ ?_)) | with_reducible exact ti_)
 all_goals simp_all
set_option maxRecDepth 4000

theorem qh8 : IntKind.i64.wrap (0 + 1) = 1 := by decide
def digW (l : List UInt8) : Bool := l.all fun c => qc1 c.toNat
theorem qgq {l : List UInt8} {i : Nat} (h : i < l.length) : digW (l.drop i) = (qc1 (l.getD i 0).toNat && digW (l.drop (i + 1))) := by
 rw [qkz h]; rfl

def digV (c : UInt8) : Int := IntKind.i64.wrap (IntKind.u8.wrap ((c.toNat : Int) - 48))
def topV (c : UInt8) : Int := IntKind.i64.wrap ((IntKind.i64.wrap (9223372036854775807 - digV c)).tdiv 10)
def nxtV (k : Int) (c : UInt8) : Int := IntKind.i64.wrap (IntKind.i64.wrap (10 * k) + digV c)
def qen : Int → List UInt8 → Int × Int
 | k, [] => (k, 0)
 | k, c :: r => if topV c < k then (0, 4) else qen (nxtV k c) r
def qeo (l : List UInt8) : Int × Int := if l = [] then (0, 5) else if digW l = true then qen 0 l else (0, 5)
def q6b (p : Int × Int) : AV := .tup [.int .i64 p.1, .int .i64 p.2]
theorem qhm {l : List UInt8} {i : Nat} (h : i < l.length) (k : Int) : qen k (l.drop i) = if topV (l.getD i 0) < k then (0, 4) else qen (nxtV k (l.getD i 0)) (l.drop (i + 1)) := by
 rw [qkz h]; rfl
theorem qwg {c : Int} (h : c < 48 ∨ 57 < c) : qc1 c = false := by
 simp only [qc1, Bool.and_eq_false_iff, decide_eq_false_iff_not]; omega
theorem qyt {c : Int} (h : ¬ c < 48) (h2 : ¬ 57 < c) : qc1 c = true := by
 simp only [qc1, Bool.and_eq_true, decide_eq_true_eq]; omega
theorem qgg {l : List UInt8} (h : l ≠ []) (hd : digW l = true) : qeo l = qen 0 l := by rw [qeo, if_neg h, if_pos hd]
theorem qnx {l : List UInt8} (hd : digW l = false) : qeo l = (0, 5) := by rw [qeo, hd]; simp

theorem ql0 (l : List UInt8) : qj Tryz.prog 91 [.str l] (q6b (qeo l)) := by
 refine qg c0ci (by simp) (by simp only [go_sem]) rfl fun hw => ?_
 have hl : l.length ≤ maxLen := hw.1
 repeat' (first | refine vs_ ?_ | ((first | refine vr_ ?_ | (refine cs_ ?_ ?_ <;> intro hc) | refine cj_ ?_ | simp (disch := omega) only [encs_getN, qb]) <;> (try refine ev_ ?_)) | with_reducible exact ti_)
 ·subst hc; rfl
 ·refine qq (S := Nat) (fun i => i ≤ l.length ∧ digW (l.drop i) = digW l) (fun i => (⟨[(0, .str l), (4, .int .i64 i)], []⟩, [])) (fun i => l.length - i) ?_ fun i hi => ?_
  ·refine qi 0 [] ⟨Nat.zero_le _, rfl⟩ rfl (by simp) ?_ ?_ ?_ <;> (try refine ev_ ?_) <;> (try with_reducible exact ti_) <;> (try simp (disch := omega) only [qb, and_true, true_and])
  ·obtain ⟨hi, ha⟩ := hi
   have hs : i < l.length → qc1 (l.getD i 0).toNat = false → qeo l = (0, 5) := fun h h2 => qnx (by rw [← ha, qgq h, h2]; rfl)
   repeat' (first | refine vs_ ?_ | ((first | refine vr_ ?_ | (refine cs_ ?_ ?_ <;> intro hc) | refine cj_ ?_ | simp (disch := omega) only [encs_getN, qb]) <;> (try refine ev_ ?_)) | with_reducible exact ti_)
   ·rw [hs (by omega) (qwg (by omega))]; rfl
   ·rw [hs (by omega) (qwg (by omega))]; rfl
   ·refine qi (i + 1) [] ⟨⟨by omega, ?_⟩, by omega⟩ rfl (by simp) ?_ ?_ ?_ <;> (try refine ev_ ?_) <;> (try with_reducible exact ti_) <;> (try simp (disch := omega) only [qb, and_true, true_and])
    have hd : qc1 (l.getD i 0).toNat = true := qyt (by omega) (by omega)
    rw [← ha, qgq (l := l) (i := i) (by omega), hd, Bool.true_and]
   ·have hd : digW l = true := by rw [← ha, List.drop_of_length_le (by omega)]; rfl
    rw [qgg (by assumption) hd]
    refine qq (S := Nat × Int) (fun s => s.1 ≤ l.length ∧ qen s.2 (l.drop s.1) = qen 0 l) (fun s => (⟨[(0, .str l), (5, .int .i64 s.2), (6, .int .i64 s.1)], []⟩, [])) (fun s => l.length - s.1) ?_ fun s hs => ?_
    ·refine qi (0, 0) [] ⟨Nat.zero_le _, rfl⟩ rfl (by simp) ?_ ?_ ?_ <;> (try refine ev_ ?_) <;> (try with_reducible exact ti_) <;> (try simp (disch := omega) only [qb, and_true, true_and])
    ·obtain ⟨j, k⟩ := s
     obtain ⟨hj, hr⟩ := hs
     dsimp only at hj hr
     have hs2 : j < l.length → qen 0 l = if topV (l.getD j 0) < k then (0, 4) else qen (nxtV k (l.getD j 0)) (l.drop (j + 1)) := fun h => by rw [← hr, qhm h]
     repeat' (first | refine vs_ ?_ | ((first | refine vr_ ?_ | (refine cs_ ?_ ?_ <;> intro hc) | refine cj_ ?_ | simp (disch := omega) only [encs_getN, qb]) <;> (try refine ev_ ?_)) | with_reducible exact ti_)
     ·have hc' : topV (l.getD j 0) < k := hc
      rw [hs2 (by omega), if_pos hc']; rfl
     ·have hc' : ¬ topV (l.getD j 0) < k := hc
      refine qi (j + 1, nxtV k (l.getD j 0)) [] ⟨⟨by omega, ?_⟩, by omega⟩ rfl (by simp) ?_ ?_ ?_ <;> (try refine ev_ ?_) <;> (try with_reducible exact ti_) <;> (try simp (disch := omega) only [qb, and_true, true_and])
      ·rw [hs2 (by omega), if_neg hc']
      ·rfl
     ·rw [← hr, List.drop_of_length_le (by omega)]; rfl

theorem qgs (l : List UInt8) : qj Tryz.prog 98 [.str l] (q6b (qeo l)) := by
 refine qg c0cj (by simp) (by simp only [go_sem]) rfl fun hw => ?_
 have hl : l.length ≤ maxLen := hw.1
 refine qcg (qek ?_)
 (refine ev_ ?_; (try with_reducible exact ti_))
 refine q0k (S := Nat × Int) 0 rfl (fun s => s.1 < l.length ∧ digW l = true ∧ qen s.2 (l.drop s.1) = qen 0 l) (fun s => (⟨[(0, .str l), (5, .int .i64 s.2), (6, .int .i64 s.1)], []⟩, [])) (fun s => l.length - s.1) ?_ fun s hs => ?_
 ·repeat' (first | refine vs_ ?_ | ((first | refine vr_ ?_ | (refine cs_ ?_ ?_ <;> intro hc) | refine cj_ ?_ | simp (disch := omega) only [encs_getN, qb]) <;> (try refine ev_ ?_)) | with_reducible exact ti_)
  refine qq (S := Nat) (fun i => i ≤ l.length ∧ digW (l.drop i) = digW l) (fun i => (⟨[(0, .str l), (9, .int .i64 l.length), (10, .int .i64 i)], []⟩, [])) (fun i => l.length - i) ?_ fun i hi => ?_
  ·refine qi 0 [] ⟨Nat.zero_le _, rfl⟩ rfl (by simp) ?_ ?_ ?_ <;> (try refine ev_ ?_) <;> (try with_reducible exact ti_) <;> (try simp (disch := omega) only [qb, and_true, true_and])
  ·obtain ⟨hi, ha⟩ := hi
   have hs : i < l.length → qc1 (l.getD i 0).toNat = false → qeo l = (0, 5) := fun h h2 => qnx (by rw [← ha, qgq h, h2]; rfl)
   have hs2 : 0 < l.length → qen 0 l = if topV (l.getD 0 0) < 0 then (0, 4) else qen (nxtV 0 (l.getD 0 0)) (l.drop 1) := fun h => by
    have := qhm (l := l) (i := 0) h 0
    rwa [List.drop_zero] at this
   have hdig : ¬ (i : Int) < l.length → digW l = true := fun h => by rw [← ha, List.drop_of_length_le (by omega)]; rfl
   repeat' (first | refine vs_ ?_ | ((first | refine vr_ ?_ | simp (disch := omega) only [qb] | simp (disch := omega) only [qh8] | (refine cs_ ?_ ?_ <;> intro hc) | refine cj_ ?_ | simp (disch := omega) only [encs_getN, qb]) <;> (try refine ev_ ?_)) | with_reducible exact ti_)
   all_goals first
    | (rw [hs (by omega) (qwg (by omega))]; rfl)
    | (refine qi (i + 1) [] ⟨⟨by omega, ?_⟩, by omega⟩ rfl (by simp) ?_ ?_ ?_ <;> (try refine ev_ ?_) <;> (try with_reducible exact ti_) <;> (try simp (disch := omega) only [qb, and_true, true_and])
       have hd : qc1 (l.getD i 0).toNat = true := qyt (by omega) (by omega)
       rw [← ha, qgq (l := l) (i := i) (by omega), hd, Bool.true_and])
    | (subst hc; rfl)
    | skip
   ·have hlp := qho (by assumption)
    have hd := hdig (by assumption)
    have hc' : topV (l.getD 0 0) < 0 := hc
    rw [qgg (by assumption) hd, hs2 hlp, if_pos hc']; rfl
   ·rename_i hc0
    have hlp := qho (by assumption)
    have hd := hdig (by assumption)
    have hc' : ¬ topV (l.getD 0 0) < 0 := hc0
    refine qi (1, nxtV 0 (l.getD 0 0)) [] ⟨by omega, hd, ?_⟩ rfl (by simp) ?_ ?_ ?_ <;> (try refine ev_ ?_) <;> (try with_reducible exact ti_) <;> (try simp (disch := omega) only [qb, and_true, true_and])
    ·rw [hs2 hlp, if_neg hc']
    ·rfl
   ·rename_i hc0
    have hlp := qho (by assumption)
    have hd := hdig (by assumption)
    have hc' : ¬ topV (l.getD 0 0) < 0 := hc0
    rw [qgg (by assumption) hd, hs2 hlp, if_neg hc', List.drop_of_length_le (by omega)]; rfl
 ·obtain ⟨j, k⟩ := s
  obtain ⟨hj, hd, hr⟩ := hs
  dsimp only at hj hr
  have hs2 : qen 0 l = if topV (l.getD j 0) < k then (0, 4) else qen (nxtV k (l.getD j 0)) (l.drop (j + 1)) := by rw [← hr, qhm hj]
  have hne : l ≠ [] := fun e => by subst e; simp at hj
  rw [qgg hne hd]
  repeat' (first | refine vs_ ?_ | ((first | refine vr_ ?_ | simp (disch := omega) only [qb] | simp (disch := omega) only [qh8] | (refine cs_ ?_ ?_ <;> intro hc) | refine cj_ ?_ | simp (disch := omega) only [encs_getN, qb]) <;> (try refine ev_ ?_)) | with_reducible exact ti_)
  ·have hc' : topV (l.getD j 0) < k := hc
   rw [hs2, if_pos hc']; rfl
  ·rename_i hc0
   have hc' : ¬ topV (l.getD j 0) < k := hc0
   refine qi (j + 1, nxtV k (l.getD j 0)) [] ⟨⟨by omega, hd, ?_⟩, by omega⟩ rfl (by simp) ?_ ?_ ?_ <;> (try refine ev_ ?_) <;> (try with_reducible exact ti_) <;> (try simp (disch := omega) only [qb, and_true, true_and])
   ·rw [hs2, if_neg hc']
   ·rfl
  ·rename_i hc0
   have hc' : ¬ topV (l.getD j 0) < k := hc0
   rw [hs2, if_neg hc', List.drop_of_length_le (by omega)]; rfl
end Go.Proofs.YtlahgbhhejkgbaaGreat
