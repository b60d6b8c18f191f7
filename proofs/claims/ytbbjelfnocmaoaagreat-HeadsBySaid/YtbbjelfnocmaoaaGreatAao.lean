/- Texts of this proof, joined. -/
import Derived.Test.YtbbjelfnocmaoaaGreatAah
import Derived.Test.YtbbjelfnocmaoaaGreatAan

/- names -/
set_option maxRecDepth 4000
namespace Go.Proofs.YtbbjelfnocmaoaaGreat
open Go Go.RowKit Go.V
set_option linter.unusedVariables false
set_option linter.unusedSimpArgs false

def qm8 (c : Int) : Bool := decide (97 ≤ c) && decide (c ≤ 122) || decide (c = 95)
def qd5 (c : Int) : Bool := decide (65 ≤ c) && decide (c ≤ 90)
def qcn (c : Int) : Bool := decide (48 ≤ c) && decide (c ≤ 57)

theorem qou (c : Int) : qg Tryz.prog 69 [.int .u8 c] (.bool (qm8 c)) := by
 refine qc c0bx (by simp) (by simp only [go_sem]) rfl fun hw => ?_
 repeat' (first | refine vs_ ?_ | ((first | refine vr_ ?_ | (refine cs_ ?_ ?_ <;> intro hc) | refine cj_ ?_ | fail) <;> (try refine ev_ ?_)) | with_reducible exact ti_)
 all_goals simp [qm8, *]
theorem qoj (c : Int) : qg Tryz.prog 98 [.int .u8 c] (.bool (qm8 c)) := by
 refine qc c0by (by simp) (by simp only [go_sem]) rfl fun hw => ?_
 repeat' (first | refine vs_ ?_ | ((first | refine vr_ ?_ | (refine cs_ ?_ ?_ <;> intro hc) | refine cj_ ?_ | fail) <;> (try refine ev_ ?_)) | with_reducible exact ti_)
 all_goals simp [qm8, *]
theorem qhs (c : Int) : qg Tryz.prog 43 [.int .u8 c] (.bool (qd5 c)) := by
 refine qc c0bz (by simp) (by simp only [go_sem]) rfl fun hw => ?_
 repeat' (first | refine vs_ ?_ | ((first | refine vr_ ?_ | (refine cs_ ?_ ?_ <;> intro hc) | refine cj_ ?_ | fail) <;> (try refine ev_ ?_)) | with_reducible exact ti_)
 all_goals simp [qd5, *]
theorem qik (c : Int) : qg Tryz.prog 45 [.int .u8 c] (.bool (qd5 c)) := by
 refine qc c0ca (by simp) (by simp only [go_sem]) rfl fun hw => ?_
 repeat' (first | refine vs_ ?_ | ((first | refine vr_ ?_ | (refine cs_ ?_ ?_ <;> intro hc) | refine cj_ ?_ | fail) <;> (try refine ev_ ?_)) | with_reducible exact ti_)
 all_goals simp [qd5, *]
theorem qo6 (c : Int) : qg Tryz.prog 99 [.int .u8 c] (.bool (qcn c)) := by
 refine qc c0cb (by simp) (by simp only [go_sem]) rfl fun hw => ?_
 repeat' (first | refine vs_ ?_ | ((first | refine vr_ ?_ | (refine cs_ ?_ ?_ <;> intro hc) | refine cj_ ?_ | fail) <;> (try refine ev_ ?_)) | with_reducible exact ti_)
 all_goals simp [qcn, *]
def onW (c : Int) : Bool := qm8 c || qd5 c || qcn c || decide (c = 39)
theorem q1v (c : Int) : qg Tryz.prog 70 [.int .u8 c] (.bool (onW c)) := by
 refine qc c0cc (by simp) (by simp only [go_sem]) rfl fun hw => ?_
 repeat' (first | refine vs_ ?_ | ((first | refine vr_ ?_ | refine qa (qoj _) fun _ => ?_ | refine qa (qik _) fun _ => ?_ | refine qa (qo6 _) fun _ => ?_ | (refine cs_ ?_ ?_ <;> intro hc) | refine cj_ ?_ | fail) <;> (try refine ev_ ?_)) | with_reducible exact ti_)
 all_goals simp [onW, *]

def onsW (l : List UInt8) : Bool := l.all fun c => onW c.toNat
theorem qhw {l : List UInt8} {i : Nat} (h : i < l.length) : l.drop i = l.getD i 0 :: l.drop (i + 1) := by
 rw [List.drop_eq_getElem_cons h, List.getD_eq_getElem?_getD, List.getElem?_eq_getElem h]; rfl
theorem qec {l : List UInt8} {i : Nat} (h : i < l.length) : onsW (l.drop i) = (onW (l.getD i 0).toNat && onsW (l.drop (i + 1))) := by
 rw [qhw h]; rfl
theorem qsk (l : List UInt8) : qg Tryz.prog 44 [.str l] (.bool (onsW l)) := by
 refine qc c0cd (by simp) (by simp only [go_sem]) rfl fun hw => ?_
 have hl : l.length ≤ maxLen := hw.1
 repeat' (first | refine vs_ ?_ | ((first | refine vr_ ?_ | (refine cs_ ?_ ?_ <;> intro hc) | refine cj_ ?_ | simp (disch := omega) only [encs_getN, qb]) <;> (try refine ev_ ?_)) | with_reducible exact ti_)
 refine qm (S := Nat) (fun i => i ≤ l.length ∧ onsW (l.drop i) = onsW l) (fun i => (⟨[(0, .str l), (6, .int .i64 l.length), (7, .int .i64 i)], []⟩, [])) (fun i => l.length - i) ?_ fun i hi => ?_
 ·refine qi 0 [] ⟨Nat.zero_le _, rfl⟩ rfl (by simp) ?_ ?_ ?_ <;> (try refine ev_ ?_) <;> (try with_reducible exact ti_) <;> (try simp (disch := omega) only [qb, and_true, true_and])
 ·obtain ⟨hi, ha⟩ := hi
  repeat' (first | refine vs_ ?_ | ((first | refine vr_ ?_ | refine qa (qou _) fun _ => ?_ | refine qa (qhs _) fun _ => ?_ | (refine cs_ ?_ ?_ <;> intro hc) | refine cj_ ?_ | simp (disch := omega) only [encs_getN, qb]) <;> (try refine ev_ ?_)) | with_reducible exact ti_)
  all_goals first
   | (refine qi (i + 1) [] ⟨⟨by omega, ?_⟩, by omega⟩ rfl (by simp) ?_ ?_ ?_ <;> (try refine ev_ ?_) <;> (try with_reducible exact ti_) <;> (try simp (disch := omega) only [qb, and_true, true_and])
      rw [← ha, qec (l := l) (i := i) (by omega)]
      simp_all [onW, qcn]
      try omega)
   | (rw [← ha, show i = l.length by omega, List.drop_length]; rfl)
   | (rw [← ha, qec (l := l) (i := i) (by omega)]
      simp_all [onW, qcn]
      try omega)

theorem qzl (l : List UInt8) : qg Tryz.prog 46 [.str l] (.bool (onsW (l.drop 1))) := by
 refine qc c0ce (by simp) (by simp only [go_sem]) rfl fun hw => ?_
 have hl : l.length ≤ maxLen := hw.1
 repeat' (first | refine vs_ ?_ | ((first | refine vr_ ?_ | (refine cs_ ?_ ?_ <;> intro hc) | refine cj_ ?_ | simp (disch := omega) only [encs_getN, qb]) <;> (try refine ev_ ?_)) | with_reducible exact ti_)
 refine qm (S := Nat) (fun i => 1 ≤ i ∧ onsW (l.drop i) = onsW (l.drop 1)) (fun i => (⟨[(0, .str l), (3, .int .i64 i)], []⟩, [])) (fun i => l.length - i) ?_ fun i hi => ?_
 ·refine qi 1 [] ⟨Nat.le_refl _, rfl⟩ rfl (by simp) ?_ ?_ ?_ <;> (try refine ev_ ?_) <;> (try with_reducible exact ti_) <;> (try simp (disch := omega) only [qb, and_true, true_and])
 ·obtain ⟨hi, ha⟩ := hi
  repeat' (first | refine vs_ ?_ | ((first | refine vr_ ?_ | refine qa (q1v _) fun _ => ?_ | (refine cs_ ?_ ?_ <;> intro hc) | refine cj_ ?_ | simp (disch := omega) only [encs_getN, qb]) <;> (try refine ev_ ?_)) | with_reducible exact ti_)
  ·rw [← ha, qec (l := l) (i := i) (by omega), hc]; rfl
  ·refine qi (i + 1) [] ⟨⟨by omega, ?_⟩, by omega⟩ rfl (by simp) ?_ ?_ ?_ <;> (try refine ev_ ?_) <;> (try with_reducible exact ti_) <;> (try simp (disch := omega) only [qb, and_true, true_and])
   rw [← ha, qec (l := l) (i := i) (by omega), hc, Bool.true_and]
  ·rw [← ha, List.drop_of_length_le (by omega)]; rfl

def conW (l : List UInt8) : Bool := decide (l ≠ []) && qd5 (l.getD 0 0).toNat && onsW l
theorem qf8 (l : List UInt8) : qg Tryz.prog 25 [.str l] (.bool (conW l)) := by
 refine qc c0cf (by simp) (by simp only [go_sem]) rfl fun hw => ?_
 have hl : l.length ≤ maxLen := hw.1
 repeat' (first | refine vs_ ?_ | ((first | refine vr_ ?_ | refine qa (qsk _) fun _ => ?_ | refine qa (qhs _) fun _ => ?_ | (refine cs_ ?_ ?_ <;> intro hc) | refine cj_ ?_ | simp (disch := omega) only [encs_getN, qb]) <;> (try refine ev_ ?_)) | with_reducible exact ti_)
 all_goals simp_all [conW]
theorem qwj {l : List UInt8} (h : ¬ l = []) : onsW l = (onW (l.getD 0 0).toNat && onsW (l.drop 1)) := qec (l := l) (i := 0) (qgi h)
theorem q2u {c : Int} (h : qd5 c = true) : onW c = true := by simp [onW, h]
theorem qie (l : List UInt8) : qg Tryz.prog 27 [.str l] (.bool (conW l)) := by
 refine qc c0cg (by simp) (by simp only [go_sem]) rfl fun hw => ?_
 have hl : l.length ≤ maxLen := hw.1
 have hk : conW l = (decide (l ≠ []) && qd5 (l.getD 0 0).toNat && onsW (l.drop 1)) := by
  by_cases h : l = []
  ·subst h; rfl
  ·rw [conW, qwj h]
   cases hg : qd5 (l.getD 0 0).toNat
   ·simp
   ·rw [q2u hg]; simp
 rw [hk]
 repeat' (first | refine vs_ ?_ | ((first | refine vr_ ?_ | refine qa (qzl _) fun _ => ?_ | refine qa (qik _) fun _ => ?_ | (refine cs_ ?_ ?_ <;> intro hc) | refine cj_ ?_ | simp (disch := omega) only [encs_getN, qb]) <;> (try refine ev_ ?_)) | with_reducible exact ti_)
 all_goals simp_all
set_option maxRecDepth 4000

theorem qig : IntKind.i64.wrap (0 + 1) = 1 := by decide
def digW (l : List UInt8) : Bool := l.all fun c => qcn c.toNat
theorem qf3 {l : List UInt8} {i : Nat} (h : i < l.length) : digW (l.drop i) = (qcn (l.getD i 0).toNat && digW (l.drop (i + 1))) := by
 rw [qhw h]; rfl

def digV (c : UInt8) : Int := IntKind.i64.wrap (IntKind.u8.wrap ((c.toNat : Int) - 48))
def topV (c : UInt8) : Int := IntKind.i64.wrap ((IntKind.i64.wrap (9223372036854775807 - digV c)).tdiv 10)
def nxtV (k : Int) (c : UInt8) : Int := IntKind.i64.wrap (IntKind.i64.wrap (10 * k) + digV c)
def qd9 : Int → List UInt8 → Int × Int
 | k, [] => (k, 0)
 | k, c :: r => if topV c < k then (0, 4) else qd9 (nxtV k c) r
def qd7 (l : List UInt8) : Int × Int := if l = [] then (0, 5) else if digW l = true then qd9 0 l else (0, 5)
def q2h (p : Int × Int) : AV := .tup [.int .i64 p.1, .int .i64 p.2]
theorem qg0 {l : List UInt8} {i : Nat} (h : i < l.length) (k : Int) : qd9 k (l.drop i) = if topV (l.getD i 0) < k then (0, 4) else qd9 (nxtV k (l.getD i 0)) (l.drop (i + 1)) := by
 rw [qhw h]; rfl
theorem qxs {c : Int} (h : c < 48 ∨ 57 < c) : qcn c = false := by
 simp only [qcn, Bool.and_eq_false_iff, decide_eq_false_iff_not]; omega
theorem qui {c : Int} (h : ¬ c < 48) (h2 : ¬ 57 < c) : qcn c = true := by
 simp only [qcn, Bool.and_eq_true, decide_eq_true_eq]; omega
theorem qf6 {l : List UInt8} (h : l ≠ []) (hd : digW l = true) : qd7 l = qd9 0 l := by rw [qd7, if_neg h, if_pos hd]
theorem qnp {l : List UInt8} (hd : digW l = false) : qd7 l = (0, 5) := by rw [qd7, hd]; simp

theorem qka (l : List UInt8) : qg Tryz.prog 90 [.str l] (q2h (qd7 l)) := by
 refine qc c0bv (by simp) (by simp only [go_sem]) rfl fun hw => ?_
 have hl : l.length ≤ maxLen := hw.1
 repeat' (first | refine vs_ ?_ | ((first | refine vr_ ?_ | (refine cs_ ?_ ?_ <;> intro hc) | refine cj_ ?_ | simp (disch := omega) only [encs_getN, qb]) <;> (try refine ev_ ?_)) | with_reducible exact ti_)
 ·subst hc; rfl
 ·refine qm (S := Nat) (fun i => i ≤ l.length ∧ digW (l.drop i) = digW l) (fun i => (⟨[(0, .str l), (4, .int .i64 i)], []⟩, [])) (fun i => l.length - i) ?_ fun i hi => ?_
  ·refine qi 0 [] ⟨Nat.zero_le _, rfl⟩ rfl (by simp) ?_ ?_ ?_ <;> (try refine ev_ ?_) <;> (try with_reducible exact ti_) <;> (try simp (disch := omega) only [qb, and_true, true_and])
  ·obtain ⟨hi, ha⟩ := hi
   have hs : i < l.length → qcn (l.getD i 0).toNat = false → qd7 l = (0, 5) := fun h h2 => qnp (by rw [← ha, qf3 h, h2]; rfl)
   repeat' (first | refine vs_ ?_ | ((first | refine vr_ ?_ | (refine cs_ ?_ ?_ <;> intro hc) | refine cj_ ?_ | simp (disch := omega) only [encs_getN, qb]) <;> (try refine ev_ ?_)) | with_reducible exact ti_)
   ·rw [hs (by omega) (qxs (by omega))]; rfl
   ·rw [hs (by omega) (qxs (by omega))]; rfl
   ·refine qi (i + 1) [] ⟨⟨by omega, ?_⟩, by omega⟩ rfl (by simp) ?_ ?_ ?_ <;> (try refine ev_ ?_) <;> (try with_reducible exact ti_) <;> (try simp (disch := omega) only [qb, and_true, true_and])
    have hd : qcn (l.getD i 0).toNat = true := qui (by omega) (by omega)
    rw [← ha, qf3 (l := l) (i := i) (by omega), hd, Bool.true_and]
   ·have hd : digW l = true := by rw [← ha, List.drop_of_length_le (by omega)]; rfl
    rw [qf6 (by assumption) hd]
    refine qm (S := Nat × Int) (fun s => s.1 ≤ l.length ∧ qd9 s.2 (l.drop s.1) = qd9 0 l) (fun s => (⟨[(0, .str l), (5, .int .i64 s.2), (6, .int .i64 s.1)], []⟩, [])) (fun s => l.length - s.1) ?_ fun s hs => ?_
    ·refine qi (0, 0) [] ⟨Nat.zero_le _, rfl⟩ rfl (by simp) ?_ ?_ ?_ <;> (try refine ev_ ?_) <;> (try with_reducible exact ti_) <;> (try simp (disch := omega) only [qb, and_true, true_and])
    ·obtain ⟨j, k⟩ := s
     obtain ⟨hj, hr⟩ := hs
     dsimp only at hj hr
     have hs2 : j < l.length → qd9 0 l = if topV (l.getD j 0) < k then (0, 4) else qd9 (nxtV k (l.getD j 0)) (l.drop (j + 1)) := fun h => by rw [← hr, qg0 h]
     repeat' (first | refine vs_ ?_ | ((first | refine vr_ ?_ | (refine cs_ ?_ ?_ <;> intro hc) | refine cj_ ?_ | simp (disch := omega) only [encs_getN, qb]) <;> (try refine ev_ ?_)) | with_reducible exact ti_)
     ·have hc' : topV (l.getD j 0) < k := hc
      rw [hs2 (by omega), if_pos hc']; rfl
     ·have hc' : ¬ topV (l.getD j 0) < k := hc
      refine qi (j + 1, nxtV k (l.getD j 0)) [] ⟨⟨by omega, ?_⟩, by omega⟩ rfl (by simp) ?_ ?_ ?_ <;> (try refine ev_ ?_) <;> (try with_reducible exact ti_) <;> (try simp (disch := omega) only [qb, and_true, true_and])
      ·rw [hs2 (by omega), if_neg hc']
      ·rfl
     ·rw [← hr, List.drop_of_length_le (by omega)]; rfl

theorem qf7 (l : List UInt8) : qg Tryz.prog 120 [.str l] (q2h (qd7 l)) := by
 refine qc c0bw (by simp) (by simp only [go_sem]) rfl fun hw => ?_
 have hl : l.length ≤ maxLen := hw.1
 refine qci (qg5 ?_)
 (refine ev_ ?_; (try with_reducible exact ti_))
 refine quq (S := Nat × Int) 0 rfl (fun s => s.1 < l.length ∧ digW l = true ∧ qd9 s.2 (l.drop s.1) = qd9 0 l) (fun s => (⟨[(0, .str l), (5, .int .i64 s.2), (6, .int .i64 s.1)], []⟩, [])) (fun s => l.length - s.1) ?_ fun s hs => ?_
 ·repeat' (first | refine vs_ ?_ | ((first | refine vr_ ?_ | (refine cs_ ?_ ?_ <;> intro hc) | refine cj_ ?_ | simp (disch := omega) only [encs_getN, qb]) <;> (try refine ev_ ?_)) | with_reducible exact ti_)
  refine qm (S := Nat) (fun i => i ≤ l.length ∧ digW (l.drop i) = digW l) (fun i => (⟨[(0, .str l), (9, .int .i64 l.length), (10, .int .i64 i)], []⟩, [])) (fun i => l.length - i) ?_ fun i hi => ?_
  ·refine qi 0 [] ⟨Nat.zero_le _, rfl⟩ rfl (by simp) ?_ ?_ ?_ <;> (try refine ev_ ?_) <;> (try with_reducible exact ti_) <;> (try simp (disch := omega) only [qb, and_true, true_and])
  ·obtain ⟨hi, ha⟩ := hi
   have hs : i < l.length → qcn (l.getD i 0).toNat = false → qd7 l = (0, 5) := fun h h2 => qnp (by rw [← ha, qf3 h, h2]; rfl)
   have hs2 : 0 < l.length → qd9 0 l = if topV (l.getD 0 0) < 0 then (0, 4) else qd9 (nxtV 0 (l.getD 0 0)) (l.drop 1) := fun h => by
    have := qg0 (l := l) (i := 0) h 0
    rwa [List.drop_zero] at this
   have hdig : ¬ (i : Int) < l.length → digW l = true := fun h => by rw [← ha, List.drop_of_length_le (by omega)]; rfl
   repeat' (first | refine vs_ ?_ | ((first | refine vr_ ?_ | simp (disch := omega) only [qb] | simp (disch := omega) only [qig] | (refine cs_ ?_ ?_ <;> intro hc) | refine cj_ ?_ | simp (disch := omega) only [encs_getN, qb]) <;> (try refine ev_ ?_)) | with_reducible exact ti_)
   all_goals first
    | (rw [hs (by omega) (qxs (by omega))]; rfl)
    | (refine qi (i + 1) [] ⟨⟨by omega, ?_⟩, by omega⟩ rfl (by simp) ?_ ?_ ?_ <;> (try refine ev_ ?_) <;> (try with_reducible exact ti_) <;> (try simp (disch := omega) only [qb, and_true, true_and])
       have hd : qcn (l.getD i 0).toNat = true := qui (by omega) (by omega)
       rw [← ha, qf3 (l := l) (i := i) (by omega), hd, Bool.true_and])
    | (subst hc; rfl)
    | skip
   ·have hlp := qgi (by assumption)
    have hd := hdig (by assumption)
    have hc' : topV (l.getD 0 0) < 0 := hc
    rw [qf6 (by assumption) hd, hs2 hlp, if_pos hc']; rfl
   ·rename_i hc0
    have hlp := qgi (by assumption)
    have hd := hdig (by assumption)
    have hc' : ¬ topV (l.getD 0 0) < 0 := hc0
    refine qi (1, nxtV 0 (l.getD 0 0)) [] ⟨by omega, hd, ?_⟩ rfl (by simp) ?_ ?_ ?_ <;> (try refine ev_ ?_) <;> (try with_reducible exact ti_) <;> (try simp (disch := omega) only [qb, and_true, true_and])
    ·rw [hs2 hlp, if_neg hc']
    ·rfl
   ·rename_i hc0
    have hlp := qgi (by assumption)
    have hd := hdig (by assumption)
    have hc' : ¬ topV (l.getD 0 0) < 0 := hc0
    rw [qf6 (by assumption) hd, hs2 hlp, if_neg hc', List.drop_of_length_le (by omega)]; rfl
 ·obtain ⟨j, k⟩ := s
  obtain ⟨hj, hd, hr⟩ := hs
  dsimp only at hj hr
  have hs2 : qd9 0 l = if topV (l.getD j 0) < k then (0, 4) else qd9 (nxtV k (l.getD j 0)) (l.drop (j + 1)) := by rw [← hr, qg0 hj]
  have hne : l ≠ [] := fun e => by subst e; simp at hj
  rw [qf6 hne hd]
  repeat' (first | refine vs_ ?_ | ((first | refine vr_ ?_ | simp (disch := omega) only [qb] | simp (disch := omega) only [qig] | (refine cs_ ?_ ?_ <;> intro hc) | refine cj_ ?_ | simp (disch := omega) only [encs_getN, qb]) <;> (try refine ev_ ?_)) | with_reducible exact ti_)
  ·have hc' : topV (l.getD j 0) < k := hc
   rw [hs2, if_pos hc']; rfl
  ·rename_i hc0
   have hc' : ¬ topV (l.getD j 0) < k := hc0
   refine qi (j + 1, nxtV k (l.getD j 0)) [] ⟨⟨by omega, hd, ?_⟩, by omega⟩ rfl (by simp) ?_ ?_ ?_ <;> (try refine ev_ ?_) <;> (try with_reducible exact ti_) <;> (try simp (disch := omega) only [qb, and_true, true_and])
   ·rw [hs2, if_neg hc']
   ·rfl
  ·rename_i hc0
   have hc' : ¬ topV (l.getD j 0) < k := hc0
   rw [hs2, if_neg hc', List.drop_of_length_le (by omega)]; rfl
end Go.Proofs.YtbbjelfnocmaoaaGreat
