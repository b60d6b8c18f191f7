/- Texts of this proof, joined. -/
import Derived.Test.YtbbjelfnocmaoaaGreatBah
import Derived.Test.YtbbjelfnocmaoaaGreatBan

/- names -/
set_option maxRecDepth 4000
namespace Go.Proofs.YtbbjelfnocmaoaaGreat
open Go Go.RowKit Go.V
set_option linter.unusedVariables false
set_option linter.unusedSimpArgs false

def qoc (c : Int) : Bool := decide (97 ≤ c) && decide (c ≤ 122) || decide (c = 95)
def qeg (c : Int) : Bool := decide (65 ≤ c) && decide (c ≤ 90)
def qcv (c : Int) : Bool := decide (48 ≤ c) && decide (c ≤ 57)

theorem qpu (c : Int) : qj Tryz.prog 69 [.int .u8 c] (.bool (qoc c)) := by
 refine qd c0by (by simp) (by simp only [go_sem]) rfl fun hw => ?_
 repeat' (first | refine vs_ ?_ | ((first | refine vr_ ?_ | (refine cs_ ?_ ?_ <;> intro hc) | refine cj_ ?_ | fail) <;> (try refine ev_ ?_)) | with_reducible exact ti_)
 all_goals simp [qoc, *]
theorem qp4 (c : Int) : qj Tryz.prog 98 [.int .u8 c] (.bool (qoc c)) := by
 refine qd c0bz (by simp) (by simp only [go_sem]) rfl fun hw => ?_
 repeat' (first | refine vs_ ?_ | ((first | refine vr_ ?_ | (refine cs_ ?_ ?_ <;> intro hc) | refine cj_ ?_ | fail) <;> (try refine ev_ ?_)) | with_reducible exact ti_)
 all_goals simp [qoc, *]
theorem qiz (c : Int) : qj Tryz.prog 43 [.int .u8 c] (.bool (qeg c)) := by
 refine qd c0ca (by simp) (by simp only [go_sem]) rfl fun hw => ?_
 repeat' (first | refine vs_ ?_ | ((first | refine vr_ ?_ | (refine cs_ ?_ ?_ <;> intro hc) | refine cj_ ?_ | fail) <;> (try refine ev_ ?_)) | with_reducible exact ti_)
 all_goals simp [qeg, *]
theorem qjh (c : Int) : qj Tryz.prog 45 [.int .u8 c] (.bool (qeg c)) := by
 refine qd c0cb (by simp) (by simp only [go_sem]) rfl fun hw => ?_
 repeat' (first | refine vs_ ?_ | ((first | refine vr_ ?_ | (refine cs_ ?_ ?_ <;> intro hc) | refine cj_ ?_ | fail) <;> (try refine ev_ ?_)) | with_reducible exact ti_)
 all_goals simp [qeg, *]
theorem qpf (c : Int) : qj Tryz.prog 99 [.int .u8 c] (.bool (qcv c)) := by
 refine qd c0cc (by simp) (by simp only [go_sem]) rfl fun hw => ?_
 repeat' (first | refine vs_ ?_ | ((first | refine vr_ ?_ | (refine cs_ ?_ ?_ <;> intro hc) | refine cj_ ?_ | fail) <;> (try refine ev_ ?_)) | with_reducible exact ti_)
 all_goals simp [qcv, *]
def onW (c : Int) : Bool := qoc c || qeg c || qcv c || decide (c = 39)
theorem q10 (c : Int) : qj Tryz.prog 70 [.int .u8 c] (.bool (onW c)) := by
 refine qd c0cd (by simp) (by simp only [go_sem]) rfl fun hw => ?_
 repeat' (first | refine vs_ ?_ | ((first | refine vr_ ?_ | refine qa (qp4 _) fun _ => ?_ | refine qa (qjh _) fun _ => ?_ | refine qa (qpf _) fun _ => ?_ | (refine cs_ ?_ ?_ <;> intro hc) | refine cj_ ?_ | fail) <;> (try refine ev_ ?_)) | with_reducible exact ti_)
 all_goals simp [onW, *]

def onsW (l : List UInt8) : Bool := l.all fun c => onW c.toNat
theorem qis {l : List UInt8} {i : Nat} (h : i < l.length) : l.drop i = l.getD i 0 :: l.drop (i + 1) := by
 rw [List.drop_eq_getElem_cons h, List.getD_eq_getElem?_getD, List.getElem?_eq_getElem h]; rfl
theorem qek {l : List UInt8} {i : Nat} (h : i < l.length) : onsW (l.drop i) = (onW (l.getD i 0).toNat && onsW (l.drop (i + 1))) := by
 rw [qis h]; rfl
theorem qtl (l : List UInt8) : qj Tryz.prog 44 [.str l] (.bool (onsW l)) := by
 refine qd c0ce (by simp) (by simp only [go_sem]) rfl fun hw => ?_
 have hl : l.length ≤ maxLen := hw.1
 repeat' (first | refine vs_ ?_ | ((first | refine vr_ ?_ | (refine cs_ ?_ ?_ <;> intro hc) | refine cj_ ?_ | simp (disch := omega) only [encs_getN, qb]) <;> (try refine ev_ ?_)) | with_reducible exact ti_)
 refine qo (S := Nat) (fun i => i ≤ l.length ∧ onsW (l.drop i) = onsW l) (fun i => (⟨[(0, .str l), (6, .int .i64 l.length), (7, .int .i64 i)], []⟩, [])) (fun i => l.length - i) ?_ fun i hi => ?_
 ·refine qh 0 [] ⟨Nat.zero_le _, rfl⟩ rfl (by simp) ?_ ?_ ?_ <;> (try refine ev_ ?_) <;> (try with_reducible exact ti_) <;> (try simp (disch := omega) only [qb, and_true, true_and])
 ·obtain ⟨hi, ha⟩ := hi
  repeat' (first | refine vs_ ?_ | ((first | refine vr_ ?_ | refine qa (qpu _) fun _ => ?_ | refine qa (qiz _) fun _ => ?_ | (refine cs_ ?_ ?_ <;> intro hc) | refine cj_ ?_ | simp (disch := omega) only [encs_getN, qb]) <;> (try refine ev_ ?_)) | with_reducible exact ti_)
  all_goals first
   | (refine qh (i + 1) [] ⟨⟨by omega, ?_⟩, by omega⟩ rfl (by simp) ?_ ?_ ?_ <;> (try refine ev_ ?_) <;> (try with_reducible exact ti_) <;> (try simp (disch := omega) only [qb, and_true, true_and])
      rw [← ha, qek (l := l) (i := i) (by omega)]
      simp_all [onW, qcv]
      try omega)
   | (rw [← ha, show i = l.length by omega, List.drop_length]; rfl)
   | (rw [← ha, qek (l := l) (i := i) (by omega)]
      simp_all [onW, qcv]
      try omega)

theorem q1x (l : List UInt8) : qj Tryz.prog 46 [.str l] (.bool (onsW (l.drop 1))) := by
 refine qd c0cf (by simp) (by simp only [go_sem]) rfl fun hw => ?_
 have hl : l.length ≤ maxLen := hw.1
 repeat' (first | refine vs_ ?_ | ((first | refine vr_ ?_ | (refine cs_ ?_ ?_ <;> intro hc) | refine cj_ ?_ | simp (disch := omega) only [encs_getN, qb]) <;> (try refine ev_ ?_)) | with_reducible exact ti_)
 refine qo (S := Nat) (fun i => 1 ≤ i ∧ onsW (l.drop i) = onsW (l.drop 1)) (fun i => (⟨[(0, .str l), (3, .int .i64 i)], []⟩, [])) (fun i => l.length - i) ?_ fun i hi => ?_
 ·refine qh 1 [] ⟨Nat.le_refl _, rfl⟩ rfl (by simp) ?_ ?_ ?_ <;> (try refine ev_ ?_) <;> (try with_reducible exact ti_) <;> (try simp (disch := omega) only [qb, and_true, true_and])
 ·obtain ⟨hi, ha⟩ := hi
  repeat' (first | refine vs_ ?_ | ((first | refine vr_ ?_ | refine qa (q10 _) fun _ => ?_ | (refine cs_ ?_ ?_ <;> intro hc) | refine cj_ ?_ | simp (disch := omega) only [encs_getN, qb]) <;> (try refine ev_ ?_)) | with_reducible exact ti_)
  ·rw [← ha, qek (l := l) (i := i) (by omega), hc]; rfl
  ·refine qh (i + 1) [] ⟨⟨by omega, ?_⟩, by omega⟩ rfl (by simp) ?_ ?_ ?_ <;> (try refine ev_ ?_) <;> (try with_reducible exact ti_) <;> (try simp (disch := omega) only [qb, and_true, true_and])
   rw [← ha, qek (l := l) (i := i) (by omega), hc, Bool.true_and]
  ·rw [← ha, List.drop_of_length_le (by omega)]; rfl

def conW (l : List UInt8) : Bool := decide (l ≠ []) && qeg (l.getD 0 0).toNat && onsW l
theorem qf5 (l : List UInt8) : qj Tryz.prog 25 [.str l] (.bool (conW l)) := by
 refine qd c0cg (by simp) (by simp only [go_sem]) rfl fun hw => ?_
 have hl : l.length ≤ maxLen := hw.1
 repeat' (first | refine vs_ ?_ | ((first | refine vr_ ?_ | refine qa (qtl _) fun _ => ?_ | refine qa (qiz _) fun _ => ?_ | (refine cs_ ?_ ?_ <;> intro hc) | refine cj_ ?_ | simp (disch := omega) only [encs_getN, qb]) <;> (try refine ev_ ?_)) | with_reducible exact ti_)
 all_goals simp_all [conW]
theorem qyq {l : List UInt8} (h : ¬ l = []) : onsW l = (onW (l.getD 0 0).toNat && onsW (l.drop 1)) := qek (l := l) (i := 0) (qhh h)
theorem q3t {c : Int} (h : qeg c = true) : onW c = true := by simp [onW, h]
theorem qi6 (l : List UInt8) : qj Tryz.prog 27 [.str l] (.bool (conW l)) := by
 refine qd c0ch (by simp) (by simp only [go_sem]) rfl fun hw => ?_
 have hl : l.length ≤ maxLen := hw.1
 have hk : conW l = (decide (l ≠ []) && qeg (l.getD 0 0).toNat && onsW (l.drop 1)) := by
  by_cases h : l = []
  ·subst h; rfl
  ·rw [conW, qyq h]
   cases hg : qeg (l.getD 0 0).toNat
   ·simp
   ·rw [q3t hg]; simp
 rw [hk]
 repeat' (first | refine vs_ ?_ | ((first | refine vr_ ?_ | refine qa (q1x _) fun _ => ?_ | refine qa (qjh _) fun _ => ?_ | (refine cs_ ?_ ?_ <;> intro hc) | refine cj_ ?_ | simp (disch := omega) only [encs_getN, qb]) <;> (try refine ev_ ?_)) | with_reducible exact ti_)
 all_goals simp_all
set_option maxRecDepth 4000

theorem qih : IntKind.i64.wrap (0 + 1) = 1 := by decide
def digW (l : List UInt8) : Bool := l.all fun c => qcv c.toNat
theorem qgg {l : List UInt8} {i : Nat} (h : i < l.length) : digW (l.drop i) = (qcv (l.getD i 0).toNat && digW (l.drop (i + 1))) := by
 rw [qis h]; rfl

def digV (c : UInt8) : Int := IntKind.i64.wrap (IntKind.u8.wrap ((c.toNat : Int) - 48))
def topV (c : UInt8) : Int := IntKind.i64.wrap ((IntKind.i64.wrap (9223372036854775807 - digV c)).tdiv 10)
def nxtV (k : Int) (c : UInt8) : Int := IntKind.i64.wrap (IntKind.i64.wrap (10 * k) + digV c)
def qeh : Int → List UInt8 → Int × Int
 | k, [] => (k, 0)
 | k, c :: r => if topV c < k then (0, 4) else qeh (nxtV k c) r
def qei (l : List UInt8) : Int × Int := if l = [] then (0, 5) else if digW l = true then qeh 0 l else (0, 5)
def q3u (p : Int × Int) : AV := .tup [.int .i64 p.1, .int .i64 p.2]
theorem qhk {l : List UInt8} {i : Nat} (h : i < l.length) (k : Int) : qeh k (l.drop i) = if topV (l.getD i 0) < k then (0, 4) else qeh (nxtV k (l.getD i 0)) (l.drop (i + 1)) := by
 rw [qis h]; rfl
theorem qvs {c : Int} (h : c < 48 ∨ 57 < c) : qcv c = false := by
 simp only [qcv, Bool.and_eq_false_iff, decide_eq_false_iff_not]; omega
theorem qxg {c : Int} (h : ¬ c < 48) (h2 : ¬ 57 < c) : qcv c = true := by
 simp only [qcv, Bool.and_eq_true, decide_eq_true_eq]; omega
theorem qf6 {l : List UInt8} (h : l ≠ []) (hd : digW l = true) : qei l = qeh 0 l := by rw [qei, if_neg h, if_pos hd]
theorem qnr {l : List UInt8} (hd : digW l = false) : qei l = (0, 5) := by rw [qei, hd]; simp

theorem qlh (l : List UInt8) : qj Tryz.prog 90 [.str l] (q3u (qei l)) := by
 refine qd c0bw (by simp) (by simp only [go_sem]) rfl fun hw => ?_
 have hl : l.length ≤ maxLen := hw.1
 repeat' (first | refine vs_ ?_ | ((first | refine vr_ ?_ | (refine cs_ ?_ ?_ <;> intro hc) | refine cj_ ?_ | simp (disch := omega) only [encs_getN, qb]) <;> (try refine ev_ ?_)) | with_reducible exact ti_)
 ·subst hc; rfl
 ·refine qo (S := Nat) (fun i => i ≤ l.length ∧ digW (l.drop i) = digW l) (fun i => (⟨[(0, .str l), (4, .int .i64 i)], []⟩, [])) (fun i => l.length - i) ?_ fun i hi => ?_
  ·refine qh 0 [] ⟨Nat.zero_le _, rfl⟩ rfl (by simp) ?_ ?_ ?_ <;> (try refine ev_ ?_) <;> (try with_reducible exact ti_) <;> (try simp (disch := omega) only [qb, and_true, true_and])
  ·obtain ⟨hi, ha⟩ := hi
   have hs : i < l.length → qcv (l.getD i 0).toNat = false → qei l = (0, 5) := fun h h2 => qnr (by rw [← ha, qgg h, h2]; rfl)
   repeat' (first | refine vs_ ?_ | ((first | refine vr_ ?_ | (refine cs_ ?_ ?_ <;> intro hc) | refine cj_ ?_ | simp (disch := omega) only [encs_getN, qb]) <;> (try refine ev_ ?_)) | with_reducible exact ti_)
   ·rw [hs (by omega) (qvs (by omega))]; rfl
   ·rw [hs (by omega) (qvs (by omega))]; rfl
   ·refine qh (i + 1) [] ⟨⟨by omega, ?_⟩, by omega⟩ rfl (by simp) ?_ ?_ ?_ <;> (try refine ev_ ?_) <;> (try with_reducible exact ti_) <;> (try simp (disch := omega) only [qb, and_true, true_and])
    have hd : qcv (l.getD i 0).toNat = true := qxg (by omega) (by omega)
    rw [← ha, qgg (l := l) (i := i) (by omega), hd, Bool.true_and]
   ·have hd : digW l = true := by rw [← ha, List.drop_of_length_le (by omega)]; rfl
    rw [qf6 (by assumption) hd]
    refine qo (S := Nat × Int) (fun s => s.1 ≤ l.length ∧ qeh s.2 (l.drop s.1) = qeh 0 l) (fun s => (⟨[(0, .str l), (5, .int .i64 s.2), (6, .int .i64 s.1)], []⟩, [])) (fun s => l.length - s.1) ?_ fun s hs => ?_
    ·refine qh (0, 0) [] ⟨Nat.zero_le _, rfl⟩ rfl (by simp) ?_ ?_ ?_ <;> (try refine ev_ ?_) <;> (try with_reducible exact ti_) <;> (try simp (disch := omega) only [qb, and_true, true_and])
    ·obtain ⟨j, k⟩ := s
     obtain ⟨hj, hr⟩ := hs
     dsimp only at hj hr
     have hs2 : j < l.length → qeh 0 l = if topV (l.getD j 0) < k then (0, 4) else qeh (nxtV k (l.getD j 0)) (l.drop (j + 1)) := fun h => by rw [← hr, qhk h]
     repeat' (first | refine vs_ ?_ | ((first | refine vr_ ?_ | (refine cs_ ?_ ?_ <;> intro hc) | refine cj_ ?_ | simp (disch := omega) only [encs_getN, qb]) <;> (try refine ev_ ?_)) | with_reducible exact ti_)
     ·have hc' : topV (l.getD j 0) < k := hc
      rw [hs2 (by omega), if_pos hc']; rfl
     ·have hc' : ¬ topV (l.getD j 0) < k := hc
      refine qh (j + 1, nxtV k (l.getD j 0)) [] ⟨⟨by omega, ?_⟩, by omega⟩ rfl (by simp) ?_ ?_ ?_ <;> (try refine ev_ ?_) <;> (try with_reducible exact ti_) <;> (try simp (disch := omega) only [qb, and_true, true_and])
      ·rw [hs2 (by omega), if_neg hc']
      ·rfl
     ·rw [← hr, List.drop_of_length_le (by omega)]; rfl

theorem qgi (l : List UInt8) : qj Tryz.prog 120 [.str l] (q3u (qei l)) := by
 refine qd c0bx (by simp) (by simp only [go_sem]) rfl fun hw => ?_
 have hl : l.length ≤ maxLen := hw.1
 refine qb5 (qef ?_)
 (refine ev_ ?_; (try with_reducible exact ti_))
 refine qwh (S := Nat × Int) 0 rfl (fun s => s.1 < l.length ∧ digW l = true ∧ qeh s.2 (l.drop s.1) = qeh 0 l) (fun s => (⟨[(0, .str l), (5, .int .i64 s.2), (6, .int .i64 s.1)], []⟩, [])) (fun s => l.length - s.1) ?_ fun s hs => ?_
 ·repeat' (first | refine vs_ ?_ | ((first | refine vr_ ?_ | (refine cs_ ?_ ?_ <;> intro hc) | refine cj_ ?_ | simp (disch := omega) only [encs_getN, qb]) <;> (try refine ev_ ?_)) | with_reducible exact ti_)
  refine qo (S := Nat) (fun i => i ≤ l.length ∧ digW (l.drop i) = digW l) (fun i => (⟨[(0, .str l), (9, .int .i64 l.length), (10, .int .i64 i)], []⟩, [])) (fun i => l.length - i) ?_ fun i hi => ?_
  ·refine qh 0 [] ⟨Nat.zero_le _, rfl⟩ rfl (by simp) ?_ ?_ ?_ <;> (try refine ev_ ?_) <;> (try with_reducible exact ti_) <;> (try simp (disch := omega) only [qb, and_true, true_and])
  ·obtain ⟨hi, ha⟩ := hi
   have hs : i < l.length → qcv (l.getD i 0).toNat = false → qei l = (0, 5) := fun h h2 => qnr (by rw [← ha, qgg h, h2]; rfl)
   have hs2 : 0 < l.length → qeh 0 l = if topV (l.getD 0 0) < 0 then (0, 4) else qeh (nxtV 0 (l.getD 0 0)) (l.drop 1) := fun h => by
    have := qhk (l := l) (i := 0) h 0
    rwa [List.drop_zero] at this
   have hdig : ¬ (i : Int) < l.length → digW l = true := fun h => by rw [← ha, List.drop_of_length_le (by omega)]; rfl
   repeat' (first | refine vs_ ?_ | ((first | refine vr_ ?_ | simp (disch := omega) only [qb] | simp (disch := omega) only [qih] | (refine cs_ ?_ ?_ <;> intro hc) | refine cj_ ?_ | simp (disch := omega) only [encs_getN, qb]) <;> (try refine ev_ ?_)) | with_reducible exact ti_)
   all_goals first
    | (rw [hs (by omega) (qvs (by omega))]; rfl)
    | (refine qh (i + 1) [] ⟨⟨by omega, ?_⟩, by omega⟩ rfl (by simp) ?_ ?_ ?_ <;> (try refine ev_ ?_) <;> (try with_reducible exact ti_) <;> (try simp (disch := omega) only [qb, and_true, true_and])
       have hd : qcv (l.getD i 0).toNat = true := qxg (by omega) (by omega)
       rw [← ha, qgg (l := l) (i := i) (by omega), hd, Bool.true_and])
    | (subst hc; rfl)
    | skip
   ·have hlp := qhh (by assumption)
    have hd := hdig (by assumption)
    have hc' : topV (l.getD 0 0) < 0 := hc
    rw [qf6 (by assumption) hd, hs2 hlp, if_pos hc']; rfl
   ·rename_i hc0
    have hlp := qhh (by assumption)
    have hd := hdig (by assumption)
    have hc' : ¬ topV (l.getD 0 0) < 0 := hc0
    refine qh (1, nxtV 0 (l.getD 0 0)) [] ⟨by omega, hd, ?_⟩ rfl (by simp) ?_ ?_ ?_ <;> (try refine ev_ ?_) <;> (try with_reducible exact ti_) <;> (try simp (disch := omega) only [qb, and_true, true_and])
    ·rw [hs2 hlp, if_neg hc']
    ·rfl
   ·rename_i hc0
    have hlp := qhh (by assumption)
    have hd := hdig (by assumption)
    have hc' : ¬ topV (l.getD 0 0) < 0 := hc0
    rw [qf6 (by assumption) hd, hs2 hlp, if_neg hc', List.drop_of_length_le (by omega)]; rfl
 ·obtain ⟨j, k⟩ := s
  obtain ⟨hj, hd, hr⟩ := hs
  dsimp only at hj hr
  have hs2 : qeh 0 l = if topV (l.getD j 0) < k then (0, 4) else qeh (nxtV k (l.getD j 0)) (l.drop (j + 1)) := by rw [← hr, qhk hj]
  have hne : l ≠ [] := fun e => by subst e; simp at hj
  rw [qf6 hne hd]
  repeat' (first | refine vs_ ?_ | ((first | refine vr_ ?_ | simp (disch := omega) only [qb] | simp (disch := omega) only [qih] | (refine cs_ ?_ ?_ <;> intro hc) | refine cj_ ?_ | simp (disch := omega) only [encs_getN, qb]) <;> (try refine ev_ ?_)) | with_reducible exact ti_)
  ·have hc' : topV (l.getD j 0) < k := hc
   rw [hs2, if_pos hc']; rfl
  ·rename_i hc0
   have hc' : ¬ topV (l.getD j 0) < k := hc0
   refine qh (j + 1, nxtV k (l.getD j 0)) [] ⟨⟨by omega, hd, ?_⟩, by omega⟩ rfl (by simp) ?_ ?_ ?_ <;> (try refine ev_ ?_) <;> (try with_reducible exact ti_) <;> (try simp (disch := omega) only [qb, and_true, true_and])
   ·rw [hs2, if_neg hc']
   ·rfl
  ·rename_i hc0
   have hc' : ¬ topV (l.getD j 0) < k := hc0
   rw [hs2, if_neg hc', List.drop_of_length_le (by omega)]; rfl
end Go.Proofs.YtbbjelfnocmaoaaGreat
