/- Texts of this proof, joined. -/
import Derived.Test.YtlahgbhhejkgbaaKah
import Derived.Test.YtlahgbhhejkgbaaKal

/- names -/
set_option maxRecDepth 4000
namespace Go.Proofs.Ytlahgbhhejkgbaa
open Go Go.RowKit Go.V
set_option linter.unusedVariables false
set_option linter.unusedSimpArgs false

def qk0 (c : Int) : Bool := decide (97 ≤ c) && decide (c ≤ 122) || decide (c = 95)
def qes (c : Int) : Bool := decide (65 ≤ c) && decide (c ≤ 90)
def qb2 (c : Int) : Bool := decide (48 ≤ c) && decide (c ≤ 57)

theorem qln (c : Int) : qj Try.prog 112 [.int .u8 c] (.bool (qk0 c)) := by
 refine qd c0bp (by simp) (by simp only [go_sem]) rfl fun hw => ?_
 repeat' (first | refine vs_ ?_ | ((first | refine vr_ ?_ | (refine cs_ ?_ ?_ <;> intro hc) | refine cj_ ?_ | fail) <;> (try refine ev_ ?_)) | with_reducible exact ti_)
 all_goals simp [qk0, *]
theorem qlq (c : Int) : qj Try.prog 123 [.int .u8 c] (.bool (qk0 c)) := by
 refine qd c0bq (by simp) (by simp only [go_sem]) rfl fun hw => ?_
 repeat' (first | refine vs_ ?_ | ((first | refine vr_ ?_ | (refine cs_ ?_ ?_ <;> intro hc) | refine cj_ ?_ | fail) <;> (try refine ev_ ?_)) | with_reducible exact ti_)
 all_goals simp [qk0, *]
theorem qhi (c : Int) : qj Try.prog 95 [.int .u8 c] (.bool (qes c)) := by
 refine qd c0br (by simp) (by simp only [go_sem]) rfl fun hw => ?_
 repeat' (first | refine vs_ ?_ | ((first | refine vr_ ?_ | (refine cs_ ?_ ?_ <;> intro hc) | refine cj_ ?_ | fail) <;> (try refine ev_ ?_)) | with_reducible exact ti_)
 all_goals simp [qes, *]
theorem qg8 (c : Int) : qj Try.prog 98 [.int .u8 c] (.bool (qes c)) := by
 refine qd c0bs (by simp) (by simp only [go_sem]) rfl fun hw => ?_
 repeat' (first | refine vs_ ?_ | ((first | refine vr_ ?_ | (refine cs_ ?_ ?_ <;> intro hc) | refine cj_ ?_ | fail) <;> (try refine ev_ ?_)) | with_reducible exact ti_)
 all_goals simp [qes, *]
theorem qlr (c : Int) : qj Try.prog 124 [.int .u8 c] (.bool (qb2 c)) := by
 refine qd c0bt (by simp) (by simp only [go_sem]) rfl fun hw => ?_
 repeat' (first | refine vs_ ?_ | ((first | refine vr_ ?_ | (refine cs_ ?_ ?_ <;> intro hc) | refine cj_ ?_ | fail) <;> (try refine ev_ ?_)) | with_reducible exact ti_)
 all_goals simp [qb2, *]
def onW (c : Int) : Bool := qk0 c || qes c || qb2 c || decide (c = 39)
theorem qtm (c : Int) : qj Try.prog 113 [.int .u8 c] (.bool (onW c)) := by
 refine qd c0bu (by simp) (by simp only [go_sem]) rfl fun hw => ?_
 repeat' (first | refine vs_ ?_ | ((first | refine vr_ ?_ | refine qa (qlq _) fun _ => ?_ | refine qa (qg8 _) fun _ => ?_ | refine qa (qlr _) fun _ => ?_ | (refine cs_ ?_ ?_ <;> intro hc) | refine cj_ ?_ | fail) <;> (try refine ev_ ?_)) | with_reducible exact ti_)
 all_goals simp [onW, *]

def onsW (l : List UInt8) : Bool := l.all fun c => onW c.toNat
theorem qgm {l : List UInt8} {i : Nat} (h : i < l.length) : l.drop i = l.getD i 0 :: l.drop (i + 1) := by
 rw [List.drop_eq_getElem_cons h, List.getD_eq_getElem?_getD, List.getElem?_eq_getElem h]; rfl
theorem qdm {l : List UInt8} {i : Nat} (h : i < l.length) : onsW (l.drop i) = (onW (l.getD i 0).toNat && onsW (l.drop (i + 1))) := by
 rw [qgm h]; rfl
theorem qom (l : List UInt8) : qj Try.prog 96 [.str l] (.bool (onsW l)) := by
 refine qd c0bv (by simp) (by simp only [go_sem]) rfl fun hw => ?_
 have hl : l.length ≤ maxLen := hw.1
 repeat' (first | refine vs_ ?_ | ((first | refine vr_ ?_ | (refine cs_ ?_ ?_ <;> intro hc) | refine cj_ ?_ | simp (disch := omega) only [encs_getN, qb]) <;> (try refine ev_ ?_)) | with_reducible exact ti_)
 refine qu (S := Nat) (fun i => i ≤ l.length ∧ onsW (l.drop i) = onsW l) (fun i => (⟨[(0, .str l), (6, .int .i64 l.length), (7, .int .i64 i)], []⟩, [])) (fun i => l.length - i) ?_ fun i hi => ?_
 ·refine qn 0 [] ⟨Nat.zero_le _, rfl⟩ rfl (by simp) ?_ ?_ ?_ <;> (try refine ev_ ?_) <;> (try with_reducible exact ti_) <;> (try simp (disch := omega) only [qb, and_true, true_and])
 ·obtain ⟨hi, ha⟩ := hi
  repeat' (first | refine vs_ ?_ | ((first | refine vr_ ?_ | refine qa (qln _) fun _ => ?_ | refine qa (qhi _) fun _ => ?_ | (refine cs_ ?_ ?_ <;> intro hc) | refine cj_ ?_ | simp (disch := omega) only [encs_getN, qb]) <;> (try refine ev_ ?_)) | with_reducible exact ti_)
  all_goals first
   | (refine qn (i + 1) [] ⟨⟨by omega, ?_⟩, by omega⟩ rfl (by simp) ?_ ?_ ?_ <;> (try refine ev_ ?_) <;> (try with_reducible exact ti_) <;> (try simp (disch := omega) only [qb, and_true, true_and])
      rw [← ha, qdm (l := l) (i := i) (by omega)]
      simp_all [onW, qb2]
      try omega)
   | (rw [← ha, show i = l.length by omega, List.drop_length]; rfl)
   | (rw [← ha, qdm (l := l) (i := i) (by omega)]
      simp_all [onW, qb2]
      try omega)

theorem qtu (l : List UInt8) : qj Try.prog 99 [.str l] (.bool (onsW (l.drop 1))) := by
 refine qd c0bw (by simp) (by simp only [go_sem]) rfl fun hw => ?_
 have hl : l.length ≤ maxLen := hw.1
 repeat' (first | refine vs_ ?_ | ((first | refine vr_ ?_ | (refine cs_ ?_ ?_ <;> intro hc) | refine cj_ ?_ | simp (disch := omega) only [encs_getN, qb]) <;> (try refine ev_ ?_)) | with_reducible exact ti_)
 refine qu (S := Nat) (fun i => 1 ≤ i ∧ onsW (l.drop i) = onsW (l.drop 1)) (fun i => (⟨[(0, .str l), (3, .int .i64 i)], []⟩, [])) (fun i => l.length - i) ?_ fun i hi => ?_
 ·refine qn 1 [] ⟨Nat.le_refl _, rfl⟩ rfl (by simp) ?_ ?_ ?_ <;> (try refine ev_ ?_) <;> (try with_reducible exact ti_) <;> (try simp (disch := omega) only [qb, and_true, true_and])
 ·obtain ⟨hi, ha⟩ := hi
  repeat' (first | refine vs_ ?_ | ((first | refine vr_ ?_ | refine qa (qtm _) fun _ => ?_ | (refine cs_ ?_ ?_ <;> intro hc) | refine cj_ ?_ | simp (disch := omega) only [encs_getN, qb]) <;> (try refine ev_ ?_)) | with_reducible exact ti_)
  ·rw [← ha, qdm (l := l) (i := i) (by omega), hc]; rfl
  ·refine qn (i + 1) [] ⟨⟨by omega, ?_⟩, by omega⟩ rfl (by simp) ?_ ?_ ?_ <;> (try refine ev_ ?_) <;> (try with_reducible exact ti_) <;> (try simp (disch := omega) only [qb, and_true, true_and])
   rw [← ha, qdm (l := l) (i := i) (by omega), hc, Bool.true_and]
  ·rw [← ha, List.drop_of_length_le (by omega)]; rfl

def conW (l : List UInt8) : Bool := decide (l ≠ []) && qes (l.getD 0 0).toNat && onsW l
theorem qpl (l : List UInt8) : qj Try.prog 66 [.str l] (.bool (conW l)) := by
 refine qd c0bx (by simp) (by simp only [go_sem]) rfl fun hw => ?_
 have hl : l.length ≤ maxLen := hw.1
 repeat' (first | refine vs_ ?_ | ((first | refine vr_ ?_ | refine qa (qom _) fun _ => ?_ | refine qa (qhi _) fun _ => ?_ | (refine cs_ ?_ ?_ <;> intro hc) | refine cj_ ?_ | simp (disch := omega) only [encs_getN, qb]) <;> (try refine ev_ ?_)) | with_reducible exact ti_)
 all_goals simp_all [conW]
theorem qoz {l : List UInt8} (h : ¬ l = []) : onsW l = (onW (l.getD 0 0).toNat && onsW (l.drop 1)) := qdm (l := l) (i := 0) (qe6 h)
theorem quq {c : Int} (h : qes c = true) : onW c = true := by simp [onW, h]
theorem qqs (l : List UInt8) : qj Try.prog 68 [.str l] (.bool (conW l)) := by
 refine qd c0by (by simp) (by simp only [go_sem]) rfl fun hw => ?_
 have hl : l.length ≤ maxLen := hw.1
 have hk : conW l = (decide (l ≠ []) && qes (l.getD 0 0).toNat && onsW (l.drop 1)) := by
  by_cases h : l = []
  ·subst h; rfl
  ·rw [conW, qoz h]
   cases hg : qes (l.getD 0 0).toNat
   ·simp
   ·rw [quq hg]; simp
 rw [hk]
 repeat' (first | refine vs_ ?_ | ((first | refine vr_ ?_ | refine qa (qtu _) fun _ => ?_ | refine qa (qg8 _) fun _ => ?_ | (refine cs_ ?_ ?_ <;> intro hc) | refine cj_ ?_ | simp (disch := omega) only [encs_getN, qb]) <;> (try refine ev_ ?_)) | with_reducible exact ti_)
 all_goals simp_all
set_option maxRecDepth 4000

theorem qrk : IntKind.i64.wrap (0 + 1) = 1 := by decide
def digW (l : List UInt8) : Bool := l.all fun c => qb2 c.toNat
theorem qez {l : List UInt8} {i : Nat} (h : i < l.length) : digW (l.drop i) = (qb2 (l.getD i 0).toNat && digW (l.drop (i + 1))) := by
 rw [qgm h]; rfl

def digV (c : UInt8) : Int := IntKind.i64.wrap (IntKind.u8.wrap ((c.toNat : Int) - 48))
def topV (c : UInt8) : Int := IntKind.i64.wrap ((IntKind.i64.wrap (9223372036854775807 - digV c)).tdiv 10)
def nxtV (k : Int) (c : UInt8) : Int := IntKind.i64.wrap (IntKind.i64.wrap (10 * k) + digV c)
def qdd : Int → List UInt8 → Int × Int
 | k, [] => (k, 0)
 | k, c :: r => if topV c < k then (0, 4) else qdd (nxtV k c) r
def qde (l : List UInt8) : Int × Int := if l = [] then (0, 5) else if digW l = true then qdd 0 l else (0, 5)
def qwt (p : Int × Int) : AV := .tup [.int .i64 p.1, .int .i64 p.2]
theorem qfe {l : List UInt8} {i : Nat} (h : i < l.length) (k : Int) : qdd k (l.drop i) = if topV (l.getD i 0) < k then (0, 4) else qdd (nxtV k (l.getD i 0)) (l.drop (i + 1)) := by
 rw [qgm h]; rfl
theorem qpb {c : Int} (h : c < 48 ∨ 57 < c) : qb2 c = false := by
 simp only [qb2, Bool.and_eq_false_iff, decide_eq_false_iff_not]; omega
theorem qq2 {c : Int} (h : ¬ c < 48) (h2 : ¬ 57 < c) : qb2 c = true := by
 simp only [qb2, Bool.and_eq_true, decide_eq_true_eq]; omega
theorem qex {l : List UInt8} (h : l ≠ []) (hd : digW l = true) : qde l = qdd 0 l := by rw [qde, if_neg h, if_pos hd]
theorem qj1 {l : List UInt8} (hd : digW l = false) : qde l = (0, 5) := by rw [qde, hd]; simp

theorem qib (l : List UInt8) : qj Try.prog 97 [.str l] (qwt (qde l)) := by
 refine qd c0bn (by simp) (by simp only [go_sem]) rfl fun hw => ?_
 have hl : l.length ≤ maxLen := hw.1
 repeat' (first | refine vs_ ?_ | ((first | refine vr_ ?_ | (refine cs_ ?_ ?_ <;> intro hc) | refine cj_ ?_ | simp (disch := omega) only [encs_getN, qb]) <;> (try refine ev_ ?_)) | with_reducible exact ti_)
 ·subst hc; rfl
 ·refine qu (S := Nat) (fun i => i ≤ l.length ∧ digW (l.drop i) = digW l) (fun i => (⟨[(0, .str l), (4, .int .i64 i)], []⟩, [])) (fun i => l.length - i) ?_ fun i hi => ?_
  ·refine qn 0 [] ⟨Nat.zero_le _, rfl⟩ rfl (by simp) ?_ ?_ ?_ <;> (try refine ev_ ?_) <;> (try with_reducible exact ti_) <;> (try simp (disch := omega) only [qb, and_true, true_and])
  ·obtain ⟨hi, ha⟩ := hi
   have hs : i < l.length → qb2 (l.getD i 0).toNat = false → qde l = (0, 5) := fun h h2 => qj1 (by rw [← ha, qez h, h2]; rfl)
   repeat' (first | refine vs_ ?_ | ((first | refine vr_ ?_ | (refine cs_ ?_ ?_ <;> intro hc) | refine cj_ ?_ | simp (disch := omega) only [encs_getN, qb]) <;> (try refine ev_ ?_)) | with_reducible exact ti_)
   ·rw [hs (by omega) (qpb (by omega))]; rfl
   ·rw [hs (by omega) (qpb (by omega))]; rfl
   ·refine qn (i + 1) [] ⟨⟨by omega, ?_⟩, by omega⟩ rfl (by simp) ?_ ?_ ?_ <;> (try refine ev_ ?_) <;> (try with_reducible exact ti_) <;> (try simp (disch := omega) only [qb, and_true, true_and])
    have hd : qb2 (l.getD i 0).toNat = true := qq2 (by omega) (by omega)
    rw [← ha, qez (l := l) (i := i) (by omega), hd, Bool.true_and]
   ·have hd : digW l = true := by rw [← ha, List.drop_of_length_le (by omega)]; rfl
    rw [qex (by assumption) hd]
    refine qu (S := Nat × Int) (fun s => s.1 ≤ l.length ∧ qdd s.2 (l.drop s.1) = qdd 0 l) (fun s => (⟨[(0, .str l), (5, .int .i64 s.2), (6, .int .i64 s.1)], []⟩, [])) (fun s => l.length - s.1) ?_ fun s hs => ?_
    ·refine qn (0, 0) [] ⟨Nat.zero_le _, rfl⟩ rfl (by simp) ?_ ?_ ?_ <;> (try refine ev_ ?_) <;> (try with_reducible exact ti_) <;> (try simp (disch := omega) only [qb, and_true, true_and])
    ·obtain ⟨j, k⟩ := s
     obtain ⟨hj, hr⟩ := hs
     dsimp only at hj hr
     have hs2 : j < l.length → qdd 0 l = if topV (l.getD j 0) < k then (0, 4) else qdd (nxtV k (l.getD j 0)) (l.drop (j + 1)) := fun h => by rw [← hr, qfe h]
     repeat' (first | refine vs_ ?_ | ((first | refine vr_ ?_ | (refine cs_ ?_ ?_ <;> intro hc) | refine cj_ ?_ | simp (disch := omega) only [encs_getN, qb]) <;> (try refine ev_ ?_)) | with_reducible exact ti_)
     ·have hc' : topV (l.getD j 0) < k := hc
      rw [hs2 (by omega), if_pos hc']; rfl
     ·have hc' : ¬ topV (l.getD j 0) < k := hc
      refine qn (j + 1, nxtV k (l.getD j 0)) [] ⟨⟨by omega, ?_⟩, by omega⟩ rfl (by simp) ?_ ?_ ?_ <;> (try refine ev_ ?_) <;> (try with_reducible exact ti_) <;> (try simp (disch := omega) only [qb, and_true, true_and])
      ·rw [hs2 (by omega), if_neg hc']
      ·rfl
     ·rw [← hr, List.drop_of_length_le (by omega)]; rfl

theorem qeo (l : List UInt8) : qj Try.prog 93 [.str l] (qwt (qde l)) := by
 refine qd c0bo (by simp) (by simp only [go_sem]) rfl fun hw => ?_
 have hl : l.length ≤ maxLen := hw.1
 refine qby (qew ?_)
 (refine ev_ ?_; (try with_reducible exact ti_))
 refine qsf (S := Nat × Int) 0 rfl (fun s => s.1 < l.length ∧ digW l = true ∧ qdd s.2 (l.drop s.1) = qdd 0 l) (fun s => (⟨[(0, .str l), (5, .int .i64 s.2), (6, .int .i64 s.1)], []⟩, [])) (fun s => l.length - s.1) ?_ fun s hs => ?_
 ·repeat' (first | refine vs_ ?_ | ((first | refine vr_ ?_ | (refine cs_ ?_ ?_ <;> intro hc) | refine cj_ ?_ | simp (disch := omega) only [encs_getN, qb]) <;> (try refine ev_ ?_)) | with_reducible exact ti_)
  refine qu (S := Nat) (fun i => i ≤ l.length ∧ digW (l.drop i) = digW l) (fun i => (⟨[(0, .str l), (9, .int .i64 l.length), (10, .int .i64 i)], []⟩, [])) (fun i => l.length - i) ?_ fun i hi => ?_
  ·refine qn 0 [] ⟨Nat.zero_le _, rfl⟩ rfl (by simp) ?_ ?_ ?_ <;> (try refine ev_ ?_) <;> (try with_reducible exact ti_) <;> (try simp (disch := omega) only [qb, and_true, true_and])
  ·obtain ⟨hi, ha⟩ := hi
   have hs : i < l.length → qb2 (l.getD i 0).toNat = false → qde l = (0, 5) := fun h h2 => qj1 (by rw [← ha, qez h, h2]; rfl)
   have hs2 : 0 < l.length → qdd 0 l = if topV (l.getD 0 0) < 0 then (0, 4) else qdd (nxtV 0 (l.getD 0 0)) (l.drop 1) := fun h => by
    have := qfe (l := l) (i := 0) h 0
    rwa [List.drop_zero] at this
   have hdig : ¬ (i : Int) < l.length → digW l = true := fun h => by rw [← ha, List.drop_of_length_le (by omega)]; rfl
   repeat' (first | refine vs_ ?_ | ((first | refine vr_ ?_ | simp (disch := omega) only [qb] | simp (disch := omega) only [qrk] | (refine cs_ ?_ ?_ <;> intro hc) | refine cj_ ?_ | simp (disch := omega) only [encs_getN, qb]) <;> (try refine ev_ ?_)) | with_reducible exact ti_)
   all_goals first
    | (rw [hs (by omega) (qpb (by omega))]; rfl)
    | (refine qn (i + 1) [] ⟨⟨by omega, ?_⟩, by omega⟩ rfl (by simp) ?_ ?_ ?_ <;> (try refine ev_ ?_) <;> (try with_reducible exact ti_) <;> (try simp (disch := omega) only [qb, and_true, true_and])
       have hd : qb2 (l.getD i 0).toNat = true := qq2 (by omega) (by omega)
       rw [← ha, qez (l := l) (i := i) (by omega), hd, Bool.true_and])
    | (subst hc; rfl)
    | skip
   ·have hlp := qe6 (by assumption)
    have hd := hdig (by assumption)
    have hc' : topV (l.getD 0 0) < 0 := hc
    rw [qex (by assumption) hd, hs2 hlp, if_pos hc']; rfl
   ·rename_i hc0
    have hlp := qe6 (by assumption)
    have hd := hdig (by assumption)
    have hc' : ¬ topV (l.getD 0 0) < 0 := hc0
    refine qn (1, nxtV 0 (l.getD 0 0)) [] ⟨by omega, hd, ?_⟩ rfl (by simp) ?_ ?_ ?_ <;> (try refine ev_ ?_) <;> (try with_reducible exact ti_) <;> (try simp (disch := omega) only [qb, and_true, true_and])
    ·rw [hs2 hlp, if_neg hc']
    ·rfl
   ·rename_i hc0
    have hlp := qe6 (by assumption)
    have hd := hdig (by assumption)
    have hc' : ¬ topV (l.getD 0 0) < 0 := hc0
    rw [qex (by assumption) hd, hs2 hlp, if_neg hc', List.drop_of_length_le (by omega)]; rfl
 ·obtain ⟨j, k⟩ := s
  obtain ⟨hj, hd, hr⟩ := hs
  dsimp only at hj hr
  have hs2 : qdd 0 l = if topV (l.getD j 0) < k then (0, 4) else qdd (nxtV k (l.getD j 0)) (l.drop (j + 1)) := by rw [← hr, qfe hj]
  have hne : l ≠ [] := fun e => by subst e; simp at hj
  rw [qex hne hd]
  repeat' (first | refine vs_ ?_ | ((first | refine vr_ ?_ | simp (disch := omega) only [qb] | simp (disch := omega) only [qrk] | (refine cs_ ?_ ?_ <;> intro hc) | refine cj_ ?_ | simp (disch := omega) only [encs_getN, qb]) <;> (try refine ev_ ?_)) | with_reducible exact ti_)
  ·have hc' : topV (l.getD j 0) < k := hc
   rw [hs2, if_pos hc']; rfl
  ·rename_i hc0
   have hc' : ¬ topV (l.getD j 0) < k := hc0
   refine qn (j + 1, nxtV k (l.getD j 0)) [] ⟨⟨by omega, hd, ?_⟩, by omega⟩ rfl (by simp) ?_ ?_ ?_ <;> (try refine ev_ ?_) <;> (try with_reducible exact ti_) <;> (try simp (disch := omega) only [qb, and_true, true_and])
   ·rw [hs2, if_neg hc']
   ·rfl
  ·rename_i hc0
   have hc' : ¬ topV (l.getD j 0) < k := hc0
   rw [hs2, if_neg hc', List.drop_of_length_le (by omega)]; rfl
set_option maxRecDepth 4000

def pfx (p l : List UInt8) : Bool := decide (l.take p.length = p)
theorem qhd (l p : List UInt8) : qj Try.prog 102 [.str l, .str p] (.bool (pfx p l)) := by
 refine qd c0bl (by simp) (by simp only [go_sem]) rfl fun hw => ?_
 repeat' (first | refine vs_ ?_ | ((first | refine vr_ ?_ | (refine cs_ ?_ ?_ <;> intro hc) | refine cj_ ?_ | fail) <;> (try refine ev_ ?_)) | with_reducible exact ti_)
 ·rfl
 ·rw [pfx, decide_eq_false]
  intro h
  have := congrArg List.length h
  rw [List.length_take] at this
  omega
theorem qg (l p : List UInt8) : qj Try.prog 73 [.str l, .str p] (.bool (pfx p l)) := by
 refine qd c0bm (by simp) (by simp only [go_sem]) rfl fun hw => ?_
 repeat' (first | refine vs_ ?_ | ((first | refine vr_ ?_ | refine qa (qhd _ _) fun _ => ?_ | (refine cs_ ?_ ?_ <;> intro hc) | refine cj_ ?_ | fail) <;> (try refine ev_ ?_)) | with_reducible exact ti_)

end Go.Proofs.Ytlahgbhhejkgbaa
