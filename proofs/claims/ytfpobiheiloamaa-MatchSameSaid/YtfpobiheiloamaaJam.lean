/- Texts of this proof, joined. -/
import Derived.Test.YtfpobiheiloamaaJah
import Derived.Test.YtfpobiheiloamaaJal

/- names -/
set_option maxRecDepth 4000
namespace Go.Proofs.Ytfpobiheiloamaa
open Go Go.RowKit Go.V
set_option linter.unusedVariables false
set_option linter.unusedSimpArgs false

def qsf (c : Int) : Bool := decide (97 ≤ c) && decide (c ≤ 122) || decide (c = 95)
def qpt (c : Int) : Bool := decide (65 ≤ c) && decide (c ≤ 90)
def qcj (c : Int) : Bool := decide (48 ≤ c) && decide (c ≤ 57)

theorem qnm (c : Int) : qm Try.prog 128 [.int .u8 c] (.bool (qsf c)) := by
 refine qf c0q (by simp) (by simp only [go_sem]) rfl fun hw => ?_
 repeat' (first | refine vs_ ?_ | ((first | refine vr_ ?_ | (refine cs_ ?_ ?_ <;> intro hc) | refine cj_ ?_ | fail) <;> (try refine ev_ ?_)) | with_reducible exact ti_)
 all_goals simp [qsf, *]
theorem qh6 (c : Int) : qm Try.prog 106 [.int .u8 c] (.bool (qpt c)) := by
 refine qf c0r (by simp) (by simp only [go_sem]) rfl fun hw => ?_
 repeat' (first | refine vs_ ?_ | ((first | refine vr_ ?_ | (refine cs_ ?_ ?_ <;> intro hc) | refine cj_ ?_ | fail) <;> (try refine ev_ ?_)) | with_reducible exact ti_)
 all_goals simp [qpt, *]
def onW (c : Int) : Bool := qsf c || qpt c || qcj c || decide (c = 39)
def onsW (l : List UInt8) : Bool := l.all fun c => onW c.toNat
theorem qh3 {l : List UInt8} {i : Nat} (h : i < l.length) : l.drop i = l.getD i 0 :: l.drop (i + 1) := by
 rw [List.drop_eq_getElem_cons h, List.getD_eq_getElem?_getD, List.getElem?_eq_getElem h]; rfl
theorem qmb {l : List UInt8} {i : Nat} (h : i < l.length) : onsW (l.drop i) = (onW (l.getD i 0).toNat && onsW (l.drop (i + 1))) := by
 rw [qh3 h]; rfl
theorem qrs (l : List UInt8) : qm Try.prog 107 [.str l] (.bool (onsW l)) := by
 refine qf c0s (by simp) (by simp only [go_sem]) rfl fun hw => ?_
 have hl : l.length ≤ maxLen := hw.1
 repeat' (first | refine vs_ ?_ | ((first | refine vr_ ?_ | (refine cs_ ?_ ?_ <;> intro hc) | refine cj_ ?_ | simp (disch := omega) only [encs_getN, qb]) <;> (try refine ev_ ?_)) | with_reducible exact ti_)
 refine qs (S := Nat) (fun i => i ≤ l.length ∧ onsW (l.drop i) = onsW l) (fun i => (⟨[(0, .str l), (6, .int .i64 l.length), (7, .int .i64 i)], []⟩, [])) (fun i => l.length - i) ?_ fun i hi => ?_
 ·refine qo 0 [] ⟨Nat.zero_le _, rfl⟩ rfl (by simp) ?_ ?_ ?_ <;> (try refine ev_ ?_) <;> (try with_reducible exact ti_) <;> (try simp (disch := omega) only [qb, and_true, true_and])
 ·obtain ⟨hi, ha⟩ := hi
  repeat' (first | refine vs_ ?_ | ((first | refine vr_ ?_ | refine qa (qnm _) fun _ => ?_ | refine qa (qh6 _) fun _ => ?_ | (refine cs_ ?_ ?_ <;> intro hc) | refine cj_ ?_ | simp (disch := omega) only [encs_getN, qb]) <;> (try refine ev_ ?_)) | with_reducible exact ti_)
  all_goals first
   | (refine qo (i + 1) [] ⟨⟨by omega, ?_⟩, by omega⟩ rfl (by simp) ?_ ?_ ?_ <;> (try refine ev_ ?_) <;> (try with_reducible exact ti_) <;> (try simp (disch := omega) only [qb, and_true, true_and])
      rw [← ha, qmb (l := l) (i := i) (by omega)]
      simp_all [onW, qcj]
      try omega)
   | (rw [← ha, show i = l.length by omega, List.drop_length]; rfl)
   | (rw [← ha, qmb (l := l) (i := i) (by omega)]
      simp_all [onW, qcj]
      try omega)

def conW (l : List UInt8) : Bool := decide (l ≠ []) && qpt (l.getD 0 0).toNat && onsW l
theorem qta (l : List UInt8) : qm Try.prog 72 [.str l] (.bool (conW l)) := by
 refine qf c0t (by simp) (by simp only [go_sem]) rfl fun hw => ?_
 have hl : l.length ≤ maxLen := hw.1
 repeat' (first | refine vs_ ?_ | ((first | refine vr_ ?_ | refine qa (qrs _) fun _ => ?_ | refine qa (qh6 _) fun _ => ?_ | (refine cs_ ?_ ?_ <;> intro hc) | refine cj_ ?_ | simp (disch := omega) only [encs_getN, qb]) <;> (try refine ev_ ?_)) | with_reducible exact ti_)
 all_goals simp_all [conW]
set_option maxRecDepth 4000

theorem qvk : IntKind.i64.wrap (0 + 1) = 1 := by decide
def digW (l : List UInt8) : Bool := l.all fun c => qcj c.toNat
theorem qe5 {l : List UInt8} {i : Nat} (h : i < l.length) : digW (l.drop i) = (qcj (l.getD i 0).toNat && digW (l.drop (i + 1))) := by
 rw [qh3 h]; rfl

def digV (c : UInt8) : Int := IntKind.i64.wrap (IntKind.u8.wrap ((c.toNat : Int) - 48))
def topV (c : UInt8) : Int := IntKind.i64.wrap ((IntKind.i64.wrap (9223372036854775807 - digV c)).tdiv 10)
def nxtV (k : Int) (c : UInt8) : Int := IntKind.i64.wrap (IntKind.i64.wrap (10 * k) + digV c)
def qdq : Int → List UInt8 → Int × Int
 | k, [] => (k, 0)
 | k, c :: r => if topV c < k then (0, 4) else qdq (nxtV k c) r
def qdo (l : List UInt8) : Int × Int := if l = [] then (0, 5) else if digW l = true then qdq 0 l else (0, 5)
def qzd (p : Int × Int) : AV := .tup [.int .i64 p.1, .int .i64 p.2]
theorem qf9 {l : List UInt8} {i : Nat} (h : i < l.length) (k : Int) : qdq k (l.drop i) = if topV (l.getD i 0) < k then (0, 4) else qdq (nxtV k (l.getD i 0)) (l.drop (i + 1)) := by
 rw [qh3 h]; rfl
theorem qub {c : Int} (h : c < 48 ∨ 57 < c) : qcj c = false := by
 simp only [qcj, Bool.and_eq_false_iff, decide_eq_false_iff_not]; omega
theorem qu6 {c : Int} (h : ¬ c < 48) (h2 : ¬ 57 < c) : qcj c = true := by
 simp only [qcj, Bool.and_eq_true, decide_eq_true_eq]; omega
theorem qfp {l : List UInt8} (h : l ≠ []) (hd : digW l = true) : qdo l = qdq 0 l := by rw [qdo, if_neg h, if_pos hd]
theorem qlo {l : List UInt8} (hd : digW l = false) : qdo l = (0, 5) := by rw [qdo, hd]; simp

theorem qba3 (l : List UInt8) : qm Try.prog 145 [.str l] (qzd (qdo l)) := by
 refine qf c0o (by simp) (by simp only [go_sem]) rfl fun hw => ?_
 have hl : l.length ≤ maxLen := hw.1
 repeat' (first | refine vs_ ?_ | ((first | refine vr_ ?_ | (refine cs_ ?_ ?_ <;> intro hc) | refine cj_ ?_ | simp (disch := omega) only [encs_getN, qb]) <;> (try refine ev_ ?_)) | with_reducible exact ti_)
 ·subst hc; rfl
 ·refine qs (S := Nat) (fun i => i ≤ l.length ∧ digW (l.drop i) = digW l) (fun i => (⟨[(0, .str l), (4, .int .i64 i)], []⟩, [])) (fun i => l.length - i) ?_ fun i hi => ?_
  ·refine qo 0 [] ⟨Nat.zero_le _, rfl⟩ rfl (by simp) ?_ ?_ ?_ <;> (try refine ev_ ?_) <;> (try with_reducible exact ti_) <;> (try simp (disch := omega) only [qb, and_true, true_and])
  ·obtain ⟨hi, ha⟩ := hi
   have hs : i < l.length → qcj (l.getD i 0).toNat = false → qdo l = (0, 5) := fun h h2 => qlo (by rw [← ha, qe5 h, h2]; rfl)
   repeat' (first | refine vs_ ?_ | ((first | refine vr_ ?_ | (refine cs_ ?_ ?_ <;> intro hc) | refine cj_ ?_ | simp (disch := omega) only [encs_getN, qb]) <;> (try refine ev_ ?_)) | with_reducible exact ti_)
   ·rw [hs (by omega) (qub (by omega))]; rfl
   ·rw [hs (by omega) (qub (by omega))]; rfl
   ·refine qo (i + 1) [] ⟨⟨by omega, ?_⟩, by omega⟩ rfl (by simp) ?_ ?_ ?_ <;> (try refine ev_ ?_) <;> (try with_reducible exact ti_) <;> (try simp (disch := omega) only [qb, and_true, true_and])
    have hd : qcj (l.getD i 0).toNat = true := qu6 (by omega) (by omega)
    rw [← ha, qe5 (l := l) (i := i) (by omega), hd, Bool.true_and]
   ·have hd : digW l = true := by rw [← ha, List.drop_of_length_le (by omega)]; rfl
    rw [qfp (by assumption) hd]
    refine qs (S := Nat × Int) (fun s => s.1 ≤ l.length ∧ qdq s.2 (l.drop s.1) = qdq 0 l) (fun s => (⟨[(0, .str l), (5, .int .i64 s.2), (6, .int .i64 s.1)], []⟩, [])) (fun s => l.length - s.1) ?_ fun s hs => ?_
    ·refine qo (0, 0) [] ⟨Nat.zero_le _, rfl⟩ rfl (by simp) ?_ ?_ ?_ <;> (try refine ev_ ?_) <;> (try with_reducible exact ti_) <;> (try simp (disch := omega) only [qb, and_true, true_and])
    ·obtain ⟨j, k⟩ := s
     obtain ⟨hj, hr⟩ := hs
     dsimp only at hj hr
     have hs2 : j < l.length → qdq 0 l = if topV (l.getD j 0) < k then (0, 4) else qdq (nxtV k (l.getD j 0)) (l.drop (j + 1)) := fun h => by rw [← hr, qf9 h]
     repeat' (first | refine vs_ ?_ | ((first | refine vr_ ?_ | (refine cs_ ?_ ?_ <;> intro hc) | refine cj_ ?_ | simp (disch := omega) only [encs_getN, qb]) <;> (try refine ev_ ?_)) | with_reducible exact ti_)
     ·have hc' : topV (l.getD j 0) < k := hc
      rw [hs2 (by omega), if_pos hc']; rfl
     ·have hc' : ¬ topV (l.getD j 0) < k := hc
      refine qo (j + 1, nxtV k (l.getD j 0)) [] ⟨⟨by omega, ?_⟩, by omega⟩ rfl (by simp) ?_ ?_ ?_ <;> (try refine ev_ ?_) <;> (try with_reducible exact ti_) <;> (try simp (disch := omega) only [qb, and_true, true_and])
      ·rw [hs2 (by omega), if_neg hc']
      ·rfl
     ·rw [← hr, List.drop_of_length_le (by omega)]; rfl

theorem qfj (l : List UInt8) : qm Try.prog 136 [.str l] (qzd (qdo l)) := by
 refine qf c0p (by simp) (by simp only [go_sem]) rfl fun hw => ?_
 have hl : l.length ≤ maxLen := hw.1
 refine qbx (qeh ?_)
 (refine ev_ ?_; (try with_reducible exact ti_))
 refine qvm (S := Nat × Int) 0 rfl (fun s => s.1 < l.length ∧ digW l = true ∧ qdq s.2 (l.drop s.1) = qdq 0 l) (fun s => (⟨[(0, .str l), (5, .int .i64 s.2), (6, .int .i64 s.1)], []⟩, [])) (fun s => l.length - s.1) ?_ fun s hs => ?_
 ·repeat' (first | refine vs_ ?_ | ((first | refine vr_ ?_ | (refine cs_ ?_ ?_ <;> intro hc) | refine cj_ ?_ | simp (disch := omega) only [encs_getN, qb]) <;> (try refine ev_ ?_)) | with_reducible exact ti_)
  refine qs (S := Nat) (fun i => i ≤ l.length ∧ digW (l.drop i) = digW l) (fun i => (⟨[(0, .str l), (9, .int .i64 l.length), (10, .int .i64 i)], []⟩, [])) (fun i => l.length - i) ?_ fun i hi => ?_
  ·refine qo 0 [] ⟨Nat.zero_le _, rfl⟩ rfl (by simp) ?_ ?_ ?_ <;> (try refine ev_ ?_) <;> (try with_reducible exact ti_) <;> (try simp (disch := omega) only [qb, and_true, true_and])
  ·obtain ⟨hi, ha⟩ := hi
   have hs : i < l.length → qcj (l.getD i 0).toNat = false → qdo l = (0, 5) := fun h h2 => qlo (by rw [← ha, qe5 h, h2]; rfl)
   have hs2 : 0 < l.length → qdq 0 l = if topV (l.getD 0 0) < 0 then (0, 4) else qdq (nxtV 0 (l.getD 0 0)) (l.drop 1) := fun h => by
    have := qf9 (l := l) (i := 0) h 0
    rwa [List.drop_zero] at this
   have hdig : ¬ (i : Int) < l.length → digW l = true := fun h => by rw [← ha, List.drop_of_length_le (by omega)]; rfl
   repeat' (first | refine vs_ ?_ | ((first | refine vr_ ?_ | simp (disch := omega) only [qb] | simp (disch := omega) only [qvk] | (refine cs_ ?_ ?_ <;> intro hc) | refine cj_ ?_ | simp (disch := omega) only [encs_getN, qb]) <;> (try refine ev_ ?_)) | with_reducible exact ti_)
   all_goals first
    | (rw [hs (by omega) (qub (by omega))]; rfl)
    | (refine qo (i + 1) [] ⟨⟨by omega, ?_⟩, by omega⟩ rfl (by simp) ?_ ?_ ?_ <;> (try refine ev_ ?_) <;> (try with_reducible exact ti_) <;> (try simp (disch := omega) only [qb, and_true, true_and])
       have hd : qcj (l.getD i 0).toNat = true := qu6 (by omega) (by omega)
       rw [← ha, qe5 (l := l) (i := i) (by omega), hd, Bool.true_and])
    | (subst hc; rfl)
    | skip
   ·have hlp := qiq (by assumption)
    have hd := hdig (by assumption)
    have hc' : topV (l.getD 0 0) < 0 := hc
    rw [qfp (by assumption) hd, hs2 hlp, if_pos hc']; rfl
   ·rename_i hc0
    have hlp := qiq (by assumption)
    have hd := hdig (by assumption)
    have hc' : ¬ topV (l.getD 0 0) < 0 := hc0
    refine qo (1, nxtV 0 (l.getD 0 0)) [] ⟨by omega, hd, ?_⟩ rfl (by simp) ?_ ?_ ?_ <;> (try refine ev_ ?_) <;> (try with_reducible exact ti_) <;> (try simp (disch := omega) only [qb, and_true, true_and])
    ·rw [hs2 hlp, if_neg hc']
    ·rfl
   ·rename_i hc0
    have hlp := qiq (by assumption)
    have hd := hdig (by assumption)
    have hc' : ¬ topV (l.getD 0 0) < 0 := hc0
    rw [qfp (by assumption) hd, hs2 hlp, if_neg hc', List.drop_of_length_le (by omega)]; rfl
 ·obtain ⟨j, k⟩ := s
  obtain ⟨hj, hd, hr⟩ := hs
  dsimp only at hj hr
  have hs2 : qdq 0 l = if topV (l.getD j 0) < k then (0, 4) else qdq (nxtV k (l.getD j 0)) (l.drop (j + 1)) := by rw [← hr, qf9 hj]
  have hne : l ≠ [] := fun e => by subst e; simp at hj
  rw [qfp hne hd]
  repeat' (first | refine vs_ ?_ | ((first | refine vr_ ?_ | simp (disch := omega) only [qb] | simp (disch := omega) only [qvk] | (refine cs_ ?_ ?_ <;> intro hc) | refine cj_ ?_ | simp (disch := omega) only [encs_getN, qb]) <;> (try refine ev_ ?_)) | with_reducible exact ti_)
  ·have hc' : topV (l.getD j 0) < k := hc
   rw [hs2, if_pos hc']; rfl
  ·rename_i hc0
   have hc' : ¬ topV (l.getD j 0) < k := hc0
   refine qo (j + 1, nxtV k (l.getD j 0)) [] ⟨⟨by omega, hd, ?_⟩, by omega⟩ rfl (by simp) ?_ ?_ ?_ <;> (try refine ev_ ?_) <;> (try with_reducible exact ti_) <;> (try simp (disch := omega) only [qb, and_true, true_and])
   ·rw [hs2, if_neg hc']
   ·rfl
  ·rename_i hc0
   have hc' : ¬ topV (l.getD j 0) < k := hc0
   rw [hs2, if_neg hc', List.drop_of_length_le (by omega)]; rfl
set_option maxRecDepth 4000

def pfx (p l : List UInt8) : Bool := decide (l.take p.length = p)
theorem qit (l p : List UInt8) : qm Try.prog 147 [.str l, .str p] (.bool (pfx p l)) := by
 refine qf c0m (by simp) (by simp only [go_sem]) rfl fun hw => ?_
 repeat' (first | refine vs_ ?_ | ((first | refine vr_ ?_ | (refine cs_ ?_ ?_ <;> intro hc) | refine cj_ ?_ | fail) <;> (try refine ev_ ?_)) | with_reducible exact ti_)
 ·rfl
 ·rw [pfx, decide_eq_false]
  intro h
  have := congrArg List.length h
  rw [List.length_take] at this
  omega
theorem qh (l p : List UInt8) : qm Try.prog 135 [.str l, .str p] (.bool (pfx p l)) := by
 refine qf c0n (by simp) (by simp only [go_sem]) rfl fun hw => ?_
 repeat' (first | refine vs_ ?_ | ((first | refine vr_ ?_ | refine qa (qit _ _) fun _ => ?_ | (refine cs_ ?_ ?_ <;> intro hc) | refine cj_ ?_ | fail) <;> (try refine ev_ ?_)) | with_reducible exact ti_)

end Go.Proofs.Ytfpobiheiloamaa
