/- Texts of this proof, joined. -/
import Derived.Test.YtbbjelfnocmaoaaAah
import Derived.Test.YtbbjelfnocmaoaaAan

/- names -/
set_option maxRecDepth 4000
namespace Go.Proofs.Ytbbjelfnocmaoaa
open Go Go.RowKit Go.V
set_option linter.unusedVariables false
set_option linter.unusedSimpArgs false

def qte (c : Int) : Bool := decide (97 ≤ c) && decide (c ≤ 122) || decide (c = 95)
def qie (c : Int) : Bool := decide (65 ≤ c) && decide (c ≤ 90)
def qdd (c : Int) : Bool := decide (48 ≤ c) && decide (c ≤ 57)

theorem qnj (c : Int) : qk Try.prog 55 [.int .u8 c] (.bool (qte c)) := by
 refine qf c0bm (by simp) (by simp only [go_sem]) rfl fun hw => ?_
 repeat' (first | refine vs_ ?_ | ((first | refine vr_ ?_ | (refine cs_ ?_ ?_ <;> intro hc) | refine cj_ ?_ | fail) <;> (try refine ev_ ?_)) | with_reducible exact ti_)
 all_goals simp [qte, *]
theorem qhk (c : Int) : qk Try.prog 34 [.int .u8 c] (.bool (qie c)) := by
 refine qf c0bn (by simp) (by simp only [go_sem]) rfl fun hw => ?_
 repeat' (first | refine vs_ ?_ | ((first | refine vr_ ?_ | (refine cs_ ?_ ?_ <;> intro hc) | refine cj_ ?_ | fail) <;> (try refine ev_ ?_)) | with_reducible exact ti_)
 all_goals simp [qie, *]
def onW (c : Int) : Bool := qte c || qie c || qdd c || decide (c = 39)
def onsW (l : List UInt8) : Bool := l.all fun c => onW c.toNat
theorem qhh {l : List UInt8} {i : Nat} (h : i < l.length) : l.drop i = l.getD i 0 :: l.drop (i + 1) := by
 rw [List.drop_eq_getElem_cons h, List.getD_eq_getElem?_getD, List.getElem?_eq_getElem h]; rfl
theorem qlp {l : List UInt8} {i : Nat} (h : i < l.length) : onsW (l.drop i) = (onW (l.getD i 0).toNat && onsW (l.drop (i + 1))) := by
 rw [qhh h]; rfl
theorem qqx (l : List UInt8) : qk Try.prog 35 [.str l] (.bool (onsW l)) := by
 refine qf c0bo (by simp) (by simp only [go_sem]) rfl fun hw => ?_
 have hl : l.length ≤ maxLen := hw.1
 repeat' (first | refine vs_ ?_ | ((first | refine vr_ ?_ | (refine cs_ ?_ ?_ <;> intro hc) | refine cj_ ?_ | simp (disch := omega) only [encs_getN, qb]) <;> (try refine ev_ ?_)) | with_reducible exact ti_)
 refine qz (S := Nat) (fun i => i ≤ l.length ∧ onsW (l.drop i) = onsW l) (fun i => (⟨[(0, .str l), (6, .int .i64 l.length), (7, .int .i64 i)], []⟩, [])) (fun i => l.length - i) ?_ fun i hi => ?_
 ·refine qp 0 [] ⟨Nat.zero_le _, rfl⟩ rfl (by simp) ?_ ?_ ?_ <;> (try refine ev_ ?_) <;> (try with_reducible exact ti_) <;> (try simp (disch := omega) only [qb, and_true, true_and])
 ·obtain ⟨hi, ha⟩ := hi
  repeat' (first | refine vs_ ?_ | ((first | refine vr_ ?_ | refine qa (qnj _) fun _ => ?_ | refine qa (qhk _) fun _ => ?_ | (refine cs_ ?_ ?_ <;> intro hc) | refine cj_ ?_ | simp (disch := omega) only [encs_getN, qb]) <;> (try refine ev_ ?_)) | with_reducible exact ti_)
  all_goals first
   | (refine qp (i + 1) [] ⟨⟨by omega, ?_⟩, by omega⟩ rfl (by simp) ?_ ?_ ?_ <;> (try refine ev_ ?_) <;> (try with_reducible exact ti_) <;> (try simp (disch := omega) only [qb, and_true, true_and])
      rw [← ha, qlp (l := l) (i := i) (by omega)]
      simp_all [onW, qdd]
      try omega)
   | (rw [← ha, show i = l.length by omega, List.drop_length]; rfl)
   | (rw [← ha, qlp (l := l) (i := i) (by omega)]
      simp_all [onW, qdd]
      try omega)

def conW (l : List UInt8) : Bool := decide (l ≠ []) && qie (l.getD 0 0).toNat && onsW l
theorem qfb (l : List UInt8) : qk Try.prog 20 [.str l] (.bool (conW l)) := by
 refine qf c0bp (by simp) (by simp only [go_sem]) rfl fun hw => ?_
 have hl : l.length ≤ maxLen := hw.1
 repeat' (first | refine vs_ ?_ | ((first | refine vr_ ?_ | refine qa (qqx _) fun _ => ?_ | refine qa (qhk _) fun _ => ?_ | (refine cs_ ?_ ?_ <;> intro hc) | refine cj_ ?_ | simp (disch := omega) only [encs_getN, qb]) <;> (try refine ev_ ?_)) | with_reducible exact ti_)
 all_goals simp_all [conW]
set_option maxRecDepth 4000

theorem qm4 : IntKind.i64.wrap (0 + 1) = 1 := by decide
def digW (l : List UInt8) : Bool := l.all fun c => qdd c.toNat
theorem qly {l : List UInt8} {i : Nat} (h : i < l.length) : digW (l.drop i) = (qdd (l.getD i 0).toNat && digW (l.drop (i + 1))) := by
 rw [qhh h]; rfl

def digV (c : UInt8) : Int := IntKind.i64.wrap (IntKind.u8.wrap ((c.toNat : Int) - 48))
def topV (c : UInt8) : Int := IntKind.i64.wrap ((IntKind.i64.wrap (9223372036854775807 - digV c)).tdiv 10)
def nxtV (k : Int) (c : UInt8) : Int := IntKind.i64.wrap (IntKind.i64.wrap (10 * k) + digV c)
def qe2 : Int → List UInt8 → Int × Int
 | k, [] => (k, 0)
 | k, c :: r => if topV c < k then (0, 4) else qe2 (nxtV k c) r
def qeh (l : List UInt8) : Int × Int := if l = [] then (0, 5) else if digW l = true then qe2 0 l else (0, 5)
def q40 (p : Int × Int) : AV := .tup [.int .i64 p.1, .int .i64 p.2]
theorem qjc {l : List UInt8} {i : Nat} (h : i < l.length) (k : Int) : qe2 k (l.drop i) = if topV (l.getD i 0) < k then (0, 4) else qe2 (nxtV k (l.getD i 0)) (l.drop (i + 1)) := by
 rw [qhh h]; rfl
theorem qbge {c : Int} (h : c < 48 ∨ 57 < c) : qdd c = false := by
 simp only [qdd, Bool.and_eq_false_iff, decide_eq_false_iff_not]; omega
theorem q25 {c : Int} (h : ¬ c < 48) (h2 : ¬ 57 < c) : qdd c = true := by
 simp only [qdd, Bool.and_eq_true, decide_eq_true_eq]; omega
theorem qg0 {l : List UInt8} (h : l ≠ []) (hd : digW l = true) : qeh l = qe2 0 l := by rw [qeh, if_neg h, if_pos hd]
theorem qtu {l : List UInt8} (hd : digW l = false) : qeh l = (0, 5) := by rw [qeh, hd]; simp

theorem qe0 (l : List UInt8) : qk Try.prog 67 [.str l] (q40 (qeh l)) := by
 refine qf c0bl (by simp) (by simp only [go_sem]) rfl fun hw => ?_
 have hl : l.length ≤ maxLen := hw.1
 refine qb8 (qhj ?_)
 (refine ev_ ?_; (try with_reducible exact ti_))
 refine qvp (S := Nat × Int) 0 rfl (fun s => s.1 < l.length ∧ digW l = true ∧ qe2 s.2 (l.drop s.1) = qe2 0 l) (fun s => (⟨[(0, .str l), (5, .int .i64 s.2), (6, .int .i64 s.1)], []⟩, [])) (fun s => l.length - s.1) ?_ fun s hs => ?_
 ·repeat' (first | refine vs_ ?_ | ((first | refine vr_ ?_ | (refine cs_ ?_ ?_ <;> intro hc) | refine cj_ ?_ | simp (disch := omega) only [encs_getN, qb]) <;> (try refine ev_ ?_)) | with_reducible exact ti_)
  refine qz (S := Nat) (fun i => i ≤ l.length ∧ digW (l.drop i) = digW l) (fun i => (⟨[(0, .str l), (9, .int .i64 l.length), (10, .int .i64 i)], []⟩, [])) (fun i => l.length - i) ?_ fun i hi => ?_
  ·refine qp 0 [] ⟨Nat.zero_le _, rfl⟩ rfl (by simp) ?_ ?_ ?_ <;> (try refine ev_ ?_) <;> (try with_reducible exact ti_) <;> (try simp (disch := omega) only [qb, and_true, true_and])
  ·obtain ⟨hi, ha⟩ := hi
   have hs : i < l.length → qdd (l.getD i 0).toNat = false → qeh l = (0, 5) := fun h h2 => qtu (by rw [← ha, qly h, h2]; rfl)
   have hs2 : 0 < l.length → qe2 0 l = if topV (l.getD 0 0) < 0 then (0, 4) else qe2 (nxtV 0 (l.getD 0 0)) (l.drop 1) := fun h => by
    have := qjc (l := l) (i := 0) h 0
    rwa [List.drop_zero] at this
   have hdig : ¬ (i : Int) < l.length → digW l = true := fun h => by rw [← ha, List.drop_of_length_le (by omega)]; rfl
   repeat' (first | refine vs_ ?_ | ((first | refine vr_ ?_ | simp (disch := omega) only [qb] | simp (disch := omega) only [qm4] | (refine cs_ ?_ ?_ <;> intro hc) | refine cj_ ?_ | simp (disch := omega) only [encs_getN, qb]) <;> (try refine ev_ ?_)) | with_reducible exact ti_)
   all_goals first
    | (rw [hs (by omega) (qbge (by omega))]; rfl)
    | (refine qp (i + 1) [] ⟨⟨by omega, ?_⟩, by omega⟩ rfl (by simp) ?_ ?_ ?_ <;> (try refine ev_ ?_) <;> (try with_reducible exact ti_) <;> (try simp (disch := omega) only [qb, and_true, true_and])
       have hd : qdd (l.getD i 0).toNat = true := q25 (by omega) (by omega)
       rw [← ha, qly (l := l) (i := i) (by omega), hd, Bool.true_and])
    | (subst hc; rfl)
    | skip
   ·have hlp := qg8 (by assumption)
    have hd := hdig (by assumption)
    have hc' : topV (l.getD 0 0) < 0 := hc
    rw [qg0 (by assumption) hd, hs2 hlp, if_pos hc']; rfl
   ·rename_i hc0
    have hlp := qg8 (by assumption)
    have hd := hdig (by assumption)
    have hc' : ¬ topV (l.getD 0 0) < 0 := hc0
    refine qp (1, nxtV 0 (l.getD 0 0)) [] ⟨by omega, hd, ?_⟩ rfl (by simp) ?_ ?_ ?_ <;> (try refine ev_ ?_) <;> (try with_reducible exact ti_) <;> (try simp (disch := omega) only [qb, and_true, true_and])
    ·rw [hs2 hlp, if_neg hc']
    ·rfl
   ·rename_i hc0
    have hlp := qg8 (by assumption)
    have hd := hdig (by assumption)
    have hc' : ¬ topV (l.getD 0 0) < 0 := hc0
    rw [qg0 (by assumption) hd, hs2 hlp, if_neg hc', List.drop_of_length_le (by omega)]; rfl
 ·obtain ⟨j, k⟩ := s
  obtain ⟨hj, hd, hr⟩ := hs
  dsimp only at hj hr
  have hs2 : qe2 0 l = if topV (l.getD j 0) < k then (0, 4) else qe2 (nxtV k (l.getD j 0)) (l.drop (j + 1)) := by rw [← hr, qjc hj]
  have hne : l ≠ [] := fun e => by subst e; simp at hj
  rw [qg0 hne hd]
  repeat' (first | refine vs_ ?_ | ((first | refine vr_ ?_ | simp (disch := omega) only [qb] | simp (disch := omega) only [qm4] | (refine cs_ ?_ ?_ <;> intro hc) | refine cj_ ?_ | simp (disch := omega) only [encs_getN, qb]) <;> (try refine ev_ ?_)) | with_reducible exact ti_)
  ·have hc' : topV (l.getD j 0) < k := hc
   rw [hs2, if_pos hc']; rfl
  ·rename_i hc0
   have hc' : ¬ topV (l.getD j 0) < k := hc0
   refine qp (j + 1, nxtV k (l.getD j 0)) [] ⟨⟨by omega, hd, ?_⟩, by omega⟩ rfl (by simp) ?_ ?_ ?_ <;> (try refine ev_ ?_) <;> (try with_reducible exact ti_) <;> (try simp (disch := omega) only [qb, and_true, true_and])
   ·rw [hs2, if_neg hc']
   ·rfl
  ·rename_i hc0
   have hc' : ¬ topV (l.getD j 0) < k := hc0
   rw [hs2, if_neg hc', List.drop_of_length_le (by omega)]; rfl
set_option maxRecDepth 4000

def pfx (p l : List UInt8) : Bool := decide (l.take p.length = p)
theorem qh0 (l p : List UInt8) : qk Try.prog 50 [.str l, .str p] (.bool (pfx p l)) := by
 refine qf c0bj (by simp) (by simp only [go_sem]) rfl fun hw => ?_
 repeat' (first | refine vs_ ?_ | ((first | refine vr_ ?_ | (refine cs_ ?_ ?_ <;> intro hc) | refine cj_ ?_ | fail) <;> (try refine ev_ ?_)) | with_reducible exact ti_)
 ·rfl
 ·rw [pfx, decide_eq_false]
  intro h
  have := congrArg List.length h
  rw [List.length_take] at this
  omega
theorem qe (l p : List UInt8) : qk Try.prog 30 [.str l, .str p] (.bool (pfx p l)) := by
 refine qf c0bk (by simp) (by simp only [go_sem]) rfl fun hw => ?_
 repeat' (first | refine vs_ ?_ | ((first | refine vr_ ?_ | refine qa (qh0 _ _) fun _ => ?_ | (refine cs_ ?_ ?_ <;> intro hc) | refine cj_ ?_ | fail) <;> (try refine ev_ ?_)) | with_reducible exact ti_)

end Go.Proofs.Ytbbjelfnocmaoaa
