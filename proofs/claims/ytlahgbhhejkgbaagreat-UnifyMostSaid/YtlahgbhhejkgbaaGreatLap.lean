/- Texts of this proof, joined. -/
import Derived.Test.YtlahgbhhejkgbaaGreatLah
import Derived.Test.YtlahgbhhejkgbaaGreatLao

/- names -/
set_option maxRecDepth 4000
namespace Go.Proofs.YtlahgbhhejkgbaaGreat
open Go Go.RowKit Go.V
set_option linter.unusedVariables false
set_option linter.unusedSimpArgs false

def qpd (c : Int) : Bool := decide (97 ≤ c) && decide (c ≤ 122) || decide (c = 95)
def qgb (c : Int) : Bool := decide (65 ≤ c) && decide (c ≤ 90)
def qco (c : Int) : Bool := decide (48 ≤ c) && decide (c ≤ 57)

theorem qq9 (c : Int) : qn Tryz.prog 113 [.int .u8 c] (.bool (qpd c)) := by
 refine qf c0ck (by simp) (by simp only [go_sem]) rfl fun hw => ?_
 repeat' (first | refine vs_ ?_ | ((first | refine vr_ ?_ | (refine cs_ ?_ ?_ <;> intro hc) | refine cj_ ?_ | fail) <;> (try refine ev_ ?_)) | with_reducible exact ti_)
 all_goals simp [qpd, *]
theorem qp2 (c : Int) : qn Tryz.prog 121 [.int .u8 c] (.bool (qpd c)) := by
 refine qf c0cl (by simp) (by simp only [go_sem]) rfl fun hw => ?_
 repeat' (first | refine vs_ ?_ | ((first | refine vr_ ?_ | (refine cs_ ?_ ?_ <;> intro hc) | refine cj_ ?_ | fail) <;> (try refine ev_ ?_)) | with_reducible exact ti_)
 all_goals simp [qpd, *]
theorem qkr (c : Int) : qn Tryz.prog 100 [.int .u8 c] (.bool (qgb c)) := by
 refine qf c0cm (by simp) (by simp only [go_sem]) rfl fun hw => ?_
 repeat' (first | refine vs_ ?_ | ((first | refine vr_ ?_ | (refine cs_ ?_ ?_ <;> intro hc) | refine cj_ ?_ | fail) <;> (try refine ev_ ?_)) | with_reducible exact ti_)
 all_goals simp [qgb, *]
theorem qi7 (c : Int) : qn Tryz.prog 93 [.int .u8 c] (.bool (qgb c)) := by
 refine qf c0cn (by simp) (by simp only [go_sem]) rfl fun hw => ?_
 repeat' (first | refine vs_ ?_ | ((first | refine vr_ ?_ | (refine cs_ ?_ ?_ <;> intro hc) | refine cj_ ?_ | fail) <;> (try refine ev_ ?_)) | with_reducible exact ti_)
 all_goals simp [qgb, *]
theorem qp4 (c : Int) : qn Tryz.prog 122 [.int .u8 c] (.bool (qco c)) := by
 refine qf c0co (by simp) (by simp only [go_sem]) rfl fun hw => ?_
 repeat' (first | refine vs_ ?_ | ((first | refine vr_ ?_ | (refine cs_ ?_ ?_ <;> intro hc) | refine cj_ ?_ | fail) <;> (try refine ev_ ?_)) | with_reducible exact ti_)
 all_goals simp [qco, *]
def onW (c : Int) : Bool := qpd c || qgb c || qco c || decide (c = 39)
theorem q3v (c : Int) : qn Tryz.prog 111 [.int .u8 c] (.bool (onW c)) := by
 refine qf c0cp (by simp) (by simp only [go_sem]) rfl fun hw => ?_
 repeat' (first | refine vs_ ?_ | ((first | refine vr_ ?_ | refine qa (qp2 _) fun _ => ?_ | refine qa (qi7 _) fun _ => ?_ | refine qa (qp4 _) fun _ => ?_ | (refine cs_ ?_ ?_ <;> intro hc) | refine cj_ ?_ | fail) <;> (try refine ev_ ?_)) | with_reducible exact ti_)
 all_goals simp [onW, *]

def onsW (l : List UInt8) : Bool := l.all fun c => onW c.toNat
theorem qkl {l : List UInt8} {i : Nat} (h : i < l.length) : l.drop i = l.getD i 0 :: l.drop (i + 1) := by
 rw [List.drop_eq_getElem_cons h, List.getD_eq_getElem?_getD, List.getElem?_eq_getElem h]; rfl
theorem qem {l : List UInt8} {i : Nat} (h : i < l.length) : onsW (l.drop i) = (onW (l.getD i 0).toNat && onsW (l.drop (i + 1))) := by
 rw [qkl h]; rfl
theorem qul (l : List UInt8) : qn Tryz.prog 101 [.str l] (.bool (onsW l)) := by
 refine qf c0cq (by simp) (by simp only [go_sem]) rfl fun hw => ?_
 have hl : l.length ≤ maxLen := hw.1
 repeat' (first | refine vs_ ?_ | ((first | refine vr_ ?_ | (refine cs_ ?_ ?_ <;> intro hc) | refine cj_ ?_ | simp (disch := omega) only [encs_getN, qb]) <;> (try refine ev_ ?_)) | with_reducible exact ti_)
 refine qp (S := Nat) (fun i => i ≤ l.length ∧ onsW (l.drop i) = onsW l) (fun i => (⟨[(0, .str l), (6, .int .i64 l.length), (7, .int .i64 i)], []⟩, [])) (fun i => l.length - i) ?_ fun i hi => ?_
 ·refine qm 0 [] ⟨Nat.zero_le _, rfl⟩ rfl (by simp) ?_ ?_ ?_ <;> (try refine ev_ ?_) <;> (try with_reducible exact ti_) <;> (try simp (disch := omega) only [qb, and_true, true_and])
 ·obtain ⟨hi, ha⟩ := hi
  repeat' (first | refine vs_ ?_ | ((first | refine vr_ ?_ | refine qa (qq9 _) fun _ => ?_ | refine qa (qkr _) fun _ => ?_ | (refine cs_ ?_ ?_ <;> intro hc) | refine cj_ ?_ | simp (disch := omega) only [encs_getN, qb]) <;> (try refine ev_ ?_)) | with_reducible exact ti_)
  all_goals first
   | (refine qm (i + 1) [] ⟨⟨by omega, ?_⟩, by omega⟩ rfl (by simp) ?_ ?_ ?_ <;> (try refine ev_ ?_) <;> (try with_reducible exact ti_) <;> (try simp (disch := omega) only [qb, and_true, true_and])
      rw [← ha, qem (l := l) (i := i) (by omega)]
      simp_all [onW, qco]
      try omega)
   | (rw [← ha, show i = l.length by omega, List.drop_length]; rfl)
   | (rw [← ha, qem (l := l) (i := i) (by omega)]
      simp_all [onW, qco]
      try omega)

theorem q1w (l : List UInt8) : qn Tryz.prog 94 [.str l] (.bool (onsW (l.drop 1))) := by
 refine qf c0cr (by simp) (by simp only [go_sem]) rfl fun hw => ?_
 have hl : l.length ≤ maxLen := hw.1
 repeat' (first | refine vs_ ?_ | ((first | refine vr_ ?_ | (refine cs_ ?_ ?_ <;> intro hc) | refine cj_ ?_ | simp (disch := omega) only [encs_getN, qb]) <;> (try refine ev_ ?_)) | with_reducible exact ti_)
 refine qp (S := Nat) (fun i => 1 ≤ i ∧ onsW (l.drop i) = onsW (l.drop 1)) (fun i => (⟨[(0, .str l), (3, .int .i64 i)], []⟩, [])) (fun i => l.length - i) ?_ fun i hi => ?_
 ·refine qm 1 [] ⟨Nat.le_refl _, rfl⟩ rfl (by simp) ?_ ?_ ?_ <;> (try refine ev_ ?_) <;> (try with_reducible exact ti_) <;> (try simp (disch := omega) only [qb, and_true, true_and])
 ·obtain ⟨hi, ha⟩ := hi
  repeat' (first | refine vs_ ?_ | ((first | refine vr_ ?_ | refine qa (q3v _) fun _ => ?_ | (refine cs_ ?_ ?_ <;> intro hc) | refine cj_ ?_ | simp (disch := omega) only [encs_getN, qb]) <;> (try refine ev_ ?_)) | with_reducible exact ti_)
  ·rw [← ha, qem (l := l) (i := i) (by omega), hc]; rfl
  ·refine qm (i + 1) [] ⟨⟨by omega, ?_⟩, by omega⟩ rfl (by simp) ?_ ?_ ?_ <;> (try refine ev_ ?_) <;> (try with_reducible exact ti_) <;> (try simp (disch := omega) only [qb, and_true, true_and])
   rw [← ha, qem (l := l) (i := i) (by omega), hc, Bool.true_and]
  ·rw [← ha, List.drop_of_length_le (by omega)]; rfl

def conW (l : List UInt8) : Bool := decide (l ≠ []) && qgb (l.getD 0 0).toNat && onsW l
theorem qv9 (l : List UInt8) : qn Tryz.prog 81 [.str l] (.bool (conW l)) := by
 refine qf c0cs (by simp) (by simp only [go_sem]) rfl fun hw => ?_
 have hl : l.length ≤ maxLen := hw.1
 repeat' (first | refine vs_ ?_ | ((first | refine vr_ ?_ | refine qa (qul _) fun _ => ?_ | refine qa (qkr _) fun _ => ?_ | (refine cs_ ?_ ?_ <;> intro hc) | refine cj_ ?_ | simp (disch := omega) only [encs_getN, qb]) <;> (try refine ev_ ?_)) | with_reducible exact ti_)
 all_goals simp_all [conW]
theorem qvo {l : List UInt8} (h : ¬ l = []) : onsW l = (onW (l.getD 0 0).toNat && onsW (l.drop 1)) := qem (l := l) (i := 0) (qhg h)
theorem q16 {c : Int} (h : qgb c = true) : onW c = true := by simp [onW, h]
theorem qyb (l : List UInt8) : qn Tryz.prog 69 [.str l] (.bool (conW l)) := by
 refine qf c0ct (by simp) (by simp only [go_sem]) rfl fun hw => ?_
 have hl : l.length ≤ maxLen := hw.1
 have hk : conW l = (decide (l ≠ []) && qgb (l.getD 0 0).toNat && onsW (l.drop 1)) := by
  by_cases h : l = []
  ·subst h; rfl
  ·rw [conW, qvo h]
   cases hg : qgb (l.getD 0 0).toNat
   ·simp
   ·rw [q16 hg]; simp
 rw [hk]
 repeat' (first | refine vs_ ?_ | ((first | refine vr_ ?_ | refine qa (q1w _) fun _ => ?_ | refine qa (qi7 _) fun _ => ?_ | (refine cs_ ?_ ?_ <;> intro hc) | refine cj_ ?_ | simp (disch := omega) only [encs_getN, qb]) <;> (try refine ev_ ?_)) | with_reducible exact ti_)
 all_goals simp_all
set_option maxRecDepth 4000

theorem qmi : IntKind.i64.wrap (0 + 1) = 1 := by decide
def digW (l : List UInt8) : Bool := l.all fun c => qco c.toNat
theorem qf8 {l : List UInt8} {i : Nat} (h : i < l.length) : digW (l.drop i) = (qco (l.getD i 0).toNat && digW (l.drop (i + 1))) := by
 rw [qkl h]; rfl

def digV (c : UInt8) : Int := IntKind.i64.wrap (IntKind.u8.wrap ((c.toNat : Int) - 48))
def topV (c : UInt8) : Int := IntKind.i64.wrap ((IntKind.i64.wrap (9223372036854775807 - digV c)).tdiv 10)
def nxtV (k : Int) (c : UInt8) : Int := IntKind.i64.wrap (IntKind.i64.wrap (10 * k) + digV c)
def qeb : Int → List UInt8 → Int × Int
 | k, [] => (k, 0)
 | k, c :: r => if topV c < k then (0, 4) else qeb (nxtV k c) r
def qea (l : List UInt8) : Int × Int := if l = [] then (0, 5) else if digW l = true then qeb 0 l else (0, 5)
def q3d (p : Int × Int) : AV := .tup [.int .i64 p.1, .int .i64 p.2]
theorem qhr {l : List UInt8} {i : Nat} (h : i < l.length) (k : Int) : qeb k (l.drop i) = if topV (l.getD i 0) < k then (0, 4) else qeb (nxtV k (l.getD i 0)) (l.drop (i + 1)) := by
 rw [qkl h]; rfl
theorem qxw {c : Int} (h : c < 48 ∨ 57 < c) : qco c = false := by
 simp only [qco, Bool.and_eq_false_iff, decide_eq_false_iff_not]; omega
theorem qz1 {c : Int} (h : ¬ c < 48) (h2 : ¬ 57 < c) : qco c = true := by
 simp only [qco, Bool.and_eq_true, decide_eq_true_eq]; omega
theorem qgp {l : List UInt8} (h : l ≠ []) (hd : digW l = true) : qea l = qeb 0 l := by rw [qea, if_neg h, if_pos hd]
theorem qo3 {l : List UInt8} (hd : digW l = false) : qea l = (0, 5) := by rw [qea, hd]; simp

theorem ql0 (l : List UInt8) : qn Tryz.prog 91 [.str l] (q3d (qea l)) := by
 refine qf c0ci (by simp) (by simp only [go_sem]) rfl fun hw => ?_
 have hl : l.length ≤ maxLen := hw.1
 repeat' (first | refine vs_ ?_ | ((first | refine vr_ ?_ | (refine cs_ ?_ ?_ <;> intro hc) | refine cj_ ?_ | simp (disch := omega) only [encs_getN, qb]) <;> (try refine ev_ ?_)) | with_reducible exact ti_)
 ·subst hc; rfl
 ·refine qp (S := Nat) (fun i => i ≤ l.length ∧ digW (l.drop i) = digW l) (fun i => (⟨[(0, .str l), (4, .int .i64 i)], []⟩, [])) (fun i => l.length - i) ?_ fun i hi => ?_
  ·refine qm 0 [] ⟨Nat.zero_le _, rfl⟩ rfl (by simp) ?_ ?_ ?_ <;> (try refine ev_ ?_) <;> (try with_reducible exact ti_) <;> (try simp (disch := omega) only [qb, and_true, true_and])
  ·obtain ⟨hi, ha⟩ := hi
   have hs : i < l.length → qco (l.getD i 0).toNat = false → qea l = (0, 5) := fun h h2 => qo3 (by rw [← ha, qf8 h, h2]; rfl)
   repeat' (first | refine vs_ ?_ | ((first | refine vr_ ?_ | (refine cs_ ?_ ?_ <;> intro hc) | refine cj_ ?_ | simp (disch := omega) only [encs_getN, qb]) <;> (try refine ev_ ?_)) | with_reducible exact ti_)
   ·rw [hs (by omega) (qxw (by omega))]; rfl
   ·rw [hs (by omega) (qxw (by omega))]; rfl
   ·refine qm (i + 1) [] ⟨⟨by omega, ?_⟩, by omega⟩ rfl (by simp) ?_ ?_ ?_ <;> (try refine ev_ ?_) <;> (try with_reducible exact ti_) <;> (try simp (disch := omega) only [qb, and_true, true_and])
    have hd : qco (l.getD i 0).toNat = true := qz1 (by omega) (by omega)
    rw [← ha, qf8 (l := l) (i := i) (by omega), hd, Bool.true_and]
   ·have hd : digW l = true := by rw [← ha, List.drop_of_length_le (by omega)]; rfl
    rw [qgp (by assumption) hd]
    refine qp (S := Nat × Int) (fun s => s.1 ≤ l.length ∧ qeb s.2 (l.drop s.1) = qeb 0 l) (fun s => (⟨[(0, .str l), (5, .int .i64 s.2), (6, .int .i64 s.1)], []⟩, [])) (fun s => l.length - s.1) ?_ fun s hs => ?_
    ·refine qm (0, 0) [] ⟨Nat.zero_le _, rfl⟩ rfl (by simp) ?_ ?_ ?_ <;> (try refine ev_ ?_) <;> (try with_reducible exact ti_) <;> (try simp (disch := omega) only [qb, and_true, true_and])
    ·obtain ⟨j, k⟩ := s
     obtain ⟨hj, hr⟩ := hs
     dsimp only at hj hr
     have hs2 : j < l.length → qeb 0 l = if topV (l.getD j 0) < k then (0, 4) else qeb (nxtV k (l.getD j 0)) (l.drop (j + 1)) := fun h => by rw [← hr, qhr h]
     repeat' (first | refine vs_ ?_ | ((first | refine vr_ ?_ | (refine cs_ ?_ ?_ <;> intro hc) | refine cj_ ?_ | simp (disch := omega) only [encs_getN, qb]) <;> (try refine ev_ ?_)) | with_reducible exact ti_)
     ·have hc' : topV (l.getD j 0) < k := hc
      rw [hs2 (by omega), if_pos hc']; rfl
     ·have hc' : ¬ topV (l.getD j 0) < k := hc
      refine qm (j + 1, nxtV k (l.getD j 0)) [] ⟨⟨by omega, ?_⟩, by omega⟩ rfl (by simp) ?_ ?_ ?_ <;> (try refine ev_ ?_) <;> (try with_reducible exact ti_) <;> (try simp (disch := omega) only [qb, and_true, true_and])
      ·rw [hs2 (by omega), if_neg hc']
      ·rfl
     ·rw [← hr, List.drop_of_length_le (by omega)]; rfl

theorem qgr (l : List UInt8) : qn Tryz.prog 98 [.str l] (q3d (qea l)) := by
 refine qf c0cj (by simp) (by simp only [go_sem]) rfl fun hw => ?_
 have hl : l.length ≤ maxLen := hw.1
 refine qb7 (qd6 ?_)
 (refine ev_ ?_; (try with_reducible exact ti_))
 refine qxc (S := Nat × Int) 0 rfl (fun s => s.1 < l.length ∧ digW l = true ∧ qeb s.2 (l.drop s.1) = qeb 0 l) (fun s => (⟨[(0, .str l), (5, .int .i64 s.2), (6, .int .i64 s.1)], []⟩, [])) (fun s => l.length - s.1) ?_ fun s hs => ?_
 ·repeat' (first | refine vs_ ?_ | ((first | refine vr_ ?_ | (refine cs_ ?_ ?_ <;> intro hc) | refine cj_ ?_ | simp (disch := omega) only [encs_getN, qb]) <;> (try refine ev_ ?_)) | with_reducible exact ti_)
  refine qp (S := Nat) (fun i => i ≤ l.length ∧ digW (l.drop i) = digW l) (fun i => (⟨[(0, .str l), (9, .int .i64 l.length), (10, .int .i64 i)], []⟩, [])) (fun i => l.length - i) ?_ fun i hi => ?_
  ·refine qm 0 [] ⟨Nat.zero_le _, rfl⟩ rfl (by simp) ?_ ?_ ?_ <;> (try refine ev_ ?_) <;> (try with_reducible exact ti_) <;> (try simp (disch := omega) only [qb, and_true, true_and])
  ·obtain ⟨hi, ha⟩ := hi
   have hs : i < l.length → qco (l.getD i 0).toNat = false → qea l = (0, 5) := fun h h2 => qo3 (by rw [← ha, qf8 h, h2]; rfl)
   have hs2 : 0 < l.length → qeb 0 l = if topV (l.getD 0 0) < 0 then (0, 4) else qeb (nxtV 0 (l.getD 0 0)) (l.drop 1) := fun h => by
    have := qhr (l := l) (i := 0) h 0
    rwa [List.drop_zero] at this
   have hdig : ¬ (i : Int) < l.length → digW l = true := fun h => by rw [← ha, List.drop_of_length_le (by omega)]; rfl
   repeat' (first | refine vs_ ?_ | ((first | refine vr_ ?_ | simp (disch := omega) only [qb] | simp (disch := omega) only [qmi] | (refine cs_ ?_ ?_ <;> intro hc) | refine cj_ ?_ | simp (disch := omega) only [encs_getN, qb]) <;> (try refine ev_ ?_)) | with_reducible exact ti_)
   all_goals first
    | (rw [hs (by omega) (qxw (by omega))]; rfl)
    | (refine qm (i + 1) [] ⟨⟨by omega, ?_⟩, by omega⟩ rfl (by simp) ?_ ?_ ?_ <;> (try refine ev_ ?_) <;> (try with_reducible exact ti_) <;> (try simp (disch := omega) only [qb, and_true, true_and])
       have hd : qco (l.getD i 0).toNat = true := qz1 (by omega) (by omega)
       rw [← ha, qf8 (l := l) (i := i) (by omega), hd, Bool.true_and])
    | (subst hc; rfl)
    | skip
   ·have hlp := qhg (by assumption)
    have hd := hdig (by assumption)
    have hc' : topV (l.getD 0 0) < 0 := hc
    rw [qgp (by assumption) hd, hs2 hlp, if_pos hc']; rfl
   ·rename_i hc0
    have hlp := qhg (by assumption)
    have hd := hdig (by assumption)
    have hc' : ¬ topV (l.getD 0 0) < 0 := hc0
    refine qm (1, nxtV 0 (l.getD 0 0)) [] ⟨by omega, hd, ?_⟩ rfl (by simp) ?_ ?_ ?_ <;> (try refine ev_ ?_) <;> (try with_reducible exact ti_) <;> (try simp (disch := omega) only [qb, and_true, true_and])
    ·rw [hs2 hlp, if_neg hc']
    ·rfl
   ·rename_i hc0
    have hlp := qhg (by assumption)
    have hd := hdig (by assumption)
    have hc' : ¬ topV (l.getD 0 0) < 0 := hc0
    rw [qgp (by assumption) hd, hs2 hlp, if_neg hc', List.drop_of_length_le (by omega)]; rfl
 ·obtain ⟨j, k⟩ := s
  obtain ⟨hj, hd, hr⟩ := hs
  dsimp only at hj hr
  have hs2 : qeb 0 l = if topV (l.getD j 0) < k then (0, 4) else qeb (nxtV k (l.getD j 0)) (l.drop (j + 1)) := by rw [← hr, qhr hj]
  have hne : l ≠ [] := fun e => by subst e; simp at hj
  rw [qgp hne hd]
  repeat' (first | refine vs_ ?_ | ((first | refine vr_ ?_ | simp (disch := omega) only [qb] | simp (disch := omega) only [qmi] | (refine cs_ ?_ ?_ <;> intro hc) | refine cj_ ?_ | simp (disch := omega) only [encs_getN, qb]) <;> (try refine ev_ ?_)) | with_reducible exact ti_)
  ·have hc' : topV (l.getD j 0) < k := hc
   rw [hs2, if_pos hc']; rfl
  ·rename_i hc0
   have hc' : ¬ topV (l.getD j 0) < k := hc0
   refine qm (j + 1, nxtV k (l.getD j 0)) [] ⟨⟨by omega, hd, ?_⟩, by omega⟩ rfl (by simp) ?_ ?_ ?_ <;> (try refine ev_ ?_) <;> (try with_reducible exact ti_) <;> (try simp (disch := omega) only [qb, and_true, true_and])
   ·rw [hs2, if_neg hc']
   ·rfl
  ·rename_i hc0
   have hc' : ¬ topV (l.getD j 0) < k := hc0
   rw [hs2, if_neg hc', List.drop_of_length_le (by omega)]; rfl
end Go.Proofs.YtlahgbhhejkgbaaGreat
