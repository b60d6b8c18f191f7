/- Texts of this proof, joined. -/
import Derived.Test.YtfjbmjplnmaclaaGreatQai
import Derived.Test.YtfjbmjplnmaclaaGreatQan

/- the lexer's words: numbers -/
set_option maxRecDepth 4000
namespace Go.Proofs.YtfjbmjplnmaclaaGreat
open Go Go.RowKit Go.V
set_option linter.unusedVariables false
set_option linter.unusedSimpArgs false

theorem q7t : IntKind.i64.wrap (0 + 1) = 1 := by decide
def digW (l : List UInt8) : Bool := l.all fun c => qcm c.toNat
theorem qm2 {l : List UInt8} {i : Nat} (h : i < l.length) : digW (l.drop i) = (qcm (l.getD i 0).toNat && digW (l.drop (i + 1))) := by
 rw [qei h]; rfl

def digV (c : UInt8) : Int := IntKind.i64.wrap (IntKind.u8.wrap ((c.toNat : Int) - 48))
def topV (c : UInt8) : Int := IntKind.i64.wrap ((IntKind.i64.wrap (9223372036854775807 - digV c)).tdiv 10)
def nxtV (k : Int) (c : UInt8) : Int := IntKind.i64.wrap (IntKind.i64.wrap (10 * k) + digV c)
def qkw : Int → List UInt8 → Int × Int
 | k, [] => (k, 0)
 | k, c :: r => if topV c < k then (0, 4) else qkw (nxtV k c) r
def qpo (l : List UInt8) : Int × Int := if l = [] then (0, 5) else if digW l = true then qkw 0 l else (0, 5)
def qbrm (p : Int × Int) : AV := .tup [.int .i64 p.1, .int .i64 p.2]
theorem qok {l : List UInt8} {i : Nat} (h : i < l.length) (k : Int) : qkw k (l.drop i) = if topV (l.getD i 0) < k then (0, 4) else qkw (nxtV k (l.getD i 0)) (l.drop (i + 1)) := by
 rw [qei h]; rfl
theorem q7n {c : Int} (h : c < 48 ∨ 57 < c) : qcm c = false := by
 simp only [qcm, Bool.and_eq_false_iff, decide_eq_false_iff_not]; omega
theorem q8q {c : Int} (h : ¬ c < 48) (h2 : ¬ 57 < c) : qcm c = true := by
 simp only [qcm, Bool.and_eq_true, decide_eq_true_eq]; omega
theorem qk4 {l : List UInt8} (h : l ≠ []) (hd : digW l = true) : qpo l = qkw 0 l := by rw [qpo, if_neg h, if_pos hd]
theorem qx3 {l : List UInt8} (hd : digW l = false) : qpo l = (0, 5) := by rw [qpo, hd]; simp

theorem q56 (l : List UInt8) : qz Tryz.prog 74 [.str l] (qbrm (qpo l)) := by
 refine qj c0dw (by simp) (by simp only [go_sem]) rfl fun hw => ?_
 have hl : l.length ≤ maxLen := hw.1
 repeat' (first | refine vs_ ?_ | ((first | refine vr_ ?_ | (refine cs_ ?_ ?_ <;> intro hc) | refine cj_ ?_ | simp (disch := omega) only [qh, qs]) <;> (try refine ev_ ?_)) | with_reducible exact ti_)
 ·subst hc; rfl
 ·refine qbm (S := Nat) (fun i => i ≤ l.length ∧ digW (l.drop i) = digW l) (fun i => (⟨[(0, .str l), (4, .int .i64 i)], []⟩, [])) (fun i => l.length - i) ?_ fun i hi => ?_
  ·refine q8 0 [] ⟨Nat.zero_le _, rfl⟩ rfl (by simp) ?_ ?_ ?_ <;> (try refine ev_ ?_) <;> (try with_reducible exact ti_) <;> (try simp (disch := omega) only [qs, and_true, true_and])
  ·obtain ⟨hi, ha⟩ := hi
   have hs : i < l.length → qcm (l.getD i 0).toNat = false → qpo l = (0, 5) := fun h h2 => qx3 (by rw [← ha, qm2 h, h2]; rfl)
   repeat' (first | refine vs_ ?_ | ((first | refine vr_ ?_ | (refine cs_ ?_ ?_ <;> intro hc) | refine cj_ ?_ | simp (disch := omega) only [qh, qs]) <;> (try refine ev_ ?_)) | with_reducible exact ti_)
   ·rw [hs (by omega) (q7n (by omega))]; rfl
   ·rw [hs (by omega) (q7n (by omega))]; rfl
   ·refine q8 (i + 1) [] ⟨⟨by omega, ?_⟩, by omega⟩ rfl (by simp) ?_ ?_ ?_ <;> (try refine ev_ ?_) <;> (try with_reducible exact ti_) <;> (try simp (disch := omega) only [qs, and_true, true_and])
    have hd : qcm (l.getD i 0).toNat = true := q8q (by omega) (by omega)
    rw [← ha, qm2 (l := l) (i := i) (by omega), hd, Bool.true_and]
   ·have hd : digW l = true := by rw [← ha, List.drop_of_length_le (by omega)]; rfl
    rw [qk4 (by assumption) hd]
    refine qbm (S := Nat × Int) (fun s => s.1 ≤ l.length ∧ qkw s.2 (l.drop s.1) = qkw 0 l) (fun s => (⟨[(0, .str l), (5, .int .i64 s.2), (6, .int .i64 s.1)], []⟩, [])) (fun s => l.length - s.1) ?_ fun s hs => ?_
    ·refine q8 (0, 0) [] ⟨Nat.zero_le _, rfl⟩ rfl (by simp) ?_ ?_ ?_ <;> (try refine ev_ ?_) <;> (try with_reducible exact ti_) <;> (try simp (disch := omega) only [qs, and_true, true_and])
    ·obtain ⟨j, k⟩ := s
     obtain ⟨hj, hr⟩ := hs
     dsimp only at hj hr
     have hs2 : j < l.length → qkw 0 l = if topV (l.getD j 0) < k then (0, 4) else qkw (nxtV k (l.getD j 0)) (l.drop (j + 1)) := fun h => by rw [← hr, qok h]
     repeat' (first | refine vs_ ?_ | ((first | refine vr_ ?_ | (refine cs_ ?_ ?_ <;> intro hc) | refine cj_ ?_ | simp (disch := omega) only [qh, qs]) <;> (try refine ev_ ?_)) | with_reducible exact ti_)
     ·have hc' : topV (l.getD j 0) < k := hc
      rw [hs2 (by omega), if_pos hc']; rfl
     ·have hc' : ¬ topV (l.getD j 0) < k := hc
      refine q8 (j + 1, nxtV k (l.getD j 0)) [] ⟨⟨by omega, ?_⟩, by omega⟩ rfl (by simp) ?_ ?_ ?_ <;> (try refine ev_ ?_) <;> (try with_reducible exact ti_) <;> (try simp (disch := omega) only [qs, and_true, true_and])
      ·rw [hs2 (by omega), if_neg hc']
      ·rfl
     ·rw [← hr, List.drop_of_length_le (by omega)]; rfl

theorem q7b (l : List UInt8) : qz Tryz.prog 134 [.str l] (qbrm (qpo l)) := by
 refine qj c0dx (by simp) (by simp only [go_sem]) rfl fun hw => ?_
 have hl : l.length ≤ maxLen := hw.1
 refine qbmj (q83 ?_)
 (refine ev_ ?_; (try with_reducible exact ti_))
 refine q8t (S := Nat × Int) 0 rfl (fun s => s.1 < l.length ∧ digW l = true ∧ qkw s.2 (l.drop s.1) = qkw 0 l) (fun s => (⟨[(0, .str l), (5, .int .i64 s.2), (6, .int .i64 s.1)], []⟩, [])) (fun s => l.length - s.1) ?_ fun s hs => ?_
 ·repeat' (first | refine vs_ ?_ | ((first | refine vr_ ?_ | (refine cs_ ?_ ?_ <;> intro hc) | refine cj_ ?_ | simp (disch := omega) only [qh, qs]) <;> (try refine ev_ ?_)) | with_reducible exact ti_)
  refine qbm (S := Nat) (fun i => i ≤ l.length ∧ digW (l.drop i) = digW l) (fun i => (⟨[(0, .str l), (9, .int .i64 l.length), (10, .int .i64 i)], []⟩, [])) (fun i => l.length - i) ?_ fun i hi => ?_
  ·refine q8 0 [] ⟨Nat.zero_le _, rfl⟩ rfl (by simp) ?_ ?_ ?_ <;> (try refine ev_ ?_) <;> (try with_reducible exact ti_) <;> (try simp (disch := omega) only [qs, and_true, true_and])
  ·obtain ⟨hi, ha⟩ := hi
   have hs : i < l.length → qcm (l.getD i 0).toNat = false → qpo l = (0, 5) := fun h h2 => qx3 (by rw [← ha, qm2 h, h2]; rfl)
   have hs2 : 0 < l.length → qkw 0 l = if topV (l.getD 0 0) < 0 then (0, 4) else qkw (nxtV 0 (l.getD 0 0)) (l.drop 1) := fun h => by
    have := qok (l := l) (i := 0) h 0
    rwa [List.drop_zero] at this
   have hdig : ¬ (i : Int) < l.length → digW l = true := fun h => by rw [← ha, List.drop_of_length_le (by omega)]; rfl
   repeat' (first | refine vs_ ?_ | ((first | refine vr_ ?_ | simp (disch := omega) only [qs] | simp (disch := omega) only [q7t] | (refine cs_ ?_ ?_ <;> intro hc) | refine cj_ ?_ | simp (disch := omega) only [qh, qs]) <;> (try refine ev_ ?_)) | with_reducible exact ti_)
   all_goals first
    | (rw [hs (by omega) (q7n (by omega))]; rfl)
    | (refine q8 (i + 1) [] ⟨⟨by omega, ?_⟩, by omega⟩ rfl (by simp) ?_ ?_ ?_ <;> (try refine ev_ ?_) <;> (try with_reducible exact ti_) <;> (try simp (disch := omega) only [qs, and_true, true_and])
       have hd : qcm (l.getD i 0).toNat = true := q8q (by omega) (by omega)
       rw [← ha, qm2 (l := l) (i := i) (by omega), hd, Bool.true_and])
    | (subst hc; rfl)
    | skip
   ·have hlp := qvv (by assumption)
    have hd := hdig (by assumption)
    have hc' : topV (l.getD 0 0) < 0 := hc
    rw [qk4 (by assumption) hd, hs2 hlp, if_pos hc']; rfl
   ·rename_i hc0
    have hlp := qvv (by assumption)
    have hd := hdig (by assumption)
    have hc' : ¬ topV (l.getD 0 0) < 0 := hc0
    refine q8 (1, nxtV 0 (l.getD 0 0)) [] ⟨by omega, hd, ?_⟩ rfl (by simp) ?_ ?_ ?_ <;> (try refine ev_ ?_) <;> (try with_reducible exact ti_) <;> (try simp (disch := omega) only [qs, and_true, true_and])
    ·rw [hs2 hlp, if_neg hc']
    ·rfl
   ·rename_i hc0
    have hlp := qvv (by assumption)
    have hd := hdig (by assumption)
    have hc' : ¬ topV (l.getD 0 0) < 0 := hc0
    rw [qk4 (by assumption) hd, hs2 hlp, if_neg hc', List.drop_of_length_le (by omega)]; rfl
 ·obtain ⟨j, k⟩ := s
  obtain ⟨hj, hd, hr⟩ := hs
  dsimp only at hj hr
  have hs2 : qkw 0 l = if topV (l.getD j 0) < k then (0, 4) else qkw (nxtV k (l.getD j 0)) (l.drop (j + 1)) := by rw [← hr, qok hj]
  have hne : l ≠ [] := fun e => by subst e; simp at hj
  rw [qk4 hne hd]
  repeat' (first | refine vs_ ?_ | ((first | refine vr_ ?_ | simp (disch := omega) only [qs] | simp (disch := omega) only [q7t] | (refine cs_ ?_ ?_ <;> intro hc) | refine cj_ ?_ | simp (disch := omega) only [qh, qs]) <;> (try refine ev_ ?_)) | with_reducible exact ti_)
  ·have hc' : topV (l.getD j 0) < k := hc
   rw [hs2, if_pos hc']; rfl
  ·rename_i hc0
   have hc' : ¬ topV (l.getD j 0) < k := hc0
   refine q8 (j + 1, nxtV k (l.getD j 0)) [] ⟨⟨by omega, hd, ?_⟩, by omega⟩ rfl (by simp) ?_ ?_ ?_ <;> (try refine ev_ ?_) <;> (try with_reducible exact ti_) <;> (try simp (disch := omega) only [qs, and_true, true_and])
   ·rw [hs2, if_neg hc']
   ·rfl
  ·rename_i hc0
   have hc' : ¬ topV (l.getD j 0) < k := hc0
   rw [hs2, if_neg hc', List.drop_of_length_le (by omega)]; rfl
set_option maxRecDepth 4000

theorem qmq (c : Int) : qz Tryz.prog 133 [.int .u8 c] (.bool (qcm c)) := by
 refine qj c0do (by simp) (by simp only [go_sem]) rfl fun hw => ?_
 repeat' (first | refine vs_ ?_ | ((first | refine vr_ ?_ | (refine cs_ ?_ ?_ <;> intro hc) | refine cj_ ?_ | fail) <;> (try refine ev_ ?_)) | with_reducible exact ti_)
 all_goals simp [qcm, *]
theorem q2b (c : Int) : qz Tryz.prog 135 [.int .u8 c] (.bool (onW c)) := by
 refine qj c0dp (by simp) (by simp only [go_sem]) rfl fun hw => ?_
 repeat' (first | refine vs_ ?_ | ((first | refine vr_ ?_ | refine qa (qmq _) fun _ => ?_ | (refine cs_ ?_ ?_ <;> intro hc) | refine cj_ ?_ | fail) <;> (try refine ev_ ?_)) | with_reducible exact ti_)
 all_goals simp only [onW, qmb, qke, *]
 all_goals first | (simp_all; done) | (simp_all; omega)
def qel (c : Int) : Bool := decide (c = 9) || decide (c = 10) || decide (c = 13) || decide (c = 32)
theorem qz5 (c : Int) : qz Tryz.prog 130 [.int .u8 c] (.bool (qel c)) := by
 refine qj c0dq (by simp) (by simp only [go_sem]) rfl fun hw => ?_
 repeat' (first | refine vs_ ?_ | ((first | refine vr_ ?_ | (refine cs_ ?_ ?_ <;> intro hc) | refine cj_ ?_ | fail) <;> (try refine ev_ ?_)) | with_reducible exact ti_)
 all_goals simp [qel, *]
def qkk (c : Int) : Bool := !decide (c = 10)
theorem q4y (c : Int) : qz Tryz.prog 132 [.int .u8 c] (.bool (qkk c)) := by
 refine qj c0dr (by simp) (by simp only [go_sem]) rfl fun hw => ?_
 repeat' (first | refine vs_ ?_ | ((first | refine vr_ ?_ | (refine cs_ ?_ ?_ <;> intro hc) | refine cj_ ?_ | fail) <;> (try refine ev_ ?_)) | with_reducible exact ti_)
 all_goals simp [qkk, *]

def qbg (f : Int → Bool) (l : List UInt8) : Nat := (l.takeWhile fun c => f c.toNat).length
theorem qee {f : Int → Bool} {l : List UInt8} {i : Nat} (h : i < l.length) : qbg f (l.drop i) = if f (l.getD i 0).toNat then qbg f (l.drop (i + 1)) + 1 else 0 := by
 rw [qei h, qbg, List.takeWhile_cons]
 split <;> simp [qbg]
theorem qj6 {so : FuncId} {f : Int → Bool} (h : ∀ c, qz Tryz.prog so [.int .u8 c] (.bool (f c))) (l : List UInt8) : qz Tryz.prog 129 [.str l, .fn so [] []] (.int .i64 (qbg f l)) := by
 refine qj c0ds (by simp) (by simp only [go_sem]) rfl fun hw => ?_
 have hl : l.length ≤ maxLen := hw.1
 repeat' (first | refine vs_ ?_ | ((first | refine vr_ ?_ | (refine cs_ ?_ ?_ <;> intro hc) | refine cj_ ?_ | simp (disch := omega) only [qh, qs]) <;> (try refine ev_ ?_)) | with_reducible exact ti_)
 refine qbm (S := Nat) (fun i => i ≤ l.length ∧ qbg f l = i + qbg f (l.drop i)) (fun i => (⟨[(0, .str l), (1, .fn so [] []), (7, .int .i64 l.length), (8, .int .i64 i)], []⟩, [])) (fun i => l.length - i) ?_ fun i hi => ?_
 ·refine q8 0 [] ⟨Nat.zero_le _, by simp⟩ rfl (by simp) ?_ ?_ ?_ <;> (try refine ev_ ?_) <;> (try with_reducible exact ti_) <;> (try simp (disch := omega) only [qs, and_true, true_and])
 ·obtain ⟨hi, ha⟩ := hi
  repeat' (first | refine vs_ ?_ | ((first | refine vr_ ?_ | refine qa (h _) fun _ => ?_ | (refine cs_ ?_ ?_ <;> intro hc) | refine cj_ ?_ | simp (disch := omega) only [qh, qs]) <;> (try refine ev_ ?_)) | with_reducible exact ti_)
  ·rw [ha, qee (by omega), hc]; simp
  ·refine q8 (i + 1) [] ⟨⟨by omega, ?_⟩, by omega⟩ rfl (by simp) ?_ ?_ ?_ <;> (try refine ev_ ?_) <;> (try with_reducible exact ti_) <;> (try simp (disch := omega) only [qs, and_true, true_and])
   rw [ha, qee (by omega), hc]; simp; omega
  ·have : i = l.length := by omega
   subst this
   rw [ha, List.drop_length]; simp [qbg]

def pfx (p l : List UInt8) : Bool := decide (l.take p.length = p)
theorem qrg (l p : List UInt8) : qz Tryz.prog 148 [.str l, .str p] (.bool (pfx p l)) := by
 refine qj c0dt (by simp) (by simp only [go_sem]) rfl fun hw => ?_
 repeat' (first | refine vs_ ?_ | ((first | refine vr_ ?_ | (refine cs_ ?_ ?_ <;> intro hc) | refine cj_ ?_ | fail) <;> (try refine ev_ ?_)) | with_reducible exact ti_)
 ·rfl
 ·rw [pfx, decide_eq_false]
  intro h
  have := congrArg List.length h
  rw [List.length_take] at this
  omega
theorem qgl (l p : List UInt8) : qz Tryz.prog 131 [.str l, .str p] (.bool (pfx p l)) := by
 refine qj c0du (by simp) (by simp only [go_sem]) rfl fun hw => ?_
 repeat' (first | refine vs_ ?_ | ((first | refine vr_ ?_ | refine qa (qrg _ _) fun _ => ?_ | (refine cs_ ?_ ?_ <;> intro hc) | refine cj_ ?_ | fail) <;> (try refine ev_ ?_)) | with_reducible exact ti_)

theorem qg3 (f : Int → Bool) (l : List UInt8) : qbg f l ≤ l.length := (List.takeWhile_sublist _).length_le
def qhx (l : List UInt8) : Nat := if pfx [45, 45] (l.drop (qbg qel l)) then qbg qel l + qbg qkk (l.drop (qbg qel l)) else qbg qel l
theorem qpy (l : List UInt8) : qhx l ≤ l.length := by
 unfold qhx
 have h1 := qg3 qel l
 have h2 := qg3 qkk (l.drop (qbg qel l))
 rw [List.length_drop] at h2
 split <;> omega
def qph : Nat → List UInt8 → Nat
 | 0, _ => 0
 | f + 1, l => if qhx l = 0 then 0 else qhx l + qph f (l.drop (qhx l))
def qc4 (l : List UInt8) : Nat := qph l.length l
theorem qo7 : ∀ (f g : Nat) (l : List UInt8), l.length ≤ f → l.length ≤ g → qph f l = qph g l
 | 0, 0, l, _, _ => rfl
 | 0, g + 1, l, h1, h2 => by
   have := qpy l
   rw [qph, qph, if_pos (by omega)]
 | f + 1, 0, l, h1, h2 => by
   have := qpy l
   rw [qph, qph, if_pos (by omega)]
 | f + 1, g + 1, l, h1, h2 => by
   rw [qph, qph]
   split
   ·rfl
   ·rename_i h
    rw [qo7 f g _ (by rw [List.length_drop]; omega) (by rw [List.length_drop]; omega)]
theorem qn8 {l : List UInt8} (h : qhx l = 0) : qc4 l = 0 := by
 unfold qc4
 cases l.length with
 | zero => rfl
 | succ n => rw [qph, if_pos h]
theorem qoe {l : List UInt8} (h : qhx l ≠ 0) : qc4 l = qhx l + qc4 (l.drop (qhx l)) := by
 have hk := qpy l
 unfold qc4
 obtain ⟨n, hn⟩ : ∃ n, l.length = n + 1 := ⟨l.length - 1, by omega⟩
 rw [hn, qph, if_neg h, qo7 n (l.drop (qhx l)).length _ (by rw [List.length_drop]; omega) (Nat.le_refl _)]
theorem qwl (l : List UInt8) : qc4 l ≤ l.length := by
 generalize hn : l.length = n
 induction n using Nat.strongRecOn generalizing l with
 | _ n ih =>
   subst hn
   by_cases h : qhx l = 0
   ·rw [qn8 h]; exact Nat.zero_le _
   ·have hk := qpy l
    have := ih (l.drop (qhx l)).length (by rw [List.length_drop]; omega) _ rfl
    rw [qoe h]; rw [List.length_drop] at this; omega
theorem q1d {l : List UInt8} (h : pfx [45, 45] (l.drop (qbg qel l)) = true) : qhx l = qbg qel l + qbg qkk (l.drop (qbg qel l)) := by rw [qhx, if_pos h]
theorem q1s {l : List UInt8} (h : pfx [45, 45] (l.drop (qbg qel l)) = false) : qhx l = qbg qel l := by rw [qhx, h]; rfl
theorem qcfb (a b : Nat) : (a : Int) + (b : Int) = ((a + b : Nat) : Int) := rfl

theorem quf (l : List UInt8) : qz Tryz.prog 100 [.str l] (.int .i64 (qc4 l)) := by
 refine qj c0dv (by simp) (by simp only [go_sem]) rfl fun hw => ?_
 have hl : l.length ≤ maxLen := hw.1
 repeat' (first | refine vs_ ?_ | ((first | refine vr_ ?_ | (refine cs_ ?_ ?_ <;> intro hc) | refine cj_ ?_ | simp (disch := omega) only [qh, qs]) <;> (try refine ev_ ?_)) | with_reducible exact ti_)
 refine qbm (S := Nat) (fun n => n ≤ l.length ∧ qc4 l = n + qc4 (l.drop n)) (fun n => (⟨[(0, .str l), (3, .int .i64 n)], []⟩, [])) (fun n => l.length - n) ?_ fun n hn => ?_
 ·refine q8 0 [] ⟨Nat.zero_le _, by simp⟩ rfl (by simp) ?_ ?_ ?_ <;> (try refine ev_ ?_) <;> (try with_reducible exact ti_) <;> (try simp (disch := omega) only [qs, and_true, true_and])
 ·obtain ⟨hn, ha⟩ := hn
  have h1 := qg3 qel (l.drop n)
  have h2 := qg3 qkk (l.drop (n + qbg qel (l.drop n)))
  rw [List.length_drop] at h1 h2
  repeat' (first | refine vs_ ?_ | ((first | refine vr_ ?_ | fail) <;> (try simp (disch := first | omega | (simp only [List.length_set, List.length_append, List.length_cons, List.length_nil]; done) | (simp only [List.length_set, List.length_append, List.length_cons, List.length_nil]; omega)) only [qe9, go_sem, ↓reduceIte])) | ((first | simp (disch := omega) only [qe9] | simp (disch := omega) only [qcfb] | simp (disch := omega) only [Int.toNat_natCast] | (refine cs_ ?_ ?_ <;> intro hc) | refine cj_ ?_ | simp (disch := omega) only [qh, qs] | refine qa (qj6 qz5 _) fun _ => ?_ | refine qa (qgl _ _) fun _ => ?_ | refine qa (qj6 q4y _) fun _ => ?_) <;> (try refine ev_ ?_)) | with_reducible exact ti_)
  ·rename_i hp _
   have hk := q1d (l := l.drop n) (by rw [List.drop_drop]; exact hp)
   rw [List.drop_drop] at hk
   rw [ha, qn8 (hk.trans (by omega))]; rfl
  ·rename_i hp _
   have hk := q1d (l := l.drop n) (by rw [List.drop_drop]; exact hp)
   rw [List.drop_drop] at hk
   refine q8 (n + qhx (l.drop n)) [] ⟨⟨by omega, ?_⟩, by omega⟩ rfl (by simp) ?_ ?_ ?_ <;> (try refine ev_ ?_) <;> (try with_reducible exact ti_) <;> (try simp (disch := omega) only [qs, and_true, true_and])
   ·rw [ha, qoe (l := l.drop n) (by omega), List.drop_drop]; omega
   ·rw [hk]
  ·rename_i hp
   have hk := q1s (l := l.drop n) (by rw [List.drop_drop]; exact hp)
   rw [ha, qn8 (hk.trans (by omega))]; rfl
  ·rename_i hp
   have hk := q1s (l := l.drop n) (by rw [List.drop_drop]; exact hp)
   refine q8 (n + qhx (l.drop n)) [] ⟨⟨by omega, ?_⟩, by omega⟩ rfl (by simp) ?_ ?_ ?_ <;> (try refine ev_ ?_) <;> (try with_reducible exact ti_) <;> (try simp (disch := omega) only [qs, and_true, true_and])
   ·rw [ha, qoe (l := l.drop n) (by omega), List.drop_drop]; omega
   ·rw [hk]

theorem qj5 {c : UInt8} {r : List UInt8} (h : qel c.toNat = true) : qc4 (c :: r) = 1 + qc4 r := by
 have hw : qbg qel (c :: r) = qbg qel r + 1 := by simp [qbg, List.takeWhile_cons, h]
 have hk : qhx (c :: r) = qhx r + 1 := by
  unfold qhx
  rw [hw, List.drop_succ_cons]
  split <;> omega
 rw [qoe (by omega), hk, List.drop_succ_cons]
 by_cases h0 : qhx r = 0
 ·rw [h0, qn8 h0]; simp [qn8 h0]
 ·rw [qoe h0]; omega
theorem qbf4 {a : UInt8} {p l : List UInt8} (h : pfx (a :: p) l = true) : ∃ r, l = a :: r := by
 cases l with
 | nil => simp [pfx] at h
 | cons b r => simp only [pfx, decide_eq_true_eq, List.length_cons, List.take_succ_cons, List.cons.injEq] at h; exact ⟨r, by rw [h.1]⟩
theorem q31 {l : List UInt8} (h : pfx [45, 45] l = true) : qc4 l = qbg qkk l + qc4 (l.drop (qbg qkk l)) := by
 obtain ⟨r, rfl⟩ := qbf4 h
 have hw : qbg qel (45 :: r) = 0 := by simp [qbg, qel]
 have hk : qhx (45 :: r) = qbg qkk (45 :: r) := by
  rw [q1d (by rw [hw]; exact h), hw]; simp
 have h1 : qbg qkk (45 :: r) ≠ 0 := by simp [qbg, qkk, List.takeWhile_cons]
 rw [qoe (by omega), hk]
theorem quc {l : List UInt8} (h : pfx [45, 45] l = false) (hb : qbg qel l = 0) : qc4 l = 0 := by
 rw [qn8]
 rw [q1s (by rw [hb]; exact h), hb]
end Go.Proofs.YtfjbmjplnmaclaaGreat
