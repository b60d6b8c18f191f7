/- Texts of this proof, joined. -/
import Derived.Test.YtfjbmjplnmaclaaGreatPai
import Derived.Test.YtfjbmjplnmaclaaGreatPan

/- the lexer's words: numbers -/
set_option maxRecDepth 4000
namespace Go.Proofs.YtfjbmjplnmaclaaGreat
open Go Go.RowKit Go.V
set_option linter.unusedVariables false
set_option linter.unusedSimpArgs false

theorem qbbz : IntKind.i64.wrap (0 + 1) = 1 := by decide
def digW (l : List UInt8) : Bool := l.all fun c => qcn c.toNat
theorem qns {l : List UInt8} {i : Nat} (h : i < l.length) : digW (l.drop i) = (qcn (l.getD i 0).toNat && digW (l.drop (i + 1))) := by
 rw [qel h]; rfl

def digV (c : UInt8) : Int := IntKind.i64.wrap (IntKind.u8.wrap ((c.toNat : Int) - 48))
def topV (c : UInt8) : Int := IntKind.i64.wrap ((IntKind.i64.wrap (9223372036854775807 - digV c)).tdiv 10)
def nxtV (k : Int) (c : UInt8) : Int := IntKind.i64.wrap (IntKind.i64.wrap (10 * k) + digV c)
def qli : Int → List UInt8 → Int × Int
 | k, [] => (k, 0)
 | k, c :: r => if topV c < k then (0, 4) else qli (nxtV k c) r
def qpo (l : List UInt8) : Int × Int := if l = [] then (0, 5) else if digW l = true then qli 0 l else (0, 5)
def qb1i (p : Int × Int) : AV := .tup [.int .i64 p.1, .int .i64 p.2]
theorem qop {l : List UInt8} {i : Nat} (h : i < l.length) (k : Int) : qli k (l.drop i) = if topV (l.getD i 0) < k then (0, 4) else qli (nxtV k (l.getD i 0)) (l.drop (i + 1)) := by
 rw [qel h]; rfl
theorem q57 {c : Int} (h : c < 48 ∨ 57 < c) : qcn c = false := by
 simp only [qcn, Bool.and_eq_false_iff, decide_eq_false_iff_not]; omega
theorem q62 {c : Int} (h : ¬ c < 48) (h2 : ¬ 57 < c) : qcn c = true := by
 simp only [qcn, Bool.and_eq_true, decide_eq_true_eq]; omega
theorem qk1 {l : List UInt8} (h : l ≠ []) (hd : digW l = true) : qpo l = qli 0 l := by rw [qpo, if_neg h, if_pos hd]
theorem qxt {l : List UInt8} (hd : digW l = false) : qpo l = (0, 5) := by rw [qpo, hd]; simp

theorem q5k (l : List UInt8) : qz Tryz.prog 74 [.str l] (qb1i (qpo l)) := by
 refine qj c0du (by simp) (by simp only [go_sem]) rfl fun hw => ?_
 have hl : l.length ≤ maxLen := hw.1
 repeat' (first | refine vs_ ?_ | ((first | refine vr_ ?_ | (refine cs_ ?_ ?_ <;> intro hc) | refine cj_ ?_ | simp (disch := omega) only [qh, qs]) <;> (try refine ev_ ?_)) | with_reducible exact ti_)
 ·subst hc; rfl
 ·refine qbm (S := Nat) (fun i => i ≤ l.length ∧ digW (l.drop i) = digW l) (fun i => (⟨[(0, .str l), (4, .int .i64 i)], []⟩, [])) (fun i => l.length - i) ?_ fun i hi => ?_
  ·refine q8 0 [] ⟨Nat.zero_le _, rfl⟩ rfl (by simp) ?_ ?_ ?_ <;> (try refine ev_ ?_) <;> (try with_reducible exact ti_) <;> (try simp (disch := omega) only [qs, and_true, true_and])
  ·obtain ⟨hi, ha⟩ := hi
   have hs : i < l.length → qcn (l.getD i 0).toNat = false → qpo l = (0, 5) := fun h h2 => qxt (by rw [← ha, qns h, h2]; rfl)
   repeat' (first | refine vs_ ?_ | ((first | refine vr_ ?_ | (refine cs_ ?_ ?_ <;> intro hc) | refine cj_ ?_ | simp (disch := omega) only [qh, qs]) <;> (try refine ev_ ?_)) | with_reducible exact ti_)
   ·rw [hs (by omega) (q57 (by omega))]; rfl
   ·rw [hs (by omega) (q57 (by omega))]; rfl
   ·refine q8 (i + 1) [] ⟨⟨by omega, ?_⟩, by omega⟩ rfl (by simp) ?_ ?_ ?_ <;> (try refine ev_ ?_) <;> (try with_reducible exact ti_) <;> (try simp (disch := omega) only [qs, and_true, true_and])
    have hd : qcn (l.getD i 0).toNat = true := q62 (by omega) (by omega)
    rw [← ha, qns (l := l) (i := i) (by omega), hd, Bool.true_and]
   ·have hd : digW l = true := by rw [← ha, List.drop_of_length_le (by omega)]; rfl
    rw [qk1 (by assumption) hd]
    refine qbm (S := Nat × Int) (fun s => s.1 ≤ l.length ∧ qli s.2 (l.drop s.1) = qli 0 l) (fun s => (⟨[(0, .str l), (5, .int .i64 s.2), (6, .int .i64 s.1)], []⟩, [])) (fun s => l.length - s.1) ?_ fun s hs => ?_
    ·refine q8 (0, 0) [] ⟨Nat.zero_le _, rfl⟩ rfl (by simp) ?_ ?_ ?_ <;> (try refine ev_ ?_) <;> (try with_reducible exact ti_) <;> (try simp (disch := omega) only [qs, and_true, true_and])
    ·obtain ⟨j, k⟩ := s
     obtain ⟨hj, hr⟩ := hs
     dsimp only at hj hr
     have hs2 : j < l.length → qli 0 l = if topV (l.getD j 0) < k then (0, 4) else qli (nxtV k (l.getD j 0)) (l.drop (j + 1)) := fun h => by rw [← hr, qop h]
     repeat' (first | refine vs_ ?_ | ((first | refine vr_ ?_ | (refine cs_ ?_ ?_ <;> intro hc) | refine cj_ ?_ | simp (disch := omega) only [qh, qs]) <;> (try refine ev_ ?_)) | with_reducible exact ti_)
     ·have hc' : topV (l.getD j 0) < k := hc
      rw [hs2 (by omega), if_pos hc']; rfl
     ·have hc' : ¬ topV (l.getD j 0) < k := hc
      refine q8 (j + 1, nxtV k (l.getD j 0)) [] ⟨⟨by omega, ?_⟩, by omega⟩ rfl (by simp) ?_ ?_ ?_ <;> (try refine ev_ ?_) <;> (try with_reducible exact ti_) <;> (try simp (disch := omega) only [qs, and_true, true_and])
      ·rw [hs2 (by omega), if_neg hc']
      ·rfl
     ·rw [← hr, List.drop_of_length_le (by omega)]; rfl

theorem q99 (l : List UInt8) : qz Tryz.prog 134 [.str l] (qb1i (qpo l)) := by
 refine qj c0dv (by simp) (by simp only [go_sem]) rfl fun hw => ?_
 have hl : l.length ≤ maxLen := hw.1
 refine qbmf (q7c ?_)
 (refine ev_ ?_; (try with_reducible exact ti_))
 refine qbbo (S := Nat × Int) 0 rfl (fun s => s.1 < l.length ∧ digW l = true ∧ qli s.2 (l.drop s.1) = qli 0 l) (fun s => (⟨[(0, .str l), (5, .int .i64 s.2), (6, .int .i64 s.1)], []⟩, [])) (fun s => l.length - s.1) ?_ fun s hs => ?_
 ·repeat' (first | refine vs_ ?_ | ((first | refine vr_ ?_ | (refine cs_ ?_ ?_ <;> intro hc) | refine cj_ ?_ | simp (disch := omega) only [qh, qs]) <;> (try refine ev_ ?_)) | with_reducible exact ti_)
  refine qbm (S := Nat) (fun i => i ≤ l.length ∧ digW (l.drop i) = digW l) (fun i => (⟨[(0, .str l), (9, .int .i64 l.length), (10, .int .i64 i)], []⟩, [])) (fun i => l.length - i) ?_ fun i hi => ?_
  ·refine q8 0 [] ⟨Nat.zero_le _, rfl⟩ rfl (by simp) ?_ ?_ ?_ <;> (try refine ev_ ?_) <;> (try with_reducible exact ti_) <;> (try simp (disch := omega) only [qs, and_true, true_and])
  ·obtain ⟨hi, ha⟩ := hi
   have hs : i < l.length → qcn (l.getD i 0).toNat = false → qpo l = (0, 5) := fun h h2 => qxt (by rw [← ha, qns h, h2]; rfl)
   have hs2 : 0 < l.length → qli 0 l = if topV (l.getD 0 0) < 0 then (0, 4) else qli (nxtV 0 (l.getD 0 0)) (l.drop 1) := fun h => by
    have := qop (l := l) (i := 0) h 0
    rwa [List.drop_zero] at this
   have hdig : ¬ (i : Int) < l.length → digW l = true := fun h => by rw [← ha, List.drop_of_length_le (by omega)]; rfl
   repeat' (first | refine vs_ ?_ | ((first | refine vr_ ?_ | simp (disch := omega) only [qs] | simp (disch := omega) only [qbbz] | (refine cs_ ?_ ?_ <;> intro hc) | refine cj_ ?_ | simp (disch := omega) only [qh, qs]) <;> (try refine ev_ ?_)) | with_reducible exact ti_)
   all_goals first
    | (rw [hs (by omega) (q57 (by omega))]; rfl)
    | (refine q8 (i + 1) [] ⟨⟨by omega, ?_⟩, by omega⟩ rfl (by simp) ?_ ?_ ?_ <;> (try refine ev_ ?_) <;> (try with_reducible exact ti_) <;> (try simp (disch := omega) only [qs, and_true, true_and])
       have hd : qcn (l.getD i 0).toNat = true := q62 (by omega) (by omega)
       rw [← ha, qns (l := l) (i := i) (by omega), hd, Bool.true_and])
    | (subst hc; rfl)
    | skip
   ·have hlp := quy (by assumption)
    have hd := hdig (by assumption)
    have hc' : topV (l.getD 0 0) < 0 := hc
    rw [qk1 (by assumption) hd, hs2 hlp, if_pos hc']; rfl
   ·rename_i hc0
    have hlp := quy (by assumption)
    have hd := hdig (by assumption)
    have hc' : ¬ topV (l.getD 0 0) < 0 := hc0
    refine q8 (1, nxtV 0 (l.getD 0 0)) [] ⟨by omega, hd, ?_⟩ rfl (by simp) ?_ ?_ ?_ <;> (try refine ev_ ?_) <;> (try with_reducible exact ti_) <;> (try simp (disch := omega) only [qs, and_true, true_and])
    ·rw [hs2 hlp, if_neg hc']
    ·rfl
   ·rename_i hc0
    have hlp := quy (by assumption)
    have hd := hdig (by assumption)
    have hc' : ¬ topV (l.getD 0 0) < 0 := hc0
    rw [qk1 (by assumption) hd, hs2 hlp, if_neg hc', List.drop_of_length_le (by omega)]; rfl
 ·obtain ⟨j, k⟩ := s
  obtain ⟨hj, hd, hr⟩ := hs
  dsimp only at hj hr
  have hs2 : qli 0 l = if topV (l.getD j 0) < k then (0, 4) else qli (nxtV k (l.getD j 0)) (l.drop (j + 1)) := by rw [← hr, qop hj]
  have hne : l ≠ [] := fun e => by subst e; simp at hj
  rw [qk1 hne hd]
  repeat' (first | refine vs_ ?_ | ((first | refine vr_ ?_ | simp (disch := omega) only [qs] | simp (disch := omega) only [qbbz] | (refine cs_ ?_ ?_ <;> intro hc) | refine cj_ ?_ | simp (disch := omega) only [qh, qs]) <;> (try refine ev_ ?_)) | with_reducible exact ti_)
  ·have hc' : topV (l.getD j 0) < k := hc
   rw [hs2, if_pos hc']; rfl
  ·rename_i hc0
   have hc' : ¬ topV (l.getD j 0) < k := hc0
   refine q8 (j + 1, nxtV k (l.getD j 0)) [] ⟨⟨by omega, hd, ?_⟩, by omega⟩ rfl (by simp) ?_ ?_ ?_ <;> (try refine ev_ ?_) <;> (try with_reducible exact ti_) <;> (try simp (disch := omega) only [qs, and_true, true_and])
   ·rw [hs2, if_neg hc']
   ·rfl
  ·rename_i hc0
   have hc' : ¬ topV (l.getD j 0) < k := hc0
   rw [hs2, if_neg hc', List.drop_of_length_le (by omega)]; rfl
set_option maxRecDepth 4000

theorem qmc (c : Int) : qz Tryz.prog 133 [.int .u8 c] (.bool (qcn c)) := by
 refine qj c0dm (by simp) (by simp only [go_sem]) rfl fun hw => ?_
 repeat' (first | refine vs_ ?_ | ((first | refine vr_ ?_ | (refine cs_ ?_ ?_ <;> intro hc) | refine cj_ ?_ | fail) <;> (try refine ev_ ?_)) | with_reducible exact ti_)
 all_goals simp [qcn, *]
theorem q1k (c : Int) : qz Tryz.prog 135 [.int .u8 c] (.bool (onW c)) := by
 refine qj c0dn (by simp) (by simp only [go_sem]) rfl fun hw => ?_
 repeat' (first | refine vs_ ?_ | ((first | refine vr_ ?_ | refine qa (qmc _) fun _ => ?_ | (refine cs_ ?_ ?_ <;> intro hc) | refine cj_ ?_ | fail) <;> (try refine ev_ ?_)) | with_reducible exact ti_)
 all_goals simp only [onW, ql3, qj9, *]
 all_goals first | (simp_all; done) | (simp_all; omega)
def qeh (c : Int) : Bool := decide (c = 9) || decide (c = 10) || decide (c = 13) || decide (c = 32)
theorem qzs (c : Int) : qz Tryz.prog 130 [.int .u8 c] (.bool (qeh c)) := by
 refine qj c0do (by simp) (by simp only [go_sem]) rfl fun hw => ?_
 repeat' (first | refine vs_ ?_ | ((first | refine vr_ ?_ | (refine cs_ ?_ ?_ <;> intro hc) | refine cj_ ?_ | fail) <;> (try refine ev_ ?_)) | with_reducible exact ti_)
 all_goals simp [qeh, *]
def qkf (c : Int) : Bool := !decide (c = 10)
theorem q4w (c : Int) : qz Tryz.prog 132 [.int .u8 c] (.bool (qkf c)) := by
 refine qj c0dp (by simp) (by simp only [go_sem]) rfl fun hw => ?_
 repeat' (first | refine vs_ ?_ | ((first | refine vr_ ?_ | (refine cs_ ?_ ?_ <;> intro hc) | refine cj_ ?_ | fail) <;> (try refine ev_ ?_)) | with_reducible exact ti_)
 all_goals simp [qkf, *]

def qbg (f : Int → Bool) (l : List UInt8) : Nat := (l.takeWhile fun c => f c.toNat).length
theorem qee {f : Int → Bool} {l : List UInt8} {i : Nat} (h : i < l.length) : qbg f (l.drop i) = if f (l.getD i 0).toNat then qbg f (l.drop (i + 1)) + 1 else 0 := by
 rw [qel h, qbg, List.takeWhile_cons]
 split <;> simp [qbg]
theorem qjv {so : FuncId} {f : Int → Bool} (h : ∀ c, qz Tryz.prog so [.int .u8 c] (.bool (f c))) (l : List UInt8) : qz Tryz.prog 129 [.str l, .fn so [] []] (.int .i64 (qbg f l)) := by
 refine qj c0dq (by simp) (by simp only [go_sem]) rfl fun hw => ?_
 have hl : l.length ≤ maxLen := hw.1
 repeat' (first | refine vs_ ?_ | ((first | refine vr_ ?_ | (refine cs_ ?_ ?_ <;> intro hc) | refine cj_ ?_ | simp (disch := omega) only [qh, qs]) <;> (try refine ev_ ?_)) | with_reducible exact ti_)
 refine qbm (S := Nat) (fun i => i ≤ l.length ∧ qbg f l = i + qbg f (l.drop i)) (fun i => (⟨[(0, .str l), (1, .fn so [] []), (7, .int .i64 l.length), (8, .int .i64 i)], []⟩, [])) (fun i => l.length - i) ?_ fun i hi => ?_
 ·refine q8 0 [] ⟨Nat.zero_le _, by simp⟩ rfl (by simp) ?_ ?_ ?_ <;> (try refine ev_ ?_) <;> (try with_reducible exact ti_) <;> (try simp (disch := omega) only [qs, and_true, true_and])
 ·obtain ⟨hi, ha⟩ := hi
  repeat' (first | refine vs_ ?_ | ((first | refine vr_ ?_ | refine qa (h _) fun _ => ?_ | (refine cs_ ?_ ?_ <;> intro hc) | refine cj_ ?_ | simp (disch := omega) only [qh, qs]) <;> (try refine ev_ ?_)) | with_reducible exact ti_)
  ·rw [ha, qee (by omega), hc]; simp
  ·refine q8 (i + 1) [] ⟨⟨by omega, ?_⟩, by omega⟩ rfl (by simp) ?_ ?_ ?_ <;> (try refine ev_ ?_) <;> (try with_reducible exact ti_) <;> (try simp (disch := omega) only [qs, and_true, true_and])
   rw [ha, qee (by omega), hc]; simp; omega
  ·have : i = l.length := by omega
   subst this
   rw [ha, List.drop_length]; simp [qbg]

def pfx (p l : List UInt8) : Bool := decide (l.take p.length = p)
theorem qrp (l p : List UInt8) : qz Tryz.prog 148 [.str l, .str p] (.bool (pfx p l)) := by
 refine qj c0dr (by simp) (by simp only [go_sem]) rfl fun hw => ?_
 repeat' (first | refine vs_ ?_ | ((first | refine vr_ ?_ | (refine cs_ ?_ ?_ <;> intro hc) | refine cj_ ?_ | fail) <;> (try refine ev_ ?_)) | with_reducible exact ti_)
 ·rfl
 ·rw [pfx, decide_eq_false]
  intro h
  have := congrArg List.length h
  rw [List.length_take] at this
  omega
theorem qgl (l p : List UInt8) : qz Tryz.prog 131 [.str l, .str p] (.bool (pfx p l)) := by
 refine qj c0ds (by simp) (by simp only [go_sem]) rfl fun hw => ?_
 repeat' (first | refine vs_ ?_ | ((first | refine vr_ ?_ | refine qa (qrp _ _) fun _ => ?_ | (refine cs_ ?_ ?_ <;> intro hc) | refine cj_ ?_ | fail) <;> (try refine ev_ ?_)) | with_reducible exact ti_)

theorem qg6 (f : Int → Bool) (l : List UInt8) : qbg f l ≤ l.length := (List.takeWhile_sublist _).length_le
def qib (l : List UInt8) : Nat := if pfx [45, 45] (l.drop (qbg qeh l)) then qbg qeh l + qbg qkf (l.drop (qbg qeh l)) else qbg qeh l
theorem qqa (l : List UInt8) : qib l ≤ l.length := by
 unfold qib
 have h1 := qg6 qeh l
 have h2 := qg6 qkf (l.drop (qbg qeh l))
 rw [List.length_drop] at h2
 split <;> omega
def qpk : Nat → List UInt8 → Nat
 | 0, _ => 0
 | f + 1, l => if qib l = 0 then 0 else qib l + qpk f (l.drop (qib l))
def qc4 (l : List UInt8) : Nat := qpk l.length l
theorem qov : ∀ (f g : Nat) (l : List UInt8), l.length ≤ f → l.length ≤ g → qpk f l = qpk g l
 | 0, 0, l, _, _ => rfl
 | 0, g + 1, l, h1, h2 => by
   have := qqa l
   rw [qpk, qpk, if_pos (by omega)]
 | f + 1, 0, l, h1, h2 => by
   have := qqa l
   rw [qpk, qpk, if_pos (by omega)]
 | f + 1, g + 1, l, h1, h2 => by
   rw [qpk, qpk]
   split
   ·rfl
   ·rename_i h
    rw [qov f g _ (by rw [List.length_drop]; omega) (by rw [List.length_drop]; omega)]
theorem qoo {l : List UInt8} (h : qib l = 0) : qc4 l = 0 := by
 unfold qc4
 cases l.length with
 | zero => rfl
 | succ n => rw [qpk, if_pos h]
theorem qn1 {l : List UInt8} (h : qib l ≠ 0) : qc4 l = qib l + qc4 (l.drop (qib l)) := by
 have hk := qqa l
 unfold qc4
 obtain ⟨n, hn⟩ : ∃ n, l.length = n + 1 := ⟨l.length - 1, by omega⟩
 rw [hn, qpk, if_neg h, qov n (l.drop (qib l)).length _ (by rw [List.length_drop]; omega) (Nat.le_refl _)]
theorem qwl (l : List UInt8) : qc4 l ≤ l.length := by
 generalize hn : l.length = n
 induction n using Nat.strongRecOn generalizing l with
 | _ n ih =>
   subst hn
   by_cases h : qib l = 0
   ·rw [qoo h]; exact Nat.zero_le _
   ·have hk := qqa l
    have := ih (l.drop (qib l)).length (by rw [List.length_drop]; omega) _ rfl
    rw [qn1 h]; rw [List.length_drop] at this; omega
theorem qzt {l : List UInt8} (h : pfx [45, 45] (l.drop (qbg qeh l)) = true) : qib l = qbg qeh l + qbg qkf (l.drop (qbg qeh l)) := by rw [qib, if_pos h]
theorem qz8 {l : List UInt8} (h : pfx [45, 45] (l.drop (qbg qeh l)) = false) : qib l = qbg qeh l := by rw [qib, h]; rfl
theorem qcir (a b : Nat) : (a : Int) + (b : Int) = ((a + b : Nat) : Int) := rfl

theorem qtg (l : List UInt8) : qz Tryz.prog 100 [.str l] (.int .i64 (qc4 l)) := by
 refine qj c0dt (by simp) (by simp only [go_sem]) rfl fun hw => ?_
 have hl : l.length ≤ maxLen := hw.1
 repeat' (first | refine vs_ ?_ | ((first | refine vr_ ?_ | (refine cs_ ?_ ?_ <;> intro hc) | refine cj_ ?_ | simp (disch := omega) only [qh, qs]) <;> (try refine ev_ ?_)) | with_reducible exact ti_)
 refine qbm (S := Nat) (fun n => n ≤ l.length ∧ qc4 l = n + qc4 (l.drop n)) (fun n => (⟨[(0, .str l), (3, .int .i64 n)], []⟩, [])) (fun n => l.length - n) ?_ fun n hn => ?_
 ·refine q8 0 [] ⟨Nat.zero_le _, by simp⟩ rfl (by simp) ?_ ?_ ?_ <;> (try refine ev_ ?_) <;> (try with_reducible exact ti_) <;> (try simp (disch := omega) only [qs, and_true, true_and])
 ·obtain ⟨hn, ha⟩ := hn
  have h1 := qg6 qeh (l.drop n)
  have h2 := qg6 qkf (l.drop (n + qbg qeh (l.drop n)))
  rw [List.length_drop] at h1 h2
  repeat' (first | refine vs_ ?_ | ((first | refine vr_ ?_ | fail) <;> (try simp (disch := first | omega | (simp only [List.length_set, List.length_append, List.length_cons, List.length_nil]; done) | (simp only [List.length_set, List.length_append, List.length_cons, List.length_nil]; omega)) only [qe9, go_sem, ↓reduceIte])) | ((first | simp (disch := omega) only [qe9] | simp (disch := omega) only [qcir] | simp (disch := omega) only [Int.toNat_natCast] | (refine cs_ ?_ ?_ <;> intro hc) | refine cj_ ?_ | simp (disch := omega) only [qh, qs] | refine qa (qjv qzs _) fun _ => ?_ | refine qa (qgl _ _) fun _ => ?_ | refine qa (qjv q4w _) fun _ => ?_) <;> (try refine ev_ ?_)) | with_reducible exact ti_)
  ·rename_i hp _
   have hk := qzt (l := l.drop n) (by rw [List.drop_drop]; exact hp)
   rw [List.drop_drop] at hk
   rw [ha, qoo (hk.trans (by omega))]; rfl
  ·rename_i hp _
   have hk := qzt (l := l.drop n) (by rw [List.drop_drop]; exact hp)
   rw [List.drop_drop] at hk
   refine q8 (n + qib (l.drop n)) [] ⟨⟨by omega, ?_⟩, by omega⟩ rfl (by simp) ?_ ?_ ?_ <;> (try refine ev_ ?_) <;> (try with_reducible exact ti_) <;> (try simp (disch := omega) only [qs, and_true, true_and])
   ·rw [ha, qn1 (l := l.drop n) (by omega), List.drop_drop]; omega
   ·rw [hk]
  ·rename_i hp
   have hk := qz8 (l := l.drop n) (by rw [List.drop_drop]; exact hp)
   rw [ha, qoo (hk.trans (by omega))]; rfl
  ·rename_i hp
   have hk := qz8 (l := l.drop n) (by rw [List.drop_drop]; exact hp)
   refine q8 (n + qib (l.drop n)) [] ⟨⟨by omega, ?_⟩, by omega⟩ rfl (by simp) ?_ ?_ ?_ <;> (try refine ev_ ?_) <;> (try with_reducible exact ti_) <;> (try simp (disch := omega) only [qs, and_true, true_and])
   ·rw [ha, qn1 (l := l.drop n) (by omega), List.drop_drop]; omega
   ·rw [hk]

theorem qjk {c : UInt8} {r : List UInt8} (h : qeh c.toNat = true) : qc4 (c :: r) = 1 + qc4 r := by
 have hw : qbg qeh (c :: r) = qbg qeh r + 1 := by simp [qbg, List.takeWhile_cons, h]
 have hk : qib (c :: r) = qib r + 1 := by
  unfold qib
  rw [hw, List.drop_succ_cons]
  split <;> omega
 rw [qn1 (by omega), hk, List.drop_succ_cons]
 by_cases h0 : qib r = 0
 ·rw [h0, qoo h0]; simp [qoo h0]
 ·rw [qn1 h0]; omega
theorem qbci {a : UInt8} {p l : List UInt8} (h : pfx (a :: p) l = true) : ∃ r, l = a :: r := by
 cases l with
 | nil => simp [pfx] at h
 | cons b r => simp only [pfx, decide_eq_true_eq, List.length_cons, List.take_succ_cons, List.cons.injEq] at h; exact ⟨r, by rw [h.1]⟩
theorem q46 {l : List UInt8} (h : pfx [45, 45] l = true) : qc4 l = qbg qkf l + qc4 (l.drop (qbg qkf l)) := by
 obtain ⟨r, rfl⟩ := qbci h
 have hw : qbg qeh (45 :: r) = 0 := by simp [qbg, qeh]
 have hk : qib (45 :: r) = qbg qkf (45 :: r) := by
  rw [qzt (by rw [hw]; exact h), hw]; simp
 have h1 : qbg qkf (45 :: r) ≠ 0 := by simp [qbg, qkf, List.takeWhile_cons]
 rw [qn1 (by omega), hk]
theorem qtw {l : List UInt8} (h : pfx [45, 45] l = false) (hb : qbg qeh l = 0) : qc4 l = 0 := by
 rw [qoo]
 rw [qz8 (by rw [hb]; exact h), hb]
end Go.Proofs.YtfjbmjplnmaclaaGreat
