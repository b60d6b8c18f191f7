/- Texts of this proof, joined. -/
import Derived.Test.YtmekebfgmjaenaaRag
import Derived.Test.YtmekebfgmjaenaaRaq

/- the lexer's words: numbers -/
set_option maxRecDepth 4000
namespace Go.Proofs.Ytmekebfgmjaenaa
open Go Go.RowKit Go.V
set_option linter.unusedVariables false
set_option linter.unusedSimpArgs false

theorem qzv : IntKind.i64.wrap (0 + 1) = 1 := by decide
def digW (l : List UInt8) : Bool := l.all fun c => qb6 c.toNat
theorem qsd {l : List UInt8} {i : Nat} (h : i < l.length) : digW (l.drop i) = (qb6 (l.getD i 0).toNat && digW (l.drop (i + 1))) := by
  rw [qi7 h]; rfl

def digV (c : UInt8) : Int := IntKind.i64.wrap (IntKind.u8.wrap ((c.toNat : Int) - 48))
def topV (c : UInt8) : Int := IntKind.i64.wrap ((IntKind.i64.wrap (9223372036854775807 - digV c)).tdiv 10)
def nxtV (k : Int) (c : UInt8) : Int := IntKind.i64.wrap (IntKind.i64.wrap (10 * k) + digV c)
def qlz : Int → List UInt8 → Int × Int
  | k, [] => (k, 0)
  | k, c :: r => if topV c < k then (0, 4) else qlz (nxtV k c) r
/-- The number that a text is, and the error. -/
def qod (l : List UInt8) : Int × Int := if l = [] then (0, 5) else if digW l = true then qlz 0 l else (0, 5)
def qbn4 (p : Int × Int) : AV := .tup [.int .i64 p.1, .int .i64 p.2]
theorem qpf {l : List UInt8} {i : Nat} (h : i < l.length) (k : Int) : qlz k (l.drop i) = if topV (l.getD i 0) < k then (0, 4) else qlz (nxtV k (l.getD i 0)) (l.drop (i + 1)) := by
  rw [qi7 h]; rfl
theorem qbio {c : Int} (h : c < 48 ∨ 57 < c) : qb6 c = false := by
  simp only [qb6, Bool.and_eq_false_iff, decide_eq_false_iff_not]; omega
theorem qbg9 {c : Int} (h : ¬ c < 48) (h2 : ¬ 57 < c) : qb6 c = true := by
  simp only [qb6, Bool.and_eq_true, decide_eq_true_eq]; omega
theorem qns {l : List UInt8} (h : l ≠ []) (hd : digW l = true) : qod l = qlz 0 l := by rw [qod, if_neg h, if_pos hd]
theorem q1i {l : List UInt8} (hd : digW l = false) : qod l = (0, 5) := by rw [qod, hd]; simp

theorem qsp (l : List UInt8) : qda Try.prog 37 [.str l] (qbn4 (qod l)) := by
  refine qb3 c0cc (by simp) (by simp only [go_sem]) rfl fun hw => ?_
  have hl : l.length ≤ maxLen := hw.1
  refine ql (qn ?_)
  simp only [go_sem, ↓reduceIte, Nat.reduceEqDiff, Nat.reduceAdd, Nat.reduceSub, Nat.reduceMul, Nat.reduceLT, Nat.reduceLeDiff, reduceCtorEq, Int.reduceToNat]
  refine qy8 (S := Nat × Int) 0 rfl (fun s => s.1 < l.length ∧ digW l = true ∧ qlz s.2 (l.drop s.1) = qlz 0 l) (fun s => (⟨[(0, .str l), (5, .int .i64 s.2), (6, .int .i64 s.1)], []⟩, [])) (fun s => l.length - s.1) ?_ fun s hs => ?_
  · repeat' (first | refine ql ?_ | refine qk ?_ | refine qd9 ?_ | ((first | refine qn ?_ | refine qef ?_ | refine qfj ?_ | refine qm ?_ | refine qz ?_ | refine qj ?_ | refine qi ?_ | ((first | refine qf ?_ ?_ | refine qc ?_ ?_) <;> intro hc <;> (try simp only [hc]) <;> (try simp only [qb, qa, decide_eq_true_eq, decide_eq_false_iff_not, Bool.and_eq_true] at hc)) | refine And.intro (by first | assumption | omega | (have := qh (by assumption); omega) | (unfold qs; omega)) ?_ | simp (disch := omega) only [qd] | simp (disch := omega) only [qr]) <;> (try simp only [go_sem, ↓reduceIte, Nat.reduceEqDiff, Nat.reduceAdd, Nat.reduceSub, Nat.reduceMul, Nat.reduceLT, Nat.reduceLeDiff, reduceCtorEq, Int.reduceToNat])))
    refine qc7 (S := Nat) (fun i => i ≤ l.length ∧ digW (l.drop i) = digW l) (fun i => (⟨[(0, .str l), (9, .int .i64 l.length), (10, .int .i64 i)], []⟩, [])) (fun i => l.length - i) ?_ fun i hi => ?_
    · refine qcq 0 [] ⟨Nat.zero_le _, rfl⟩ rfl (by simp) ?_ ?_ ?_ <;> (try simp only [go_sem, ↓reduceIte, Nat.reduceEqDiff, Nat.reduceAdd, Nat.reduceSub, Nat.reduceMul, Nat.reduceLT, Nat.reduceLeDiff, reduceCtorEq, Int.reduceToNat]) <;> (try simp (disch := omega) only [qr])
    · obtain ⟨hi, ha⟩ := hi
      have hs : i < l.length → qb6 (l.getD i 0).toNat = false → qod l = (0, 5) := fun h h2 => q1i (by rw [← ha, qsd h, h2]; rfl)
      have hs2 : 0 < l.length → qlz 0 l = if topV (l.getD 0 0) < 0 then (0, 4) else qlz (nxtV 0 (l.getD 0 0)) (l.drop 1) := fun h => by
        have := qpf (l := l) (i := 0) h 0
        rwa [List.drop_zero] at this
      have hdig : ¬ (i : Int) < l.length → digW l = true := fun h => by rw [← ha, List.drop_of_length_le (by omega)]; rfl
      repeat' (first | refine ql ?_ | refine qk ?_ | refine qd9 ?_ | ((first | refine qn ?_ | refine qef ?_ | refine qfj ?_ | refine qm ?_ | refine qz ?_ | refine qj ?_ | refine qi ?_ | simp (disch := omega) only [qr] | simp (disch := omega) only [qzv] | ((first | refine qf ?_ ?_ | refine qc ?_ ?_) <;> intro hc <;> (try simp only [hc]) <;> (try simp only [qb, qa, decide_eq_true_eq, decide_eq_false_iff_not, Bool.and_eq_true] at hc)) | refine And.intro (by first | assumption | omega | (have := qh (by assumption); omega) | (unfold qs; omega)) ?_ | simp (disch := omega) only [qd] | simp (disch := omega) only [qr]) <;> (try simp only [go_sem, ↓reduceIte, Nat.reduceEqDiff, Nat.reduceAdd, Nat.reduceSub, Nat.reduceMul, Nat.reduceLT, Nat.reduceLeDiff, reduceCtorEq, Int.reduceToNat])))
      all_goals first
        | (rw [hs (by omega) (qbio (by omega))]; rfl)
        | (refine qcq (i + 1) [] ⟨⟨by omega, ?_⟩, by omega⟩ rfl (by simp) ?_ ?_ ?_ <;> (try simp only [go_sem, ↓reduceIte, Nat.reduceEqDiff, Nat.reduceAdd, Nat.reduceSub, Nat.reduceMul, Nat.reduceLT, Nat.reduceLeDiff, reduceCtorEq, Int.reduceToNat]) <;> (try simp (disch := omega) only [qr])
           have hd : qb6 (l.getD i 0).toNat = true := qbg9 (by omega) (by omega)
           rw [← ha, qsd (l := l) (i := i) (by omega), hd, Bool.true_and])
        | (subst hc; rfl)
        | skip
      · have hlp := qh (by assumption)
        have hd := hdig (by assumption)
        have hc' : topV (l.getD 0 0) < 0 := hc
        rw [qns (by assumption) hd, hs2 hlp, if_pos hc']; rfl
      · rename_i hc0
        have hlp := qh (by assumption)
        have hd := hdig (by assumption)
        have hc' : ¬ topV (l.getD 0 0) < 0 := hc0
        refine qcq (1, nxtV 0 (l.getD 0 0)) [] ⟨by omega, hd, ?_⟩ rfl (by simp) ?_ ?_ ?_ <;> (try simp only [go_sem, ↓reduceIte, Nat.reduceEqDiff, Nat.reduceAdd, Nat.reduceSub, Nat.reduceMul, Nat.reduceLT, Nat.reduceLeDiff, reduceCtorEq, Int.reduceToNat]) <;> (try simp (disch := omega) only [qr])
        · rw [hs2 hlp, if_neg hc']
        · rfl
      · rename_i hc0
        have hlp := qh (by assumption)
        have hd := hdig (by assumption)
        have hc' : ¬ topV (l.getD 0 0) < 0 := hc0
        rw [qns (by assumption) hd, hs2 hlp, if_neg hc', List.drop_of_length_le (by omega)]; rfl
  · obtain ⟨j, k⟩ := s
    obtain ⟨hj, hd, hr⟩ := hs
    dsimp only at hj hr
    have hs2 : qlz 0 l = if topV (l.getD j 0) < k then (0, 4) else qlz (nxtV k (l.getD j 0)) (l.drop (j + 1)) := by rw [← hr, qpf hj]
    have hne : l ≠ [] := fun e => by subst e; simp at hj
    rw [qns hne hd]
    repeat' (first | refine ql ?_ | refine qk ?_ | refine qd9 ?_ | ((first | refine qn ?_ | refine qef ?_ | refine qfj ?_ | refine qm ?_ | refine qz ?_ | refine qj ?_ | refine qi ?_ | simp (disch := omega) only [qr] | simp (disch := omega) only [qzv] | ((first | refine qf ?_ ?_ | refine qc ?_ ?_) <;> intro hc <;> (try simp only [hc]) <;> (try simp only [qb, qa, decide_eq_true_eq, decide_eq_false_iff_not, Bool.and_eq_true] at hc)) | refine And.intro (by first | assumption | omega | (have := qh (by assumption); omega) | (unfold qs; omega)) ?_ | simp (disch := omega) only [qd] | simp (disch := omega) only [qr]) <;> (try simp only [go_sem, ↓reduceIte, Nat.reduceEqDiff, Nat.reduceAdd, Nat.reduceSub, Nat.reduceMul, Nat.reduceLT, Nat.reduceLeDiff, reduceCtorEq, Int.reduceToNat])))
    · have hc' : topV (l.getD j 0) < k := hc
      rw [hs2, if_pos hc']; rfl
    · rename_i hc0
      have hc' : ¬ topV (l.getD j 0) < k := hc0
      refine qcq (j + 1, nxtV k (l.getD j 0)) [] ⟨⟨by omega, hd, ?_⟩, by omega⟩ rfl (by simp) ?_ ?_ ?_ <;> (try simp only [go_sem, ↓reduceIte, Nat.reduceEqDiff, Nat.reduceAdd, Nat.reduceSub, Nat.reduceMul, Nat.reduceLT, Nat.reduceLeDiff, reduceCtorEq, Int.reduceToNat]) <;> (try simp (disch := omega) only [qr])
      · rw [hs2, if_neg hc']
      · rfl
    · rename_i hc0
      have hc' : ¬ topV (l.getD j 0) < k := hc0
      rw [hs2, if_neg hc', List.drop_of_length_le (by omega)]; rfl
set_option maxRecDepth 4000

theorem qem (c : Int) : qda Try.prog 36 [.int .u8 c] (.bool (qb6 c)) := by
  refine qb3 c0bu (by simp) (by simp only [go_sem]) rfl fun hw => ?_
  repeat' (first | refine ql ?_ | ((first | refine qn ?_ | refine qm ?_ | ((first | refine qf ?_ ?_ | refine qc ?_ ?_) <;> intro hc <;> (try simp only [hc]) <;> (try simp only [qb, qa, decide_eq_true_eq, decide_eq_false_iff_not, Bool.and_eq_true] at hc)) | refine And.intro (by first | assumption | omega | (have := qh (by assumption); omega) | (unfold qs; omega)) ?_ | simp (disch := omega) only [qd] | simp (disch := omega) only [qr]) <;> (try simp only [go_sem, ↓reduceIte, Nat.reduceEqDiff, Nat.reduceAdd, Nat.reduceSub, Nat.reduceMul, Nat.reduceLT, Nat.reduceLeDiff, reduceCtorEq, Int.reduceToNat])))
  all_goals simp [qb6, *]
theorem qln (c : Int) : qda Try.prog 38 [.int .u8 c] (.bool (onW c)) := by
  refine qb3 c0bv (by simp) (by simp only [go_sem]) rfl fun hw => ?_
  repeat' (first | refine ql ?_ | ((first | refine qn ?_ | refine qm ?_ | refine qx (qem _) fun _ => ?_ | refine qba  (qem _) ?_ | ((first | refine qf ?_ ?_ | refine qc ?_ ?_) <;> intro hc <;> (try simp only [hc]) <;> (try simp only [qb, qa, decide_eq_true_eq, decide_eq_false_iff_not, Bool.and_eq_true] at hc)) | refine And.intro (by first | assumption | omega | (have := qh (by assumption); omega) | (unfold qs; omega)) ?_ | simp (disch := omega) only [qd] | simp (disch := omega) only [qr]) <;> (try simp only [go_sem, ↓reduceIte, Nat.reduceEqDiff, Nat.reduceAdd, Nat.reduceSub, Nat.reduceMul, Nat.reduceLT, Nat.reduceLeDiff, reduceCtorEq, Int.reduceToNat])))
  all_goals simp only [onW, qrw, qpj, *]
  all_goals first | (simp_all; done) | (simp_all; omega)
def qc1 (c : Int) : Bool := decide (c = 9) || decide (c = 10) || decide (c = 13) || decide (c = 32)
theorem qnr (c : Int) : qda Try.prog 33 [.int .u8 c] (.bool (qc1 c)) := by
  refine qb3 c0bw (by simp) (by simp only [go_sem]) rfl fun hw => ?_
  repeat' (first | refine ql ?_ | ((first | refine qn ?_ | refine qm ?_ | ((first | refine qf ?_ ?_ | refine qc ?_ ?_) <;> intro hc <;> (try simp only [hc]) <;> (try simp only [qb, qa, decide_eq_true_eq, decide_eq_false_iff_not, Bool.and_eq_true] at hc)) | refine And.intro (by first | assumption | omega | (have := qh (by assumption); omega) | (unfold qs; omega)) ?_ | simp (disch := omega) only [qd] | simp (disch := omega) only [qr]) <;> (try simp only [go_sem, ↓reduceIte, Nat.reduceEqDiff, Nat.reduceAdd, Nat.reduceSub, Nat.reduceMul, Nat.reduceLT, Nat.reduceLeDiff, reduceCtorEq, Int.reduceToNat])))
  all_goals simp [qc1, *]
def qwx (c : Int) : Bool := !decide (c = 10)
theorem qow (c : Int) : qda Try.prog 35 [.int .u8 c] (.bool (qwx c)) := by
  refine qb3 c0bx (by simp) (by simp only [go_sem]) rfl fun hw => ?_
  repeat' (first | refine ql ?_ | ((first | refine qn ?_ | refine qm ?_ | ((first | refine qf ?_ ?_ | refine qc ?_ ?_) <;> intro hc <;> (try simp only [hc]) <;> (try simp only [qb, qa, decide_eq_true_eq, decide_eq_false_iff_not, Bool.and_eq_true] at hc)) | refine And.intro (by first | assumption | omega | (have := qh (by assumption); omega) | (unfold qs; omega)) ?_ | simp (disch := omega) only [qd] | simp (disch := omega) only [qr]) <;> (try simp only [go_sem, ↓reduceIte, Nat.reduceEqDiff, Nat.reduceAdd, Nat.reduceSub, Nat.reduceMul, Nat.reduceLT, Nat.reduceLeDiff, reduceCtorEq, Int.reduceToNat])))
  all_goals simp [qwx, *]

def qbi (f : Int → Bool) (l : List UInt8) : Nat := (l.takeWhile fun c => f c.toNat).length
theorem qiz {f : Int → Bool} {l : List UInt8} {i : Nat} (h : i < l.length) : qbi f (l.drop i) = if f (l.getD i 0).toNat then qbi f (l.drop (i + 1)) + 1 else 0 := by
  rw [qi7 h, qbi, List.takeWhile_cons]
  split <;> simp [qbi]
theorem qdk {so : FuncId} {f : Int → Bool} (h : ∀ c, qda Try.prog so [.int .u8 c] (.bool (f c))) (l : List UInt8) : qda Try.prog 32 [.str l, .fn so [] []] (.int .i64 (qbi f l)) := by
  refine qb3 c0by (by simp) (by simp only [go_sem]) rfl fun hw => ?_
  have hl : l.length ≤ maxLen := hw.1
  repeat' (first | refine ql ?_ | refine qk ?_ | ((first | refine qn ?_ | refine qm ?_ | refine qz ?_ | refine qj ?_ | refine qi ?_ | ((first | refine qf ?_ ?_ | refine qc ?_ ?_) <;> intro hc <;> (try simp only [hc]) <;> (try simp only [qb, qa, decide_eq_true_eq, decide_eq_false_iff_not, Bool.and_eq_true] at hc)) | refine And.intro (by first | assumption | omega | (have := qh (by assumption); omega) | (unfold qs; omega)) ?_ | simp (disch := omega) only [qd] | simp (disch := omega) only [qr]) <;> (try simp only [go_sem, ↓reduceIte, Nat.reduceEqDiff, Nat.reduceAdd, Nat.reduceSub, Nat.reduceMul, Nat.reduceLT, Nat.reduceLeDiff, reduceCtorEq, Int.reduceToNat])))
  refine qc7 (S := Nat) (fun i => i ≤ l.length ∧ qbi f l = i + qbi f (l.drop i)) (fun i => (⟨[(0, .str l), (1, .fn so [] []), (7, .int .i64 l.length), (8, .int .i64 i)], []⟩, [])) (fun i => l.length - i) ?_ fun i hi => ?_
  · refine qcq 0 [] ⟨Nat.zero_le _, by simp⟩ rfl (by simp) ?_ ?_ ?_ <;> (try simp only [go_sem, ↓reduceIte, Nat.reduceEqDiff, Nat.reduceAdd, Nat.reduceSub, Nat.reduceMul, Nat.reduceLT, Nat.reduceLeDiff, reduceCtorEq, Int.reduceToNat]) <;> (try simp (disch := omega) only [qr])
  · obtain ⟨hi, ha⟩ := hi
    repeat' (first | refine ql ?_ | refine qk ?_ | ((first | refine qn ?_ | refine qm ?_ | refine qz ?_ | refine qj ?_ | refine qi ?_ | refine qx (h _) fun _ => ?_ | refine qba  (h _) ?_ | ((first | refine qf ?_ ?_ | refine qc ?_ ?_) <;> intro hc <;> (try simp only [hc]) <;> (try simp only [qb, qa, decide_eq_true_eq, decide_eq_false_iff_not, Bool.and_eq_true] at hc)) | refine And.intro (by first | assumption | omega | (have := qh (by assumption); omega) | (unfold qs; omega)) ?_ | simp (disch := omega) only [qd] | simp (disch := omega) only [qr]) <;> (try simp only [go_sem, ↓reduceIte, Nat.reduceEqDiff, Nat.reduceAdd, Nat.reduceSub, Nat.reduceMul, Nat.reduceLT, Nat.reduceLeDiff, reduceCtorEq, Int.reduceToNat])))
    · rw [ha, qiz (by omega), hc]; simp
    · refine qcq (i + 1) [] ⟨⟨by omega, ?_⟩, by omega⟩ rfl (by simp) ?_ ?_ ?_ <;> (try simp only [go_sem, ↓reduceIte, Nat.reduceEqDiff, Nat.reduceAdd, Nat.reduceSub, Nat.reduceMul, Nat.reduceLT, Nat.reduceLeDiff, reduceCtorEq, Int.reduceToNat]) <;> (try simp (disch := omega) only [qr])
      rw [ha, qiz (by omega), hc]; simp; omega
    · have : i = l.length := by omega
      subst this
      rw [ha, List.drop_length]; simp [qbi]

def pfx (p l : List UInt8) : Bool := decide (l.take p.length = p)
theorem qhp (l p : List UInt8) : qda Try.prog 51 [.str l, .str p] (.bool (pfx p l)) := by
  refine qb3 c0bz (by simp) (by simp only [go_sem]) rfl fun hw => ?_
  repeat' (first | refine ql ?_ | ((first | refine qn ?_ | refine qm ?_ | ((first | refine qf ?_ ?_ | refine qc ?_ ?_) <;> intro hc <;> (try simp only [hc]) <;> (try simp only [qb, qa, decide_eq_true_eq, decide_eq_false_iff_not, Bool.and_eq_true] at hc)) | refine And.intro (by first | assumption | omega | (have := qh (by assumption); omega) | (unfold qs; omega)) ?_ | simp (disch := omega) only [qd] | simp (disch := omega) only [qr]) <;> (try simp only [go_sem, ↓reduceIte, Nat.reduceEqDiff, Nat.reduceAdd, Nat.reduceSub, Nat.reduceMul, Nat.reduceLT, Nat.reduceLeDiff, reduceCtorEq, Int.reduceToNat])))
  · rfl
  · rw [pfx, decide_eq_false]
    intro h
    have := congrArg List.length h
    rw [List.length_take] at this
    omega
theorem qco (l p : List UInt8) : qda Try.prog 34 [.str l, .str p] (.bool (pfx p l)) := by
  refine qb3 c0ca (by simp) (by simp only [go_sem]) rfl fun hw => ?_
  repeat' (first | refine ql ?_ | ((first | refine qn ?_ | refine qm ?_ | refine qx (qhp _ _) fun _ => ?_ | refine qba  (qhp _ _) ?_ | ((first | refine qf ?_ ?_ | refine qc ?_ ?_) <;> intro hc <;> (try simp only [hc]) <;> (try simp only [qb, qa, decide_eq_true_eq, decide_eq_false_iff_not, Bool.and_eq_true] at hc)) | refine And.intro (by first | assumption | omega | (have := qh (by assumption); omega) | (unfold qs; omega)) ?_ | simp (disch := omega) only [qd] | simp (disch := omega) only [qr]) <;> (try simp only [go_sem, ↓reduceIte, Nat.reduceEqDiff, Nat.reduceAdd, Nat.reduceSub, Nat.reduceMul, Nat.reduceLT, Nat.reduceLeDiff, reduceCtorEq, Int.reduceToNat])))

theorem qdb (f : Int → Bool) (l : List UInt8) : qbi f l ≤ l.length := (List.takeWhile_sublist _).length_le
def qez (l : List UInt8) : Nat := if pfx [45, 45] (l.drop (qbi qc1 l)) then qbi qc1 l + qbi qwx (l.drop (qbi qc1 l)) else qbi qc1 l
theorem qjf (l : List UInt8) : qez l ≤ l.length := by
  unfold qez
  have h1 := qdb qc1 l
  have h2 := qdb qwx (l.drop (qbi qc1 l))
  rw [List.length_drop] at h2
  split <;> omega
def qlb : Nat → List UInt8 → Nat
  | 0, _ => 0
  | f + 1, l => if qez l = 0 then 0 else qez l + qlb f (l.drop (qez l))
def qcc (l : List UInt8) : Nat := qlb l.length l
theorem qkz : ∀ (f g : Nat) (l : List UInt8), l.length ≤ f → l.length ≤ g → qlb f l = qlb g l
  | 0, 0, l, _, _ => rfl
  | 0, g + 1, l, h1, h2 => by
    have := qjf l
    rw [qlb, qlb, if_pos (by omega)]
  | f + 1, 0, l, h1, h2 => by
    have := qjf l
    rw [qlb, qlb, if_pos (by omega)]
  | f + 1, g + 1, l, h1, h2 => by
    rw [qlb, qlb]
    split
    · rfl
    · rename_i h
      rw [qkz f g _ (by rw [List.length_drop]; omega) (by rw [List.length_drop]; omega)]
theorem qi3 {l : List UInt8} (h : qez l = 0) : qcc l = 0 := by
  unfold qcc
  cases l.length with
  | zero => rfl
  | succ n => rw [qlb, if_pos h]
theorem qiv {l : List UInt8} (h : qez l ≠ 0) : qcc l = qez l + qcc (l.drop (qez l)) := by
  have hk := qjf l
  unfold qcc
  obtain ⟨n, hn⟩ : ∃ n, l.length = n + 1 := ⟨l.length - 1, by omega⟩
  rw [hn, qlb, if_neg h, qkz n (l.drop (qez l)).length _ (by rw [List.length_drop]; omega) (Nat.le_refl _)]
theorem qji (l : List UInt8) : qcc l ≤ l.length := by
  generalize hn : l.length = n
  induction n using Nat.strongRecOn generalizing l with
  | _ n ih =>
    subst hn
    by_cases h : qez l = 0
    · rw [qi3 h]; exact Nat.zero_le _
    · have hk := qjf l
      have := ih (l.drop (qez l)).length (by rw [List.length_drop]; omega) _ rfl
      rw [qiv h]; rw [List.length_drop] at this; omega
theorem q1v {l : List UInt8} (h : pfx [45, 45] (l.drop (qbi qc1 l)) = true) : qez l = qbi qc1 l + qbi qwx (l.drop (qbi qc1 l)) := by rw [qez, if_pos h]
theorem qt4 {l : List UInt8} (h : pfx [45, 45] (l.drop (qbi qc1 l)) = false) : qez l = qbi qc1 l := by rw [qez, h]; rfl
theorem qboz (a b : Nat) : (a : Int) + (b : Int) = ((a + b : Nat) : Int) := rfl

theorem qie (l : List UInt8) : qda Try.prog 19 [.str l] (.int .i64 (qcc l)) := by
  refine qb3 c0cb (by simp) (by simp only [go_sem]) rfl fun hw => ?_
  have hl : l.length ≤ maxLen := hw.1
  repeat' (first | refine ql ?_ | refine qk ?_ | ((first | refine qn ?_ | refine qm ?_ | refine qj ?_ | refine qi ?_ | ((first | refine qf ?_ ?_ | refine qc ?_ ?_) <;> intro hc <;> (try simp only [hc]) <;> (try simp only [qb, qa, decide_eq_true_eq, decide_eq_false_iff_not, Bool.and_eq_true] at hc)) | refine And.intro (by first | assumption | omega | (have := qh (by assumption); omega) | (unfold qs; omega)) ?_ | simp (disch := omega) only [qd] | simp (disch := omega) only [qr]) <;> (try simp only [go_sem, ↓reduceIte, Nat.reduceEqDiff, Nat.reduceAdd, Nat.reduceSub, Nat.reduceMul, Nat.reduceLT, Nat.reduceLeDiff, reduceCtorEq, Int.reduceToNat])))
  refine qc7 (S := Nat) (fun n => n ≤ l.length ∧ qcc l = n + qcc (l.drop n)) (fun n => (⟨[(0, .str l), (3, .int .i64 n)], []⟩, [])) (fun n => l.length - n) ?_ fun n hn => ?_
  · refine qcq 0 [] ⟨Nat.zero_le _, by simp⟩ rfl (by simp) ?_ ?_ ?_ <;> (try simp only [go_sem, ↓reduceIte, Nat.reduceEqDiff, Nat.reduceAdd, Nat.reduceSub, Nat.reduceMul, Nat.reduceLT, Nat.reduceLeDiff, reduceCtorEq, Int.reduceToNat]) <;> (try simp (disch := omega) only [qr])
  · obtain ⟨hn, ha⟩ := hn
    have h1 := qdb qc1 (l.drop n)
    have h2 := qdb qwx (l.drop (n + qbi qc1 (l.drop n)))
    rw [List.length_drop] at h1 h2
    repeat' (first | refine ql ?_ | refine qk ?_ | ((first | refine qn ?_ | refine qm ?_ | refine qj ?_ | refine qi ?_) <;> (try simp (disch := first | omega | (simp only [List.length_set, List.length_append, List.length_cons, List.length_nil]; done) | (simp only [List.length_set, List.length_append, List.length_cons, List.length_nil]; omega)) only [qho, go_sem, ↓reduceIte, Nat.reduceEqDiff, Nat.reduceAdd, Nat.reduceSub, Nat.reduceMul, Nat.reduceLT, Nat.reduceLeDiff, reduceCtorEq, Int.reduceToNat])) | ((first | simp (disch := omega) only [qho] | simp (disch := omega) only [qboz] | simp (disch := omega) only [Int.toNat_natCast] | ((first | refine qf ?_ ?_ | refine qc ?_ ?_) <;> intro hc <;> (try simp only [hc]) <;> (try simp only [qb, qa, decide_eq_true_eq, decide_eq_false_iff_not, Bool.and_eq_true] at hc)) | refine And.intro (by first | assumption | omega | (have := qh (by assumption); omega) | (unfold qs; omega)) ?_ | simp (disch := omega) only [qd] | simp (disch := omega) only [qr] | refine qx (qdk qnr _) fun _ => ?_ | refine qx (qco _ _) fun _ => ?_ | refine qx (qdk qow _) fun _ => ?_ | refine qba  (qdk qnr _) ?_ | refine qba  (qco _ _) ?_ | refine qba  (qdk qow _) ?_) <;> (try simp only [go_sem, ↓reduceIte, Nat.reduceEqDiff, Nat.reduceAdd, Nat.reduceSub, Nat.reduceMul, Nat.reduceLT, Nat.reduceLeDiff, reduceCtorEq, Int.reduceToNat])))
    · rename_i hp _
      have hk := q1v (l := l.drop n) (by rw [List.drop_drop]; exact hp)
      rw [List.drop_drop] at hk
      rw [ha, qi3 (hk.trans (by omega))]; rfl
    · rename_i hp _
      have hk := q1v (l := l.drop n) (by rw [List.drop_drop]; exact hp)
      rw [List.drop_drop] at hk
      refine qcq (n + qez (l.drop n)) [] ⟨⟨by omega, ?_⟩, by omega⟩ rfl (by simp) ?_ ?_ ?_ <;> (try simp only [go_sem, ↓reduceIte, Nat.reduceEqDiff, Nat.reduceAdd, Nat.reduceSub, Nat.reduceMul, Nat.reduceLT, Nat.reduceLeDiff, reduceCtorEq, Int.reduceToNat]) <;> (try simp (disch := omega) only [qr])
      · rw [ha, qiv (l := l.drop n) (by omega), List.drop_drop]; omega
      · rw [hk]
    · rename_i hp
      have hk := qt4 (l := l.drop n) (by rw [List.drop_drop]; exact hp)
      rw [ha, qi3 (hk.trans (by omega))]; rfl
    · rename_i hp
      have hk := qt4 (l := l.drop n) (by rw [List.drop_drop]; exact hp)
      refine qcq (n + qez (l.drop n)) [] ⟨⟨by omega, ?_⟩, by omega⟩ rfl (by simp) ?_ ?_ ?_ <;> (try simp only [go_sem, ↓reduceIte, Nat.reduceEqDiff, Nat.reduceAdd, Nat.reduceSub, Nat.reduceMul, Nat.reduceLT, Nat.reduceLeDiff, reduceCtorEq, Int.reduceToNat]) <;> (try simp (disch := omega) only [qr])
      · rw [ha, qiv (l := l.drop n) (by omega), List.drop_drop]; omega
      · rw [hk]

theorem qkb {l : List UInt8} (h : pfx [45, 45] l = false) (hb : qbi qc1 l = 0) : qcc l = 0 := by
  rw [qi3]
  rw [qt4 (by rw [hb]; exact h), hb]
end Go.Proofs.Ytmekebfgmjaenaa
