/- Texts of this proof, joined. -/
import Derived.Test.YtmekebfgmjaenaaGreatEag
import Derived.Test.YtmekebfgmjaenaaGreatEao

/- the lexer's words: numbers -/
set_option maxRecDepth 4000
namespace Go.Proofs.YtmekebfgmjaenaaGreat
open Go Go.RowKit Go.V
set_option linter.unusedVariables false
set_option linter.unusedSimpArgs false

theorem q4b : IntKind.i64.wrap (0 + 1) = 1 := by decide
def digW (l : List UInt8) : Bool := l.all fun c => qcm c.toNat
theorem qky {l : List UInt8} {i : Nat} (h : i < l.length) : digW (l.drop i) = (qcm (l.getD i 0).toNat && digW (l.drop (i + 1))) := by
  rw [qd4 h]; rfl

def digV (c : UInt8) : Int := IntKind.i64.wrap (IntKind.u8.wrap ((c.toNat : Int) - 48))
def topV (c : UInt8) : Int := IntKind.i64.wrap ((IntKind.i64.wrap (9223372036854775807 - digV c)).tdiv 10)
def nxtV (k : Int) (c : UInt8) : Int := IntKind.i64.wrap (IntKind.i64.wrap (10 * k) + digV c)
def qjl : Int → List UInt8 → Int × Int
  | k, [] => (k, 0)
  | k, c :: r => if topV c < k then (0, 4) else qjl (nxtV k c) r
/-- The number that a text is, and the error. -/
def qm3 (l : List UInt8) : Int × Int := if l = [] then (0, 5) else if digW l = true then qjl 0 l else (0, 5)
def qbwm (p : Int × Int) : AV := .tup [.int .i64 p.1, .int .i64 p.2]
theorem ql4 {l : List UInt8} {i : Nat} (h : i < l.length) (k : Int) : qjl k (l.drop i) = if topV (l.getD i 0) < k then (0, 4) else qjl (nxtV k (l.getD i 0)) (l.drop (i + 1)) := by
  rw [qd4 h]; rfl
theorem q0y {c : Int} (h : c < 48 ∨ 57 < c) : qcm c = false := by
  simp only [qcm, Bool.and_eq_false_iff, decide_eq_false_iff_not]; omega
theorem q05 {c : Int} (h : ¬ c < 48) (h2 : ¬ 57 < c) : qcm c = true := by
  simp only [qcm, Bool.and_eq_true, decide_eq_true_eq]; omega
theorem qjg {l : List UInt8} (h : l ≠ []) (hd : digW l = true) : qm3 l = qjl 0 l := by rw [qm3, if_neg h, if_pos hd]
theorem qu0 {l : List UInt8} (hd : digW l = false) : qm3 l = (0, 5) := by rw [qm3, hd]; simp

theorem qq1 (l : List UInt8) : qbf Tryz.prog 102 [.str l] (qbwm (qm3 l)) := by
  refine qu c0do (by simp) (by simp only [go_sem]) rfl fun hw => ?_
  have hl : l.length ≤ maxLen := hw.1
  repeat' (first | refine ql ?_ | refine qk ?_ | ((first | refine qn ?_ | refine qm ?_ | refine qs ?_ | refine qi ?_ | refine qh ?_); simp only [go_sem, ↓reduceIte, Nat.reduceEqDiff, Nat.reduceAdd, Nat.reduceSub, Nat.reduceMul, Nat.reduceLT, Nat.reduceLeDiff, reduceCtorEq, Int.reduceToNat]) | ((first | refine qf ?_ ?_ | refine qe ?_ ?_) <;> intro hc <;> simp only [hc, go_sem, ↓reduceIte, Nat.reduceEqDiff, Nat.reduceAdd, Nat.reduceSub, Nat.reduceMul, Nat.reduceLT, Nat.reduceLeDiff, reduceCtorEq, Int.reduceToNat] <;> (try simp only [qb, qa, decide_eq_true_eq, decide_eq_false_iff_not, Bool.and_eq_true] at hc)) | refine And.intro (by first | assumption | omega | (have := qg (by assumption); omega) | (unfold qp; omega)) ?_ | ((first | simp (disch := omega) only [qr] | simp (disch := omega) only [qbb]); (try simp only [go_sem, ↓reduceIte, Nat.reduceEqDiff, Nat.reduceAdd, Nat.reduceSub, Nat.reduceMul, Nat.reduceLT, Nat.reduceLeDiff, reduceCtorEq, Int.reduceToNat])))
  · subst hc; rfl
  · refine qby (S := Nat) (fun i => i ≤ l.length ∧ digW (l.drop i) = digW l) (fun i => (⟨[(0, .str l), (4, .int .i64 i)], []⟩, [])) (fun i => l.length - i) ?_ fun i hi => ?_
    · refine qbn 0 [] ⟨Nat.zero_le _, rfl⟩ rfl (by simp) ?_ ?_ ?_ <;> (try simp only [go_sem, ↓reduceIte, Nat.reduceEqDiff, Nat.reduceAdd, Nat.reduceSub, Nat.reduceMul, Nat.reduceLT, Nat.reduceLeDiff, reduceCtorEq, Int.reduceToNat]) <;> (try simp (disch := omega) only [qbb])
    · obtain ⟨hi, ha⟩ := hi
      have hs : i < l.length → qcm (l.getD i 0).toNat = false → qm3 l = (0, 5) := fun h h2 => qu0 (by rw [← ha, qky h, h2]; rfl)
      repeat' (first | refine ql ?_ | refine qk ?_ | ((first | refine qn ?_ | refine qm ?_ | refine qs ?_ | refine qi ?_ | refine qh ?_); simp only [go_sem, ↓reduceIte, Nat.reduceEqDiff, Nat.reduceAdd, Nat.reduceSub, Nat.reduceMul, Nat.reduceLT, Nat.reduceLeDiff, reduceCtorEq, Int.reduceToNat]) | ((first | refine qf ?_ ?_ | refine qe ?_ ?_) <;> intro hc <;> simp only [hc, go_sem, ↓reduceIte, Nat.reduceEqDiff, Nat.reduceAdd, Nat.reduceSub, Nat.reduceMul, Nat.reduceLT, Nat.reduceLeDiff, reduceCtorEq, Int.reduceToNat] <;> (try simp only [qb, qa, decide_eq_true_eq, decide_eq_false_iff_not, Bool.and_eq_true] at hc)) | refine And.intro (by first | assumption | omega | (have := qg (by assumption); omega) | (unfold qp; omega)) ?_ | ((first | simp (disch := omega) only [qr] | simp (disch := omega) only [qbb]); (try simp only [go_sem, ↓reduceIte, Nat.reduceEqDiff, Nat.reduceAdd, Nat.reduceSub, Nat.reduceMul, Nat.reduceLT, Nat.reduceLeDiff, reduceCtorEq, Int.reduceToNat])))
      · rw [hs (by omega) (q0y (by omega))]; rfl
      · rw [hs (by omega) (q0y (by omega))]; rfl
      · refine qbn (i + 1) [] ⟨⟨by omega, ?_⟩, by omega⟩ rfl (by simp) ?_ ?_ ?_ <;> (try simp only [go_sem, ↓reduceIte, Nat.reduceEqDiff, Nat.reduceAdd, Nat.reduceSub, Nat.reduceMul, Nat.reduceLT, Nat.reduceLeDiff, reduceCtorEq, Int.reduceToNat]) <;> (try simp (disch := omega) only [qbb])
        have hd : qcm (l.getD i 0).toNat = true := q05 (by omega) (by omega)
        rw [← ha, qky (l := l) (i := i) (by omega), hd, Bool.true_and]
      · have hd : digW l = true := by rw [← ha, List.drop_of_length_le (by omega)]; rfl
        rw [qjg (by assumption) hd]
        refine qby (S := Nat × Int) (fun s => s.1 ≤ l.length ∧ qjl s.2 (l.drop s.1) = qjl 0 l) (fun s => (⟨[(0, .str l), (5, .int .i64 s.2), (6, .int .i64 s.1)], []⟩, [])) (fun s => l.length - s.1) ?_ fun s hs => ?_
        · refine qbn (0, 0) [] ⟨Nat.zero_le _, rfl⟩ rfl (by simp) ?_ ?_ ?_ <;> (try simp only [go_sem, ↓reduceIte, Nat.reduceEqDiff, Nat.reduceAdd, Nat.reduceSub, Nat.reduceMul, Nat.reduceLT, Nat.reduceLeDiff, reduceCtorEq, Int.reduceToNat]) <;> (try simp (disch := omega) only [qbb])
        · obtain ⟨j, k⟩ := s
          obtain ⟨hj, hr⟩ := hs
          dsimp only at hj hr
          have hs2 : j < l.length → qjl 0 l = if topV (l.getD j 0) < k then (0, 4) else qjl (nxtV k (l.getD j 0)) (l.drop (j + 1)) := fun h => by rw [← hr, ql4 h]
          repeat' (first | refine ql ?_ | refine qk ?_ | ((first | refine qn ?_ | refine qm ?_ | refine qs ?_ | refine qi ?_ | refine qh ?_); simp only [go_sem, ↓reduceIte, Nat.reduceEqDiff, Nat.reduceAdd, Nat.reduceSub, Nat.reduceMul, Nat.reduceLT, Nat.reduceLeDiff, reduceCtorEq, Int.reduceToNat]) | ((first | refine qf ?_ ?_ | refine qe ?_ ?_) <;> intro hc <;> simp only [hc, go_sem, ↓reduceIte, Nat.reduceEqDiff, Nat.reduceAdd, Nat.reduceSub, Nat.reduceMul, Nat.reduceLT, Nat.reduceLeDiff, reduceCtorEq, Int.reduceToNat] <;> (try simp only [qb, qa, decide_eq_true_eq, decide_eq_false_iff_not, Bool.and_eq_true] at hc)) | refine And.intro (by first | assumption | omega | (have := qg (by assumption); omega) | (unfold qp; omega)) ?_ | ((first | simp (disch := omega) only [qr] | simp (disch := omega) only [qbb]); (try simp only [go_sem, ↓reduceIte, Nat.reduceEqDiff, Nat.reduceAdd, Nat.reduceSub, Nat.reduceMul, Nat.reduceLT, Nat.reduceLeDiff, reduceCtorEq, Int.reduceToNat])))
          · have hc' : topV (l.getD j 0) < k := hc
            rw [hs2 (by omega), if_pos hc']; rfl
          · have hc' : ¬ topV (l.getD j 0) < k := hc
            refine qbn (j + 1, nxtV k (l.getD j 0)) [] ⟨⟨by omega, ?_⟩, by omega⟩ rfl (by simp) ?_ ?_ ?_ <;> (try simp only [go_sem, ↓reduceIte, Nat.reduceEqDiff, Nat.reduceAdd, Nat.reduceSub, Nat.reduceMul, Nat.reduceLT, Nat.reduceLeDiff, reduceCtorEq, Int.reduceToNat]) <;> (try simp (disch := omega) only [qbb])
            · rw [hs2 (by omega), if_neg hc']
            · rfl
          · rw [← hr, List.drop_of_length_le (by omega)]; rfl

theorem qt0 (l : List UInt8) : qbf Tryz.prog 127 [.str l] (qbwm (qm3 l)) := by
  refine qu c0dp (by simp) (by simp only [go_sem]) rfl fun hw => ?_
  have hl : l.length ≤ maxLen := hw.1
  refine ql (qn ?_)
  simp only [go_sem, ↓reduceIte, Nat.reduceEqDiff, Nat.reduceAdd, Nat.reduceSub, Nat.reduceMul, Nat.reduceLT, Nat.reduceLeDiff, reduceCtorEq, Int.reduceToNat]
  refine q1i (S := Nat × Int) 0 rfl (fun s => s.1 < l.length ∧ digW l = true ∧ qjl s.2 (l.drop s.1) = qjl 0 l) (fun s => (⟨[(0, .str l), (5, .int .i64 s.2), (6, .int .i64 s.1)], []⟩, [])) (fun s => l.length - s.1) ?_ fun s hs => ?_
  · repeat' (first | refine ql ?_ | refine qk ?_ | refine qe0 ?_ | ((first | refine qn ?_ | refine qew ?_ | refine qgh ?_ | refine qm ?_ | refine qs ?_ | refine qi ?_ | refine qh ?_); simp only [go_sem, ↓reduceIte, Nat.reduceEqDiff, Nat.reduceAdd, Nat.reduceSub, Nat.reduceMul, Nat.reduceLT, Nat.reduceLeDiff, reduceCtorEq, Int.reduceToNat]) | ((first | refine qf ?_ ?_ | refine qe ?_ ?_) <;> intro hc <;> simp only [hc, go_sem, ↓reduceIte, Nat.reduceEqDiff, Nat.reduceAdd, Nat.reduceSub, Nat.reduceMul, Nat.reduceLT, Nat.reduceLeDiff, reduceCtorEq, Int.reduceToNat] <;> (try simp only [qb, qa, decide_eq_true_eq, decide_eq_false_iff_not, Bool.and_eq_true] at hc)) | refine And.intro (by first | assumption | omega | (have := qg (by assumption); omega) | (unfold qp; omega)) ?_ | ((first | simp (disch := omega) only [qr] | simp (disch := omega) only [qbb]); (try simp only [go_sem, ↓reduceIte, Nat.reduceEqDiff, Nat.reduceAdd, Nat.reduceSub, Nat.reduceMul, Nat.reduceLT, Nat.reduceLeDiff, reduceCtorEq, Int.reduceToNat])))
    refine qby (S := Nat) (fun i => i ≤ l.length ∧ digW (l.drop i) = digW l) (fun i => (⟨[(0, .str l), (9, .int .i64 l.length), (10, .int .i64 i)], []⟩, [])) (fun i => l.length - i) ?_ fun i hi => ?_
    · refine qbn 0 [] ⟨Nat.zero_le _, rfl⟩ rfl (by simp) ?_ ?_ ?_ <;> (try simp only [go_sem, ↓reduceIte, Nat.reduceEqDiff, Nat.reduceAdd, Nat.reduceSub, Nat.reduceMul, Nat.reduceLT, Nat.reduceLeDiff, reduceCtorEq, Int.reduceToNat]) <;> (try simp (disch := omega) only [qbb])
    · obtain ⟨hi, ha⟩ := hi
      have hs : i < l.length → qcm (l.getD i 0).toNat = false → qm3 l = (0, 5) := fun h h2 => qu0 (by rw [← ha, qky h, h2]; rfl)
      have hs2 : 0 < l.length → qjl 0 l = if topV (l.getD 0 0) < 0 then (0, 4) else qjl (nxtV 0 (l.getD 0 0)) (l.drop 1) := fun h => by
        have := ql4 (l := l) (i := 0) h 0
        rwa [List.drop_zero] at this
      have hdig : ¬ (i : Int) < l.length → digW l = true := fun h => by rw [← ha, List.drop_of_length_le (by omega)]; rfl
      repeat' (first | refine ql ?_ | refine qk ?_ | refine qe0 ?_ | ((first | refine qn ?_ | refine qew ?_ | refine qgh ?_ | refine qm ?_ | refine qs ?_ | refine qi ?_ | refine qh ?_); simp only [go_sem, ↓reduceIte, Nat.reduceEqDiff, Nat.reduceAdd, Nat.reduceSub, Nat.reduceMul, Nat.reduceLT, Nat.reduceLeDiff, reduceCtorEq, Int.reduceToNat]) | ((first | simp (disch := omega) only [qbb] | simp (disch := omega) only [q4b]); (try simp only [go_sem, ↓reduceIte, Nat.reduceEqDiff, Nat.reduceAdd, Nat.reduceSub, Nat.reduceMul, Nat.reduceLT, Nat.reduceLeDiff, reduceCtorEq, Int.reduceToNat])) | ((first | refine qf ?_ ?_ | refine qe ?_ ?_) <;> intro hc <;> simp only [hc, go_sem, ↓reduceIte, Nat.reduceEqDiff, Nat.reduceAdd, Nat.reduceSub, Nat.reduceMul, Nat.reduceLT, Nat.reduceLeDiff, reduceCtorEq, Int.reduceToNat] <;> (try simp only [qb, qa, decide_eq_true_eq, decide_eq_false_iff_not, Bool.and_eq_true] at hc)) | refine And.intro (by first | assumption | omega | (have := qg (by assumption); omega) | (unfold qp; omega)) ?_ | ((first | simp (disch := omega) only [qr] | simp (disch := omega) only [qbb]); (try simp only [go_sem, ↓reduceIte, Nat.reduceEqDiff, Nat.reduceAdd, Nat.reduceSub, Nat.reduceMul, Nat.reduceLT, Nat.reduceLeDiff, reduceCtorEq, Int.reduceToNat])))
      all_goals first
        | (rw [hs (by omega) (q0y (by omega))]; rfl)
        | (refine qbn (i + 1) [] ⟨⟨by omega, ?_⟩, by omega⟩ rfl (by simp) ?_ ?_ ?_ <;> (try simp only [go_sem, ↓reduceIte, Nat.reduceEqDiff, Nat.reduceAdd, Nat.reduceSub, Nat.reduceMul, Nat.reduceLT, Nat.reduceLeDiff, reduceCtorEq, Int.reduceToNat]) <;> (try simp (disch := omega) only [qbb])
           have hd : qcm (l.getD i 0).toNat = true := q05 (by omega) (by omega)
           rw [← ha, qky (l := l) (i := i) (by omega), hd, Bool.true_and])
        | (subst hc; rfl)
        | skip
      · have hlp := qg (by assumption)
        have hd := hdig (by assumption)
        have hc' : topV (l.getD 0 0) < 0 := hc
        rw [qjg (by assumption) hd, hs2 hlp, if_pos hc']; rfl
      · rename_i hc0
        have hlp := qg (by assumption)
        have hd := hdig (by assumption)
        have hc' : ¬ topV (l.getD 0 0) < 0 := hc0
        refine qbn (1, nxtV 0 (l.getD 0 0)) [] ⟨by omega, hd, ?_⟩ rfl (by simp) ?_ ?_ ?_ <;> (try simp only [go_sem, ↓reduceIte, Nat.reduceEqDiff, Nat.reduceAdd, Nat.reduceSub, Nat.reduceMul, Nat.reduceLT, Nat.reduceLeDiff, reduceCtorEq, Int.reduceToNat]) <;> (try simp (disch := omega) only [qbb])
        · rw [hs2 hlp, if_neg hc']
        · rfl
      · rename_i hc0
        have hlp := qg (by assumption)
        have hd := hdig (by assumption)
        have hc' : ¬ topV (l.getD 0 0) < 0 := hc0
        rw [qjg (by assumption) hd, hs2 hlp, if_neg hc', List.drop_of_length_le (by omega)]; rfl
  · obtain ⟨j, k⟩ := s
    obtain ⟨hj, hd, hr⟩ := hs
    dsimp only at hj hr
    have hs2 : qjl 0 l = if topV (l.getD j 0) < k then (0, 4) else qjl (nxtV k (l.getD j 0)) (l.drop (j + 1)) := by rw [← hr, ql4 hj]
    have hne : l ≠ [] := fun e => by subst e; simp at hj
    rw [qjg hne hd]
    repeat' (first | refine ql ?_ | refine qk ?_ | refine qe0 ?_ | ((first | refine qn ?_ | refine qew ?_ | refine qgh ?_ | refine qm ?_ | refine qs ?_ | refine qi ?_ | refine qh ?_); simp only [go_sem, ↓reduceIte, Nat.reduceEqDiff, Nat.reduceAdd, Nat.reduceSub, Nat.reduceMul, Nat.reduceLT, Nat.reduceLeDiff, reduceCtorEq, Int.reduceToNat]) | ((first | simp (disch := omega) only [qbb] | simp (disch := omega) only [q4b]); (try simp only [go_sem, ↓reduceIte, Nat.reduceEqDiff, Nat.reduceAdd, Nat.reduceSub, Nat.reduceMul, Nat.reduceLT, Nat.reduceLeDiff, reduceCtorEq, Int.reduceToNat])) | ((first | refine qf ?_ ?_ | refine qe ?_ ?_) <;> intro hc <;> simp only [hc, go_sem, ↓reduceIte, Nat.reduceEqDiff, Nat.reduceAdd, Nat.reduceSub, Nat.reduceMul, Nat.reduceLT, Nat.reduceLeDiff, reduceCtorEq, Int.reduceToNat] <;> (try simp only [qb, qa, decide_eq_true_eq, decide_eq_false_iff_not, Bool.and_eq_true] at hc)) | refine And.intro (by first | assumption | omega | (have := qg (by assumption); omega) | (unfold qp; omega)) ?_ | ((first | simp (disch := omega) only [qr] | simp (disch := omega) only [qbb]); (try simp only [go_sem, ↓reduceIte, Nat.reduceEqDiff, Nat.reduceAdd, Nat.reduceSub, Nat.reduceMul, Nat.reduceLT, Nat.reduceLeDiff, reduceCtorEq, Int.reduceToNat])))
    · have hc' : topV (l.getD j 0) < k := hc
      rw [hs2, if_pos hc']; rfl
    · rename_i hc0
      have hc' : ¬ topV (l.getD j 0) < k := hc0
      refine qbn (j + 1, nxtV k (l.getD j 0)) [] ⟨⟨by omega, hd, ?_⟩, by omega⟩ rfl (by simp) ?_ ?_ ?_ <;> (try simp only [go_sem, ↓reduceIte, Nat.reduceEqDiff, Nat.reduceAdd, Nat.reduceSub, Nat.reduceMul, Nat.reduceLT, Nat.reduceLeDiff, reduceCtorEq, Int.reduceToNat]) <;> (try simp (disch := omega) only [qbb])
      · rw [hs2, if_neg hc']
      · rfl
    · rename_i hc0
      have hc' : ¬ topV (l.getD j 0) < k := hc0
      rw [hs2, if_neg hc', List.drop_of_length_le (by omega)]; rfl
set_option maxRecDepth 4000

theorem qfq (c : Int) : qbf Tryz.prog 126 [.int .u8 c] (.bool (qcm c)) := by
  refine qu c0dg (by simp) (by simp only [go_sem]) rfl fun hw => ?_
  repeat' (first | refine ql ?_ | ((first | refine qn ?_ | refine qm ?_); simp only [go_sem, ↓reduceIte, Nat.reduceEqDiff, Nat.reduceAdd, Nat.reduceSub, Nat.reduceMul, Nat.reduceLT, Nat.reduceLeDiff, reduceCtorEq, Int.reduceToNat]) | ((first | refine qf ?_ ?_ | refine qe ?_ ?_) <;> intro hc <;> simp only [hc, go_sem, ↓reduceIte, Nat.reduceEqDiff, Nat.reduceAdd, Nat.reduceSub, Nat.reduceMul, Nat.reduceLT, Nat.reduceLeDiff, reduceCtorEq, Int.reduceToNat] <;> (try simp only [qb, qa, decide_eq_true_eq, decide_eq_false_iff_not, Bool.and_eq_true] at hc)) | refine And.intro (by first | assumption | omega | (have := qg (by assumption); omega) | (unfold qp; omega)) ?_ | fail)
  all_goals simp [qcm, *]
theorem qnj (c : Int) : qbf Tryz.prog 128 [.int .u8 c] (.bool (onW c)) := by
  refine qu c0dh (by simp) (by simp only [go_sem]) rfl fun hw => ?_
  repeat' (first | refine ql ?_ | ((first | refine qn ?_ | refine qm ?_ | refine qc (qfq _) fun _ => ?_ | refine qd  (qfq _) ?_); simp only [go_sem, ↓reduceIte, Nat.reduceEqDiff, Nat.reduceAdd, Nat.reduceSub, Nat.reduceMul, Nat.reduceLT, Nat.reduceLeDiff, reduceCtorEq, Int.reduceToNat]) | ((first | refine qf ?_ ?_ | refine qe ?_ ?_) <;> intro hc <;> simp only [hc, go_sem, ↓reduceIte, Nat.reduceEqDiff, Nat.reduceAdd, Nat.reduceSub, Nat.reduceMul, Nat.reduceLT, Nat.reduceLeDiff, reduceCtorEq, Int.reduceToNat] <;> (try simp only [qb, qa, decide_eq_true_eq, decide_eq_false_iff_not, Bool.and_eq_true] at hc)) | refine And.intro (by first | assumption | omega | (have := qg (by assumption); omega) | (unfold qp; omega)) ?_ | fail)
  all_goals simp only [onW, qkc, qio, *]
  all_goals first | (simp_all; done) | (simp_all; omega)
def qd5 (c : Int) : Bool := decide (c = 9) || decide (c = 10) || decide (c = 13) || decide (c = 32)
theorem qov (c : Int) : qbf Tryz.prog 123 [.int .u8 c] (.bool (qd5 c)) := by
  refine qu c0di (by simp) (by simp only [go_sem]) rfl fun hw => ?_
  repeat' (first | refine ql ?_ | ((first | refine qn ?_ | refine qm ?_); simp only [go_sem, ↓reduceIte, Nat.reduceEqDiff, Nat.reduceAdd, Nat.reduceSub, Nat.reduceMul, Nat.reduceLT, Nat.reduceLeDiff, reduceCtorEq, Int.reduceToNat]) | ((first | refine qf ?_ ?_ | refine qe ?_ ?_) <;> intro hc <;> simp only [hc, go_sem, ↓reduceIte, Nat.reduceEqDiff, Nat.reduceAdd, Nat.reduceSub, Nat.reduceMul, Nat.reduceLT, Nat.reduceLeDiff, reduceCtorEq, Int.reduceToNat] <;> (try simp only [qb, qa, decide_eq_true_eq, decide_eq_false_iff_not, Bool.and_eq_true] at hc)) | refine And.intro (by first | assumption | omega | (have := qg (by assumption); omega) | (unfold qp; omega)) ?_ | fail)
  all_goals simp [qd5, *]
def qix (c : Int) : Bool := !decide (c = 10)
theorem qpu (c : Int) : qbf Tryz.prog 125 [.int .u8 c] (.bool (qix c)) := by
  refine qu c0dj (by simp) (by simp only [go_sem]) rfl fun hw => ?_
  repeat' (first | refine ql ?_ | ((first | refine qn ?_ | refine qm ?_); simp only [go_sem, ↓reduceIte, Nat.reduceEqDiff, Nat.reduceAdd, Nat.reduceSub, Nat.reduceMul, Nat.reduceLT, Nat.reduceLeDiff, reduceCtorEq, Int.reduceToNat]) | ((first | refine qf ?_ ?_ | refine qe ?_ ?_) <;> intro hc <;> simp only [hc, go_sem, ↓reduceIte, Nat.reduceEqDiff, Nat.reduceAdd, Nat.reduceSub, Nat.reduceMul, Nat.reduceLT, Nat.reduceLeDiff, reduceCtorEq, Int.reduceToNat] <;> (try simp only [qb, qa, decide_eq_true_eq, decide_eq_false_iff_not, Bool.and_eq_true] at hc)) | refine And.intro (by first | assumption | omega | (have := qg (by assumption); omega) | (unfold qp; omega)) ?_ | fail)
  all_goals simp [qix, *]

def qbh (f : Int → Bool) (l : List UInt8) : Nat := (l.takeWhile fun c => f c.toNat).length
theorem qd0 {f : Int → Bool} {l : List UInt8} {i : Nat} (h : i < l.length) : qbh f (l.drop i) = if f (l.getD i 0).toNat then qbh f (l.drop (i + 1)) + 1 else 0 := by
  rw [qd4 h, qbh, List.takeWhile_cons]
  split <;> simp [qbh]
theorem qej {so : FuncId} {f : Int → Bool} (h : ∀ c, qbf Tryz.prog so [.int .u8 c] (.bool (f c))) (l : List UInt8) : qbf Tryz.prog 122 [.str l, .fn so [] []] (.int .i64 (qbh f l)) := by
  refine qu c0dk (by simp) (by simp only [go_sem]) rfl fun hw => ?_
  have hl : l.length ≤ maxLen := hw.1
  repeat' (first | refine ql ?_ | refine qk ?_ | ((first | refine qn ?_ | refine qm ?_ | refine qs ?_ | refine qi ?_ | refine qh ?_); simp only [go_sem, ↓reduceIte, Nat.reduceEqDiff, Nat.reduceAdd, Nat.reduceSub, Nat.reduceMul, Nat.reduceLT, Nat.reduceLeDiff, reduceCtorEq, Int.reduceToNat]) | ((first | refine qf ?_ ?_ | refine qe ?_ ?_) <;> intro hc <;> simp only [hc, go_sem, ↓reduceIte, Nat.reduceEqDiff, Nat.reduceAdd, Nat.reduceSub, Nat.reduceMul, Nat.reduceLT, Nat.reduceLeDiff, reduceCtorEq, Int.reduceToNat] <;> (try simp only [qb, qa, decide_eq_true_eq, decide_eq_false_iff_not, Bool.and_eq_true] at hc)) | refine And.intro (by first | assumption | omega | (have := qg (by assumption); omega) | (unfold qp; omega)) ?_ | ((first | simp (disch := omega) only [qr] | simp (disch := omega) only [qbb]); (try simp only [go_sem, ↓reduceIte, Nat.reduceEqDiff, Nat.reduceAdd, Nat.reduceSub, Nat.reduceMul, Nat.reduceLT, Nat.reduceLeDiff, reduceCtorEq, Int.reduceToNat])))
  refine qby (S := Nat) (fun i => i ≤ l.length ∧ qbh f l = i + qbh f (l.drop i)) (fun i => (⟨[(0, .str l), (1, .fn so [] []), (7, .int .i64 l.length), (8, .int .i64 i)], []⟩, [])) (fun i => l.length - i) ?_ fun i hi => ?_
  · refine qbn 0 [] ⟨Nat.zero_le _, by simp⟩ rfl (by simp) ?_ ?_ ?_ <;> (try simp only [go_sem, ↓reduceIte, Nat.reduceEqDiff, Nat.reduceAdd, Nat.reduceSub, Nat.reduceMul, Nat.reduceLT, Nat.reduceLeDiff, reduceCtorEq, Int.reduceToNat]) <;> (try simp (disch := omega) only [qbb])
  · obtain ⟨hi, ha⟩ := hi
    repeat' (first | refine ql ?_ | refine qk ?_ | ((first | refine qn ?_ | refine qm ?_ | refine qs ?_ | refine qi ?_ | refine qh ?_ | refine qc (h _) fun _ => ?_ | refine qd  (h _) ?_); simp only [go_sem, ↓reduceIte, Nat.reduceEqDiff, Nat.reduceAdd, Nat.reduceSub, Nat.reduceMul, Nat.reduceLT, Nat.reduceLeDiff, reduceCtorEq, Int.reduceToNat]) | ((first | refine qf ?_ ?_ | refine qe ?_ ?_) <;> intro hc <;> simp only [hc, go_sem, ↓reduceIte, Nat.reduceEqDiff, Nat.reduceAdd, Nat.reduceSub, Nat.reduceMul, Nat.reduceLT, Nat.reduceLeDiff, reduceCtorEq, Int.reduceToNat] <;> (try simp only [qb, qa, decide_eq_true_eq, decide_eq_false_iff_not, Bool.and_eq_true] at hc)) | refine And.intro (by first | assumption | omega | (have := qg (by assumption); omega) | (unfold qp; omega)) ?_ | ((first | simp (disch := omega) only [qr] | simp (disch := omega) only [qbb]); (try simp only [go_sem, ↓reduceIte, Nat.reduceEqDiff, Nat.reduceAdd, Nat.reduceSub, Nat.reduceMul, Nat.reduceLT, Nat.reduceLeDiff, reduceCtorEq, Int.reduceToNat])))
    · rw [ha, qd0 (by omega), hc]; simp
    · refine qbn (i + 1) [] ⟨⟨by omega, ?_⟩, by omega⟩ rfl (by simp) ?_ ?_ ?_ <;> (try simp only [go_sem, ↓reduceIte, Nat.reduceEqDiff, Nat.reduceAdd, Nat.reduceSub, Nat.reduceMul, Nat.reduceLT, Nat.reduceLeDiff, reduceCtorEq, Int.reduceToNat]) <;> (try simp (disch := omega) only [qbb])
      rw [ha, qd0 (by omega), hc]; simp; omega
    · have : i = l.length := by omega
      subst this
      rw [ha, List.drop_length]; simp [qbh]

def pfx (p l : List UInt8) : Bool := decide (l.take p.length = p)
theorem qi2 (l p : List UInt8) : qbf Tryz.prog 134 [.str l, .str p] (.bool (pfx p l)) := by
  refine qu c0dl (by simp) (by simp only [go_sem]) rfl fun hw => ?_
  repeat' (first | refine ql ?_ | ((first | refine qn ?_ | refine qm ?_); simp only [go_sem, ↓reduceIte, Nat.reduceEqDiff, Nat.reduceAdd, Nat.reduceSub, Nat.reduceMul, Nat.reduceLT, Nat.reduceLeDiff, reduceCtorEq, Int.reduceToNat]) | ((first | refine qf ?_ ?_ | refine qe ?_ ?_) <;> intro hc <;> simp only [hc, go_sem, ↓reduceIte, Nat.reduceEqDiff, Nat.reduceAdd, Nat.reduceSub, Nat.reduceMul, Nat.reduceLT, Nat.reduceLeDiff, reduceCtorEq, Int.reduceToNat] <;> (try simp only [qb, qa, decide_eq_true_eq, decide_eq_false_iff_not, Bool.and_eq_true] at hc)) | refine And.intro (by first | assumption | omega | (have := qg (by assumption); omega) | (unfold qp; omega)) ?_ | fail)
  · rfl
  · rw [pfx, decide_eq_false]
    intro h
    have := congrArg List.length h
    rw [List.length_take] at this
    omega
theorem qdc (l p : List UInt8) : qbf Tryz.prog 124 [.str l, .str p] (.bool (pfx p l)) := by
  refine qu c0dm (by simp) (by simp only [go_sem]) rfl fun hw => ?_
  repeat' (first | refine ql ?_ | ((first | refine qn ?_ | refine qm ?_ | refine qc (qi2 _ _) fun _ => ?_ | refine qd  (qi2 _ _) ?_); simp only [go_sem, ↓reduceIte, Nat.reduceEqDiff, Nat.reduceAdd, Nat.reduceSub, Nat.reduceMul, Nat.reduceLT, Nat.reduceLeDiff, reduceCtorEq, Int.reduceToNat]) | ((first | refine qf ?_ ?_ | refine qe ?_ ?_) <;> intro hc <;> simp only [hc, go_sem, ↓reduceIte, Nat.reduceEqDiff, Nat.reduceAdd, Nat.reduceSub, Nat.reduceMul, Nat.reduceLT, Nat.reduceLeDiff, reduceCtorEq, Int.reduceToNat] <;> (try simp only [qb, qa, decide_eq_true_eq, decide_eq_false_iff_not, Bool.and_eq_true] at hc)) | refine And.intro (by first | assumption | omega | (have := qg (by assumption); omega) | (unfold qp; omega)) ?_ | fail)

theorem qgd (f : Int → Bool) (l : List UInt8) : qbh f l ≤ l.length := (List.takeWhile_sublist _).length_le
def qg8 (l : List UInt8) : Nat := if pfx [45, 45] (l.drop (qbh qd5 l)) then qbh qd5 l + qbh qix (l.drop (qbh qd5 l)) else qbh qd5 l
theorem qnh (l : List UInt8) : qg8 l ≤ l.length := by
  unfold qg8
  have h1 := qgd qd5 l
  have h2 := qgd qix (l.drop (qbh qd5 l))
  rw [List.length_drop] at h2
  split <;> omega
def qm1 : Nat → List UInt8 → Nat
  | 0, _ => 0
  | f + 1, l => if qg8 l = 0 then 0 else qg8 l + qm1 f (l.drop (qg8 l))
def qcz (l : List UInt8) : Nat := qm1 l.length l
theorem qml : ∀ (f g : Nat) (l : List UInt8), l.length ≤ f → l.length ≤ g → qm1 f l = qm1 g l
  | 0, 0, l, _, _ => rfl
  | 0, g + 1, l, h1, h2 => by
    have := qnh l
    rw [qm1, qm1, if_pos (by omega)]
  | f + 1, 0, l, h1, h2 => by
    have := qnh l
    rw [qm1, qm1, if_pos (by omega)]
  | f + 1, g + 1, l, h1, h2 => by
    rw [qm1, qm1]
    split
    · rfl
    · rename_i h
      rw [qml f g _ (by rw [List.length_drop]; omega) (by rw [List.length_drop]; omega)]
theorem qlx {l : List UInt8} (h : qg8 l = 0) : qcz l = 0 := by
  unfold qcz
  cases l.length with
  | zero => rfl
  | succ n => rw [qm1, if_pos h]
theorem qls {l : List UInt8} (h : qg8 l ≠ 0) : qcz l = qg8 l + qcz (l.drop (qg8 l)) := by
  have hk := qnh l
  unfold qcz
  obtain ⟨n, hn⟩ : ∃ n, l.length = n + 1 := ⟨l.length - 1, by omega⟩
  rw [hn, qm1, if_neg h, qml n (l.drop (qg8 l)).length _ (by rw [List.length_drop]; omega) (Nat.le_refl _)]
theorem qri (l : List UInt8) : qcz l ≤ l.length := by
  generalize hn : l.length = n
  induction n using Nat.strongRecOn generalizing l with
  | _ n ih =>
    subst hn
    by_cases h : qg8 l = 0
    · rw [qlx h]; exact Nat.zero_le _
    · have hk := qnh l
      have := ih (l.drop (qg8 l)).length (by rw [List.length_drop]; omega) _ rfl
      rw [qls h]; rw [List.length_drop] at this; omega
theorem qwf {l : List UInt8} (h : pfx [45, 45] (l.drop (qbh qd5 l)) = true) : qg8 l = qbh qd5 l + qbh qix (l.drop (qbh qd5 l)) := by rw [qg8, if_pos h]
theorem qvy {l : List UInt8} (h : pfx [45, 45] (l.drop (qbh qd5 l)) = false) : qg8 l = qbh qd5 l := by rw [qg8, h]; rfl
theorem qb6c (a b : Nat) : (a : Int) + (b : Int) = ((a + b : Nat) : Int) := rfl

theorem qjr (l : List UInt8) : qbf Tryz.prog 97 [.str l] (.int .i64 (qcz l)) := by
  refine qu c0dn (by simp) (by simp only [go_sem]) rfl fun hw => ?_
  have hl : l.length ≤ maxLen := hw.1
  repeat' (first | refine ql ?_ | refine qk ?_ | ((first | refine qn ?_ | refine qm ?_ | refine qi ?_ | refine qh ?_); simp only [go_sem, ↓reduceIte, Nat.reduceEqDiff, Nat.reduceAdd, Nat.reduceSub, Nat.reduceMul, Nat.reduceLT, Nat.reduceLeDiff, reduceCtorEq, Int.reduceToNat]) | ((first | refine qf ?_ ?_ | refine qe ?_ ?_) <;> intro hc <;> simp only [hc, go_sem, ↓reduceIte, Nat.reduceEqDiff, Nat.reduceAdd, Nat.reduceSub, Nat.reduceMul, Nat.reduceLT, Nat.reduceLeDiff, reduceCtorEq, Int.reduceToNat] <;> (try simp only [qb, qa, decide_eq_true_eq, decide_eq_false_iff_not, Bool.and_eq_true] at hc)) | refine And.intro (by first | assumption | omega | (have := qg (by assumption); omega) | (unfold qp; omega)) ?_ | ((first | simp (disch := omega) only [qr] | simp (disch := omega) only [qbb]); (try simp only [go_sem, ↓reduceIte, Nat.reduceEqDiff, Nat.reduceAdd, Nat.reduceSub, Nat.reduceMul, Nat.reduceLT, Nat.reduceLeDiff, reduceCtorEq, Int.reduceToNat])))
  refine qby (S := Nat) (fun n => n ≤ l.length ∧ qcz l = n + qcz (l.drop n)) (fun n => (⟨[(0, .str l), (3, .int .i64 n)], []⟩, [])) (fun n => l.length - n) ?_ fun n hn => ?_
  · refine qbn 0 [] ⟨Nat.zero_le _, by simp⟩ rfl (by simp) ?_ ?_ ?_ <;> (try simp only [go_sem, ↓reduceIte, Nat.reduceEqDiff, Nat.reduceAdd, Nat.reduceSub, Nat.reduceMul, Nat.reduceLT, Nat.reduceLeDiff, reduceCtorEq, Int.reduceToNat]) <;> (try simp (disch := omega) only [qbb])
  · obtain ⟨hn, ha⟩ := hn
    have h1 := qgd qd5 (l.drop n)
    have h2 := qgd qix (l.drop (n + qbh qd5 (l.drop n)))
    rw [List.length_drop] at h1 h2
    repeat' (first | refine ql ?_ | refine qk ?_ | ((first | refine qn ?_ | refine qm ?_ | refine qi ?_ | refine qh ?_); simp (disch := first | omega | (simp only [List.length_set, List.length_append, List.length_cons, List.length_nil]; done) | (simp only [List.length_set, List.length_append, List.length_cons, List.length_nil]; omega)) only [qe1, go_sem, ↓reduceIte, Nat.reduceEqDiff, Nat.reduceAdd, Nat.reduceSub, Nat.reduceMul, Nat.reduceLT, Nat.reduceLeDiff, reduceCtorEq, Int.reduceToNat]) | ((first | simp (disch := omega) only [qe1] | simp (disch := omega) only [qb6c] | simp (disch := omega) only [Int.toNat_natCast]); (try simp only [go_sem, ↓reduceIte, Nat.reduceEqDiff, Nat.reduceAdd, Nat.reduceSub, Nat.reduceMul, Nat.reduceLT, Nat.reduceLeDiff, reduceCtorEq, Int.reduceToNat])) | ((first | refine qf ?_ ?_ | refine qe ?_ ?_) <;> intro hc <;> simp only [hc, go_sem, ↓reduceIte, Nat.reduceEqDiff, Nat.reduceAdd, Nat.reduceSub, Nat.reduceMul, Nat.reduceLT, Nat.reduceLeDiff, reduceCtorEq, Int.reduceToNat] <;> (try simp only [qb, qa, decide_eq_true_eq, decide_eq_false_iff_not, Bool.and_eq_true] at hc)) | refine And.intro (by first | assumption | omega | (have := qg (by assumption); omega) | (unfold qp; omega)) ?_ | ((first | simp (disch := omega) only [qr] | simp (disch := omega) only [qbb]); (try simp only [go_sem, ↓reduceIte, Nat.reduceEqDiff, Nat.reduceAdd, Nat.reduceSub, Nat.reduceMul, Nat.reduceLT, Nat.reduceLeDiff, reduceCtorEq, Int.reduceToNat])) | ((first | refine qc (qej qov _) fun _ => ?_ | refine qc (qdc _ _) fun _ => ?_ | refine qc (qej qpu _) fun _ => ?_ | refine qd  (qej qov _) ?_ | refine qd  (qdc _ _) ?_ | refine qd  (qej qpu _) ?_); simp only [go_sem, ↓reduceIte, Nat.reduceEqDiff, Nat.reduceAdd, Nat.reduceSub, Nat.reduceMul, Nat.reduceLT, Nat.reduceLeDiff, reduceCtorEq, Int.reduceToNat]))
    · rename_i hp _
      have hk := qwf (l := l.drop n) (by rw [List.drop_drop]; exact hp)
      rw [List.drop_drop] at hk
      rw [ha, qlx (hk.trans (by omega))]; rfl
    · rename_i hp _
      have hk := qwf (l := l.drop n) (by rw [List.drop_drop]; exact hp)
      rw [List.drop_drop] at hk
      refine qbn (n + qg8 (l.drop n)) [] ⟨⟨by omega, ?_⟩, by omega⟩ rfl (by simp) ?_ ?_ ?_ <;> (try simp only [go_sem, ↓reduceIte, Nat.reduceEqDiff, Nat.reduceAdd, Nat.reduceSub, Nat.reduceMul, Nat.reduceLT, Nat.reduceLeDiff, reduceCtorEq, Int.reduceToNat]) <;> (try simp (disch := omega) only [qbb])
      · rw [ha, qls (l := l.drop n) (by omega), List.drop_drop]; omega
      · rw [hk]
    · rename_i hp
      have hk := qvy (l := l.drop n) (by rw [List.drop_drop]; exact hp)
      rw [ha, qlx (hk.trans (by omega))]; rfl
    · rename_i hp
      have hk := qvy (l := l.drop n) (by rw [List.drop_drop]; exact hp)
      refine qbn (n + qg8 (l.drop n)) [] ⟨⟨by omega, ?_⟩, by omega⟩ rfl (by simp) ?_ ?_ ?_ <;> (try simp only [go_sem, ↓reduceIte, Nat.reduceEqDiff, Nat.reduceAdd, Nat.reduceSub, Nat.reduceMul, Nat.reduceLT, Nat.reduceLeDiff, reduceCtorEq, Int.reduceToNat]) <;> (try simp (disch := omega) only [qbb])
      · rw [ha, qls (l := l.drop n) (by omega), List.drop_drop]; omega
      · rw [hk]

theorem qif {c : UInt8} {r : List UInt8} (h : qd5 c.toNat = true) : qcz (c :: r) = 1 + qcz r := by
  have hw : qbh qd5 (c :: r) = qbh qd5 r + 1 := by simp [qbh, List.takeWhile_cons, h]
  have hk : qg8 (c :: r) = qg8 r + 1 := by
    unfold qg8
    rw [hw, List.drop_succ_cons]
    split <;> omega
  rw [qls (by omega), hk, List.drop_succ_cons]
  by_cases h0 : qg8 r = 0
  · rw [h0, qlx h0]; simp [qlx h0]
  · rw [qls h0]; omega
theorem q8z {a : UInt8} {p l : List UInt8} (h : pfx (a :: p) l = true) : ∃ r, l = a :: r := by
  cases l with
  | nil => simp [pfx] at h
  | cons b r => simp only [pfx, decide_eq_true_eq, List.length_cons, List.take_succ_cons, List.cons.injEq] at h; exact ⟨r, by rw [h.1]⟩
theorem qzw {l : List UInt8} (h : pfx [45, 45] l = true) : qcz l = qbh qix l + qcz (l.drop (qbh qix l)) := by
  obtain ⟨r, rfl⟩ := q8z h
  have hw : qbh qd5 (45 :: r) = 0 := by simp [qbh, qd5]
  have hk : qg8 (45 :: r) = qbh qix (45 :: r) := by
    rw [qwf (by rw [hw]; exact h), hw]; simp
  have h1 : qbh qix (45 :: r) ≠ 0 := by simp [qbh, qix, List.takeWhile_cons]
  rw [qls (by omega), hk]
theorem qqf {l : List UInt8} (h : pfx [45, 45] l = false) (hb : qbh qd5 l = 0) : qcz l = 0 := by
  rw [qlx]
  rw [qvy (by rw [hb]; exact h), hb]
end Go.Proofs.YtmekebfgmjaenaaGreat
