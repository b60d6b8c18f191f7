/- Texts of this proof, joined. -/
import Derived.Test.YtmekebfgmjaenaaGreatAag
import Derived.Test.YtmekebfgmjaenaaGreatAaq

/- the lexer's words: numbers -/
set_option maxRecDepth 4000
namespace Go.Proofs.YtmekebfgmjaenaaGreat
open Go Go.RowKit Go.V
set_option linter.unusedVariables false
set_option linter.unusedSimpArgs false

theorem qzc : IntKind.i64.wrap (0 + 1) = 1 := by decide
def digW (l : List UInt8) : Bool := l.all fun c => qev c.toNat
theorem qkk {l : List UInt8} {i : Nat} (h : i < l.length) : digW (l.drop i) = (qev (l.getD i 0).toNat && digW (l.drop (i + 1))) := by
  rw [qdx h]; rfl

def digV (c : UInt8) : Int := IntKind.i64.wrap (IntKind.u8.wrap ((c.toNat : Int) - 48))
def topV (c : UInt8) : Int := IntKind.i64.wrap ((IntKind.i64.wrap (9223372036854775807 - digV c)).tdiv 10)
def nxtV (k : Int) (c : UInt8) : Int := IntKind.i64.wrap (IntKind.i64.wrap (10 * k) + digV c)
def qjw : Int → List UInt8 → Int × Int
  | k, [] => (k, 0)
  | k, c :: r => if topV c < k then (0, 4) else qjw (nxtV k c) r
/-- The number that a text is, and the error. -/
def qof (l : List UInt8) : Int × Int := if l = [] then (0, 5) else if digW l = true then qjw 0 l else (0, 5)
def qbil (p : Int × Int) : AV := .tup [.int .i64 p.1, .int .i64 p.2]
theorem qks {l : List UInt8} {i : Nat} (h : i < l.length) (k : Int) : qjw k (l.drop i) = if topV (l.getD i 0) < k then (0, 4) else qjw (nxtV k (l.getD i 0)) (l.drop (i + 1)) := by
  rw [qdx h]; rfl
theorem q0g {c : Int} (h : c < 48 ∨ 57 < c) : qev c = false := by
  simp only [qev, Bool.and_eq_false_iff, decide_eq_false_iff_not]; omega
theorem q0x {c : Int} (h : ¬ c < 48) (h2 : ¬ 57 < c) : qev c = true := by
  simp only [qev, Bool.and_eq_true, decide_eq_true_eq]; omega
theorem qj3 {l : List UInt8} (h : l ≠ []) (hd : digW l = true) : qof l = qjw 0 l := by rw [qof, if_neg h, if_pos hd]
theorem qsq {l : List UInt8} (hd : digW l = false) : qof l = (0, 5) := by rw [qof, hd]; simp

theorem qbrh (l : List UInt8) : qbp Tryz.prog 102 [.str l] (qbil (qof l)) := by
  refine qba c0dl (by simp) (by simp only [go_sem]) rfl fun hw => ?_
  have hl : l.length ≤ maxLen := hw.1
  repeat' (first | refine ql ?_ | refine qk ?_ | ((first | refine qn ?_ | refine qm ?_ | refine qs ?_ | refine qj ?_ | refine qi ?_); simp only [go_sem, ↓reduceIte, Nat.reduceEqDiff, Nat.reduceAdd, Nat.reduceSub, Nat.reduceMul, Nat.reduceLT, Nat.reduceLeDiff, reduceCtorEq, Int.reduceToNat]) | ((first | refine qf ?_ ?_ | refine qd ?_ ?_) <;> intro hc <;> simp only [hc, go_sem, ↓reduceIte, Nat.reduceEqDiff, Nat.reduceAdd, Nat.reduceSub, Nat.reduceMul, Nat.reduceLT, Nat.reduceLeDiff, reduceCtorEq, Int.reduceToNat] <;> (try simp only [qb, qa, decide_eq_true_eq, decide_eq_false_iff_not, Bool.and_eq_true] at hc)) | refine And.intro (by first | assumption | omega | (have := qg (by assumption); omega) | (unfold qq; omega)) ?_ | ((first | simp (disch := omega) only [qv] | simp (disch := omega) only [qbe]); (try simp only [go_sem, ↓reduceIte, Nat.reduceEqDiff, Nat.reduceAdd, Nat.reduceSub, Nat.reduceMul, Nat.reduceLT, Nat.reduceLeDiff, reduceCtorEq, Int.reduceToNat])))
  · subst hc; rfl
  · refine qca (S := Nat) (fun i => i ≤ l.length ∧ digW (l.drop i) = digW l) (fun i => (⟨[(0, .str l), (4, .int .i64 i)], []⟩, [])) (fun i => l.length - i) ?_ fun i hi => ?_
    · refine qbq 0 [] ⟨Nat.zero_le _, rfl⟩ rfl (by simp) ?_ ?_ ?_ <;> (try simp only [go_sem, ↓reduceIte, Nat.reduceEqDiff, Nat.reduceAdd, Nat.reduceSub, Nat.reduceMul, Nat.reduceLT, Nat.reduceLeDiff, reduceCtorEq, Int.reduceToNat]) <;> (try simp (disch := omega) only [qbe])
    · obtain ⟨hi, ha⟩ := hi
      have hs : i < l.length → qev (l.getD i 0).toNat = false → qof l = (0, 5) := fun h h2 => qsq (by rw [← ha, qkk h, h2]; rfl)
      repeat' (first | refine ql ?_ | refine qk ?_ | ((first | refine qn ?_ | refine qm ?_ | refine qs ?_ | refine qj ?_ | refine qi ?_); simp only [go_sem, ↓reduceIte, Nat.reduceEqDiff, Nat.reduceAdd, Nat.reduceSub, Nat.reduceMul, Nat.reduceLT, Nat.reduceLeDiff, reduceCtorEq, Int.reduceToNat]) | ((first | refine qf ?_ ?_ | refine qd ?_ ?_) <;> intro hc <;> simp only [hc, go_sem, ↓reduceIte, Nat.reduceEqDiff, Nat.reduceAdd, Nat.reduceSub, Nat.reduceMul, Nat.reduceLT, Nat.reduceLeDiff, reduceCtorEq, Int.reduceToNat] <;> (try simp only [qb, qa, decide_eq_true_eq, decide_eq_false_iff_not, Bool.and_eq_true] at hc)) | refine And.intro (by first | assumption | omega | (have := qg (by assumption); omega) | (unfold qq; omega)) ?_ | ((first | simp (disch := omega) only [qv] | simp (disch := omega) only [qbe]); (try simp only [go_sem, ↓reduceIte, Nat.reduceEqDiff, Nat.reduceAdd, Nat.reduceSub, Nat.reduceMul, Nat.reduceLT, Nat.reduceLeDiff, reduceCtorEq, Int.reduceToNat])))
      · rw [hs (by omega) (q0g (by omega))]; rfl
      · rw [hs (by omega) (q0g (by omega))]; rfl
      · refine qbq (i + 1) [] ⟨⟨by omega, ?_⟩, by omega⟩ rfl (by simp) ?_ ?_ ?_ <;> (try simp only [go_sem, ↓reduceIte, Nat.reduceEqDiff, Nat.reduceAdd, Nat.reduceSub, Nat.reduceMul, Nat.reduceLT, Nat.reduceLeDiff, reduceCtorEq, Int.reduceToNat]) <;> (try simp (disch := omega) only [qbe])
        have hd : qev (l.getD i 0).toNat = true := q0x (by omega) (by omega)
        rw [← ha, qkk (l := l) (i := i) (by omega), hd, Bool.true_and]
      · have hd : digW l = true := by rw [← ha, List.drop_of_length_le (by omega)]; rfl
        rw [qj3 (by assumption) hd]
        refine qca (S := Nat × Int) (fun s => s.1 ≤ l.length ∧ qjw s.2 (l.drop s.1) = qjw 0 l) (fun s => (⟨[(0, .str l), (5, .int .i64 s.2), (6, .int .i64 s.1)], []⟩, [])) (fun s => l.length - s.1) ?_ fun s hs => ?_
        · refine qbq (0, 0) [] ⟨Nat.zero_le _, rfl⟩ rfl (by simp) ?_ ?_ ?_ <;> (try simp only [go_sem, ↓reduceIte, Nat.reduceEqDiff, Nat.reduceAdd, Nat.reduceSub, Nat.reduceMul, Nat.reduceLT, Nat.reduceLeDiff, reduceCtorEq, Int.reduceToNat]) <;> (try simp (disch := omega) only [qbe])
        · obtain ⟨j, k⟩ := s
          obtain ⟨hj, hr⟩ := hs
          dsimp only at hj hr
          have hs2 : j < l.length → qjw 0 l = if topV (l.getD j 0) < k then (0, 4) else qjw (nxtV k (l.getD j 0)) (l.drop (j + 1)) := fun h => by rw [← hr, qks h]
          repeat' (first | refine ql ?_ | refine qk ?_ | ((first | refine qn ?_ | refine qm ?_ | refine qs ?_ | refine qj ?_ | refine qi ?_); simp only [go_sem, ↓reduceIte, Nat.reduceEqDiff, Nat.reduceAdd, Nat.reduceSub, Nat.reduceMul, Nat.reduceLT, Nat.reduceLeDiff, reduceCtorEq, Int.reduceToNat]) | ((first | refine qf ?_ ?_ | refine qd ?_ ?_) <;> intro hc <;> simp only [hc, go_sem, ↓reduceIte, Nat.reduceEqDiff, Nat.reduceAdd, Nat.reduceSub, Nat.reduceMul, Nat.reduceLT, Nat.reduceLeDiff, reduceCtorEq, Int.reduceToNat] <;> (try simp only [qb, qa, decide_eq_true_eq, decide_eq_false_iff_not, Bool.and_eq_true] at hc)) | refine And.intro (by first | assumption | omega | (have := qg (by assumption); omega) | (unfold qq; omega)) ?_ | ((first | simp (disch := omega) only [qv] | simp (disch := omega) only [qbe]); (try simp only [go_sem, ↓reduceIte, Nat.reduceEqDiff, Nat.reduceAdd, Nat.reduceSub, Nat.reduceMul, Nat.reduceLT, Nat.reduceLeDiff, reduceCtorEq, Int.reduceToNat])))
          · have hc' : topV (l.getD j 0) < k := hc
            rw [hs2 (by omega), if_pos hc']; rfl
          · have hc' : ¬ topV (l.getD j 0) < k := hc
            refine qbq (j + 1, nxtV k (l.getD j 0)) [] ⟨⟨by omega, ?_⟩, by omega⟩ rfl (by simp) ?_ ?_ ?_ <;> (try simp only [go_sem, ↓reduceIte, Nat.reduceEqDiff, Nat.reduceAdd, Nat.reduceSub, Nat.reduceMul, Nat.reduceLT, Nat.reduceLeDiff, reduceCtorEq, Int.reduceToNat]) <;> (try simp (disch := omega) only [qbe])
            · rw [hs2 (by omega), if_neg hc']
            · rfl
          · rw [← hr, List.drop_of_length_le (by omega)]; rfl

theorem qrj (l : List UInt8) : qbp Tryz.prog 127 [.str l] (qbil (qof l)) := by
  refine qba c0dm (by simp) (by simp only [go_sem]) rfl fun hw => ?_
  have hl : l.length ≤ maxLen := hw.1
  refine ql (qn ?_)
  simp only [go_sem, ↓reduceIte, Nat.reduceEqDiff, Nat.reduceAdd, Nat.reduceSub, Nat.reduceMul, Nat.reduceLT, Nat.reduceLeDiff, reduceCtorEq, Int.reduceToNat]
  refine qzi (S := Nat × Int) 0 rfl (fun s => s.1 < l.length ∧ digW l = true ∧ qjw s.2 (l.drop s.1) = qjw 0 l) (fun s => (⟨[(0, .str l), (5, .int .i64 s.2), (6, .int .i64 s.1)], []⟩, [])) (fun s => l.length - s.1) ?_ fun s hs => ?_
  · repeat' (first | refine ql ?_ | refine qk ?_ | refine qfg ?_ | ((first | refine qn ?_ | refine qe3 ?_ | refine qgj ?_ | refine qm ?_ | refine qs ?_ | refine qj ?_ | refine qi ?_); simp only [go_sem, ↓reduceIte, Nat.reduceEqDiff, Nat.reduceAdd, Nat.reduceSub, Nat.reduceMul, Nat.reduceLT, Nat.reduceLeDiff, reduceCtorEq, Int.reduceToNat]) | ((first | refine qf ?_ ?_ | refine qd ?_ ?_) <;> intro hc <;> simp only [hc, go_sem, ↓reduceIte, Nat.reduceEqDiff, Nat.reduceAdd, Nat.reduceSub, Nat.reduceMul, Nat.reduceLT, Nat.reduceLeDiff, reduceCtorEq, Int.reduceToNat] <;> (try simp only [qb, qa, decide_eq_true_eq, decide_eq_false_iff_not, Bool.and_eq_true] at hc)) | refine And.intro (by first | assumption | omega | (have := qg (by assumption); omega) | (unfold qq; omega)) ?_ | ((first | simp (disch := omega) only [qv] | simp (disch := omega) only [qbe]); (try simp only [go_sem, ↓reduceIte, Nat.reduceEqDiff, Nat.reduceAdd, Nat.reduceSub, Nat.reduceMul, Nat.reduceLT, Nat.reduceLeDiff, reduceCtorEq, Int.reduceToNat])))
    refine qca (S := Nat) (fun i => i ≤ l.length ∧ digW (l.drop i) = digW l) (fun i => (⟨[(0, .str l), (9, .int .i64 l.length), (10, .int .i64 i)], []⟩, [])) (fun i => l.length - i) ?_ fun i hi => ?_
    · refine qbq 0 [] ⟨Nat.zero_le _, rfl⟩ rfl (by simp) ?_ ?_ ?_ <;> (try simp only [go_sem, ↓reduceIte, Nat.reduceEqDiff, Nat.reduceAdd, Nat.reduceSub, Nat.reduceMul, Nat.reduceLT, Nat.reduceLeDiff, reduceCtorEq, Int.reduceToNat]) <;> (try simp (disch := omega) only [qbe])
    · obtain ⟨hi, ha⟩ := hi
      have hs : i < l.length → qev (l.getD i 0).toNat = false → qof l = (0, 5) := fun h h2 => qsq (by rw [← ha, qkk h, h2]; rfl)
      have hs2 : 0 < l.length → qjw 0 l = if topV (l.getD 0 0) < 0 then (0, 4) else qjw (nxtV 0 (l.getD 0 0)) (l.drop 1) := fun h => by
        have := qks (l := l) (i := 0) h 0
        rwa [List.drop_zero] at this
      have hdig : ¬ (i : Int) < l.length → digW l = true := fun h => by rw [← ha, List.drop_of_length_le (by omega)]; rfl
      repeat' (first | refine ql ?_ | refine qk ?_ | refine qfg ?_ | ((first | refine qn ?_ | refine qe3 ?_ | refine qgj ?_ | refine qm ?_ | refine qs ?_ | refine qj ?_ | refine qi ?_); simp only [go_sem, ↓reduceIte, Nat.reduceEqDiff, Nat.reduceAdd, Nat.reduceSub, Nat.reduceMul, Nat.reduceLT, Nat.reduceLeDiff, reduceCtorEq, Int.reduceToNat]) | ((first | simp (disch := omega) only [qbe] | simp (disch := omega) only [qzc]); (try simp only [go_sem, ↓reduceIte, Nat.reduceEqDiff, Nat.reduceAdd, Nat.reduceSub, Nat.reduceMul, Nat.reduceLT, Nat.reduceLeDiff, reduceCtorEq, Int.reduceToNat])) | ((first | refine qf ?_ ?_ | refine qd ?_ ?_) <;> intro hc <;> simp only [hc, go_sem, ↓reduceIte, Nat.reduceEqDiff, Nat.reduceAdd, Nat.reduceSub, Nat.reduceMul, Nat.reduceLT, Nat.reduceLeDiff, reduceCtorEq, Int.reduceToNat] <;> (try simp only [qb, qa, decide_eq_true_eq, decide_eq_false_iff_not, Bool.and_eq_true] at hc)) | refine And.intro (by first | assumption | omega | (have := qg (by assumption); omega) | (unfold qq; omega)) ?_ | ((first | simp (disch := omega) only [qv] | simp (disch := omega) only [qbe]); (try simp only [go_sem, ↓reduceIte, Nat.reduceEqDiff, Nat.reduceAdd, Nat.reduceSub, Nat.reduceMul, Nat.reduceLT, Nat.reduceLeDiff, reduceCtorEq, Int.reduceToNat])))
      all_goals first
        | (rw [hs (by omega) (q0g (by omega))]; rfl)
        | (refine qbq (i + 1) [] ⟨⟨by omega, ?_⟩, by omega⟩ rfl (by simp) ?_ ?_ ?_ <;> (try simp only [go_sem, ↓reduceIte, Nat.reduceEqDiff, Nat.reduceAdd, Nat.reduceSub, Nat.reduceMul, Nat.reduceLT, Nat.reduceLeDiff, reduceCtorEq, Int.reduceToNat]) <;> (try simp (disch := omega) only [qbe])
           have hd : qev (l.getD i 0).toNat = true := q0x (by omega) (by omega)
           rw [← ha, qkk (l := l) (i := i) (by omega), hd, Bool.true_and])
        | (subst hc; rfl)
        | skip
      · have hlp := qg (by assumption)
        have hd := hdig (by assumption)
        have hc' : topV (l.getD 0 0) < 0 := hc
        rw [qj3 (by assumption) hd, hs2 hlp, if_pos hc']; rfl
      · rename_i hc0
        have hlp := qg (by assumption)
        have hd := hdig (by assumption)
        have hc' : ¬ topV (l.getD 0 0) < 0 := hc0
        refine qbq (1, nxtV 0 (l.getD 0 0)) [] ⟨by omega, hd, ?_⟩ rfl (by simp) ?_ ?_ ?_ <;> (try simp only [go_sem, ↓reduceIte, Nat.reduceEqDiff, Nat.reduceAdd, Nat.reduceSub, Nat.reduceMul, Nat.reduceLT, Nat.reduceLeDiff, reduceCtorEq, Int.reduceToNat]) <;> (try simp (disch := omega) only [qbe])
        · rw [hs2 hlp, if_neg hc']
        · rfl
      · rename_i hc0
        have hlp := qg (by assumption)
        have hd := hdig (by assumption)
        have hc' : ¬ topV (l.getD 0 0) < 0 := hc0
        rw [qj3 (by assumption) hd, hs2 hlp, if_neg hc', List.drop_of_length_le (by omega)]; rfl
  · obtain ⟨j, k⟩ := s
    obtain ⟨hj, hd, hr⟩ := hs
    dsimp only at hj hr
    have hs2 : qjw 0 l = if topV (l.getD j 0) < k then (0, 4) else qjw (nxtV k (l.getD j 0)) (l.drop (j + 1)) := by rw [← hr, qks hj]
    have hne : l ≠ [] := fun e => by subst e; simp at hj
    rw [qj3 hne hd]
    repeat' (first | refine ql ?_ | refine qk ?_ | refine qfg ?_ | ((first | refine qn ?_ | refine qe3 ?_ | refine qgj ?_ | refine qm ?_ | refine qs ?_ | refine qj ?_ | refine qi ?_); simp only [go_sem, ↓reduceIte, Nat.reduceEqDiff, Nat.reduceAdd, Nat.reduceSub, Nat.reduceMul, Nat.reduceLT, Nat.reduceLeDiff, reduceCtorEq, Int.reduceToNat]) | ((first | simp (disch := omega) only [qbe] | simp (disch := omega) only [qzc]); (try simp only [go_sem, ↓reduceIte, Nat.reduceEqDiff, Nat.reduceAdd, Nat.reduceSub, Nat.reduceMul, Nat.reduceLT, Nat.reduceLeDiff, reduceCtorEq, Int.reduceToNat])) | ((first | refine qf ?_ ?_ | refine qd ?_ ?_) <;> intro hc <;> simp only [hc, go_sem, ↓reduceIte, Nat.reduceEqDiff, Nat.reduceAdd, Nat.reduceSub, Nat.reduceMul, Nat.reduceLT, Nat.reduceLeDiff, reduceCtorEq, Int.reduceToNat] <;> (try simp only [qb, qa, decide_eq_true_eq, decide_eq_false_iff_not, Bool.and_eq_true] at hc)) | refine And.intro (by first | assumption | omega | (have := qg (by assumption); omega) | (unfold qq; omega)) ?_ | ((first | simp (disch := omega) only [qv] | simp (disch := omega) only [qbe]); (try simp only [go_sem, ↓reduceIte, Nat.reduceEqDiff, Nat.reduceAdd, Nat.reduceSub, Nat.reduceMul, Nat.reduceLT, Nat.reduceLeDiff, reduceCtorEq, Int.reduceToNat])))
    · have hc' : topV (l.getD j 0) < k := hc
      rw [hs2, if_pos hc']; rfl
    · rename_i hc0
      have hc' : ¬ topV (l.getD j 0) < k := hc0
      refine qbq (j + 1, nxtV k (l.getD j 0)) [] ⟨⟨by omega, hd, ?_⟩, by omega⟩ rfl (by simp) ?_ ?_ ?_ <;> (try simp only [go_sem, ↓reduceIte, Nat.reduceEqDiff, Nat.reduceAdd, Nat.reduceSub, Nat.reduceMul, Nat.reduceLT, Nat.reduceLeDiff, reduceCtorEq, Int.reduceToNat]) <;> (try simp (disch := omega) only [qbe])
      · rw [hs2, if_neg hc']
      · rfl
    · rename_i hc0
      have hc' : ¬ topV (l.getD j 0) < k := hc0
      rw [hs2, if_neg hc', List.drop_of_length_le (by omega)]; rfl
set_option maxRecDepth 4000

theorem qfl (c : Int) : qbp Tryz.prog 126 [.int .u8 c] (.bool (qev c)) := by
  refine qba c0dd (by simp) (by simp only [go_sem]) rfl fun hw => ?_
  repeat' (first | refine ql ?_ | ((first | refine qn ?_ | refine qm ?_); simp only [go_sem, ↓reduceIte, Nat.reduceEqDiff, Nat.reduceAdd, Nat.reduceSub, Nat.reduceMul, Nat.reduceLT, Nat.reduceLeDiff, reduceCtorEq, Int.reduceToNat]) | ((first | refine qf ?_ ?_ | refine qd ?_ ?_) <;> intro hc <;> simp only [hc, go_sem, ↓reduceIte, Nat.reduceEqDiff, Nat.reduceAdd, Nat.reduceSub, Nat.reduceMul, Nat.reduceLT, Nat.reduceLeDiff, reduceCtorEq, Int.reduceToNat] <;> (try simp only [qb, qa, decide_eq_true_eq, decide_eq_false_iff_not, Bool.and_eq_true] at hc)) | refine And.intro (by first | assumption | omega | (have := qg (by assumption); omega) | (unfold qq; omega)) ?_ | fail)
  all_goals simp [qev, *]
theorem ql4 (c : Int) : qbp Tryz.prog 128 [.int .u8 c] (.bool (onW c)) := by
  refine qba c0de (by simp) (by simp only [go_sem]) rfl fun hw => ?_
  repeat' (first | refine ql ?_ | ((first | refine qn ?_ | refine qm ?_ | refine qc (qfl _) fun _ => ?_ | refine qe  (qfl _) ?_); simp only [go_sem, ↓reduceIte, Nat.reduceEqDiff, Nat.reduceAdd, Nat.reduceSub, Nat.reduceMul, Nat.reduceLT, Nat.reduceLeDiff, reduceCtorEq, Int.reduceToNat]) | ((first | refine qf ?_ ?_ | refine qd ?_ ?_) <;> intro hc <;> simp only [hc, go_sem, ↓reduceIte, Nat.reduceEqDiff, Nat.reduceAdd, Nat.reduceSub, Nat.reduceMul, Nat.reduceLT, Nat.reduceLeDiff, reduceCtorEq, Int.reduceToNat] <;> (try simp only [qb, qa, decide_eq_true_eq, decide_eq_false_iff_not, Bool.and_eq_true] at hc)) | refine And.intro (by first | assumption | omega | (have := qg (by assumption); omega) | (unfold qq; omega)) ?_ | fail)
  all_goals simp only [onW, qvo, qsx, *]
  all_goals first | (simp_all; done) | (simp_all; omega)
def qdy (c : Int) : Bool := decide (c = 9) || decide (c = 10) || decide (c = 13) || decide (c = 32)
theorem qny (c : Int) : qbp Tryz.prog 123 [.int .u8 c] (.bool (qdy c)) := by
  refine qba c0df (by simp) (by simp only [go_sem]) rfl fun hw => ?_
  repeat' (first | refine ql ?_ | ((first | refine qn ?_ | refine qm ?_); simp only [go_sem, ↓reduceIte, Nat.reduceEqDiff, Nat.reduceAdd, Nat.reduceSub, Nat.reduceMul, Nat.reduceLT, Nat.reduceLeDiff, reduceCtorEq, Int.reduceToNat]) | ((first | refine qf ?_ ?_ | refine qd ?_ ?_) <;> intro hc <;> simp only [hc, go_sem, ↓reduceIte, Nat.reduceEqDiff, Nat.reduceAdd, Nat.reduceSub, Nat.reduceMul, Nat.reduceLT, Nat.reduceLeDiff, reduceCtorEq, Int.reduceToNat] <;> (try simp only [qb, qa, decide_eq_true_eq, decide_eq_false_iff_not, Bool.and_eq_true] at hc)) | refine And.intro (by first | assumption | omega | (have := qg (by assumption); omega) | (unfold qq; omega)) ?_ | fail)
  all_goals simp [qdy, *]
def qh5 (c : Int) : Bool := !decide (c = 10)
theorem qps (c : Int) : qbp Tryz.prog 125 [.int .u8 c] (.bool (qh5 c)) := by
  refine qba c0dg (by simp) (by simp only [go_sem]) rfl fun hw => ?_
  repeat' (first | refine ql ?_ | ((first | refine qn ?_ | refine qm ?_); simp only [go_sem, ↓reduceIte, Nat.reduceEqDiff, Nat.reduceAdd, Nat.reduceSub, Nat.reduceMul, Nat.reduceLT, Nat.reduceLeDiff, reduceCtorEq, Int.reduceToNat]) | ((first | refine qf ?_ ?_ | refine qd ?_ ?_) <;> intro hc <;> simp only [hc, go_sem, ↓reduceIte, Nat.reduceEqDiff, Nat.reduceAdd, Nat.reduceSub, Nat.reduceMul, Nat.reduceLT, Nat.reduceLeDiff, reduceCtorEq, Int.reduceToNat] <;> (try simp only [qb, qa, decide_eq_true_eq, decide_eq_false_iff_not, Bool.and_eq_true] at hc)) | refine And.intro (by first | assumption | omega | (have := qg (by assumption); omega) | (unfold qq; omega)) ?_ | fail)
  all_goals simp [qh5, *]

def qce (f : Int → Bool) (l : List UInt8) : Nat := (l.takeWhile fun c => f c.toNat).length
theorem qeq {f : Int → Bool} {l : List UInt8} {i : Nat} (h : i < l.length) : qce f (l.drop i) = if f (l.getD i 0).toNat then qce f (l.drop (i + 1)) + 1 else 0 := by
  rw [qdx h, qce, List.takeWhile_cons]
  split <;> simp [qce]
theorem qeb {so : FuncId} {f : Int → Bool} (h : ∀ c, qbp Tryz.prog so [.int .u8 c] (.bool (f c))) (l : List UInt8) : qbp Tryz.prog 122 [.str l, .fn so [] []] (.int .i64 (qce f l)) := by
  refine qba c0dh (by simp) (by simp only [go_sem]) rfl fun hw => ?_
  have hl : l.length ≤ maxLen := hw.1
  repeat' (first | refine ql ?_ | refine qk ?_ | ((first | refine qn ?_ | refine qm ?_ | refine qs ?_ | refine qj ?_ | refine qi ?_); simp only [go_sem, ↓reduceIte, Nat.reduceEqDiff, Nat.reduceAdd, Nat.reduceSub, Nat.reduceMul, Nat.reduceLT, Nat.reduceLeDiff, reduceCtorEq, Int.reduceToNat]) | ((first | refine qf ?_ ?_ | refine qd ?_ ?_) <;> intro hc <;> simp only [hc, go_sem, ↓reduceIte, Nat.reduceEqDiff, Nat.reduceAdd, Nat.reduceSub, Nat.reduceMul, Nat.reduceLT, Nat.reduceLeDiff, reduceCtorEq, Int.reduceToNat] <;> (try simp only [qb, qa, decide_eq_true_eq, decide_eq_false_iff_not, Bool.and_eq_true] at hc)) | refine And.intro (by first | assumption | omega | (have := qg (by assumption); omega) | (unfold qq; omega)) ?_ | ((first | simp (disch := omega) only [qv] | simp (disch := omega) only [qbe]); (try simp only [go_sem, ↓reduceIte, Nat.reduceEqDiff, Nat.reduceAdd, Nat.reduceSub, Nat.reduceMul, Nat.reduceLT, Nat.reduceLeDiff, reduceCtorEq, Int.reduceToNat])))
  refine qca (S := Nat) (fun i => i ≤ l.length ∧ qce f l = i + qce f (l.drop i)) (fun i => (⟨[(0, .str l), (1, .fn so [] []), (7, .int .i64 l.length), (8, .int .i64 i)], []⟩, [])) (fun i => l.length - i) ?_ fun i hi => ?_
  · refine qbq 0 [] ⟨Nat.zero_le _, by simp⟩ rfl (by simp) ?_ ?_ ?_ <;> (try simp only [go_sem, ↓reduceIte, Nat.reduceEqDiff, Nat.reduceAdd, Nat.reduceSub, Nat.reduceMul, Nat.reduceLT, Nat.reduceLeDiff, reduceCtorEq, Int.reduceToNat]) <;> (try simp (disch := omega) only [qbe])
  · obtain ⟨hi, ha⟩ := hi
    repeat' (first | refine ql ?_ | refine qk ?_ | ((first | refine qn ?_ | refine qm ?_ | refine qs ?_ | refine qj ?_ | refine qi ?_ | refine qc (h _) fun _ => ?_ | refine qe  (h _) ?_); simp only [go_sem, ↓reduceIte, Nat.reduceEqDiff, Nat.reduceAdd, Nat.reduceSub, Nat.reduceMul, Nat.reduceLT, Nat.reduceLeDiff, reduceCtorEq, Int.reduceToNat]) | ((first | refine qf ?_ ?_ | refine qd ?_ ?_) <;> intro hc <;> simp only [hc, go_sem, ↓reduceIte, Nat.reduceEqDiff, Nat.reduceAdd, Nat.reduceSub, Nat.reduceMul, Nat.reduceLT, Nat.reduceLeDiff, reduceCtorEq, Int.reduceToNat] <;> (try simp only [qb, qa, decide_eq_true_eq, decide_eq_false_iff_not, Bool.and_eq_true] at hc)) | refine And.intro (by first | assumption | omega | (have := qg (by assumption); omega) | (unfold qq; omega)) ?_ | ((first | simp (disch := omega) only [qv] | simp (disch := omega) only [qbe]); (try simp only [go_sem, ↓reduceIte, Nat.reduceEqDiff, Nat.reduceAdd, Nat.reduceSub, Nat.reduceMul, Nat.reduceLT, Nat.reduceLeDiff, reduceCtorEq, Int.reduceToNat])))
    · rw [ha, qeq (by omega), hc]; simp
    · refine qbq (i + 1) [] ⟨⟨by omega, ?_⟩, by omega⟩ rfl (by simp) ?_ ?_ ?_ <;> (try simp only [go_sem, ↓reduceIte, Nat.reduceEqDiff, Nat.reduceAdd, Nat.reduceSub, Nat.reduceMul, Nat.reduceLT, Nat.reduceLeDiff, reduceCtorEq, Int.reduceToNat]) <;> (try simp (disch := omega) only [qbe])
      rw [ha, qeq (by omega), hc]; simp; omega
    · have : i = l.length := by omega
      subst this
      rw [ha, List.drop_length]; simp [qce]

def pfx (p l : List UInt8) : Bool := decide (l.take p.length = p)
theorem qim (l p : List UInt8) : qbp Tryz.prog 134 [.str l, .str p] (.bool (pfx p l)) := by
  refine qba c0di (by simp) (by simp only [go_sem]) rfl fun hw => ?_
  repeat' (first | refine ql ?_ | ((first | refine qn ?_ | refine qm ?_); simp only [go_sem, ↓reduceIte, Nat.reduceEqDiff, Nat.reduceAdd, Nat.reduceSub, Nat.reduceMul, Nat.reduceLT, Nat.reduceLeDiff, reduceCtorEq, Int.reduceToNat]) | ((first | refine qf ?_ ?_ | refine qd ?_ ?_) <;> intro hc <;> simp only [hc, go_sem, ↓reduceIte, Nat.reduceEqDiff, Nat.reduceAdd, Nat.reduceSub, Nat.reduceMul, Nat.reduceLT, Nat.reduceLeDiff, reduceCtorEq, Int.reduceToNat] <;> (try simp only [qb, qa, decide_eq_true_eq, decide_eq_false_iff_not, Bool.and_eq_true] at hc)) | refine And.intro (by first | assumption | omega | (have := qg (by assumption); omega) | (unfold qq; omega)) ?_ | fail)
  · rfl
  · rw [pfx, decide_eq_false]
    intro h
    have := congrArg List.length h
    rw [List.length_take] at this
    omega
theorem qc9 (l p : List UInt8) : qbp Tryz.prog 124 [.str l, .str p] (.bool (pfx p l)) := by
  refine qba c0dj (by simp) (by simp only [go_sem]) rfl fun hw => ?_
  repeat' (first | refine ql ?_ | ((first | refine qn ?_ | refine qm ?_ | refine qc (qim _ _) fun _ => ?_ | refine qe  (qim _ _) ?_); simp only [go_sem, ↓reduceIte, Nat.reduceEqDiff, Nat.reduceAdd, Nat.reduceSub, Nat.reduceMul, Nat.reduceLT, Nat.reduceLeDiff, reduceCtorEq, Int.reduceToNat]) | ((first | refine qf ?_ ?_ | refine qd ?_ ?_) <;> intro hc <;> simp only [hc, go_sem, ↓reduceIte, Nat.reduceEqDiff, Nat.reduceAdd, Nat.reduceSub, Nat.reduceMul, Nat.reduceLT, Nat.reduceLeDiff, reduceCtorEq, Int.reduceToNat] <;> (try simp only [qb, qa, decide_eq_true_eq, decide_eq_false_iff_not, Bool.and_eq_true] at hc)) | refine And.intro (by first | assumption | omega | (have := qg (by assumption); omega) | (unfold qq; omega)) ?_ | fail)

theorem qhj (f : Int → Bool) (l : List UInt8) : qce f l ≤ l.length := (List.takeWhile_sublist _).length_le
def qgo (l : List UInt8) : Nat := if pfx [45, 45] (l.drop (qce qdy l)) then qce qdy l + qce qh5 (l.drop (qce qdy l)) else qce qdy l
theorem ql2 (l : List UInt8) : qgo l ≤ l.length := by
  unfold qgo
  have h1 := qhj qdy l
  have h2 := qhj qh5 (l.drop (qce qdy l))
  rw [List.length_drop] at h2
  split <;> omega
def qlw : Nat → List UInt8 → Nat
  | 0, _ => 0
  | f + 1, l => if qgo l = 0 then 0 else qgo l + qlw f (l.drop (qgo l))
def qc4 (l : List UInt8) : Nat := qlw l.length l
theorem qlg : ∀ (f g : Nat) (l : List UInt8), l.length ≤ f → l.length ≤ g → qlw f l = qlw g l
  | 0, 0, l, _, _ => rfl
  | 0, g + 1, l, h1, h2 => by
    have := ql2 l
    rw [qlw, qlw, if_pos (by omega)]
  | f + 1, 0, l, h1, h2 => by
    have := ql2 l
    rw [qlw, qlw, if_pos (by omega)]
  | f + 1, g + 1, l, h1, h2 => by
    rw [qlw, qlw]
    split
    · rfl
    · rename_i h
      rw [qlg f g _ (by rw [List.length_drop]; omega) (by rw [List.length_drop]; omega)]
theorem qkt {l : List UInt8} (h : qgo l = 0) : qc4 l = 0 := by
  unfold qc4
  cases l.length with
  | zero => rfl
  | succ n => rw [qlw, if_pos h]
theorem qk0 {l : List UInt8} (h : qgo l ≠ 0) : qc4 l = qgo l + qc4 (l.drop (qgo l)) := by
  have hk := ql2 l
  unfold qc4
  obtain ⟨n, hn⟩ : ∃ n, l.length = n + 1 := ⟨l.length - 1, by omega⟩
  rw [hn, qlw, if_neg h, qlg n (l.drop (qgo l)).length _ (by rw [List.length_drop]; omega) (Nat.le_refl _)]
theorem qvj (l : List UInt8) : qc4 l ≤ l.length := by
  generalize hn : l.length = n
  induction n using Nat.strongRecOn generalizing l with
  | _ n ih =>
    subst hn
    by_cases h : qgo l = 0
    · rw [qkt h]; exact Nat.zero_le _
    · have hk := ql2 l
      have := ih (l.drop (qgo l)).length (by rw [List.length_drop]; omega) _ rfl
      rw [qk0 h]; rw [List.length_drop] at this; omega
theorem qt7 {l : List UInt8} (h : pfx [45, 45] (l.drop (qce qdy l)) = true) : qgo l = qce qdy l + qce qh5 (l.drop (qce qdy l)) := by rw [qgo, if_pos h]
theorem qtw {l : List UInt8} (h : pfx [45, 45] (l.drop (qce qdy l)) = false) : qgo l = qce qdy l := by rw [qgo, h]; rfl
theorem qbt3 (a b : Nat) : (a : Int) + (b : Int) = ((a + b : Nat) : Int) := rfl

theorem qiy (l : List UInt8) : qbp Tryz.prog 97 [.str l] (.int .i64 (qc4 l)) := by
  refine qba c0dk (by simp) (by simp only [go_sem]) rfl fun hw => ?_
  have hl : l.length ≤ maxLen := hw.1
  repeat' (first | refine ql ?_ | refine qk ?_ | ((first | refine qn ?_ | refine qm ?_ | refine qj ?_ | refine qi ?_); simp only [go_sem, ↓reduceIte, Nat.reduceEqDiff, Nat.reduceAdd, Nat.reduceSub, Nat.reduceMul, Nat.reduceLT, Nat.reduceLeDiff, reduceCtorEq, Int.reduceToNat]) | ((first | refine qf ?_ ?_ | refine qd ?_ ?_) <;> intro hc <;> simp only [hc, go_sem, ↓reduceIte, Nat.reduceEqDiff, Nat.reduceAdd, Nat.reduceSub, Nat.reduceMul, Nat.reduceLT, Nat.reduceLeDiff, reduceCtorEq, Int.reduceToNat] <;> (try simp only [qb, qa, decide_eq_true_eq, decide_eq_false_iff_not, Bool.and_eq_true] at hc)) | refine And.intro (by first | assumption | omega | (have := qg (by assumption); omega) | (unfold qq; omega)) ?_ | ((first | simp (disch := omega) only [qv] | simp (disch := omega) only [qbe]); (try simp only [go_sem, ↓reduceIte, Nat.reduceEqDiff, Nat.reduceAdd, Nat.reduceSub, Nat.reduceMul, Nat.reduceLT, Nat.reduceLeDiff, reduceCtorEq, Int.reduceToNat])))
  refine qca (S := Nat) (fun n => n ≤ l.length ∧ qc4 l = n + qc4 (l.drop n)) (fun n => (⟨[(0, .str l), (3, .int .i64 n)], []⟩, [])) (fun n => l.length - n) ?_ fun n hn => ?_
  · refine qbq 0 [] ⟨Nat.zero_le _, by simp⟩ rfl (by simp) ?_ ?_ ?_ <;> (try simp only [go_sem, ↓reduceIte, Nat.reduceEqDiff, Nat.reduceAdd, Nat.reduceSub, Nat.reduceMul, Nat.reduceLT, Nat.reduceLeDiff, reduceCtorEq, Int.reduceToNat]) <;> (try simp (disch := omega) only [qbe])
  · obtain ⟨hn, ha⟩ := hn
    have h1 := qhj qdy (l.drop n)
    have h2 := qhj qh5 (l.drop (n + qce qdy (l.drop n)))
    rw [List.length_drop] at h1 h2
    repeat' (first | refine ql ?_ | refine qk ?_ | ((first | refine qn ?_ | refine qm ?_ | refine qj ?_ | refine qi ?_); simp (disch := first | omega | (simp only [List.length_set, List.length_append, List.length_cons, List.length_nil]; done) | (simp only [List.length_set, List.length_append, List.length_cons, List.length_nil]; omega)) only [qe6, go_sem, ↓reduceIte, Nat.reduceEqDiff, Nat.reduceAdd, Nat.reduceSub, Nat.reduceMul, Nat.reduceLT, Nat.reduceLeDiff, reduceCtorEq, Int.reduceToNat]) | ((first | simp (disch := omega) only [qe6] | simp (disch := omega) only [qbt3] | simp (disch := omega) only [Int.toNat_natCast]); (try simp only [go_sem, ↓reduceIte, Nat.reduceEqDiff, Nat.reduceAdd, Nat.reduceSub, Nat.reduceMul, Nat.reduceLT, Nat.reduceLeDiff, reduceCtorEq, Int.reduceToNat])) | ((first | refine qf ?_ ?_ | refine qd ?_ ?_) <;> intro hc <;> simp only [hc, go_sem, ↓reduceIte, Nat.reduceEqDiff, Nat.reduceAdd, Nat.reduceSub, Nat.reduceMul, Nat.reduceLT, Nat.reduceLeDiff, reduceCtorEq, Int.reduceToNat] <;> (try simp only [qb, qa, decide_eq_true_eq, decide_eq_false_iff_not, Bool.and_eq_true] at hc)) | refine And.intro (by first | assumption | omega | (have := qg (by assumption); omega) | (unfold qq; omega)) ?_ | ((first | simp (disch := omega) only [qv] | simp (disch := omega) only [qbe]); (try simp only [go_sem, ↓reduceIte, Nat.reduceEqDiff, Nat.reduceAdd, Nat.reduceSub, Nat.reduceMul, Nat.reduceLT, Nat.reduceLeDiff, reduceCtorEq, Int.reduceToNat])) | ((first | refine qc (qeb qny _) fun _ => ?_ | refine qc (qc9 _ _) fun _ => ?_ | refine qc (qeb qps _) fun _ => ?_ | refine qe  (qeb qny _) ?_ | refine qe  (qc9 _ _) ?_ | refine qe  (qeb qps _) ?_); simp only [go_sem, ↓reduceIte, Nat.reduceEqDiff, Nat.reduceAdd, Nat.reduceSub, Nat.reduceMul, Nat.reduceLT, Nat.reduceLeDiff, reduceCtorEq, Int.reduceToNat]))
    · rename_i hp _
      have hk := qt7 (l := l.drop n) (by rw [List.drop_drop]; exact hp)
      rw [List.drop_drop] at hk
      rw [ha, qkt (hk.trans (by omega))]; rfl
    · rename_i hp _
      have hk := qt7 (l := l.drop n) (by rw [List.drop_drop]; exact hp)
      rw [List.drop_drop] at hk
      refine qbq (n + qgo (l.drop n)) [] ⟨⟨by omega, ?_⟩, by omega⟩ rfl (by simp) ?_ ?_ ?_ <;> (try simp only [go_sem, ↓reduceIte, Nat.reduceEqDiff, Nat.reduceAdd, Nat.reduceSub, Nat.reduceMul, Nat.reduceLT, Nat.reduceLeDiff, reduceCtorEq, Int.reduceToNat]) <;> (try simp (disch := omega) only [qbe])
      · rw [ha, qk0 (l := l.drop n) (by omega), List.drop_drop]; omega
      · rw [hk]
    · rename_i hp
      have hk := qtw (l := l.drop n) (by rw [List.drop_drop]; exact hp)
      rw [ha, qkt (hk.trans (by omega))]; rfl
    · rename_i hp
      have hk := qtw (l := l.drop n) (by rw [List.drop_drop]; exact hp)
      refine qbq (n + qgo (l.drop n)) [] ⟨⟨by omega, ?_⟩, by omega⟩ rfl (by simp) ?_ ?_ ?_ <;> (try simp only [go_sem, ↓reduceIte, Nat.reduceEqDiff, Nat.reduceAdd, Nat.reduceSub, Nat.reduceMul, Nat.reduceLT, Nat.reduceLeDiff, reduceCtorEq, Int.reduceToNat]) <;> (try simp (disch := omega) only [qbe])
      · rw [ha, qk0 (l := l.drop n) (by omega), List.drop_drop]; omega
      · rw [hk]

theorem qhv {c : UInt8} {r : List UInt8} (h : qdy c.toNat = true) : qc4 (c :: r) = 1 + qc4 r := by
  have hw : qce qdy (c :: r) = qce qdy r + 1 := by simp [qce, List.takeWhile_cons, h]
  have hk : qgo (c :: r) = qgo r + 1 := by
    unfold qgo
    rw [hw, List.drop_succ_cons]
    split <;> omega
  rw [qk0 (by omega), hk, List.drop_succ_cons]
  by_cases h0 : qgo r = 0
  · rw [h0, qkt h0]; simp [qkt h0]
  · rw [qk0 h0]; omega
theorem q3o {a : UInt8} {p l : List UInt8} (h : pfx (a :: p) l = true) : ∃ r, l = a :: r := by
  cases l with
  | nil => simp [pfx] at h
  | cons b r => simp only [pfx, decide_eq_true_eq, List.length_cons, List.take_succ_cons, List.cons.injEq] at h; exact ⟨r, by rw [h.1]⟩
theorem qx3 {l : List UInt8} (h : pfx [45, 45] l = true) : qc4 l = qce qh5 l + qc4 (l.drop (qce qh5 l)) := by
  obtain ⟨r, rfl⟩ := q3o h
  have hw : qce qdy (45 :: r) = 0 := by simp [qce, qdy]
  have hk : qgo (45 :: r) = qce qh5 (45 :: r) := by
    rw [qt7 (by rw [hw]; exact h), hw]; simp
  have h1 : qce qh5 (45 :: r) ≠ 0 := by simp [qce, qh5, List.takeWhile_cons]
  rw [qk0 (by omega), hk]
theorem qoh {l : List UInt8} (h : pfx [45, 45] l = false) (hb : qce qdy l = 0) : qc4 l = 0 := by
  rw [qkt]
  rw [qtw (by rw [hb]; exact h), hb]
end Go.Proofs.YtmekebfgmjaenaaGreat
