/- Texts of this proof, joined. -/
import Derived.Test.YtmekebfgmjaenaaGreatAag
import Derived.Test.YtmekebfgmjaenaaGreatAaq

/- the lexer's words: numbers -/
set_option maxRecDepth 4000
namespace Go.Proofs.YtmekebfgmjaenaaGreat
open Go Go.RowKit Go.V
set_option linter.unusedVariables false
set_option linter.unusedSimpArgs false

theorem qy1 : IntKind.i64.wrap (0 + 1) = 1 := by decide
def digW (l : List UInt8) : Bool := l.all fun c => qe2 c.toNat
theorem qkn {l : List UInt8} {i : Nat} (h : i < l.length) : digW (l.drop i) = (qe2 (l.getD i 0).toNat && digW (l.drop (i + 1))) := by
  rw [qdz h]; rfl

def digV (c : UInt8) : Int := IntKind.i64.wrap (IntKind.u8.wrap ((c.toNat : Int) - 48))
def topV (c : UInt8) : Int := IntKind.i64.wrap ((IntKind.i64.wrap (9223372036854775807 - digV c)).tdiv 10)
def nxtV (k : Int) (c : UInt8) : Int := IntKind.i64.wrap (IntKind.i64.wrap (10 * k) + digV c)
def qjq : Int → List UInt8 → Int × Int
  | k, [] => (k, 0)
  | k, c :: r => if topV c < k then (0, 4) else qjq (nxtV k c) r
/-- The number that a text is, and the error. -/
def qn9 (l : List UInt8) : Int × Int := if l = [] then (0, 5) else if digW l = true then qjq 0 l else (0, 5)
def qbhp (p : Int × Int) : AV := .tup [.int .i64 p.1, .int .i64 p.2]
theorem qlc {l : List UInt8} {i : Nat} (h : i < l.length) (k : Int) : qjq k (l.drop i) = if topV (l.getD i 0) < k then (0, 4) else qjq (nxtV k (l.getD i 0)) (l.drop (i + 1)) := by
  rw [qdz h]; rfl
theorem q1z {c : Int} (h : c < 48 ∨ 57 < c) : qe2 c = false := by
  simp only [qe2, Bool.and_eq_false_iff, decide_eq_false_iff_not]; omega
theorem q21 {c : Int} (h : ¬ c < 48) (h2 : ¬ 57 < c) : qe2 c = true := by
  simp only [qe2, Bool.and_eq_true, decide_eq_true_eq]; omega
theorem qj6 {l : List UInt8} (h : l ≠ []) (hd : digW l = true) : qn9 l = qjq 0 l := by rw [qn9, if_neg h, if_pos hd]
theorem qs8 {l : List UInt8} (hd : digW l = false) : qn9 l = (0, 5) := by rw [qn9, hd]; simp

theorem qbrm (l : List UInt8) : qbs Tryz.prog 102 [.str l] (qbhp (qn9 l)) := by
  refine qbe c0dl (by simp) (by simp only [go_sem]) rfl fun hw => ?_
  have hl : l.length ≤ maxLen := hw.1
  repeat' (first | refine qs ?_ | refine qg ?_ | refine qi ?_ | ((first | refine qu ?_ | refine qq (by rfl) ?_ | refine ql ?_ | refine qj ?_ | refine qo ?_ | refine qt ?_ | refine qn ?_ | refine qm ?_ | refine qp ?_); simp only [go_sem, ↓reduceIte, Nat.reduceEqDiff, Nat.reduceAdd, Nat.reduceSub, Nat.reduceMul, Nat.reduceLT, Nat.reduceLeDiff, reduceCtorEq, Int.reduceToNat]) | ((first | refine qh ?_ ?_ | refine qe ?_ ?_) <;> intro hc <;> simp only [hc, go_sem, ↓reduceIte, Nat.reduceEqDiff, Nat.reduceAdd, Nat.reduceSub, Nat.reduceMul, Nat.reduceLT, Nat.reduceLeDiff, reduceCtorEq, Int.reduceToNat] <;> (try simp only [qb, qa, decide_eq_true_eq, decide_eq_false_iff_not, Bool.and_eq_true] at hc)) | refine And.intro (by first | assumption | omega | (have := qk (by assumption); omega) | (unfold qy; omega)) ?_ | ((first | simp (disch := omega) only [qd] | simp (disch := omega) only [qw]); (try simp only [go_sem, ↓reduceIte, Nat.reduceEqDiff, Nat.reduceAdd, Nat.reduceSub, Nat.reduceMul, Nat.reduceLT, Nat.reduceLeDiff, reduceCtorEq, Int.reduceToNat])))
  · subst hc; rfl
  · refine qca (S := Nat) (fun i => i ≤ l.length ∧ digW (l.drop i) = digW l) (fun i => (⟨[(0, .str l), (4, .int .i64 i)], []⟩, [])) (fun i => l.length - i) ?_ fun i hi => ?_
    · refine qbt 0 [] ⟨Nat.zero_le _, rfl⟩ rfl (by simp) ?_ ?_ ?_ <;> (try simp only [go_sem, ↓reduceIte, Nat.reduceEqDiff, Nat.reduceAdd, Nat.reduceSub, Nat.reduceMul, Nat.reduceLT, Nat.reduceLeDiff, reduceCtorEq, Int.reduceToNat]) <;> (try simp (disch := omega) only [qw])
    · obtain ⟨hi, ha⟩ := hi
      have hs : i < l.length → qe2 (l.getD i 0).toNat = false → qn9 l = (0, 5) := fun h h2 => qs8 (by rw [← ha, qkn h, h2]; rfl)
      repeat' (first | refine qs ?_ | refine qg ?_ | refine qi ?_ | ((first | refine qu ?_ | refine qq (by rfl) ?_ | refine ql ?_ | refine qj ?_ | refine qo ?_ | refine qt ?_ | refine qn ?_ | refine qm ?_ | refine qp ?_); simp only [go_sem, ↓reduceIte, Nat.reduceEqDiff, Nat.reduceAdd, Nat.reduceSub, Nat.reduceMul, Nat.reduceLT, Nat.reduceLeDiff, reduceCtorEq, Int.reduceToNat]) | ((first | refine qh ?_ ?_ | refine qe ?_ ?_) <;> intro hc <;> simp only [hc, go_sem, ↓reduceIte, Nat.reduceEqDiff, Nat.reduceAdd, Nat.reduceSub, Nat.reduceMul, Nat.reduceLT, Nat.reduceLeDiff, reduceCtorEq, Int.reduceToNat] <;> (try simp only [qb, qa, decide_eq_true_eq, decide_eq_false_iff_not, Bool.and_eq_true] at hc)) | refine And.intro (by first | assumption | omega | (have := qk (by assumption); omega) | (unfold qy; omega)) ?_ | ((first | simp (disch := omega) only [qd] | simp (disch := omega) only [qw]); (try simp only [go_sem, ↓reduceIte, Nat.reduceEqDiff, Nat.reduceAdd, Nat.reduceSub, Nat.reduceMul, Nat.reduceLT, Nat.reduceLeDiff, reduceCtorEq, Int.reduceToNat])))
      · rw [hs (by omega) (q1z (by omega))]; rfl
      · rw [hs (by omega) (q1z (by omega))]; rfl
      · refine qbt (i + 1) [] ⟨⟨by omega, ?_⟩, by omega⟩ rfl (by simp) ?_ ?_ ?_ <;> (try simp only [go_sem, ↓reduceIte, Nat.reduceEqDiff, Nat.reduceAdd, Nat.reduceSub, Nat.reduceMul, Nat.reduceLT, Nat.reduceLeDiff, reduceCtorEq, Int.reduceToNat]) <;> (try simp (disch := omega) only [qw])
        have hd : qe2 (l.getD i 0).toNat = true := q21 (by omega) (by omega)
        rw [← ha, qkn (l := l) (i := i) (by omega), hd, Bool.true_and]
      · have hd : digW l = true := by rw [← ha, List.drop_of_length_le (by omega)]; rfl
        rw [qj6 (by assumption) hd]
        refine qca (S := Nat × Int) (fun s => s.1 ≤ l.length ∧ qjq s.2 (l.drop s.1) = qjq 0 l) (fun s => (⟨[(0, .str l), (5, .int .i64 s.2), (6, .int .i64 s.1)], []⟩, [])) (fun s => l.length - s.1) ?_ fun s hs => ?_
        · refine qbt (0, 0) [] ⟨Nat.zero_le _, rfl⟩ rfl (by simp) ?_ ?_ ?_ <;> (try simp only [go_sem, ↓reduceIte, Nat.reduceEqDiff, Nat.reduceAdd, Nat.reduceSub, Nat.reduceMul, Nat.reduceLT, Nat.reduceLeDiff, reduceCtorEq, Int.reduceToNat]) <;> (try simp (disch := omega) only [qw])
        · obtain ⟨j, k⟩ := s
          obtain ⟨hj, hr⟩ := hs
          dsimp only at hj hr
          have hs2 : j < l.length → qjq 0 l = if topV (l.getD j 0) < k then (0, 4) else qjq (nxtV k (l.getD j 0)) (l.drop (j + 1)) := fun h => by rw [← hr, qlc h]
          repeat' (first | refine qs ?_ | refine qg ?_ | refine qi ?_ | ((first | refine qu ?_ | refine qq (by rfl) ?_ | refine ql ?_ | refine qj ?_ | refine qo ?_ | refine qt ?_ | refine qn ?_ | refine qm ?_ | refine qp ?_); simp only [go_sem, ↓reduceIte, Nat.reduceEqDiff, Nat.reduceAdd, Nat.reduceSub, Nat.reduceMul, Nat.reduceLT, Nat.reduceLeDiff, reduceCtorEq, Int.reduceToNat]) | ((first | refine qh ?_ ?_ | refine qe ?_ ?_) <;> intro hc <;> simp only [hc, go_sem, ↓reduceIte, Nat.reduceEqDiff, Nat.reduceAdd, Nat.reduceSub, Nat.reduceMul, Nat.reduceLT, Nat.reduceLeDiff, reduceCtorEq, Int.reduceToNat] <;> (try simp only [qb, qa, decide_eq_true_eq, decide_eq_false_iff_not, Bool.and_eq_true] at hc)) | refine And.intro (by first | assumption | omega | (have := qk (by assumption); omega) | (unfold qy; omega)) ?_ | ((first | simp (disch := omega) only [qd] | simp (disch := omega) only [qw]); (try simp only [go_sem, ↓reduceIte, Nat.reduceEqDiff, Nat.reduceAdd, Nat.reduceSub, Nat.reduceMul, Nat.reduceLT, Nat.reduceLeDiff, reduceCtorEq, Int.reduceToNat])))
          · have hc' : topV (l.getD j 0) < k := hc
            rw [hs2 (by omega), if_pos hc']; rfl
          · have hc' : ¬ topV (l.getD j 0) < k := hc
            refine qbt (j + 1, nxtV k (l.getD j 0)) [] ⟨⟨by omega, ?_⟩, by omega⟩ rfl (by simp) ?_ ?_ ?_ <;> (try simp only [go_sem, ↓reduceIte, Nat.reduceEqDiff, Nat.reduceAdd, Nat.reduceSub, Nat.reduceMul, Nat.reduceLT, Nat.reduceLeDiff, reduceCtorEq, Int.reduceToNat]) <;> (try simp (disch := omega) only [qw])
            · rw [hs2 (by omega), if_neg hc']
            · rfl
          · rw [← hr, List.drop_of_length_le (by omega)]; rfl

theorem qru (l : List UInt8) : qbs Tryz.prog 127 [.str l] (qbhp (qn9 l)) := by
  refine qbe c0dm (by simp) (by simp only [go_sem]) rfl fun hw => ?_
  have hl : l.length ≤ maxLen := hw.1
  refine qs (qu ?_)
  simp only [go_sem, ↓reduceIte, Nat.reduceEqDiff, Nat.reduceAdd, Nat.reduceSub, Nat.reduceMul, Nat.reduceLT, Nat.reduceLeDiff, reduceCtorEq, Int.reduceToNat]
  refine q0z (S := Nat × Int) 0 rfl (fun s => s.1 < l.length ∧ digW l = true ∧ qjq s.2 (l.drop s.1) = qjq 0 l) (fun s => (⟨[(0, .str l), (5, .int .i64 s.2), (6, .int .i64 s.1)], []⟩, [])) (fun s => l.length - s.1) ?_ fun s hs => ?_
  · repeat' (first | refine qs ?_ | refine qg ?_ | refine qi ?_ | ((first | refine qu ?_ | refine qq (by rfl) ?_ | refine ql ?_ | refine qj ?_ | refine qo ?_ | refine qt ?_ | refine qn ?_ | refine qm ?_ | refine qp ?_); simp only [go_sem, ↓reduceIte, Nat.reduceEqDiff, Nat.reduceAdd, Nat.reduceSub, Nat.reduceMul, Nat.reduceLT, Nat.reduceLeDiff, reduceCtorEq, Int.reduceToNat]) | ((first | refine qh ?_ ?_ | refine qe ?_ ?_) <;> intro hc <;> simp only [hc, go_sem, ↓reduceIte, Nat.reduceEqDiff, Nat.reduceAdd, Nat.reduceSub, Nat.reduceMul, Nat.reduceLT, Nat.reduceLeDiff, reduceCtorEq, Int.reduceToNat] <;> (try simp only [qb, qa, decide_eq_true_eq, decide_eq_false_iff_not, Bool.and_eq_true] at hc)) | refine And.intro (by first | assumption | omega | (have := qk (by assumption); omega) | (unfold qy; omega)) ?_ | ((first | simp (disch := omega) only [qd] | simp (disch := omega) only [qw]); (try simp only [go_sem, ↓reduceIte, Nat.reduceEqDiff, Nat.reduceAdd, Nat.reduceSub, Nat.reduceMul, Nat.reduceLT, Nat.reduceLeDiff, reduceCtorEq, Int.reduceToNat])))
    refine qca (S := Nat) (fun i => i ≤ l.length ∧ digW (l.drop i) = digW l) (fun i => (⟨[(0, .str l), (9, .int .i64 l.length), (10, .int .i64 i)], []⟩, [])) (fun i => l.length - i) ?_ fun i hi => ?_
    · refine qbt 0 [] ⟨Nat.zero_le _, rfl⟩ rfl (by simp) ?_ ?_ ?_ <;> (try simp only [go_sem, ↓reduceIte, Nat.reduceEqDiff, Nat.reduceAdd, Nat.reduceSub, Nat.reduceMul, Nat.reduceLT, Nat.reduceLeDiff, reduceCtorEq, Int.reduceToNat]) <;> (try simp (disch := omega) only [qw])
    · obtain ⟨hi, ha⟩ := hi
      have hs : i < l.length → qe2 (l.getD i 0).toNat = false → qn9 l = (0, 5) := fun h h2 => qs8 (by rw [← ha, qkn h, h2]; rfl)
      have hs2 : 0 < l.length → qjq 0 l = if topV (l.getD 0 0) < 0 then (0, 4) else qjq (nxtV 0 (l.getD 0 0)) (l.drop 1) := fun h => by
        have := qlc (l := l) (i := 0) h 0
        rwa [List.drop_zero] at this
      have hdig : ¬ (i : Int) < l.length → digW l = true := fun h => by rw [← ha, List.drop_of_length_le (by omega)]; rfl
      repeat' (first | refine qs ?_ | refine qg ?_ | refine qi ?_ | ((first | refine qu ?_ | refine qq (by rfl) ?_ | refine ql ?_ | refine qj ?_ | refine qo ?_ | refine qt ?_ | refine qn ?_ | refine qm ?_ | refine qp ?_); simp only [go_sem, ↓reduceIte, Nat.reduceEqDiff, Nat.reduceAdd, Nat.reduceSub, Nat.reduceMul, Nat.reduceLT, Nat.reduceLeDiff, reduceCtorEq, Int.reduceToNat]) | ((first | simp (disch := omega) only [qw] | simp (disch := omega) only [qy1]); (try simp only [go_sem, ↓reduceIte, Nat.reduceEqDiff, Nat.reduceAdd, Nat.reduceSub, Nat.reduceMul, Nat.reduceLT, Nat.reduceLeDiff, reduceCtorEq, Int.reduceToNat])) | ((first | refine qh ?_ ?_ | refine qe ?_ ?_) <;> intro hc <;> simp only [hc, go_sem, ↓reduceIte, Nat.reduceEqDiff, Nat.reduceAdd, Nat.reduceSub, Nat.reduceMul, Nat.reduceLT, Nat.reduceLeDiff, reduceCtorEq, Int.reduceToNat] <;> (try simp only [qb, qa, decide_eq_true_eq, decide_eq_false_iff_not, Bool.and_eq_true] at hc)) | refine And.intro (by first | assumption | omega | (have := qk (by assumption); omega) | (unfold qy; omega)) ?_ | ((first | simp (disch := omega) only [qd] | simp (disch := omega) only [qw]); (try simp only [go_sem, ↓reduceIte, Nat.reduceEqDiff, Nat.reduceAdd, Nat.reduceSub, Nat.reduceMul, Nat.reduceLT, Nat.reduceLeDiff, reduceCtorEq, Int.reduceToNat])))
      all_goals first
        | (rw [hs (by omega) (q1z (by omega))]; rfl)
        | (refine qbt (i + 1) [] ⟨⟨by omega, ?_⟩, by omega⟩ rfl (by simp) ?_ ?_ ?_ <;> (try simp only [go_sem, ↓reduceIte, Nat.reduceEqDiff, Nat.reduceAdd, Nat.reduceSub, Nat.reduceMul, Nat.reduceLT, Nat.reduceLeDiff, reduceCtorEq, Int.reduceToNat]) <;> (try simp (disch := omega) only [qw])
           have hd : qe2 (l.getD i 0).toNat = true := q21 (by omega) (by omega)
           rw [← ha, qkn (l := l) (i := i) (by omega), hd, Bool.true_and])
        | (subst hc; rfl)
        | skip
      · have hlp := qk (by assumption)
        have hd := hdig (by assumption)
        have hc' : topV (l.getD 0 0) < 0 := hc
        rw [qj6 (by assumption) hd, hs2 hlp, if_pos hc']; rfl
      · rename_i hc0
        have hlp := qk (by assumption)
        have hd := hdig (by assumption)
        have hc' : ¬ topV (l.getD 0 0) < 0 := hc0
        refine qbt (1, nxtV 0 (l.getD 0 0)) [] ⟨by omega, hd, ?_⟩ rfl (by simp) ?_ ?_ ?_ <;> (try simp only [go_sem, ↓reduceIte, Nat.reduceEqDiff, Nat.reduceAdd, Nat.reduceSub, Nat.reduceMul, Nat.reduceLT, Nat.reduceLeDiff, reduceCtorEq, Int.reduceToNat]) <;> (try simp (disch := omega) only [qw])
        · rw [hs2 hlp, if_neg hc']
        · rfl
      · rename_i hc0
        have hlp := qk (by assumption)
        have hd := hdig (by assumption)
        have hc' : ¬ topV (l.getD 0 0) < 0 := hc0
        rw [qj6 (by assumption) hd, hs2 hlp, if_neg hc', List.drop_of_length_le (by omega)]; rfl
  · obtain ⟨j, k⟩ := s
    obtain ⟨hj, hd, hr⟩ := hs
    dsimp only at hj hr
    have hs2 : qjq 0 l = if topV (l.getD j 0) < k then (0, 4) else qjq (nxtV k (l.getD j 0)) (l.drop (j + 1)) := by rw [← hr, qlc hj]
    have hne : l ≠ [] := fun e => by subst e; simp at hj
    rw [qj6 hne hd]
    repeat' (first | refine qs ?_ | refine qg ?_ | refine qi ?_ | ((first | refine qu ?_ | refine qq (by rfl) ?_ | refine ql ?_ | refine qj ?_ | refine qo ?_ | refine qt ?_ | refine qn ?_ | refine qm ?_ | refine qp ?_); simp only [go_sem, ↓reduceIte, Nat.reduceEqDiff, Nat.reduceAdd, Nat.reduceSub, Nat.reduceMul, Nat.reduceLT, Nat.reduceLeDiff, reduceCtorEq, Int.reduceToNat]) | ((first | simp (disch := omega) only [qw] | simp (disch := omega) only [qy1]); (try simp only [go_sem, ↓reduceIte, Nat.reduceEqDiff, Nat.reduceAdd, Nat.reduceSub, Nat.reduceMul, Nat.reduceLT, Nat.reduceLeDiff, reduceCtorEq, Int.reduceToNat])) | ((first | refine qh ?_ ?_ | refine qe ?_ ?_) <;> intro hc <;> simp only [hc, go_sem, ↓reduceIte, Nat.reduceEqDiff, Nat.reduceAdd, Nat.reduceSub, Nat.reduceMul, Nat.reduceLT, Nat.reduceLeDiff, reduceCtorEq, Int.reduceToNat] <;> (try simp only [qb, qa, decide_eq_true_eq, decide_eq_false_iff_not, Bool.and_eq_true] at hc)) | refine And.intro (by first | assumption | omega | (have := qk (by assumption); omega) | (unfold qy; omega)) ?_ | ((first | simp (disch := omega) only [qd] | simp (disch := omega) only [qw]); (try simp only [go_sem, ↓reduceIte, Nat.reduceEqDiff, Nat.reduceAdd, Nat.reduceSub, Nat.reduceMul, Nat.reduceLT, Nat.reduceLeDiff, reduceCtorEq, Int.reduceToNat])))
    · have hc' : topV (l.getD j 0) < k := hc
      rw [hs2, if_pos hc']; rfl
    · rename_i hc0
      have hc' : ¬ topV (l.getD j 0) < k := hc0
      refine qbt (j + 1, nxtV k (l.getD j 0)) [] ⟨⟨by omega, hd, ?_⟩, by omega⟩ rfl (by simp) ?_ ?_ ?_ <;> (try simp only [go_sem, ↓reduceIte, Nat.reduceEqDiff, Nat.reduceAdd, Nat.reduceSub, Nat.reduceMul, Nat.reduceLT, Nat.reduceLeDiff, reduceCtorEq, Int.reduceToNat]) <;> (try simp (disch := omega) only [qw])
      · rw [hs2, if_neg hc']
      · rfl
    · rename_i hc0
      have hc' : ¬ topV (l.getD j 0) < k := hc0
      rw [hs2, if_neg hc', List.drop_of_length_le (by omega)]; rfl
end Go.Proofs.YtmekebfgmjaenaaGreat

/- the lexer's words: rows of bytes -/
set_option maxRecDepth 4000
namespace Go.Proofs.YtmekebfgmjaenaaGreat
open Go Go.RowKit Go.V
set_option linter.unusedVariables false
set_option linter.unusedSimpArgs false

theorem qfq (c : Int) : qbs Tryz.prog 126 [.int .u8 c] (.bool (qe2 c)) := by
  refine qbe c0dd (by simp) (by simp only [go_sem]) rfl fun hw => ?_
  repeat' (first | refine qs ?_ | refine qg ?_ | refine qi ?_ | ((first | refine qu ?_ | refine qq (by rfl) ?_ | refine ql ?_ | refine qj ?_ | refine qo ?_ | refine qt ?_ | refine qn ?_ | refine qm ?_ | refine qp ?_); simp only [go_sem, ↓reduceIte, Nat.reduceEqDiff, Nat.reduceAdd, Nat.reduceSub, Nat.reduceMul, Nat.reduceLT, Nat.reduceLeDiff, reduceCtorEq, Int.reduceToNat]) | ((first | refine qh ?_ ?_ | refine qe ?_ ?_) <;> intro hc <;> simp only [hc, go_sem, ↓reduceIte, Nat.reduceEqDiff, Nat.reduceAdd, Nat.reduceSub, Nat.reduceMul, Nat.reduceLT, Nat.reduceLeDiff, reduceCtorEq, Int.reduceToNat] <;> (try simp only [qb, qa, decide_eq_true_eq, decide_eq_false_iff_not, Bool.and_eq_true] at hc)) | refine And.intro (by first | assumption | omega | (have := qk (by assumption); omega) | (unfold qy; omega)) ?_ | ((first | simp (disch := omega) only [qd] | simp (disch := omega) only [qw]); (try simp only [go_sem, ↓reduceIte, Nat.reduceEqDiff, Nat.reduceAdd, Nat.reduceSub, Nat.reduceMul, Nat.reduceLT, Nat.reduceLeDiff, reduceCtorEq, Int.reduceToNat])))
  all_goals simp [qe2, *]
theorem qmb (c : Int) : qbs Tryz.prog 128 [.int .u8 c] (.bool (onW c)) := by
  refine qbe c0de (by simp) (by simp only [go_sem]) rfl fun hw => ?_
  repeat' (first | refine qs ?_ | refine qg ?_ | refine qi ?_ | ((first | refine qu ?_ | refine qq (by rfl) ?_ | refine ql ?_ | refine qj ?_ | refine qo ?_ | refine qt ?_ | refine qn ?_ | refine qm ?_ | refine qp ?_ | refine qc (qfq _) fun _ => ?_ | refine qf  (qfq _) ?_); simp only [go_sem, ↓reduceIte, Nat.reduceEqDiff, Nat.reduceAdd, Nat.reduceSub, Nat.reduceMul, Nat.reduceLT, Nat.reduceLeDiff, reduceCtorEq, Int.reduceToNat]) | ((first | refine qh ?_ ?_ | refine qe ?_ ?_) <;> intro hc <;> simp only [hc, go_sem, ↓reduceIte, Nat.reduceEqDiff, Nat.reduceAdd, Nat.reduceSub, Nat.reduceMul, Nat.reduceLT, Nat.reduceLeDiff, reduceCtorEq, Int.reduceToNat] <;> (try simp only [qb, qa, decide_eq_true_eq, decide_eq_false_iff_not, Bool.and_eq_true] at hc)) | refine And.intro (by first | assumption | omega | (have := qk (by assumption); omega) | (unfold qy; omega)) ?_ | ((first | simp (disch := omega) only [qd] | simp (disch := omega) only [qw]); (try simp only [go_sem, ↓reduceIte, Nat.reduceEqDiff, Nat.reduceAdd, Nat.reduceSub, Nat.reduceMul, Nat.reduceLT, Nat.reduceLeDiff, reduceCtorEq, Int.reduceToNat])))
  all_goals simp only [onW, qvi, qrt, *]
  all_goals first | (simp_all; done) | (simp_all; omega)
def qd1 (c : Int) : Bool := decide (c = 9) || decide (c = 10) || decide (c = 13) || decide (c = 32)
theorem qml (c : Int) : qbs Tryz.prog 123 [.int .u8 c] (.bool (qd1 c)) := by
  refine qbe c0df (by simp) (by simp only [go_sem]) rfl fun hw => ?_
  repeat' (first | refine qs ?_ | refine qg ?_ | refine qi ?_ | ((first | refine qu ?_ | refine qq (by rfl) ?_ | refine ql ?_ | refine qj ?_ | refine qo ?_ | refine qt ?_ | refine qn ?_ | refine qm ?_ | refine qp ?_); simp only [go_sem, ↓reduceIte, Nat.reduceEqDiff, Nat.reduceAdd, Nat.reduceSub, Nat.reduceMul, Nat.reduceLT, Nat.reduceLeDiff, reduceCtorEq, Int.reduceToNat]) | ((first | refine qh ?_ ?_ | refine qe ?_ ?_) <;> intro hc <;> simp only [hc, go_sem, ↓reduceIte, Nat.reduceEqDiff, Nat.reduceAdd, Nat.reduceSub, Nat.reduceMul, Nat.reduceLT, Nat.reduceLeDiff, reduceCtorEq, Int.reduceToNat] <;> (try simp only [qb, qa, decide_eq_true_eq, decide_eq_false_iff_not, Bool.and_eq_true] at hc)) | refine And.intro (by first | assumption | omega | (have := qk (by assumption); omega) | (unfold qy; omega)) ?_ | ((first | simp (disch := omega) only [qd] | simp (disch := omega) only [qw]); (try simp only [go_sem, ↓reduceIte, Nat.reduceEqDiff, Nat.reduceAdd, Nat.reduceSub, Nat.reduceMul, Nat.reduceLT, Nat.reduceLeDiff, reduceCtorEq, Int.reduceToNat])))
  all_goals simp [qd1, *]
def qh3 (c : Int) : Bool := !decide (c = 10)
theorem qpb (c : Int) : qbs Tryz.prog 125 [.int .u8 c] (.bool (qh3 c)) := by
  refine qbe c0dg (by simp) (by simp only [go_sem]) rfl fun hw => ?_
  repeat' (first | refine qs ?_ | refine qg ?_ | refine qi ?_ | ((first | refine qu ?_ | refine qq (by rfl) ?_ | refine ql ?_ | refine qj ?_ | refine qo ?_ | refine qt ?_ | refine qn ?_ | refine qm ?_ | refine qp ?_); simp only [go_sem, ↓reduceIte, Nat.reduceEqDiff, Nat.reduceAdd, Nat.reduceSub, Nat.reduceMul, Nat.reduceLT, Nat.reduceLeDiff, reduceCtorEq, Int.reduceToNat]) | ((first | refine qh ?_ ?_ | refine qe ?_ ?_) <;> intro hc <;> simp only [hc, go_sem, ↓reduceIte, Nat.reduceEqDiff, Nat.reduceAdd, Nat.reduceSub, Nat.reduceMul, Nat.reduceLT, Nat.reduceLeDiff, reduceCtorEq, Int.reduceToNat] <;> (try simp only [qb, qa, decide_eq_true_eq, decide_eq_false_iff_not, Bool.and_eq_true] at hc)) | refine And.intro (by first | assumption | omega | (have := qk (by assumption); omega) | (unfold qy; omega)) ?_ | ((first | simp (disch := omega) only [qd] | simp (disch := omega) only [qw]); (try simp only [go_sem, ↓reduceIte, Nat.reduceEqDiff, Nat.reduceAdd, Nat.reduceSub, Nat.reduceMul, Nat.reduceLT, Nat.reduceLeDiff, reduceCtorEq, Int.reduceToNat])))
  all_goals simp [qh3, *]

def qcg (f : Int → Bool) (l : List UInt8) : Nat := (l.takeWhile fun c => f c.toNat).length
theorem qer {f : Int → Bool} {l : List UInt8} {i : Nat} (h : i < l.length) : qcg f (l.drop i) = if f (l.getD i 0).toNat then qcg f (l.drop (i + 1)) + 1 else 0 := by
  rw [qdz h, qcg, List.takeWhile_cons]
  split <;> simp [qcg]
theorem qeh {so : FuncId} {f : Int → Bool} (h : ∀ c, qbs Tryz.prog so [.int .u8 c] (.bool (f c))) (l : List UInt8) : qbs Tryz.prog 122 [.str l, .fn so [] []] (.int .i64 (qcg f l)) := by
  refine qbe c0dh (by simp) (by simp only [go_sem]) rfl fun hw => ?_
  have hl : l.length ≤ maxLen := hw.1
  repeat' (first | refine qs ?_ | refine qg ?_ | refine qi ?_ | ((first | refine qu ?_ | refine qq (by rfl) ?_ | refine ql ?_ | refine qj ?_ | refine qo ?_ | refine qt ?_ | refine qn ?_ | refine qm ?_ | refine qp ?_); simp only [go_sem, ↓reduceIte, Nat.reduceEqDiff, Nat.reduceAdd, Nat.reduceSub, Nat.reduceMul, Nat.reduceLT, Nat.reduceLeDiff, reduceCtorEq, Int.reduceToNat]) | ((first | refine qh ?_ ?_ | refine qe ?_ ?_) <;> intro hc <;> simp only [hc, go_sem, ↓reduceIte, Nat.reduceEqDiff, Nat.reduceAdd, Nat.reduceSub, Nat.reduceMul, Nat.reduceLT, Nat.reduceLeDiff, reduceCtorEq, Int.reduceToNat] <;> (try simp only [qb, qa, decide_eq_true_eq, decide_eq_false_iff_not, Bool.and_eq_true] at hc)) | refine And.intro (by first | assumption | omega | (have := qk (by assumption); omega) | (unfold qy; omega)) ?_ | ((first | simp (disch := omega) only [qd] | simp (disch := omega) only [qw]); (try simp only [go_sem, ↓reduceIte, Nat.reduceEqDiff, Nat.reduceAdd, Nat.reduceSub, Nat.reduceMul, Nat.reduceLT, Nat.reduceLeDiff, reduceCtorEq, Int.reduceToNat])))
  refine qca (S := Nat) (fun i => i ≤ l.length ∧ qcg f l = i + qcg f (l.drop i)) (fun i => (⟨[(0, .str l), (1, .fn so [] []), (7, .int .i64 l.length), (8, .int .i64 i)], []⟩, [])) (fun i => l.length - i) ?_ fun i hi => ?_
  · refine qbt 0 [] ⟨Nat.zero_le _, by simp⟩ rfl (by simp) ?_ ?_ ?_ <;> (try simp only [go_sem, ↓reduceIte, Nat.reduceEqDiff, Nat.reduceAdd, Nat.reduceSub, Nat.reduceMul, Nat.reduceLT, Nat.reduceLeDiff, reduceCtorEq, Int.reduceToNat]) <;> (try simp (disch := omega) only [qw])
  · obtain ⟨hi, ha⟩ := hi
    repeat' (first | refine qs ?_ | refine qg ?_ | refine qi ?_ | ((first | refine qu ?_ | refine qq (by rfl) ?_ | refine ql ?_ | refine qj ?_ | refine qo ?_ | refine qt ?_ | refine qn ?_ | refine qm ?_ | refine qp ?_ | refine qc (h _) fun _ => ?_ | refine qf  (h _) ?_); simp only [go_sem, ↓reduceIte, Nat.reduceEqDiff, Nat.reduceAdd, Nat.reduceSub, Nat.reduceMul, Nat.reduceLT, Nat.reduceLeDiff, reduceCtorEq, Int.reduceToNat]) | ((first | refine qh ?_ ?_ | refine qe ?_ ?_) <;> intro hc <;> simp only [hc, go_sem, ↓reduceIte, Nat.reduceEqDiff, Nat.reduceAdd, Nat.reduceSub, Nat.reduceMul, Nat.reduceLT, Nat.reduceLeDiff, reduceCtorEq, Int.reduceToNat] <;> (try simp only [qb, qa, decide_eq_true_eq, decide_eq_false_iff_not, Bool.and_eq_true] at hc)) | refine And.intro (by first | assumption | omega | (have := qk (by assumption); omega) | (unfold qy; omega)) ?_ | ((first | simp (disch := omega) only [qd] | simp (disch := omega) only [qw]); (try simp only [go_sem, ↓reduceIte, Nat.reduceEqDiff, Nat.reduceAdd, Nat.reduceSub, Nat.reduceMul, Nat.reduceLT, Nat.reduceLeDiff, reduceCtorEq, Int.reduceToNat])))
    · rw [ha, qer (by omega), hc]; simp
    · refine qbt (i + 1) [] ⟨⟨by omega, ?_⟩, by omega⟩ rfl (by simp) ?_ ?_ ?_ <;> (try simp only [go_sem, ↓reduceIte, Nat.reduceEqDiff, Nat.reduceAdd, Nat.reduceSub, Nat.reduceMul, Nat.reduceLT, Nat.reduceLeDiff, reduceCtorEq, Int.reduceToNat]) <;> (try simp (disch := omega) only [qw])
      rw [ha, qer (by omega), hc]; simp; omega
    · have : i = l.length := by omega
      subst this
      rw [ha, List.drop_length]; simp [qcg]

def pfx (p l : List UInt8) : Bool := decide (l.take p.length = p)
theorem qit (l p : List UInt8) : qbs Tryz.prog 134 [.str l, .str p] (.bool (pfx p l)) := by
  refine qbe c0di (by simp) (by simp only [go_sem]) rfl fun hw => ?_
  repeat' (first | refine qs ?_ | refine qg ?_ | refine qi ?_ | ((first | refine qu ?_ | refine qq (by rfl) ?_ | refine ql ?_ | refine qj ?_ | refine qo ?_ | refine qt ?_ | refine qn ?_ | refine qm ?_ | refine qp ?_); simp only [go_sem, ↓reduceIte, Nat.reduceEqDiff, Nat.reduceAdd, Nat.reduceSub, Nat.reduceMul, Nat.reduceLT, Nat.reduceLeDiff, reduceCtorEq, Int.reduceToNat]) | ((first | refine qh ?_ ?_ | refine qe ?_ ?_) <;> intro hc <;> simp only [hc, go_sem, ↓reduceIte, Nat.reduceEqDiff, Nat.reduceAdd, Nat.reduceSub, Nat.reduceMul, Nat.reduceLT, Nat.reduceLeDiff, reduceCtorEq, Int.reduceToNat] <;> (try simp only [qb, qa, decide_eq_true_eq, decide_eq_false_iff_not, Bool.and_eq_true] at hc)) | refine And.intro (by first | assumption | omega | (have := qk (by assumption); omega) | (unfold qy; omega)) ?_ | ((first | simp (disch := omega) only [qd] | simp (disch := omega) only [qw]); (try simp only [go_sem, ↓reduceIte, Nat.reduceEqDiff, Nat.reduceAdd, Nat.reduceSub, Nat.reduceMul, Nat.reduceLT, Nat.reduceLeDiff, reduceCtorEq, Int.reduceToNat])))
  · rfl
  · rw [pfx, decide_eq_false]
    intro h
    have := congrArg List.length h
    rw [List.length_take] at this
    omega
theorem qdc (l p : List UInt8) : qbs Tryz.prog 124 [.str l, .str p] (.bool (pfx p l)) := by
  refine qbe c0dj (by simp) (by simp only [go_sem]) rfl fun hw => ?_
  repeat' (first | refine qs ?_ | refine qg ?_ | refine qi ?_ | ((first | refine qu ?_ | refine qq (by rfl) ?_ | refine ql ?_ | refine qj ?_ | refine qo ?_ | refine qt ?_ | refine qn ?_ | refine qm ?_ | refine qp ?_ | refine qc (qit _ _) fun _ => ?_ | refine qf  (qit _ _) ?_); simp only [go_sem, ↓reduceIte, Nat.reduceEqDiff, Nat.reduceAdd, Nat.reduceSub, Nat.reduceMul, Nat.reduceLT, Nat.reduceLeDiff, reduceCtorEq, Int.reduceToNat]) | ((first | refine qh ?_ ?_ | refine qe ?_ ?_) <;> intro hc <;> simp only [hc, go_sem, ↓reduceIte, Nat.reduceEqDiff, Nat.reduceAdd, Nat.reduceSub, Nat.reduceMul, Nat.reduceLT, Nat.reduceLeDiff, reduceCtorEq, Int.reduceToNat] <;> (try simp only [qb, qa, decide_eq_true_eq, decide_eq_false_iff_not, Bool.and_eq_true] at hc)) | refine And.intro (by first | assumption | omega | (have := qk (by assumption); omega) | (unfold qy; omega)) ?_ | ((first | simp (disch := omega) only [qd] | simp (disch := omega) only [qw]); (try simp only [go_sem, ↓reduceIte, Nat.reduceEqDiff, Nat.reduceAdd, Nat.reduceSub, Nat.reduceMul, Nat.reduceLT, Nat.reduceLeDiff, reduceCtorEq, Int.reduceToNat])))

theorem qhg (f : Int → Bool) (l : List UInt8) : qcg f l ≤ l.length := (List.takeWhile_sublist _).length_le
def qgt (l : List UInt8) : Nat := if pfx [45, 45] (l.drop (qcg qd1 l)) then qcg qd1 l + qcg qh3 (l.drop (qcg qd1 l)) else qcg qd1 l
theorem ql3 (l : List UInt8) : qgt l ≤ l.length := by
  unfold qgt
  have h1 := qhg qd1 l
  have h2 := qhg qh3 (l.drop (qcg qd1 l))
  rw [List.length_drop] at h2
  split <;> omega
def qlt : Nat → List UInt8 → Nat
  | 0, _ => 0
  | f + 1, l => if qgt l = 0 then 0 else qgt l + qlt f (l.drop (qgt l))
def qc5 (l : List UInt8) : Nat := qlt l.length l
theorem qlg : ∀ (f g : Nat) (l : List UInt8), l.length ≤ f → l.length ≤ g → qlt f l = qlt g l
  | 0, 0, l, _, _ => rfl
  | 0, g + 1, l, h1, h2 => by
    have := ql3 l
    rw [qlt, qlt, if_pos (by omega)]
  | f + 1, 0, l, h1, h2 => by
    have := ql3 l
    rw [qlt, qlt, if_pos (by omega)]
  | f + 1, g + 1, l, h1, h2 => by
    rw [qlt, qlt]
    split
    · rfl
    · rename_i h
      rw [qlg f g _ (by rw [List.length_drop]; omega) (by rw [List.length_drop]; omega)]
theorem qla {l : List UInt8} (h : qgt l = 0) : qc5 l = 0 := by
  unfold qc5
  cases l.length with
  | zero => rfl
  | succ n => rw [qlt, if_pos h]
theorem qkz {l : List UInt8} (h : qgt l ≠ 0) : qc5 l = qgt l + qc5 (l.drop (qgt l)) := by
  have hk := ql3 l
  unfold qc5
  obtain ⟨n, hn⟩ : ∃ n, l.length = n + 1 := ⟨l.length - 1, by omega⟩
  rw [hn, qlt, if_neg h, qlg n (l.drop (qgt l)).length _ (by rw [List.length_drop]; omega) (Nat.le_refl _)]
theorem qwb (l : List UInt8) : qc5 l ≤ l.length := by
  generalize hn : l.length = n
  induction n using Nat.strongRecOn generalizing l with
  | _ n ih =>
    subst hn
    by_cases h : qgt l = 0
    · rw [qla h]; exact Nat.zero_le _
    · have hk := ql3 l
      have := ih (l.drop (qgt l)).length (by rw [List.length_drop]; omega) _ rfl
      rw [qkz h]; rw [List.length_drop] at this; omega
theorem qu3 {l : List UInt8} (h : pfx [45, 45] (l.drop (qcg qd1 l)) = true) : qgt l = qcg qd1 l + qcg qh3 (l.drop (qcg qd1 l)) := by rw [qgt, if_pos h]
theorem qua {l : List UInt8} (h : pfx [45, 45] (l.drop (qcg qd1 l)) = false) : qgt l = qcg qd1 l := by rw [qgt, h]; rfl
theorem qbx7 (a b : Nat) : (a : Int) + (b : Int) = ((a + b : Nat) : Int) := rfl

theorem qi2 (l : List UInt8) : qbs Tryz.prog 97 [.str l] (.int .i64 (qc5 l)) := by
  refine qbe c0dk (by simp) (by simp only [go_sem]) rfl fun hw => ?_
  have hl : l.length ≤ maxLen := hw.1
  repeat' (first | refine qs ?_ | refine qg ?_ | refine qi ?_ | ((first | refine qu ?_ | refine qq (by rfl) ?_ | refine ql ?_ | refine qj ?_ | refine qo ?_ | refine qt ?_ | refine qn ?_ | refine qm ?_ | refine qp ?_); simp only [go_sem, ↓reduceIte, Nat.reduceEqDiff, Nat.reduceAdd, Nat.reduceSub, Nat.reduceMul, Nat.reduceLT, Nat.reduceLeDiff, reduceCtorEq, Int.reduceToNat]) | ((first | refine qh ?_ ?_ | refine qe ?_ ?_) <;> intro hc <;> simp only [hc, go_sem, ↓reduceIte, Nat.reduceEqDiff, Nat.reduceAdd, Nat.reduceSub, Nat.reduceMul, Nat.reduceLT, Nat.reduceLeDiff, reduceCtorEq, Int.reduceToNat] <;> (try simp only [qb, qa, decide_eq_true_eq, decide_eq_false_iff_not, Bool.and_eq_true] at hc)) | refine And.intro (by first | assumption | omega | (have := qk (by assumption); omega) | (unfold qy; omega)) ?_ | ((first | simp (disch := omega) only [qd] | simp (disch := omega) only [qw]); (try simp only [go_sem, ↓reduceIte, Nat.reduceEqDiff, Nat.reduceAdd, Nat.reduceSub, Nat.reduceMul, Nat.reduceLT, Nat.reduceLeDiff, reduceCtorEq, Int.reduceToNat])))
  refine qca (S := Nat) (fun n => n ≤ l.length ∧ qc5 l = n + qc5 (l.drop n)) (fun n => (⟨[(0, .str l), (3, .int .i64 n)], []⟩, [])) (fun n => l.length - n) ?_ fun n hn => ?_
  · refine qbt 0 [] ⟨Nat.zero_le _, by simp⟩ rfl (by simp) ?_ ?_ ?_ <;> (try simp only [go_sem, ↓reduceIte, Nat.reduceEqDiff, Nat.reduceAdd, Nat.reduceSub, Nat.reduceMul, Nat.reduceLT, Nat.reduceLeDiff, reduceCtorEq, Int.reduceToNat]) <;> (try simp (disch := omega) only [qw])
  · obtain ⟨hn, ha⟩ := hn
    have h1 := qhg qd1 (l.drop n)
    have h2 := qhg qh3 (l.drop (n + qcg qd1 (l.drop n)))
    rw [List.length_drop] at h1 h2
    repeat' (first | refine qs ?_ | refine qg ?_ | refine qi ?_ | ((first | refine qu ?_ | refine qq (by rfl) ?_ | refine ql ?_ | refine qj ?_ | refine qo ?_ | refine qt ?_ | refine qn ?_ | refine qm ?_ | refine qp ?_); simp (disch := first | omega | (simp only [List.length_set, List.length_append, List.length_cons, List.length_nil]; done) | (simp only [List.length_set, List.length_append, List.length_cons, List.length_nil]; omega)) only [qe6, go_sem, ↓reduceIte, Nat.reduceEqDiff, Nat.reduceAdd, Nat.reduceSub, Nat.reduceMul, Nat.reduceLT, Nat.reduceLeDiff, reduceCtorEq, Int.reduceToNat]) | ((first | simp (disch := omega) only [qe6] | simp (disch := omega) only [qbx7] | simp (disch := omega) only [Int.toNat_natCast]); (try simp only [go_sem, ↓reduceIte, Nat.reduceEqDiff, Nat.reduceAdd, Nat.reduceSub, Nat.reduceMul, Nat.reduceLT, Nat.reduceLeDiff, reduceCtorEq, Int.reduceToNat])) | ((first | refine qh ?_ ?_ | refine qe ?_ ?_) <;> intro hc <;> simp only [hc, go_sem, ↓reduceIte, Nat.reduceEqDiff, Nat.reduceAdd, Nat.reduceSub, Nat.reduceMul, Nat.reduceLT, Nat.reduceLeDiff, reduceCtorEq, Int.reduceToNat] <;> (try simp only [qb, qa, decide_eq_true_eq, decide_eq_false_iff_not, Bool.and_eq_true] at hc)) | refine And.intro (by first | assumption | omega | (have := qk (by assumption); omega) | (unfold qy; omega)) ?_ | ((first | simp (disch := omega) only [qd] | simp (disch := omega) only [qw]); (try simp only [go_sem, ↓reduceIte, Nat.reduceEqDiff, Nat.reduceAdd, Nat.reduceSub, Nat.reduceMul, Nat.reduceLT, Nat.reduceLeDiff, reduceCtorEq, Int.reduceToNat])) | ((first | refine qc (qeh qml _) fun _ => ?_ | refine qc (qdc _ _) fun _ => ?_ | refine qc (qeh qpb _) fun _ => ?_ | refine qf  (qeh qml _) ?_ | refine qf  (qdc _ _) ?_ | refine qf  (qeh qpb _) ?_); simp only [go_sem, ↓reduceIte, Nat.reduceEqDiff, Nat.reduceAdd, Nat.reduceSub, Nat.reduceMul, Nat.reduceLT, Nat.reduceLeDiff, reduceCtorEq, Int.reduceToNat]))
    · rename_i hp _
      have hk := qu3 (l := l.drop n) (by rw [List.drop_drop]; exact hp)
      rw [List.drop_drop] at hk
      rw [ha, qla (hk.trans (by omega))]; rfl
    · rename_i hp _
      have hk := qu3 (l := l.drop n) (by rw [List.drop_drop]; exact hp)
      rw [List.drop_drop] at hk
      refine qbt (n + qgt (l.drop n)) [] ⟨⟨by omega, ?_⟩, by omega⟩ rfl (by simp) ?_ ?_ ?_ <;> (try simp only [go_sem, ↓reduceIte, Nat.reduceEqDiff, Nat.reduceAdd, Nat.reduceSub, Nat.reduceMul, Nat.reduceLT, Nat.reduceLeDiff, reduceCtorEq, Int.reduceToNat]) <;> (try simp (disch := omega) only [qw])
      · rw [ha, qkz (l := l.drop n) (by omega), List.drop_drop]; omega
      · rw [hk]
    · rename_i hp
      have hk := qua (l := l.drop n) (by rw [List.drop_drop]; exact hp)
      rw [ha, qla (hk.trans (by omega))]; rfl
    · rename_i hp
      have hk := qua (l := l.drop n) (by rw [List.drop_drop]; exact hp)
      refine qbt (n + qgt (l.drop n)) [] ⟨⟨by omega, ?_⟩, by omega⟩ rfl (by simp) ?_ ?_ ?_ <;> (try simp only [go_sem, ↓reduceIte, Nat.reduceEqDiff, Nat.reduceAdd, Nat.reduceSub, Nat.reduceMul, Nat.reduceLT, Nat.reduceLeDiff, reduceCtorEq, Int.reduceToNat]) <;> (try simp (disch := omega) only [qw])
      · rw [ha, qkz (l := l.drop n) (by omega), List.drop_drop]; omega
      · rw [hk]

theorem qhr {c : UInt8} {r : List UInt8} (h : qd1 c.toNat = true) : qc5 (c :: r) = 1 + qc5 r := by
  have hw : qcg qd1 (c :: r) = qcg qd1 r + 1 := by simp [qcg, List.takeWhile_cons, h]
  have hk : qgt (c :: r) = qgt r + 1 := by
    unfold qgt
    rw [hw, List.drop_succ_cons]
    split <;> omega
  rw [qkz (by omega), hk, List.drop_succ_cons]
  by_cases h0 : qgt r = 0
  · rw [h0, qla h0]; simp [qla h0]
  · rw [qkz h0]; omega
theorem q58 {a : UInt8} {p l : List UInt8} (h : pfx (a :: p) l = true) : ∃ r, l = a :: r := by
  cases l with
  | nil => simp [pfx] at h
  | cons b r => simp only [pfx, decide_eq_true_eq, List.length_cons, List.take_succ_cons, List.cons.injEq] at h; exact ⟨r, by rw [h.1]⟩
theorem qxi {l : List UInt8} (h : pfx [45, 45] l = true) : qc5 l = qcg qh3 l + qc5 (l.drop (qcg qh3 l)) := by
  obtain ⟨r, rfl⟩ := q58 h
  have hw : qcg qd1 (45 :: r) = 0 := by simp [qcg, qd1]
  have hk : qgt (45 :: r) = qcg qh3 (45 :: r) := by
    rw [qu3 (by rw [hw]; exact h), hw]; simp
  have h1 : qcg qh3 (45 :: r) ≠ 0 := by simp [qcg, qh3, List.takeWhile_cons]
  rw [qkz (by omega), hk]
theorem qo0 {l : List UInt8} (h : pfx [45, 45] l = false) (hb : qcg qd1 l = 0) : qc5 l = 0 := by
  rw [qla]
  rw [qua (by rw [hb]; exact h), hb]
end Go.Proofs.YtmekebfgmjaenaaGreat
