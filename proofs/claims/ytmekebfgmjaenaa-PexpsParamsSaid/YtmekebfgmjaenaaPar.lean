/- Texts of this proof, joined. -/
import Derived.Test.YtmekebfgmjaenaaPag
import Derived.Test.YtmekebfgmjaenaaPaq

/- the lexer's words: numbers -/
set_option maxRecDepth 4000
namespace Go.Proofs.Ytmekebfgmjaenaa
open Go Go.RowKit Go.V
set_option linter.unusedVariables false
set_option linter.unusedSimpArgs false

theorem qzs : IntKind.i64.wrap (0 + 1) = 1 := by decide
def digW (l : List UInt8) : Bool := l.all fun c => qcg c.toNat
theorem qrc {l : List UInt8} {i : Nat} (h : i < l.length) : digW (l.drop i) = (qcg (l.getD i 0).toNat && digW (l.drop (i + 1))) := by
  rw [qjp h]; rfl

def digV (c : UInt8) : Int := IntKind.i64.wrap (IntKind.u8.wrap ((c.toNat : Int) - 48))
def topV (c : UInt8) : Int := IntKind.i64.wrap ((IntKind.i64.wrap (9223372036854775807 - digV c)).tdiv 10)
def nxtV (k : Int) (c : UInt8) : Int := IntKind.i64.wrap (IntKind.i64.wrap (10 * k) + digV c)
def qn1 : Int → List UInt8 → Int × Int
  | k, [] => (k, 0)
  | k, c :: r => if topV c < k then (0, 4) else qn1 (nxtV k c) r
/-- The number that a text is, and the error. -/
def qog (l : List UInt8) : Int × Int := if l = [] then (0, 5) else if digW l = true then qn1 0 l else (0, 5)
def qbmv (p : Int × Int) : AV := .tup [.int .i64 p.1, .int .i64 p.2]
theorem qpn {l : List UInt8} {i : Nat} (h : i < l.length) (k : Int) : qn1 k (l.drop i) = if topV (l.getD i 0) < k then (0, 4) else qn1 (nxtV k (l.getD i 0)) (l.drop (i + 1)) := by
  rw [qjp h]; rfl
theorem qbmo {c : Int} (h : c < 48 ∨ 57 < c) : qcg c = false := by
  simp only [qcg, Bool.and_eq_false_iff, decide_eq_false_iff_not]; omega
theorem q8u {c : Int} (h : ¬ c < 48) (h2 : ¬ 57 < c) : qcg c = true := by
  simp only [qcg, Bool.and_eq_true, decide_eq_true_eq]; omega
theorem ql6 {l : List UInt8} (h : l ≠ []) (hd : digW l = true) : qog l = qn1 0 l := by rw [qog, if_neg h, if_pos hd]
theorem q02 {l : List UInt8} (hd : digW l = false) : qog l = (0, 5) := by rw [qog, hd]; simp

theorem qrv (l : List UInt8) : qdb Try.prog 37 [.str l] (qbmv (qog l)) := by
  refine qb5 c0cc (by simp) (by simp only [go_sem]) rfl fun hw => ?_
  have hl : l.length ≤ maxLen := hw.1
  refine ql (qn ?_)
  simp only [go_sem, ↓reduceIte, Nat.reduceEqDiff, Nat.reduceAdd, Nat.reduceSub, Nat.reduceMul, Nat.reduceLT, Nat.reduceLeDiff, reduceCtorEq, Int.reduceToNat]
  refine q2u (S := Nat × Int) 0 rfl (fun s => s.1 < l.length ∧ digW l = true ∧ qn1 s.2 (l.drop s.1) = qn1 0 l) (fun s => (⟨[(0, .str l), (5, .int .i64 s.2), (6, .int .i64 s.1)], []⟩, [])) (fun s => l.length - s.1) ?_ fun s hs => ?_
  · repeat' (first | refine ql ?_ | refine qk ?_ | refine qef ?_ | ((first | refine qn ?_ | refine qeh ?_ | refine qf0 ?_ | refine qm ?_ | refine qz ?_ | refine qj ?_ | refine qi ?_ | ((first | refine qf ?_ ?_ | refine qc ?_ ?_) <;> intro hc <;> (try simp only [hc]) <;> (try simp only [qb, qa, decide_eq_true_eq, decide_eq_false_iff_not, Bool.and_eq_true] at hc)) | refine And.intro (by first | assumption | omega | (have := qh (by assumption); omega) | (unfold qt; omega)) ?_ | simp (disch := omega) only [qd] | simp (disch := omega) only [qq]) <;> (try simp only [go_sem, ↓reduceIte, Nat.reduceEqDiff, Nat.reduceAdd, Nat.reduceSub, Nat.reduceMul, Nat.reduceLT, Nat.reduceLeDiff, reduceCtorEq, Int.reduceToNat])))
    refine qc5 (S := Nat) (fun i => i ≤ l.length ∧ digW (l.drop i) = digW l) (fun i => (⟨[(0, .str l), (9, .int .i64 l.length), (10, .int .i64 i)], []⟩, [])) (fun i => l.length - i) ?_ fun i hi => ?_
    · refine qcq 0 [] ⟨Nat.zero_le _, rfl⟩ rfl (by simp) ?_ ?_ ?_ <;> (try simp only [go_sem, ↓reduceIte, Nat.reduceEqDiff, Nat.reduceAdd, Nat.reduceSub, Nat.reduceMul, Nat.reduceLT, Nat.reduceLeDiff, reduceCtorEq, Int.reduceToNat]) <;> (try simp (disch := omega) only [qq])
    · obtain ⟨hi, ha⟩ := hi
      have hs : i < l.length → qcg (l.getD i 0).toNat = false → qog l = (0, 5) := fun h h2 => q02 (by rw [← ha, qrc h, h2]; rfl)
      have hs2 : 0 < l.length → qn1 0 l = if topV (l.getD 0 0) < 0 then (0, 4) else qn1 (nxtV 0 (l.getD 0 0)) (l.drop 1) := fun h => by
        have := qpn (l := l) (i := 0) h 0
        rwa [List.drop_zero] at this
      have hdig : ¬ (i : Int) < l.length → digW l = true := fun h => by rw [← ha, List.drop_of_length_le (by omega)]; rfl
      repeat' (first | refine ql ?_ | refine qk ?_ | refine qef ?_ | ((first | refine qn ?_ | refine qeh ?_ | refine qf0 ?_ | refine qm ?_ | refine qz ?_ | refine qj ?_ | refine qi ?_ | simp (disch := omega) only [qq] | simp (disch := omega) only [qzs] | ((first | refine qf ?_ ?_ | refine qc ?_ ?_) <;> intro hc <;> (try simp only [hc]) <;> (try simp only [qb, qa, decide_eq_true_eq, decide_eq_false_iff_not, Bool.and_eq_true] at hc)) | refine And.intro (by first | assumption | omega | (have := qh (by assumption); omega) | (unfold qt; omega)) ?_ | simp (disch := omega) only [qd] | simp (disch := omega) only [qq]) <;> (try simp only [go_sem, ↓reduceIte, Nat.reduceEqDiff, Nat.reduceAdd, Nat.reduceSub, Nat.reduceMul, Nat.reduceLT, Nat.reduceLeDiff, reduceCtorEq, Int.reduceToNat])))
      all_goals first
        | (rw [hs (by omega) (qbmo (by omega))]; rfl)
        | (refine qcq (i + 1) [] ⟨⟨by omega, ?_⟩, by omega⟩ rfl (by simp) ?_ ?_ ?_ <;> (try simp only [go_sem, ↓reduceIte, Nat.reduceEqDiff, Nat.reduceAdd, Nat.reduceSub, Nat.reduceMul, Nat.reduceLT, Nat.reduceLeDiff, reduceCtorEq, Int.reduceToNat]) <;> (try simp (disch := omega) only [qq])
           have hd : qcg (l.getD i 0).toNat = true := q8u (by omega) (by omega)
           rw [← ha, qrc (l := l) (i := i) (by omega), hd, Bool.true_and])
        | (subst hc; rfl)
        | skip
      · have hlp := qh (by assumption)
        have hd := hdig (by assumption)
        have hc' : topV (l.getD 0 0) < 0 := hc
        rw [ql6 (by assumption) hd, hs2 hlp, if_pos hc']; rfl
      · rename_i hc0
        have hlp := qh (by assumption)
        have hd := hdig (by assumption)
        have hc' : ¬ topV (l.getD 0 0) < 0 := hc0
        refine qcq (1, nxtV 0 (l.getD 0 0)) [] ⟨by omega, hd, ?_⟩ rfl (by simp) ?_ ?_ ?_ <;> (try simp only [go_sem, ↓reduceIte, Nat.reduceEqDiff, Nat.reduceAdd, Nat.reduceSub, Nat.reduceMul, Nat.reduceLT, Nat.reduceLeDiff, reduceCtorEq, Int.reduceToNat]) <;> (try simp (disch := omega) only [qq])
        · rw [hs2 hlp, if_neg hc']
        · rfl
      · rename_i hc0
        have hlp := qh (by assumption)
        have hd := hdig (by assumption)
        have hc' : ¬ topV (l.getD 0 0) < 0 := hc0
        rw [ql6 (by assumption) hd, hs2 hlp, if_neg hc', List.drop_of_length_le (by omega)]; rfl
  · obtain ⟨j, k⟩ := s
    obtain ⟨hj, hd, hr⟩ := hs
    dsimp only at hj hr
    have hs2 : qn1 0 l = if topV (l.getD j 0) < k then (0, 4) else qn1 (nxtV k (l.getD j 0)) (l.drop (j + 1)) := by rw [← hr, qpn hj]
    have hne : l ≠ [] := fun e => by subst e; simp at hj
    rw [ql6 hne hd]
    repeat' (first | refine ql ?_ | refine qk ?_ | refine qef ?_ | ((first | refine qn ?_ | refine qeh ?_ | refine qf0 ?_ | refine qm ?_ | refine qz ?_ | refine qj ?_ | refine qi ?_ | simp (disch := omega) only [qq] | simp (disch := omega) only [qzs] | ((first | refine qf ?_ ?_ | refine qc ?_ ?_) <;> intro hc <;> (try simp only [hc]) <;> (try simp only [qb, qa, decide_eq_true_eq, decide_eq_false_iff_not, Bool.and_eq_true] at hc)) | refine And.intro (by first | assumption | omega | (have := qh (by assumption); omega) | (unfold qt; omega)) ?_ | simp (disch := omega) only [qd] | simp (disch := omega) only [qq]) <;> (try simp only [go_sem, ↓reduceIte, Nat.reduceEqDiff, Nat.reduceAdd, Nat.reduceSub, Nat.reduceMul, Nat.reduceLT, Nat.reduceLeDiff, reduceCtorEq, Int.reduceToNat])))
    · have hc' : topV (l.getD j 0) < k := hc
      rw [hs2, if_pos hc']; rfl
    · rename_i hc0
      have hc' : ¬ topV (l.getD j 0) < k := hc0
      refine qcq (j + 1, nxtV k (l.getD j 0)) [] ⟨⟨by omega, hd, ?_⟩, by omega⟩ rfl (by simp) ?_ ?_ ?_ <;> (try simp only [go_sem, ↓reduceIte, Nat.reduceEqDiff, Nat.reduceAdd, Nat.reduceSub, Nat.reduceMul, Nat.reduceLT, Nat.reduceLeDiff, reduceCtorEq, Int.reduceToNat]) <;> (try simp (disch := omega) only [qq])
      · rw [hs2, if_neg hc']
      · rfl
    · rename_i hc0
      have hc' : ¬ topV (l.getD j 0) < k := hc0
      rw [hs2, if_neg hc', List.drop_of_length_le (by omega)]; rfl
set_option maxRecDepth 4000

theorem qen (c : Int) : qdb Try.prog 36 [.int .u8 c] (.bool (qcg c)) := by
  refine qb5 c0bu (by simp) (by simp only [go_sem]) rfl fun hw => ?_
  repeat' (first | refine ql ?_ | ((first | refine qn ?_ | refine qm ?_ | ((first | refine qf ?_ ?_ | refine qc ?_ ?_) <;> intro hc <;> (try simp only [hc]) <;> (try simp only [qb, qa, decide_eq_true_eq, decide_eq_false_iff_not, Bool.and_eq_true] at hc)) | refine And.intro (by first | assumption | omega | (have := qh (by assumption); omega) | (unfold qt; omega)) ?_ | simp (disch := omega) only [qd] | simp (disch := omega) only [qq]) <;> (try simp only [go_sem, ↓reduceIte, Nat.reduceEqDiff, Nat.reduceAdd, Nat.reduceSub, Nat.reduceMul, Nat.reduceLT, Nat.reduceLeDiff, reduceCtorEq, Int.reduceToNat])))
  all_goals simp [qcg, *]
theorem qlo (c : Int) : qdb Try.prog 38 [.int .u8 c] (.bool (onW c)) := by
  refine qb5 c0bv (by simp) (by simp only [go_sem]) rfl fun hw => ?_
  repeat' (first | refine ql ?_ | ((first | refine qn ?_ | refine qm ?_ | refine qy (qen _) fun _ => ?_ | refine qba  (qen _) ?_ | ((first | refine qf ?_ ?_ | refine qc ?_ ?_) <;> intro hc <;> (try simp only [hc]) <;> (try simp only [qb, qa, decide_eq_true_eq, decide_eq_false_iff_not, Bool.and_eq_true] at hc)) | refine And.intro (by first | assumption | omega | (have := qh (by assumption); omega) | (unfold qt; omega)) ?_ | simp (disch := omega) only [qd] | simp (disch := omega) only [qq]) <;> (try simp only [go_sem, ↓reduceIte, Nat.reduceEqDiff, Nat.reduceAdd, Nat.reduceSub, Nat.reduceMul, Nat.reduceLT, Nat.reduceLeDiff, reduceCtorEq, Int.reduceToNat])))
  all_goals simp only [onW, qtc, qok, *]
  all_goals first | (simp_all; done) | (simp_all; omega)
def qdj (c : Int) : Bool := decide (c = 9) || decide (c = 10) || decide (c = 13) || decide (c = 32)
theorem ql9 (c : Int) : qdb Try.prog 33 [.int .u8 c] (.bool (qdj c)) := by
  refine qb5 c0bw (by simp) (by simp only [go_sem]) rfl fun hw => ?_
  repeat' (first | refine ql ?_ | ((first | refine qn ?_ | refine qm ?_ | ((first | refine qf ?_ ?_ | refine qc ?_ ?_) <;> intro hc <;> (try simp only [hc]) <;> (try simp only [qb, qa, decide_eq_true_eq, decide_eq_false_iff_not, Bool.and_eq_true] at hc)) | refine And.intro (by first | assumption | omega | (have := qh (by assumption); omega) | (unfold qt; omega)) ?_ | simp (disch := omega) only [qd] | simp (disch := omega) only [qq]) <;> (try simp only [go_sem, ↓reduceIte, Nat.reduceEqDiff, Nat.reduceAdd, Nat.reduceSub, Nat.reduceMul, Nat.reduceLT, Nat.reduceLeDiff, reduceCtorEq, Int.reduceToNat])))
  all_goals simp [qdj, *]
def qyy (c : Int) : Bool := !decide (c = 10)
theorem qom (c : Int) : qdb Try.prog 35 [.int .u8 c] (.bool (qyy c)) := by
  refine qb5 c0bx (by simp) (by simp only [go_sem]) rfl fun hw => ?_
  repeat' (first | refine ql ?_ | ((first | refine qn ?_ | refine qm ?_ | ((first | refine qf ?_ ?_ | refine qc ?_ ?_) <;> intro hc <;> (try simp only [hc]) <;> (try simp only [qb, qa, decide_eq_true_eq, decide_eq_false_iff_not, Bool.and_eq_true] at hc)) | refine And.intro (by first | assumption | omega | (have := qh (by assumption); omega) | (unfold qt; omega)) ?_ | simp (disch := omega) only [qd] | simp (disch := omega) only [qq]) <;> (try simp only [go_sem, ↓reduceIte, Nat.reduceEqDiff, Nat.reduceAdd, Nat.reduceSub, Nat.reduceMul, Nat.reduceLT, Nat.reduceLeDiff, reduceCtorEq, Int.reduceToNat])))
  all_goals simp [qyy, *]

def qbq (f : Int → Bool) (l : List UInt8) : Nat := (l.takeWhile fun c => f c.toNat).length
theorem qi6 {f : Int → Bool} {l : List UInt8} {i : Nat} (h : i < l.length) : qbq f (l.drop i) = if f (l.getD i 0).toNat then qbq f (l.drop (i + 1)) + 1 else 0 := by
  rw [qjp h, qbq, List.takeWhile_cons]
  split <;> simp [qbq]
theorem qdn {so : FuncId} {f : Int → Bool} (h : ∀ c, qdb Try.prog so [.int .u8 c] (.bool (f c))) (l : List UInt8) : qdb Try.prog 32 [.str l, .fn so [] []] (.int .i64 (qbq f l)) := by
  refine qb5 c0by (by simp) (by simp only [go_sem]) rfl fun hw => ?_
  have hl : l.length ≤ maxLen := hw.1
  repeat' (first | refine ql ?_ | refine qk ?_ | ((first | refine qn ?_ | refine qm ?_ | refine qz ?_ | refine qj ?_ | refine qi ?_ | ((first | refine qf ?_ ?_ | refine qc ?_ ?_) <;> intro hc <;> (try simp only [hc]) <;> (try simp only [qb, qa, decide_eq_true_eq, decide_eq_false_iff_not, Bool.and_eq_true] at hc)) | refine And.intro (by first | assumption | omega | (have := qh (by assumption); omega) | (unfold qt; omega)) ?_ | simp (disch := omega) only [qd] | simp (disch := omega) only [qq]) <;> (try simp only [go_sem, ↓reduceIte, Nat.reduceEqDiff, Nat.reduceAdd, Nat.reduceSub, Nat.reduceMul, Nat.reduceLT, Nat.reduceLeDiff, reduceCtorEq, Int.reduceToNat])))
  refine qc5 (S := Nat) (fun i => i ≤ l.length ∧ qbq f l = i + qbq f (l.drop i)) (fun i => (⟨[(0, .str l), (1, .fn so [] []), (7, .int .i64 l.length), (8, .int .i64 i)], []⟩, [])) (fun i => l.length - i) ?_ fun i hi => ?_
  · refine qcq 0 [] ⟨Nat.zero_le _, by simp⟩ rfl (by simp) ?_ ?_ ?_ <;> (try simp only [go_sem, ↓reduceIte, Nat.reduceEqDiff, Nat.reduceAdd, Nat.reduceSub, Nat.reduceMul, Nat.reduceLT, Nat.reduceLeDiff, reduceCtorEq, Int.reduceToNat]) <;> (try simp (disch := omega) only [qq])
  · obtain ⟨hi, ha⟩ := hi
    repeat' (first | refine ql ?_ | refine qk ?_ | ((first | refine qn ?_ | refine qm ?_ | refine qz ?_ | refine qj ?_ | refine qi ?_ | refine qy (h _) fun _ => ?_ | refine qba  (h _) ?_ | ((first | refine qf ?_ ?_ | refine qc ?_ ?_) <;> intro hc <;> (try simp only [hc]) <;> (try simp only [qb, qa, decide_eq_true_eq, decide_eq_false_iff_not, Bool.and_eq_true] at hc)) | refine And.intro (by first | assumption | omega | (have := qh (by assumption); omega) | (unfold qt; omega)) ?_ | simp (disch := omega) only [qd] | simp (disch := omega) only [qq]) <;> (try simp only [go_sem, ↓reduceIte, Nat.reduceEqDiff, Nat.reduceAdd, Nat.reduceSub, Nat.reduceMul, Nat.reduceLT, Nat.reduceLeDiff, reduceCtorEq, Int.reduceToNat])))
    · rw [ha, qi6 (by omega), hc]; simp
    · refine qcq (i + 1) [] ⟨⟨by omega, ?_⟩, by omega⟩ rfl (by simp) ?_ ?_ ?_ <;> (try simp only [go_sem, ↓reduceIte, Nat.reduceEqDiff, Nat.reduceAdd, Nat.reduceSub, Nat.reduceMul, Nat.reduceLT, Nat.reduceLeDiff, reduceCtorEq, Int.reduceToNat]) <;> (try simp (disch := omega) only [qq])
      rw [ha, qi6 (by omega), hc]; simp; omega
    · have : i = l.length := by omega
      subst this
      rw [ha, List.drop_length]; simp [qbq]

def pfx (p l : List UInt8) : Bool := decide (l.take p.length = p)
theorem qhl (l p : List UInt8) : qdb Try.prog 51 [.str l, .str p] (.bool (pfx p l)) := by
  refine qb5 c0bz (by simp) (by simp only [go_sem]) rfl fun hw => ?_
  repeat' (first | refine ql ?_ | ((first | refine qn ?_ | refine qm ?_ | ((first | refine qf ?_ ?_ | refine qc ?_ ?_) <;> intro hc <;> (try simp only [hc]) <;> (try simp only [qb, qa, decide_eq_true_eq, decide_eq_false_iff_not, Bool.and_eq_true] at hc)) | refine And.intro (by first | assumption | omega | (have := qh (by assumption); omega) | (unfold qt; omega)) ?_ | simp (disch := omega) only [qd] | simp (disch := omega) only [qq]) <;> (try simp only [go_sem, ↓reduceIte, Nat.reduceEqDiff, Nat.reduceAdd, Nat.reduceSub, Nat.reduceMul, Nat.reduceLT, Nat.reduceLeDiff, reduceCtorEq, Int.reduceToNat])))
  · rfl
  · rw [pfx, decide_eq_false]
    intro h
    have := congrArg List.length h
    rw [List.length_take] at this
    omega
theorem qct (l p : List UInt8) : qdb Try.prog 34 [.str l, .str p] (.bool (pfx p l)) := by
  refine qb5 c0ca (by simp) (by simp only [go_sem]) rfl fun hw => ?_
  repeat' (first | refine ql ?_ | ((first | refine qn ?_ | refine qm ?_ | refine qy (qhl _ _) fun _ => ?_ | refine qba  (qhl _ _) ?_ | ((first | refine qf ?_ ?_ | refine qc ?_ ?_) <;> intro hc <;> (try simp only [hc]) <;> (try simp only [qb, qa, decide_eq_true_eq, decide_eq_false_iff_not, Bool.and_eq_true] at hc)) | refine And.intro (by first | assumption | omega | (have := qh (by assumption); omega) | (unfold qt; omega)) ?_ | simp (disch := omega) only [qd] | simp (disch := omega) only [qq]) <;> (try simp only [go_sem, ↓reduceIte, Nat.reduceEqDiff, Nat.reduceAdd, Nat.reduceSub, Nat.reduceMul, Nat.reduceLT, Nat.reduceLeDiff, reduceCtorEq, Int.reduceToNat])))

theorem qew (f : Int → Bool) (l : List UInt8) : qbq f l ≤ l.length := (List.takeWhile_sublist _).length_le
def qfj (l : List UInt8) : Nat := if pfx [45, 45] (l.drop (qbq qdj l)) then qbq qdj l + qbq qyy (l.drop (qbq qdj l)) else qbq qdj l
theorem qly (l : List UInt8) : qfj l ≤ l.length := by
  unfold qfj
  have h1 := qew qdj l
  have h2 := qew qyy (l.drop (qbq qdj l))
  rw [List.length_drop] at h2
  split <;> omega
def qlc : Nat → List UInt8 → Nat
  | 0, _ => 0
  | f + 1, l => if qfj l = 0 then 0 else qfj l + qlc f (l.drop (qfj l))
def qck (l : List UInt8) : Nat := qlc l.length l
theorem qk4 : ∀ (f g : Nat) (l : List UInt8), l.length ≤ f → l.length ≤ g → qlc f l = qlc g l
  | 0, 0, l, _, _ => rfl
  | 0, g + 1, l, h1, h2 => by
    have := qly l
    rw [qlc, qlc, if_pos (by omega)]
  | f + 1, 0, l, h1, h2 => by
    have := qly l
    rw [qlc, qlc, if_pos (by omega)]
  | f + 1, g + 1, l, h1, h2 => by
    rw [qlc, qlc]
    split
    · rfl
    · rename_i h
      rw [qk4 f g _ (by rw [List.length_drop]; omega) (by rw [List.length_drop]; omega)]
theorem qmf {l : List UInt8} (h : qfj l = 0) : qck l = 0 := by
  unfold qck
  cases l.length with
  | zero => rfl
  | succ n => rw [qlc, if_pos h]
theorem qmm {l : List UInt8} (h : qfj l ≠ 0) : qck l = qfj l + qck (l.drop (qfj l)) := by
  have hk := qly l
  unfold qck
  obtain ⟨n, hn⟩ : ∃ n, l.length = n + 1 := ⟨l.length - 1, by omega⟩
  rw [hn, qlc, if_neg h, qk4 n (l.drop (qfj l)).length _ (by rw [List.length_drop]; omega) (Nat.le_refl _)]
theorem qwb (l : List UInt8) : qck l ≤ l.length := by
  generalize hn : l.length = n
  induction n using Nat.strongRecOn generalizing l with
  | _ n ih =>
    subst hn
    by_cases h : qfj l = 0
    · rw [qmf h]; exact Nat.zero_le _
    · have hk := qly l
      have := ih (l.drop (qfj l)).length (by rw [List.length_drop]; omega) _ rfl
      rw [qmm h]; rw [List.length_drop] at this; omega
theorem qzp {l : List UInt8} (h : pfx [45, 45] (l.drop (qbq qdj l)) = true) : qfj l = qbq qdj l + qbq qyy (l.drop (qbq qdj l)) := by rw [qfj, if_pos h]
theorem qui {l : List UInt8} (h : pfx [45, 45] (l.drop (qbq qdj l)) = false) : qfj l = qbq qdj l := by rw [qfj, h]; rfl
theorem qbk8 (a b : Nat) : (a : Int) + (b : Int) = ((a + b : Nat) : Int) := rfl

theorem qiu (l : List UInt8) : qdb Try.prog 19 [.str l] (.int .i64 (qck l)) := by
  refine qb5 c0cb (by simp) (by simp only [go_sem]) rfl fun hw => ?_
  have hl : l.length ≤ maxLen := hw.1
  repeat' (first | refine ql ?_ | refine qk ?_ | ((first | refine qn ?_ | refine qm ?_ | refine qj ?_ | refine qi ?_ | ((first | refine qf ?_ ?_ | refine qc ?_ ?_) <;> intro hc <;> (try simp only [hc]) <;> (try simp only [qb, qa, decide_eq_true_eq, decide_eq_false_iff_not, Bool.and_eq_true] at hc)) | refine And.intro (by first | assumption | omega | (have := qh (by assumption); omega) | (unfold qt; omega)) ?_ | simp (disch := omega) only [qd] | simp (disch := omega) only [qq]) <;> (try simp only [go_sem, ↓reduceIte, Nat.reduceEqDiff, Nat.reduceAdd, Nat.reduceSub, Nat.reduceMul, Nat.reduceLT, Nat.reduceLeDiff, reduceCtorEq, Int.reduceToNat])))
  refine qc5 (S := Nat) (fun n => n ≤ l.length ∧ qck l = n + qck (l.drop n)) (fun n => (⟨[(0, .str l), (3, .int .i64 n)], []⟩, [])) (fun n => l.length - n) ?_ fun n hn => ?_
  · refine qcq 0 [] ⟨Nat.zero_le _, by simp⟩ rfl (by simp) ?_ ?_ ?_ <;> (try simp only [go_sem, ↓reduceIte, Nat.reduceEqDiff, Nat.reduceAdd, Nat.reduceSub, Nat.reduceMul, Nat.reduceLT, Nat.reduceLeDiff, reduceCtorEq, Int.reduceToNat]) <;> (try simp (disch := omega) only [qq])
  · obtain ⟨hn, ha⟩ := hn
    have h1 := qew qdj (l.drop n)
    have h2 := qew qyy (l.drop (n + qbq qdj (l.drop n)))
    rw [List.length_drop] at h1 h2
    repeat' (first | refine ql ?_ | refine qk ?_ | ((first | refine qn ?_ | refine qm ?_ | refine qj ?_ | refine qi ?_) <;> (try simp (disch := first | omega | (simp only [List.length_set, List.length_append, List.length_cons, List.length_nil]; done) | (simp only [List.length_set, List.length_append, List.length_cons, List.length_nil]; omega)) only [qhn, go_sem, ↓reduceIte, Nat.reduceEqDiff, Nat.reduceAdd, Nat.reduceSub, Nat.reduceMul, Nat.reduceLT, Nat.reduceLeDiff, reduceCtorEq, Int.reduceToNat])) | ((first | simp (disch := omega) only [qhn] | simp (disch := omega) only [qbk8] | simp (disch := omega) only [Int.toNat_natCast] | ((first | refine qf ?_ ?_ | refine qc ?_ ?_) <;> intro hc <;> (try simp only [hc]) <;> (try simp only [qb, qa, decide_eq_true_eq, decide_eq_false_iff_not, Bool.and_eq_true] at hc)) | refine And.intro (by first | assumption | omega | (have := qh (by assumption); omega) | (unfold qt; omega)) ?_ | simp (disch := omega) only [qd] | simp (disch := omega) only [qq] | refine qy (qdn ql9 _) fun _ => ?_ | refine qy (qct _ _) fun _ => ?_ | refine qy (qdn qom _) fun _ => ?_ | refine qba  (qdn ql9 _) ?_ | refine qba  (qct _ _) ?_ | refine qba  (qdn qom _) ?_) <;> (try simp only [go_sem, ↓reduceIte, Nat.reduceEqDiff, Nat.reduceAdd, Nat.reduceSub, Nat.reduceMul, Nat.reduceLT, Nat.reduceLeDiff, reduceCtorEq, Int.reduceToNat])))
    · rename_i hp _
      have hk := qzp (l := l.drop n) (by rw [List.drop_drop]; exact hp)
      rw [List.drop_drop] at hk
      rw [ha, qmf (hk.trans (by omega))]; rfl
    · rename_i hp _
      have hk := qzp (l := l.drop n) (by rw [List.drop_drop]; exact hp)
      rw [List.drop_drop] at hk
      refine qcq (n + qfj (l.drop n)) [] ⟨⟨by omega, ?_⟩, by omega⟩ rfl (by simp) ?_ ?_ ?_ <;> (try simp only [go_sem, ↓reduceIte, Nat.reduceEqDiff, Nat.reduceAdd, Nat.reduceSub, Nat.reduceMul, Nat.reduceLT, Nat.reduceLeDiff, reduceCtorEq, Int.reduceToNat]) <;> (try simp (disch := omega) only [qq])
      · rw [ha, qmm (l := l.drop n) (by omega), List.drop_drop]; omega
      · rw [hk]
    · rename_i hp
      have hk := qui (l := l.drop n) (by rw [List.drop_drop]; exact hp)
      rw [ha, qmf (hk.trans (by omega))]; rfl
    · rename_i hp
      have hk := qui (l := l.drop n) (by rw [List.drop_drop]; exact hp)
      refine qcq (n + qfj (l.drop n)) [] ⟨⟨by omega, ?_⟩, by omega⟩ rfl (by simp) ?_ ?_ ?_ <;> (try simp only [go_sem, ↓reduceIte, Nat.reduceEqDiff, Nat.reduceAdd, Nat.reduceSub, Nat.reduceMul, Nat.reduceLT, Nat.reduceLeDiff, reduceCtorEq, Int.reduceToNat]) <;> (try simp (disch := omega) only [qq])
      · rw [ha, qmm (l := l.drop n) (by omega), List.drop_drop]; omega
      · rw [hk]

theorem qou {l : List UInt8} (h : pfx [45, 45] l = false) (hb : qbq qdj l = 0) : qck l = 0 := by
  rw [qmf]
  rw [qui (by rw [hb]; exact h), hb]
end Go.Proofs.Ytmekebfgmjaenaa
