/- Texts of this proof, joined. -/
import Derived.Test.YtfjbmjplnmaclaaWag
import Derived.Test.YtfjbmjplnmaclaaWao

/- the lexer's words: numbers -/
set_option maxRecDepth 4000
namespace Go.Proofs.Ytfjbmjplnmaclaa
open Go Go.RowKit Go.V
set_option linter.unusedVariables false
set_option linter.unusedSimpArgs false

theorem qw8 : IntKind.i64.wrap (0 + 1) = 1 := by decide
def digW (l : List UInt8) : Bool := l.all fun c => qd0 c.toNat
theorem qp6 {l : List UInt8} {i : Nat} (h : i < l.length) : digW (l.drop i) = (qd0 (l.getD i 0).toNat && digW (l.drop (i + 1))) := by
  rw [qh1 h]; rfl

def digV (c : UInt8) : Int := IntKind.i64.wrap (IntKind.u8.wrap ((c.toNat : Int) - 48))
def topV (c : UInt8) : Int := IntKind.i64.wrap ((IntKind.i64.wrap (9223372036854775807 - digV c)).tdiv 10)
def nxtV (k : Int) (c : UInt8) : Int := IntKind.i64.wrap (IntKind.i64.wrap (10 * k) + digV c)
def qht : Int → List UInt8 → Int × Int
  | k, [] => (k, 0)
  | k, c :: r => if topV c < k then (0, 4) else qht (nxtV k c) r
/-- The number that a text is, and the error. -/
def qns (l : List UInt8) : Int × Int := if l = [] then (0, 5) else if digW l = true then qht 0 l else (0, 5)
def qbnl (p : Int × Int) : AV := .tup [.int .i64 p.1, .int .i64 p.2]
theorem qmj {l : List UInt8} {i : Nat} (h : i < l.length) (k : Int) : qht k (l.drop i) = if topV (l.getD i 0) < k then (0, 4) else qht (nxtV k (l.getD i 0)) (l.drop (i + 1)) := by
  rw [qh1 h]; rfl
theorem qbk2 {c : Int} (h : c < 48 ∨ 57 < c) : qd0 c = false := by
  simp only [qd0, Bool.and_eq_false_iff, decide_eq_false_iff_not]; omega
theorem qbb3 {c : Int} (h : ¬ c < 48) (h2 : ¬ 57 < c) : qd0 c = true := by
  simp only [qd0, Bool.and_eq_true, decide_eq_true_eq]; omega
theorem qll {l : List UInt8} (h : l ≠ []) (hd : digW l = true) : qns l = qht 0 l := by rw [qns, if_neg h, if_pos hd]
theorem qvi {l : List UInt8} (hd : digW l = false) : qns l = (0, 5) := by rw [qns, hd]; simp

theorem qpn (l : List UInt8) : qc4 Try.prog 72 [.str l] (qbnl (qns l)) := by
  refine qb3 c0da (by simp) (by simp only [go_sem]) rfl fun hw => ?_
  have hl : l.length ≤ maxLen := hw.1
  refine qi (qm ?_)
  simp only [go_sem, ↓reduceIte, Nat.reduceEqDiff, Nat.reduceAdd, Nat.reduceSub, Nat.reduceMul, Nat.reduceLT, Nat.reduceLeDiff, reduceCtorEq, Int.reduceToNat]
  refine qzp (S := Nat × Int) 0 rfl (fun s => s.1 < l.length ∧ digW l = true ∧ qht s.2 (l.drop s.1) = qht 0 l) (fun s => (⟨[(0, .str l), (5, .int .i64 s.2), (6, .int .i64 s.1)], []⟩, [])) (fun s => l.length - s.1) ?_ fun s hs => ?_
  · repeat' (first | refine qi ?_ | refine qk ?_ | refine qdz ?_ | ((first | refine qm ?_ | refine qdy ?_ | refine qew ?_ | refine qj ?_ | refine qr ?_ | refine qh ?_ | refine qg ?_ | ((first | refine qe ?_ ?_ | refine qc ?_ ?_) <;> intro hc <;> (try simp only [hc]) <;> (try simp only [qb, qa, decide_eq_true_eq, decide_eq_false_iff_not, Bool.and_eq_true] at hc)) | refine And.intro (by first | assumption | omega | (have := qf (by assumption); omega) | (unfold qo; omega)) ?_ | simp (disch := omega) only [qd] | simp (disch := omega) only [qn]) <;> (try simp only [go_sem, ↓reduceIte, Nat.reduceEqDiff, Nat.reduceAdd, Nat.reduceSub, Nat.reduceMul, Nat.reduceLT, Nat.reduceLeDiff, reduceCtorEq, Int.reduceToNat])))
    refine qcx (S := Nat) (fun i => i ≤ l.length ∧ digW (l.drop i) = digW l) (fun i => (⟨[(0, .str l), (9, .int .i64 l.length), (10, .int .i64 i)], []⟩, [])) (fun i => l.length - i) ?_ fun i hi => ?_
    · refine qb5 0 [] ⟨Nat.zero_le _, rfl⟩ rfl (by simp) ?_ ?_ ?_ <;> (try simp only [go_sem, ↓reduceIte, Nat.reduceEqDiff, Nat.reduceAdd, Nat.reduceSub, Nat.reduceMul, Nat.reduceLT, Nat.reduceLeDiff, reduceCtorEq, Int.reduceToNat]) <;> (try simp (disch := omega) only [qn])
    · obtain ⟨hi, ha⟩ := hi
      have hs : i < l.length → qd0 (l.getD i 0).toNat = false → qns l = (0, 5) := fun h h2 => qvi (by rw [← ha, qp6 h, h2]; rfl)
      have hs2 : 0 < l.length → qht 0 l = if topV (l.getD 0 0) < 0 then (0, 4) else qht (nxtV 0 (l.getD 0 0)) (l.drop 1) := fun h => by
        have := qmj (l := l) (i := 0) h 0
        rwa [List.drop_zero] at this
      have hdig : ¬ (i : Int) < l.length → digW l = true := fun h => by rw [← ha, List.drop_of_length_le (by omega)]; rfl
      repeat' (first | refine qi ?_ | refine qk ?_ | refine qdz ?_ | ((first | refine qm ?_ | refine qdy ?_ | refine qew ?_ | refine qj ?_ | refine qr ?_ | refine qh ?_ | refine qg ?_ | simp (disch := omega) only [qn] | simp (disch := omega) only [qw8] | ((first | refine qe ?_ ?_ | refine qc ?_ ?_) <;> intro hc <;> (try simp only [hc]) <;> (try simp only [qb, qa, decide_eq_true_eq, decide_eq_false_iff_not, Bool.and_eq_true] at hc)) | refine And.intro (by first | assumption | omega | (have := qf (by assumption); omega) | (unfold qo; omega)) ?_ | simp (disch := omega) only [qd] | simp (disch := omega) only [qn]) <;> (try simp only [go_sem, ↓reduceIte, Nat.reduceEqDiff, Nat.reduceAdd, Nat.reduceSub, Nat.reduceMul, Nat.reduceLT, Nat.reduceLeDiff, reduceCtorEq, Int.reduceToNat])))
      all_goals first
        | (rw [hs (by omega) (qbk2 (by omega))]; rfl)
        | (refine qb5 (i + 1) [] ⟨⟨by omega, ?_⟩, by omega⟩ rfl (by simp) ?_ ?_ ?_ <;> (try simp only [go_sem, ↓reduceIte, Nat.reduceEqDiff, Nat.reduceAdd, Nat.reduceSub, Nat.reduceMul, Nat.reduceLT, Nat.reduceLeDiff, reduceCtorEq, Int.reduceToNat]) <;> (try simp (disch := omega) only [qn])
           have hd : qd0 (l.getD i 0).toNat = true := qbb3 (by omega) (by omega)
           rw [← ha, qp6 (l := l) (i := i) (by omega), hd, Bool.true_and])
        | (subst hc; rfl)
        | skip
      · have hlp := qf (by assumption)
        have hd := hdig (by assumption)
        have hc' : topV (l.getD 0 0) < 0 := hc
        rw [qll (by assumption) hd, hs2 hlp, if_pos hc']; rfl
      · rename_i hc0
        have hlp := qf (by assumption)
        have hd := hdig (by assumption)
        have hc' : ¬ topV (l.getD 0 0) < 0 := hc0
        refine qb5 (1, nxtV 0 (l.getD 0 0)) [] ⟨by omega, hd, ?_⟩ rfl (by simp) ?_ ?_ ?_ <;> (try simp only [go_sem, ↓reduceIte, Nat.reduceEqDiff, Nat.reduceAdd, Nat.reduceSub, Nat.reduceMul, Nat.reduceLT, Nat.reduceLeDiff, reduceCtorEq, Int.reduceToNat]) <;> (try simp (disch := omega) only [qn])
        · rw [hs2 hlp, if_neg hc']
        · rfl
      · rename_i hc0
        have hlp := qf (by assumption)
        have hd := hdig (by assumption)
        have hc' : ¬ topV (l.getD 0 0) < 0 := hc0
        rw [qll (by assumption) hd, hs2 hlp, if_neg hc', List.drop_of_length_le (by omega)]; rfl
  · obtain ⟨j, k⟩ := s
    obtain ⟨hj, hd, hr⟩ := hs
    dsimp only at hj hr
    have hs2 : qht 0 l = if topV (l.getD j 0) < k then (0, 4) else qht (nxtV k (l.getD j 0)) (l.drop (j + 1)) := by rw [← hr, qmj hj]
    have hne : l ≠ [] := fun e => by subst e; simp at hj
    rw [qll hne hd]
    repeat' (first | refine qi ?_ | refine qk ?_ | refine qdz ?_ | ((first | refine qm ?_ | refine qdy ?_ | refine qew ?_ | refine qj ?_ | refine qr ?_ | refine qh ?_ | refine qg ?_ | simp (disch := omega) only [qn] | simp (disch := omega) only [qw8] | ((first | refine qe ?_ ?_ | refine qc ?_ ?_) <;> intro hc <;> (try simp only [hc]) <;> (try simp only [qb, qa, decide_eq_true_eq, decide_eq_false_iff_not, Bool.and_eq_true] at hc)) | refine And.intro (by first | assumption | omega | (have := qf (by assumption); omega) | (unfold qo; omega)) ?_ | simp (disch := omega) only [qd] | simp (disch := omega) only [qn]) <;> (try simp only [go_sem, ↓reduceIte, Nat.reduceEqDiff, Nat.reduceAdd, Nat.reduceSub, Nat.reduceMul, Nat.reduceLT, Nat.reduceLeDiff, reduceCtorEq, Int.reduceToNat])))
    · have hc' : topV (l.getD j 0) < k := hc
      rw [hs2, if_pos hc']; rfl
    · rename_i hc0
      have hc' : ¬ topV (l.getD j 0) < k := hc0
      refine qb5 (j + 1, nxtV k (l.getD j 0)) [] ⟨⟨by omega, hd, ?_⟩, by omega⟩ rfl (by simp) ?_ ?_ ?_ <;> (try simp only [go_sem, ↓reduceIte, Nat.reduceEqDiff, Nat.reduceAdd, Nat.reduceSub, Nat.reduceMul, Nat.reduceLT, Nat.reduceLeDiff, reduceCtorEq, Int.reduceToNat]) <;> (try simp (disch := omega) only [qn])
      · rw [hs2, if_neg hc']
      · rfl
    · rename_i hc0
      have hc' : ¬ topV (l.getD j 0) < k := hc0
      rw [hs2, if_neg hc', List.drop_of_length_le (by omega)]; rfl
set_option maxRecDepth 4000

theorem qd7 (c : Int) : qc4 Try.prog 71 [.int .u8 c] (.bool (qd0 c)) := by
  refine qb3 c0cs (by simp) (by simp only [go_sem]) rfl fun hw => ?_
  repeat' (first | refine qi ?_ | ((first | refine qm ?_ | refine qj ?_ | ((first | refine qe ?_ ?_ | refine qc ?_ ?_) <;> intro hc <;> (try simp only [hc]) <;> (try simp only [qb, qa, decide_eq_true_eq, decide_eq_false_iff_not, Bool.and_eq_true] at hc)) | refine And.intro (by first | assumption | omega | (have := qf (by assumption); omega) | (unfold qo; omega)) ?_ | simp (disch := omega) only [qd] | simp (disch := omega) only [qn]) <;> (try simp only [go_sem, ↓reduceIte, Nat.reduceEqDiff, Nat.reduceAdd, Nat.reduceSub, Nat.reduceMul, Nat.reduceLT, Nat.reduceLeDiff, reduceCtorEq, Int.reduceToNat])))
  all_goals simp [qd0, *]
theorem qjt (c : Int) : qc4 Try.prog 73 [.int .u8 c] (.bool (onW c)) := by
  refine qb3 c0ct (by simp) (by simp only [go_sem]) rfl fun hw => ?_
  repeat' (first | refine qi ?_ | ((first | refine qm ?_ | refine qj ?_ | refine qv (qd7 _) fun _ => ?_ | refine qy  (qd7 _) ?_ | ((first | refine qe ?_ ?_ | refine qc ?_ ?_) <;> intro hc <;> (try simp only [hc]) <;> (try simp only [qb, qa, decide_eq_true_eq, decide_eq_false_iff_not, Bool.and_eq_true] at hc)) | refine And.intro (by first | assumption | omega | (have := qf (by assumption); omega) | (unfold qo; omega)) ?_ | simp (disch := omega) only [qd] | simp (disch := omega) only [qn]) <;> (try simp only [go_sem, ↓reduceIte, Nat.reduceEqDiff, Nat.reduceAdd, Nat.reduceSub, Nat.reduceMul, Nat.reduceLT, Nat.reduceLeDiff, reduceCtorEq, Int.reduceToNat])))
  all_goals simp only [onW, qrr, qpl, *]
  all_goals first | (simp_all; done) | (simp_all; omega)
def qez (c : Int) : Bool := decide (c = 9) || decide (c = 10) || decide (c = 13) || decide (c = 32)
theorem qla (c : Int) : qc4 Try.prog 68 [.int .u8 c] (.bool (qez c)) := by
  refine qb3 c0cu (by simp) (by simp only [go_sem]) rfl fun hw => ?_
  repeat' (first | refine qi ?_ | ((first | refine qm ?_ | refine qj ?_ | ((first | refine qe ?_ ?_ | refine qc ?_ ?_) <;> intro hc <;> (try simp only [hc]) <;> (try simp only [qb, qa, decide_eq_true_eq, decide_eq_false_iff_not, Bool.and_eq_true] at hc)) | refine And.intro (by first | assumption | omega | (have := qf (by assumption); omega) | (unfold qo; omega)) ?_ | simp (disch := omega) only [qd] | simp (disch := omega) only [qn]) <;> (try simp only [go_sem, ↓reduceIte, Nat.reduceEqDiff, Nat.reduceAdd, Nat.reduceSub, Nat.reduceMul, Nat.reduceLT, Nat.reduceLeDiff, reduceCtorEq, Int.reduceToNat])))
  all_goals simp [qez, *]
def qt4 (c : Int) : Bool := !decide (c = 10)
theorem qmf (c : Int) : qc4 Try.prog 70 [.int .u8 c] (.bool (qt4 c)) := by
  refine qb3 c0cv (by simp) (by simp only [go_sem]) rfl fun hw => ?_
  repeat' (first | refine qi ?_ | ((first | refine qm ?_ | refine qj ?_ | ((first | refine qe ?_ ?_ | refine qc ?_ ?_) <;> intro hc <;> (try simp only [hc]) <;> (try simp only [qb, qa, decide_eq_true_eq, decide_eq_false_iff_not, Bool.and_eq_true] at hc)) | refine And.intro (by first | assumption | omega | (have := qf (by assumption); omega) | (unfold qo; omega)) ?_ | simp (disch := omega) only [qd] | simp (disch := omega) only [qn]) <;> (try simp only [go_sem, ↓reduceIte, Nat.reduceEqDiff, Nat.reduceAdd, Nat.reduceSub, Nat.reduceMul, Nat.reduceLT, Nat.reduceLeDiff, reduceCtorEq, Int.reduceToNat])))
  all_goals simp [qt4, *]

def qc2 (f : Int → Bool) (l : List UInt8) : Nat := (l.takeWhile fun c => f c.toNat).length
theorem qhs {f : Int → Bool} {l : List UInt8} {i : Nat} (h : i < l.length) : qc2 f (l.drop i) = if f (l.getD i 0).toNat then qc2 f (l.drop (i + 1)) + 1 else 0 := by
  rw [qh1 h, qc2, List.takeWhile_cons]
  split <;> simp [qc2]
theorem qdl {so : FuncId} {f : Int → Bool} (h : ∀ c, qc4 Try.prog so [.int .u8 c] (.bool (f c))) (l : List UInt8) : qc4 Try.prog 67 [.str l, .fn so [] []] (.int .i64 (qc2 f l)) := by
  refine qb3 c0cw (by simp) (by simp only [go_sem]) rfl fun hw => ?_
  have hl : l.length ≤ maxLen := hw.1
  repeat' (first | refine qi ?_ | refine qk ?_ | ((first | refine qm ?_ | refine qj ?_ | refine qr ?_ | refine qh ?_ | refine qg ?_ | ((first | refine qe ?_ ?_ | refine qc ?_ ?_) <;> intro hc <;> (try simp only [hc]) <;> (try simp only [qb, qa, decide_eq_true_eq, decide_eq_false_iff_not, Bool.and_eq_true] at hc)) | refine And.intro (by first | assumption | omega | (have := qf (by assumption); omega) | (unfold qo; omega)) ?_ | simp (disch := omega) only [qd] | simp (disch := omega) only [qn]) <;> (try simp only [go_sem, ↓reduceIte, Nat.reduceEqDiff, Nat.reduceAdd, Nat.reduceSub, Nat.reduceMul, Nat.reduceLT, Nat.reduceLeDiff, reduceCtorEq, Int.reduceToNat])))
  refine qcx (S := Nat) (fun i => i ≤ l.length ∧ qc2 f l = i + qc2 f (l.drop i)) (fun i => (⟨[(0, .str l), (1, .fn so [] []), (7, .int .i64 l.length), (8, .int .i64 i)], []⟩, [])) (fun i => l.length - i) ?_ fun i hi => ?_
  · refine qb5 0 [] ⟨Nat.zero_le _, by simp⟩ rfl (by simp) ?_ ?_ ?_ <;> (try simp only [go_sem, ↓reduceIte, Nat.reduceEqDiff, Nat.reduceAdd, Nat.reduceSub, Nat.reduceMul, Nat.reduceLT, Nat.reduceLeDiff, reduceCtorEq, Int.reduceToNat]) <;> (try simp (disch := omega) only [qn])
  · obtain ⟨hi, ha⟩ := hi
    repeat' (first | refine qi ?_ | refine qk ?_ | ((first | refine qm ?_ | refine qj ?_ | refine qr ?_ | refine qh ?_ | refine qg ?_ | refine qv (h _) fun _ => ?_ | refine qy  (h _) ?_ | ((first | refine qe ?_ ?_ | refine qc ?_ ?_) <;> intro hc <;> (try simp only [hc]) <;> (try simp only [qb, qa, decide_eq_true_eq, decide_eq_false_iff_not, Bool.and_eq_true] at hc)) | refine And.intro (by first | assumption | omega | (have := qf (by assumption); omega) | (unfold qo; omega)) ?_ | simp (disch := omega) only [qd] | simp (disch := omega) only [qn]) <;> (try simp only [go_sem, ↓reduceIte, Nat.reduceEqDiff, Nat.reduceAdd, Nat.reduceSub, Nat.reduceMul, Nat.reduceLT, Nat.reduceLeDiff, reduceCtorEq, Int.reduceToNat])))
    · rw [ha, qhs (by omega), hc]; simp
    · refine qb5 (i + 1) [] ⟨⟨by omega, ?_⟩, by omega⟩ rfl (by simp) ?_ ?_ ?_ <;> (try simp only [go_sem, ↓reduceIte, Nat.reduceEqDiff, Nat.reduceAdd, Nat.reduceSub, Nat.reduceMul, Nat.reduceLT, Nat.reduceLeDiff, reduceCtorEq, Int.reduceToNat]) <;> (try simp (disch := omega) only [qn])
      rw [ha, qhs (by omega), hc]; simp; omega
    · have : i = l.length := by omega
      subst this
      rw [ha, List.drop_length]; simp [qc2]

def pfx (p l : List UInt8) : Bool := decide (l.take p.length = p)
theorem qgp (l p : List UInt8) : qc4 Try.prog 78 [.str l, .str p] (.bool (pfx p l)) := by
  refine qb3 c0cx (by simp) (by simp only [go_sem]) rfl fun hw => ?_
  repeat' (first | refine qi ?_ | ((first | refine qm ?_ | refine qj ?_ | ((first | refine qe ?_ ?_ | refine qc ?_ ?_) <;> intro hc <;> (try simp only [hc]) <;> (try simp only [qb, qa, decide_eq_true_eq, decide_eq_false_iff_not, Bool.and_eq_true] at hc)) | refine And.intro (by first | assumption | omega | (have := qf (by assumption); omega) | (unfold qo; omega)) ?_ | simp (disch := omega) only [qd] | simp (disch := omega) only [qn]) <;> (try simp only [go_sem, ↓reduceIte, Nat.reduceEqDiff, Nat.reduceAdd, Nat.reduceSub, Nat.reduceMul, Nat.reduceLT, Nat.reduceLeDiff, reduceCtorEq, Int.reduceToNat])))
  · rfl
  · rw [pfx, decide_eq_false]
    intro h
    have := congrArg List.length h
    rw [List.length_take] at this
    omega
theorem qct (l p : List UInt8) : qc4 Try.prog 69 [.str l, .str p] (.bool (pfx p l)) := by
  refine qb3 c0cy (by simp) (by simp only [go_sem]) rfl fun hw => ?_
  repeat' (first | refine qi ?_ | ((first | refine qm ?_ | refine qj ?_ | refine qv (qgp _ _) fun _ => ?_ | refine qy  (qgp _ _) ?_ | ((first | refine qe ?_ ?_ | refine qc ?_ ?_) <;> intro hc <;> (try simp only [hc]) <;> (try simp only [qb, qa, decide_eq_true_eq, decide_eq_false_iff_not, Bool.and_eq_true] at hc)) | refine And.intro (by first | assumption | omega | (have := qf (by assumption); omega) | (unfold qo; omega)) ?_ | simp (disch := omega) only [qd] | simp (disch := omega) only [qn]) <;> (try simp only [go_sem, ↓reduceIte, Nat.reduceEqDiff, Nat.reduceAdd, Nat.reduceSub, Nat.reduceMul, Nat.reduceLT, Nat.reduceLeDiff, reduceCtorEq, Int.reduceToNat])))

theorem qfr (f : Int → Bool) (l : List UInt8) : qc2 f l ≤ l.length := (List.takeWhile_sublist _).length_le
def qgf (l : List UInt8) : Nat := if pfx [45, 45] (l.drop (qc2 qez l)) then qc2 qez l + qc2 qt4 (l.drop (qc2 qez l)) else qc2 qez l
theorem qjp (l : List UInt8) : qgf l ≤ l.length := by
  unfold qgf
  have h1 := qfr qez l
  have h2 := qfr qt4 (l.drop (qc2 qez l))
  rw [List.length_drop] at h2
  split <;> omega
def qjg : Nat → List UInt8 → Nat
  | 0, _ => 0
  | f + 1, l => if qgf l = 0 then 0 else qgf l + qjg f (l.drop (qgf l))
def qb9 (l : List UInt8) : Nat := qjg l.length l
theorem qi4 : ∀ (f g : Nat) (l : List UInt8), l.length ≤ f → l.length ≤ g → qjg f l = qjg g l
  | 0, 0, l, _, _ => rfl
  | 0, g + 1, l, h1, h2 => by
    have := qjp l
    rw [qjg, qjg, if_pos (by omega)]
  | f + 1, 0, l, h1, h2 => by
    have := qjp l
    rw [qjg, qjg, if_pos (by omega)]
  | f + 1, g + 1, l, h1, h2 => by
    rw [qjg, qjg]
    split
    · rfl
    · rename_i h
      rw [qi4 f g _ (by rw [List.length_drop]; omega) (by rw [List.length_drop]; omega)]
theorem qqv {l : List UInt8} (h : qgf l = 0) : qb9 l = 0 := by
  unfold qb9
  cases l.length with
  | zero => rfl
  | succ n => rw [qjg, if_pos h]
theorem qq8 {l : List UInt8} (h : qgf l ≠ 0) : qb9 l = qgf l + qb9 (l.drop (qgf l)) := by
  have hk := qjp l
  unfold qb9
  obtain ⟨n, hn⟩ : ∃ n, l.length = n + 1 := ⟨l.length - 1, by omega⟩
  rw [hn, qjg, if_neg h, qi4 n (l.drop (qgf l)).length _ (by rw [List.length_drop]; omega) (Nat.le_refl _)]
theorem qjr (l : List UInt8) : qb9 l ≤ l.length := by
  generalize hn : l.length = n
  induction n using Nat.strongRecOn generalizing l with
  | _ n ih =>
    subst hn
    by_cases h : qgf l = 0
    · rw [qqv h]; exact Nat.zero_le _
    · have hk := qjp l
      have := ih (l.drop (qgf l)).length (by rw [List.length_drop]; omega) _ rfl
      rw [qq8 h]; rw [List.length_drop] at this; omega
theorem qvq {l : List UInt8} (h : pfx [45, 45] (l.drop (qc2 qez l)) = true) : qgf l = qc2 qez l + qc2 qt4 (l.drop (qc2 qez l)) := by rw [qgf, if_pos h]
theorem qxr {l : List UInt8} (h : pfx [45, 45] (l.drop (qc2 qez l)) = false) : qgf l = qc2 qez l := by rw [qgf, h]; rfl
theorem qbn6 (a b : Nat) : (a : Int) + (b : Int) = ((a + b : Nat) : Int) := rfl

theorem qg5 (l : List UInt8) : qc4 Try.prog 48 [.str l] (.int .i64 (qb9 l)) := by
  refine qb3 c0cz (by simp) (by simp only [go_sem]) rfl fun hw => ?_
  have hl : l.length ≤ maxLen := hw.1
  repeat' (first | refine qi ?_ | refine qk ?_ | ((first | refine qm ?_ | refine qj ?_ | refine qh ?_ | refine qg ?_ | ((first | refine qe ?_ ?_ | refine qc ?_ ?_) <;> intro hc <;> (try simp only [hc]) <;> (try simp only [qb, qa, decide_eq_true_eq, decide_eq_false_iff_not, Bool.and_eq_true] at hc)) | refine And.intro (by first | assumption | omega | (have := qf (by assumption); omega) | (unfold qo; omega)) ?_ | simp (disch := omega) only [qd] | simp (disch := omega) only [qn]) <;> (try simp only [go_sem, ↓reduceIte, Nat.reduceEqDiff, Nat.reduceAdd, Nat.reduceSub, Nat.reduceMul, Nat.reduceLT, Nat.reduceLeDiff, reduceCtorEq, Int.reduceToNat])))
  refine qcx (S := Nat) (fun n => n ≤ l.length ∧ qb9 l = n + qb9 (l.drop n)) (fun n => (⟨[(0, .str l), (3, .int .i64 n)], []⟩, [])) (fun n => l.length - n) ?_ fun n hn => ?_
  · refine qb5 0 [] ⟨Nat.zero_le _, by simp⟩ rfl (by simp) ?_ ?_ ?_ <;> (try simp only [go_sem, ↓reduceIte, Nat.reduceEqDiff, Nat.reduceAdd, Nat.reduceSub, Nat.reduceMul, Nat.reduceLT, Nat.reduceLeDiff, reduceCtorEq, Int.reduceToNat]) <;> (try simp (disch := omega) only [qn])
  · obtain ⟨hn, ha⟩ := hn
    have h1 := qfr qez (l.drop n)
    have h2 := qfr qt4 (l.drop (n + qc2 qez (l.drop n)))
    rw [List.length_drop] at h1 h2
    repeat' (first | refine qi ?_ | refine qk ?_ | ((first | refine qm ?_ | refine qj ?_ | refine qh ?_ | refine qg ?_) <;> (try simp (disch := first | omega | (simp only [List.length_set, List.length_append, List.length_cons, List.length_nil]; done) | (simp only [List.length_set, List.length_append, List.length_cons, List.length_nil]; omega)) only [qgl, go_sem, ↓reduceIte, Nat.reduceEqDiff, Nat.reduceAdd, Nat.reduceSub, Nat.reduceMul, Nat.reduceLT, Nat.reduceLeDiff, reduceCtorEq, Int.reduceToNat])) | ((first | simp (disch := omega) only [qgl] | simp (disch := omega) only [qbn6] | simp (disch := omega) only [Int.toNat_natCast] | ((first | refine qe ?_ ?_ | refine qc ?_ ?_) <;> intro hc <;> (try simp only [hc]) <;> (try simp only [qb, qa, decide_eq_true_eq, decide_eq_false_iff_not, Bool.and_eq_true] at hc)) | refine And.intro (by first | assumption | omega | (have := qf (by assumption); omega) | (unfold qo; omega)) ?_ | simp (disch := omega) only [qd] | simp (disch := omega) only [qn] | refine qv (qdl qla _) fun _ => ?_ | refine qv (qct _ _) fun _ => ?_ | refine qv (qdl qmf _) fun _ => ?_ | refine qy  (qdl qla _) ?_ | refine qy  (qct _ _) ?_ | refine qy  (qdl qmf _) ?_) <;> (try simp only [go_sem, ↓reduceIte, Nat.reduceEqDiff, Nat.reduceAdd, Nat.reduceSub, Nat.reduceMul, Nat.reduceLT, Nat.reduceLeDiff, reduceCtorEq, Int.reduceToNat])))
    · rename_i hp _
      have hk := qvq (l := l.drop n) (by rw [List.drop_drop]; exact hp)
      rw [List.drop_drop] at hk
      rw [ha, qqv (hk.trans (by omega))]; rfl
    · rename_i hp _
      have hk := qvq (l := l.drop n) (by rw [List.drop_drop]; exact hp)
      rw [List.drop_drop] at hk
      refine qb5 (n + qgf (l.drop n)) [] ⟨⟨by omega, ?_⟩, by omega⟩ rfl (by simp) ?_ ?_ ?_ <;> (try simp only [go_sem, ↓reduceIte, Nat.reduceEqDiff, Nat.reduceAdd, Nat.reduceSub, Nat.reduceMul, Nat.reduceLT, Nat.reduceLeDiff, reduceCtorEq, Int.reduceToNat]) <;> (try simp (disch := omega) only [qn])
      · rw [ha, qq8 (l := l.drop n) (by omega), List.drop_drop]; omega
      · rw [hk]
    · rename_i hp
      have hk := qxr (l := l.drop n) (by rw [List.drop_drop]; exact hp)
      rw [ha, qqv (hk.trans (by omega))]; rfl
    · rename_i hp
      have hk := qxr (l := l.drop n) (by rw [List.drop_drop]; exact hp)
      refine qb5 (n + qgf (l.drop n)) [] ⟨⟨by omega, ?_⟩, by omega⟩ rfl (by simp) ?_ ?_ ?_ <;> (try simp only [go_sem, ↓reduceIte, Nat.reduceEqDiff, Nat.reduceAdd, Nat.reduceSub, Nat.reduceMul, Nat.reduceLT, Nat.reduceLeDiff, reduceCtorEq, Int.reduceToNat]) <;> (try simp (disch := omega) only [qn])
      · rw [ha, qq8 (l := l.drop n) (by omega), List.drop_drop]; omega
      · rw [hk]

end Go.Proofs.Ytfjbmjplnmaclaa
