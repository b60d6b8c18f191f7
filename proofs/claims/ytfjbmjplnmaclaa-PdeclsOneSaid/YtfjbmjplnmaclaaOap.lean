/- Texts of this proof, joined. -/
import Derived.Test.YtfjbmjplnmaclaaOag
import Derived.Test.YtfjbmjplnmaclaaOao

/- the lexer's words: numbers -/
set_option maxRecDepth 4000
namespace Go.Proofs.Ytfjbmjplnmaclaa
open Go Go.RowKit Go.V
set_option linter.unusedVariables false
set_option linter.unusedSimpArgs false

theorem q35 : IntKind.i64.wrap (0 + 1) = 1 := by decide
def digW (l : List UInt8) : Bool := l.all fun c => qcq c.toNat
theorem qwu {l : List UInt8} {i : Nat} (h : i < l.length) : digW (l.drop i) = (qcq (l.getD i 0).toNat && digW (l.drop (i + 1))) := by
  rw [qls h]; rfl

def digV (c : UInt8) : Int := IntKind.i64.wrap (IntKind.u8.wrap ((c.toNat : Int) - 48))
def topV (c : UInt8) : Int := IntKind.i64.wrap ((IntKind.i64.wrap (9223372036854775807 - digV c)).tdiv 10)
def nxtV (k : Int) (c : UInt8) : Int := IntKind.i64.wrap (IntKind.i64.wrap (10 * k) + digV c)
def qqp : Int → List UInt8 → Int × Int
  | k, [] => (k, 0)
  | k, c :: r => if topV c < k then (0, 4) else qqp (nxtV k c) r
/-- The number that a text is, and the error. -/
def qqs (l : List UInt8) : Int × Int := if l = [] then (0, 5) else if digW l = true then qqp 0 l else (0, 5)
def qbr3 (p : Int × Int) : AV := .tup [.int .i64 p.1, .int .i64 p.2]
theorem qsd {l : List UInt8} {i : Nat} (h : i < l.length) (k : Int) : qqp k (l.drop i) = if topV (l.getD i 0) < k then (0, 4) else qqp (nxtV k (l.getD i 0)) (l.drop (i + 1)) := by
  rw [qls h]; rfl
theorem qbvw {c : Int} (h : c < 48 ∨ 57 < c) : qcq c = false := by
  simp only [qcq, Bool.and_eq_false_iff, decide_eq_false_iff_not]; omega
theorem qbmx {c : Int} (h : ¬ c < 48) (h2 : ¬ 57 < c) : qcq c = true := by
  simp only [qcq, Bool.and_eq_true, decide_eq_true_eq]; omega
theorem qp1 {l : List UInt8} (h : l ≠ []) (hd : digW l = true) : qqs l = qqp 0 l := by rw [qqs, if_neg h, if_pos hd]
theorem q25 {l : List UInt8} (hd : digW l = false) : qqs l = (0, 5) := by rw [qqs, hd]; simp

theorem qwt (l : List UInt8) : qde Try.prog 72 [.str l] (qbr3 (qqs l)) := by
  refine qb7 c0cb (by simp) (by simp only [go_sem]) rfl fun hw => ?_
  have hl : l.length ≤ maxLen := hw.1
  refine qj (qn ?_)
  simp only [go_sem, ↓reduceIte, Nat.reduceEqDiff, Nat.reduceAdd, Nat.reduceSub, Nat.reduceMul, Nat.reduceLT, Nat.reduceLeDiff, reduceCtorEq, Int.reduceToNat]
  refine q6g (S := Nat × Int) 0 rfl (fun s => s.1 < l.length ∧ digW l = true ∧ qqp s.2 (l.drop s.1) = qqp 0 l) (fun s => (⟨[(0, .str l), (5, .int .i64 s.2), (6, .int .i64 s.1)], []⟩, [])) (fun s => l.length - s.1) ?_ fun s hs => ?_
  · repeat' (first | refine qj ?_ | refine ql ?_ | refine qe8 ?_ | ((first | refine qn ?_ | refine qe6 ?_ | refine qgu ?_ | refine qk ?_ | refine qu ?_ | refine qh ?_ | refine qg ?_ | ((first | refine qe ?_ ?_ | refine qd ?_ ?_) <;> intro hc <;> (try simp only [hc]) <;> (try simp only [qb, qa, decide_eq_true_eq, decide_eq_false_iff_not, Bool.and_eq_true] at hc)) | refine And.intro (by first | assumption | omega | (have := qf (by assumption); omega) | (unfold qp; omega)) ?_ | simp (disch := omega) only [qc] | simp (disch := omega) only [qo]) <;> (try simp only [go_sem, ↓reduceIte, Nat.reduceEqDiff, Nat.reduceAdd, Nat.reduceSub, Nat.reduceMul, Nat.reduceLT, Nat.reduceLeDiff, reduceCtorEq, Int.reduceToNat])))
    refine qcy (S := Nat) (fun i => i ≤ l.length ∧ digW (l.drop i) = digW l) (fun i => (⟨[(0, .str l), (9, .int .i64 l.length), (10, .int .i64 i)], []⟩, [])) (fun i => l.length - i) ?_ fun i hi => ?_
    · refine qcd 0 [] ⟨Nat.zero_le _, rfl⟩ rfl (by simp) ?_ ?_ ?_ <;> (try simp only [go_sem, ↓reduceIte, Nat.reduceEqDiff, Nat.reduceAdd, Nat.reduceSub, Nat.reduceMul, Nat.reduceLT, Nat.reduceLeDiff, reduceCtorEq, Int.reduceToNat]) <;> (try simp (disch := omega) only [qo])
    · obtain ⟨hi, ha⟩ := hi
      have hs : i < l.length → qcq (l.getD i 0).toNat = false → qqs l = (0, 5) := fun h h2 => q25 (by rw [← ha, qwu h, h2]; rfl)
      have hs2 : 0 < l.length → qqp 0 l = if topV (l.getD 0 0) < 0 then (0, 4) else qqp (nxtV 0 (l.getD 0 0)) (l.drop 1) := fun h => by
        have := qsd (l := l) (i := 0) h 0
        rwa [List.drop_zero] at this
      have hdig : ¬ (i : Int) < l.length → digW l = true := fun h => by rw [← ha, List.drop_of_length_le (by omega)]; rfl
      repeat' (first | refine qj ?_ | refine ql ?_ | refine qe8 ?_ | ((first | refine qn ?_ | refine qe6 ?_ | refine qgu ?_ | refine qk ?_ | refine qu ?_ | refine qh ?_ | refine qg ?_ | simp (disch := omega) only [qo] | simp (disch := omega) only [q35] | ((first | refine qe ?_ ?_ | refine qd ?_ ?_) <;> intro hc <;> (try simp only [hc]) <;> (try simp only [qb, qa, decide_eq_true_eq, decide_eq_false_iff_not, Bool.and_eq_true] at hc)) | refine And.intro (by first | assumption | omega | (have := qf (by assumption); omega) | (unfold qp; omega)) ?_ | simp (disch := omega) only [qc] | simp (disch := omega) only [qo]) <;> (try simp only [go_sem, ↓reduceIte, Nat.reduceEqDiff, Nat.reduceAdd, Nat.reduceSub, Nat.reduceMul, Nat.reduceLT, Nat.reduceLeDiff, reduceCtorEq, Int.reduceToNat])))
      all_goals first
        | (rw [hs (by omega) (qbvw (by omega))]; rfl)
        | (refine qcd (i + 1) [] ⟨⟨by omega, ?_⟩, by omega⟩ rfl (by simp) ?_ ?_ ?_ <;> (try simp only [go_sem, ↓reduceIte, Nat.reduceEqDiff, Nat.reduceAdd, Nat.reduceSub, Nat.reduceMul, Nat.reduceLT, Nat.reduceLeDiff, reduceCtorEq, Int.reduceToNat]) <;> (try simp (disch := omega) only [qo])
           have hd : qcq (l.getD i 0).toNat = true := qbmx (by omega) (by omega)
           rw [← ha, qwu (l := l) (i := i) (by omega), hd, Bool.true_and])
        | (subst hc; rfl)
        | skip
      · have hlp := qf (by assumption)
        have hd := hdig (by assumption)
        have hc' : topV (l.getD 0 0) < 0 := hc
        rw [qp1 (by assumption) hd, hs2 hlp, if_pos hc']; rfl
      · rename_i hc0
        have hlp := qf (by assumption)
        have hd := hdig (by assumption)
        have hc' : ¬ topV (l.getD 0 0) < 0 := hc0
        refine qcd (1, nxtV 0 (l.getD 0 0)) [] ⟨by omega, hd, ?_⟩ rfl (by simp) ?_ ?_ ?_ <;> (try simp only [go_sem, ↓reduceIte, Nat.reduceEqDiff, Nat.reduceAdd, Nat.reduceSub, Nat.reduceMul, Nat.reduceLT, Nat.reduceLeDiff, reduceCtorEq, Int.reduceToNat]) <;> (try simp (disch := omega) only [qo])
        · rw [hs2 hlp, if_neg hc']
        · rfl
      · rename_i hc0
        have hlp := qf (by assumption)
        have hd := hdig (by assumption)
        have hc' : ¬ topV (l.getD 0 0) < 0 := hc0
        rw [qp1 (by assumption) hd, hs2 hlp, if_neg hc', List.drop_of_length_le (by omega)]; rfl
  · obtain ⟨j, k⟩ := s
    obtain ⟨hj, hd, hr⟩ := hs
    dsimp only at hj hr
    have hs2 : qqp 0 l = if topV (l.getD j 0) < k then (0, 4) else qqp (nxtV k (l.getD j 0)) (l.drop (j + 1)) := by rw [← hr, qsd hj]
    have hne : l ≠ [] := fun e => by subst e; simp at hj
    rw [qp1 hne hd]
    repeat' (first | refine qj ?_ | refine ql ?_ | refine qe8 ?_ | ((first | refine qn ?_ | refine qe6 ?_ | refine qgu ?_ | refine qk ?_ | refine qu ?_ | refine qh ?_ | refine qg ?_ | simp (disch := omega) only [qo] | simp (disch := omega) only [q35] | ((first | refine qe ?_ ?_ | refine qd ?_ ?_) <;> intro hc <;> (try simp only [hc]) <;> (try simp only [qb, qa, decide_eq_true_eq, decide_eq_false_iff_not, Bool.and_eq_true] at hc)) | refine And.intro (by first | assumption | omega | (have := qf (by assumption); omega) | (unfold qp; omega)) ?_ | simp (disch := omega) only [qc] | simp (disch := omega) only [qo]) <;> (try simp only [go_sem, ↓reduceIte, Nat.reduceEqDiff, Nat.reduceAdd, Nat.reduceSub, Nat.reduceMul, Nat.reduceLT, Nat.reduceLeDiff, reduceCtorEq, Int.reduceToNat])))
    · have hc' : topV (l.getD j 0) < k := hc
      rw [hs2, if_pos hc']; rfl
    · rename_i hc0
      have hc' : ¬ topV (l.getD j 0) < k := hc0
      refine qcd (j + 1, nxtV k (l.getD j 0)) [] ⟨⟨by omega, hd, ?_⟩, by omega⟩ rfl (by simp) ?_ ?_ ?_ <;> (try simp only [go_sem, ↓reduceIte, Nat.reduceEqDiff, Nat.reduceAdd, Nat.reduceSub, Nat.reduceMul, Nat.reduceLT, Nat.reduceLeDiff, reduceCtorEq, Int.reduceToNat]) <;> (try simp (disch := omega) only [qo])
      · rw [hs2, if_neg hc']
      · rfl
    · rename_i hc0
      have hc' : ¬ topV (l.getD j 0) < k := hc0
      rw [hs2, if_neg hc', List.drop_of_length_le (by omega)]; rfl
set_option maxRecDepth 4000

theorem qff (c : Int) : qde Try.prog 71 [.int .u8 c] (.bool (qcq c)) := by
  refine qb7 c0bt (by simp) (by simp only [go_sem]) rfl fun hw => ?_
  repeat' (first | refine qj ?_ | ((first | refine qn ?_ | refine qk ?_ | ((first | refine qe ?_ ?_ | refine qd ?_ ?_) <;> intro hc <;> (try simp only [hc]) <;> (try simp only [qb, qa, decide_eq_true_eq, decide_eq_false_iff_not, Bool.and_eq_true] at hc)) | refine And.intro (by first | assumption | omega | (have := qf (by assumption); omega) | (unfold qp; omega)) ?_ | simp (disch := omega) only [qc] | simp (disch := omega) only [qo]) <;> (try simp only [go_sem, ↓reduceIte, Nat.reduceEqDiff, Nat.reduceAdd, Nat.reduceSub, Nat.reduceMul, Nat.reduceLT, Nat.reduceLeDiff, reduceCtorEq, Int.reduceToNat])))
  all_goals simp [qcq, *]
theorem qn3 (c : Int) : qde Try.prog 73 [.int .u8 c] (.bool (onW c)) := by
  refine qb7 c0bu (by simp) (by simp only [go_sem]) rfl fun hw => ?_
  repeat' (first | refine qj ?_ | ((first | refine qn ?_ | refine qk ?_ | refine qv (qff _) fun _ => ?_ | refine qy  (qff _) ?_ | ((first | refine qe ?_ ?_ | refine qd ?_ ?_) <;> intro hc <;> (try simp only [hc]) <;> (try simp only [qb, qa, decide_eq_true_eq, decide_eq_false_iff_not, Bool.and_eq_true] at hc)) | refine And.intro (by first | assumption | omega | (have := qf (by assumption); omega) | (unfold qp; omega)) ?_ | simp (disch := omega) only [qc] | simp (disch := omega) only [qo]) <;> (try simp only [go_sem, ↓reduceIte, Nat.reduceEqDiff, Nat.reduceAdd, Nat.reduceSub, Nat.reduceMul, Nat.reduceLT, Nat.reduceLeDiff, reduceCtorEq, Int.reduceToNat])))
  all_goals simp only [onW, qwr, qrq, *]
  all_goals first | (simp_all; done) | (simp_all; omega)
def qdu (c : Int) : Bool := decide (c = 9) || decide (c = 10) || decide (c = 13) || decide (c = 32)
theorem qoz (c : Int) : qde Try.prog 68 [.int .u8 c] (.bool (qdu c)) := by
  refine qb7 c0bv (by simp) (by simp only [go_sem]) rfl fun hw => ?_
  repeat' (first | refine qj ?_ | ((first | refine qn ?_ | refine qk ?_ | ((first | refine qe ?_ ?_ | refine qd ?_ ?_) <;> intro hc <;> (try simp only [hc]) <;> (try simp only [qb, qa, decide_eq_true_eq, decide_eq_false_iff_not, Bool.and_eq_true] at hc)) | refine And.intro (by first | assumption | omega | (have := qf (by assumption); omega) | (unfold qp; omega)) ?_ | simp (disch := omega) only [qc] | simp (disch := omega) only [qo]) <;> (try simp only [go_sem, ↓reduceIte, Nat.reduceEqDiff, Nat.reduceAdd, Nat.reduceSub, Nat.reduceMul, Nat.reduceLT, Nat.reduceLeDiff, reduceCtorEq, Int.reduceToNat])))
  all_goals simp [qdu, *]
def q0y (c : Int) : Bool := !decide (c = 10)
theorem qr7 (c : Int) : qde Try.prog 70 [.int .u8 c] (.bool (q0y c)) := by
  refine qb7 c0bw (by simp) (by simp only [go_sem]) rfl fun hw => ?_
  repeat' (first | refine qj ?_ | ((first | refine qn ?_ | refine qk ?_ | ((first | refine qe ?_ ?_ | refine qd ?_ ?_) <;> intro hc <;> (try simp only [hc]) <;> (try simp only [qb, qa, decide_eq_true_eq, decide_eq_false_iff_not, Bool.and_eq_true] at hc)) | refine And.intro (by first | assumption | omega | (have := qf (by assumption); omega) | (unfold qp; omega)) ?_ | simp (disch := omega) only [qc] | simp (disch := omega) only [qo]) <;> (try simp only [go_sem, ↓reduceIte, Nat.reduceEqDiff, Nat.reduceAdd, Nat.reduceSub, Nat.reduceMul, Nat.reduceLT, Nat.reduceLeDiff, reduceCtorEq, Int.reduceToNat])))
  all_goals simp [q0y, *]

def qbn (f : Int → Bool) (l : List UInt8) : Nat := (l.takeWhile fun c => f c.toNat).length
theorem qkq {f : Int → Bool} {l : List UInt8} {i : Nat} (h : i < l.length) : qbn f (l.drop i) = if f (l.getD i 0).toNat then qbn f (l.drop (i + 1)) + 1 else 0 := by
  rw [qls h, qbn, List.takeWhile_cons]
  split <;> simp [qbn]
theorem qec {so : FuncId} {f : Int → Bool} (h : ∀ c, qde Try.prog so [.int .u8 c] (.bool (f c))) (l : List UInt8) : qde Try.prog 67 [.str l, .fn so [] []] (.int .i64 (qbn f l)) := by
  refine qb7 c0bx (by simp) (by simp only [go_sem]) rfl fun hw => ?_
  have hl : l.length ≤ maxLen := hw.1
  repeat' (first | refine qj ?_ | refine ql ?_ | ((first | refine qn ?_ | refine qk ?_ | refine qu ?_ | refine qh ?_ | refine qg ?_ | ((first | refine qe ?_ ?_ | refine qd ?_ ?_) <;> intro hc <;> (try simp only [hc]) <;> (try simp only [qb, qa, decide_eq_true_eq, decide_eq_false_iff_not, Bool.and_eq_true] at hc)) | refine And.intro (by first | assumption | omega | (have := qf (by assumption); omega) | (unfold qp; omega)) ?_ | simp (disch := omega) only [qc] | simp (disch := omega) only [qo]) <;> (try simp only [go_sem, ↓reduceIte, Nat.reduceEqDiff, Nat.reduceAdd, Nat.reduceSub, Nat.reduceMul, Nat.reduceLT, Nat.reduceLeDiff, reduceCtorEq, Int.reduceToNat])))
  refine qcy (S := Nat) (fun i => i ≤ l.length ∧ qbn f l = i + qbn f (l.drop i)) (fun i => (⟨[(0, .str l), (1, .fn so [] []), (7, .int .i64 l.length), (8, .int .i64 i)], []⟩, [])) (fun i => l.length - i) ?_ fun i hi => ?_
  · refine qcd 0 [] ⟨Nat.zero_le _, by simp⟩ rfl (by simp) ?_ ?_ ?_ <;> (try simp only [go_sem, ↓reduceIte, Nat.reduceEqDiff, Nat.reduceAdd, Nat.reduceSub, Nat.reduceMul, Nat.reduceLT, Nat.reduceLeDiff, reduceCtorEq, Int.reduceToNat]) <;> (try simp (disch := omega) only [qo])
  · obtain ⟨hi, ha⟩ := hi
    repeat' (first | refine qj ?_ | refine ql ?_ | ((first | refine qn ?_ | refine qk ?_ | refine qu ?_ | refine qh ?_ | refine qg ?_ | refine qv (h _) fun _ => ?_ | refine qy  (h _) ?_ | ((first | refine qe ?_ ?_ | refine qd ?_ ?_) <;> intro hc <;> (try simp only [hc]) <;> (try simp only [qb, qa, decide_eq_true_eq, decide_eq_false_iff_not, Bool.and_eq_true] at hc)) | refine And.intro (by first | assumption | omega | (have := qf (by assumption); omega) | (unfold qp; omega)) ?_ | simp (disch := omega) only [qc] | simp (disch := omega) only [qo]) <;> (try simp only [go_sem, ↓reduceIte, Nat.reduceEqDiff, Nat.reduceAdd, Nat.reduceSub, Nat.reduceMul, Nat.reduceLT, Nat.reduceLeDiff, reduceCtorEq, Int.reduceToNat])))
    · rw [ha, qkq (by omega), hc]; simp
    · refine qcd (i + 1) [] ⟨⟨by omega, ?_⟩, by omega⟩ rfl (by simp) ?_ ?_ ?_ <;> (try simp only [go_sem, ↓reduceIte, Nat.reduceEqDiff, Nat.reduceAdd, Nat.reduceSub, Nat.reduceMul, Nat.reduceLT, Nat.reduceLeDiff, reduceCtorEq, Int.reduceToNat]) <;> (try simp (disch := omega) only [qo])
      rw [ha, qkq (by omega), hc]; simp; omega
    · have : i = l.length := by omega
      subst this
      rw [ha, List.drop_length]; simp [qbn]

def pfx (p l : List UInt8) : Bool := decide (l.take p.length = p)
theorem qi9 (l p : List UInt8) : qde Try.prog 78 [.str l, .str p] (.bool (pfx p l)) := by
  refine qb7 c0by (by simp) (by simp only [go_sem]) rfl fun hw => ?_
  repeat' (first | refine qj ?_ | ((first | refine qn ?_ | refine qk ?_ | ((first | refine qe ?_ ?_ | refine qd ?_ ?_) <;> intro hc <;> (try simp only [hc]) <;> (try simp only [qb, qa, decide_eq_true_eq, decide_eq_false_iff_not, Bool.and_eq_true] at hc)) | refine And.intro (by first | assumption | omega | (have := qf (by assumption); omega) | (unfold qp; omega)) ?_ | simp (disch := omega) only [qc] | simp (disch := omega) only [qo]) <;> (try simp only [go_sem, ↓reduceIte, Nat.reduceEqDiff, Nat.reduceAdd, Nat.reduceSub, Nat.reduceMul, Nat.reduceLT, Nat.reduceLeDiff, reduceCtorEq, Int.reduceToNat])))
  · rfl
  · rw [pfx, decide_eq_false]
    intro h
    have := congrArg List.length h
    rw [List.length_take] at this
    omega
theorem qc7 (l p : List UInt8) : qde Try.prog 69 [.str l, .str p] (.bool (pfx p l)) := by
  refine qb7 c0bz (by simp) (by simp only [go_sem]) rfl fun hw => ?_
  repeat' (first | refine qj ?_ | ((first | refine qn ?_ | refine qk ?_ | refine qv (qi9 _ _) fun _ => ?_ | refine qy  (qi9 _ _) ?_ | ((first | refine qe ?_ ?_ | refine qd ?_ ?_) <;> intro hc <;> (try simp only [hc]) <;> (try simp only [qb, qa, decide_eq_true_eq, decide_eq_false_iff_not, Bool.and_eq_true] at hc)) | refine And.intro (by first | assumption | omega | (have := qf (by assumption); omega) | (unfold qp; omega)) ?_ | simp (disch := omega) only [qc] | simp (disch := omega) only [qo]) <;> (try simp only [go_sem, ↓reduceIte, Nat.reduceEqDiff, Nat.reduceAdd, Nat.reduceSub, Nat.reduceMul, Nat.reduceLT, Nat.reduceLeDiff, reduceCtorEq, Int.reduceToNat])))

theorem qdx (f : Int → Bool) (l : List UInt8) : qbn f l ≤ l.length := (List.takeWhile_sublist _).length_le
def qfw (l : List UInt8) : Nat := if pfx [45, 45] (l.drop (qbn qdu l)) then qbn qdu l + qbn q0y (l.drop (qbn qdu l)) else qbn qdu l
theorem qlv (l : List UInt8) : qfw l ≤ l.length := by
  unfold qfw
  have h1 := qdx qdu l
  have h2 := qdx q0y (l.drop (qbn qdu l))
  rw [List.length_drop] at h2
  split <;> omega
def qnh : Nat → List UInt8 → Nat
  | 0, _ => 0
  | f + 1, l => if qfw l = 0 then 0 else qfw l + qnh f (l.drop (qfw l))
def qcl (l : List UInt8) : Nat := qnh l.length l
theorem qmv : ∀ (f g : Nat) (l : List UInt8), l.length ≤ f → l.length ≤ g → qnh f l = qnh g l
  | 0, 0, l, _, _ => rfl
  | 0, g + 1, l, h1, h2 => by
    have := qlv l
    rw [qnh, qnh, if_pos (by omega)]
  | f + 1, 0, l, h1, h2 => by
    have := qlv l
    rw [qnh, qnh, if_pos (by omega)]
  | f + 1, g + 1, l, h1, h2 => by
    rw [qnh, qnh]
    split
    · rfl
    · rename_i h
      rw [qmv f g _ (by rw [List.length_drop]; omega) (by rw [List.length_drop]; omega)]
theorem qki {l : List UInt8} (h : qfw l = 0) : qcl l = 0 := by
  unfold qcl
  cases l.length with
  | zero => rfl
  | succ n => rw [qnh, if_pos h]
theorem qks {l : List UInt8} (h : qfw l ≠ 0) : qcl l = qfw l + qcl (l.drop (qfw l)) := by
  have hk := qlv l
  unfold qcl
  obtain ⟨n, hn⟩ : ∃ n, l.length = n + 1 := ⟨l.length - 1, by omega⟩
  rw [hn, qnh, if_neg h, qmv n (l.drop (qfw l)).length _ (by rw [List.length_drop]; omega) (Nat.le_refl _)]
theorem qk8 (l : List UInt8) : qcl l ≤ l.length := by
  generalize hn : l.length = n
  induction n using Nat.strongRecOn generalizing l with
  | _ n ih =>
    subst hn
    by_cases h : qfw l = 0
    · rw [qki h]; exact Nat.zero_le _
    · have hk := qlv l
      have := ih (l.drop (qfw l)).length (by rw [List.length_drop]; omega) _ rfl
      rw [qks h]; rw [List.length_drop] at this; omega
theorem q7y {l : List UInt8} (h : pfx [45, 45] (l.drop (qbn qdu l)) = true) : qfw l = qbn qdu l + qbn q0y (l.drop (qbn qdu l)) := by rw [qfw, if_pos h]
theorem qx6 {l : List UInt8} (h : pfx [45, 45] (l.drop (qbn qdu l)) = false) : qfw l = qbn qdu l := by rw [qfw, h]; rfl
theorem qbzn (a b : Nat) : (a : Int) + (b : Int) = ((a + b : Nat) : Int) := rfl

theorem qjo (l : List UInt8) : qde Try.prog 48 [.str l] (.int .i64 (qcl l)) := by
  refine qb7 c0ca (by simp) (by simp only [go_sem]) rfl fun hw => ?_
  have hl : l.length ≤ maxLen := hw.1
  repeat' (first | refine qj ?_ | refine ql ?_ | ((first | refine qn ?_ | refine qk ?_ | refine qh ?_ | refine qg ?_ | ((first | refine qe ?_ ?_ | refine qd ?_ ?_) <;> intro hc <;> (try simp only [hc]) <;> (try simp only [qb, qa, decide_eq_true_eq, decide_eq_false_iff_not, Bool.and_eq_true] at hc)) | refine And.intro (by first | assumption | omega | (have := qf (by assumption); omega) | (unfold qp; omega)) ?_ | simp (disch := omega) only [qc] | simp (disch := omega) only [qo]) <;> (try simp only [go_sem, ↓reduceIte, Nat.reduceEqDiff, Nat.reduceAdd, Nat.reduceSub, Nat.reduceMul, Nat.reduceLT, Nat.reduceLeDiff, reduceCtorEq, Int.reduceToNat])))
  refine qcy (S := Nat) (fun n => n ≤ l.length ∧ qcl l = n + qcl (l.drop n)) (fun n => (⟨[(0, .str l), (3, .int .i64 n)], []⟩, [])) (fun n => l.length - n) ?_ fun n hn => ?_
  · refine qcd 0 [] ⟨Nat.zero_le _, by simp⟩ rfl (by simp) ?_ ?_ ?_ <;> (try simp only [go_sem, ↓reduceIte, Nat.reduceEqDiff, Nat.reduceAdd, Nat.reduceSub, Nat.reduceMul, Nat.reduceLT, Nat.reduceLeDiff, reduceCtorEq, Int.reduceToNat]) <;> (try simp (disch := omega) only [qo])
  · obtain ⟨hn, ha⟩ := hn
    have h1 := qdx qdu (l.drop n)
    have h2 := qdx q0y (l.drop (n + qbn qdu (l.drop n)))
    rw [List.length_drop] at h1 h2
    repeat' (first | refine qj ?_ | refine ql ?_ | ((first | refine qn ?_ | refine qk ?_ | refine qh ?_ | refine qg ?_) <;> (try simp (disch := first | omega | (simp only [List.length_set, List.length_append, List.length_cons, List.length_nil]; done) | (simp only [List.length_set, List.length_append, List.length_cons, List.length_nil]; omega)) only [qio, go_sem, ↓reduceIte, Nat.reduceEqDiff, Nat.reduceAdd, Nat.reduceSub, Nat.reduceMul, Nat.reduceLT, Nat.reduceLeDiff, reduceCtorEq, Int.reduceToNat])) | ((first | simp (disch := omega) only [qio] | simp (disch := omega) only [qbzn] | simp (disch := omega) only [Int.toNat_natCast] | ((first | refine qe ?_ ?_ | refine qd ?_ ?_) <;> intro hc <;> (try simp only [hc]) <;> (try simp only [qb, qa, decide_eq_true_eq, decide_eq_false_iff_not, Bool.and_eq_true] at hc)) | refine And.intro (by first | assumption | omega | (have := qf (by assumption); omega) | (unfold qp; omega)) ?_ | simp (disch := omega) only [qc] | simp (disch := omega) only [qo] | refine qv (qec qoz _) fun _ => ?_ | refine qv (qc7 _ _) fun _ => ?_ | refine qv (qec qr7 _) fun _ => ?_ | refine qy  (qec qoz _) ?_ | refine qy  (qc7 _ _) ?_ | refine qy  (qec qr7 _) ?_) <;> (try simp only [go_sem, ↓reduceIte, Nat.reduceEqDiff, Nat.reduceAdd, Nat.reduceSub, Nat.reduceMul, Nat.reduceLT, Nat.reduceLeDiff, reduceCtorEq, Int.reduceToNat])))
    · rename_i hp _
      have hk := q7y (l := l.drop n) (by rw [List.drop_drop]; exact hp)
      rw [List.drop_drop] at hk
      rw [ha, qki (hk.trans (by omega))]; rfl
    · rename_i hp _
      have hk := q7y (l := l.drop n) (by rw [List.drop_drop]; exact hp)
      rw [List.drop_drop] at hk
      refine qcd (n + qfw (l.drop n)) [] ⟨⟨by omega, ?_⟩, by omega⟩ rfl (by simp) ?_ ?_ ?_ <;> (try simp only [go_sem, ↓reduceIte, Nat.reduceEqDiff, Nat.reduceAdd, Nat.reduceSub, Nat.reduceMul, Nat.reduceLT, Nat.reduceLeDiff, reduceCtorEq, Int.reduceToNat]) <;> (try simp (disch := omega) only [qo])
      · rw [ha, qks (l := l.drop n) (by omega), List.drop_drop]; omega
      · rw [hk]
    · rename_i hp
      have hk := qx6 (l := l.drop n) (by rw [List.drop_drop]; exact hp)
      rw [ha, qki (hk.trans (by omega))]; rfl
    · rename_i hp
      have hk := qx6 (l := l.drop n) (by rw [List.drop_drop]; exact hp)
      refine qcd (n + qfw (l.drop n)) [] ⟨⟨by omega, ?_⟩, by omega⟩ rfl (by simp) ?_ ?_ ?_ <;> (try simp only [go_sem, ↓reduceIte, Nat.reduceEqDiff, Nat.reduceAdd, Nat.reduceSub, Nat.reduceMul, Nat.reduceLT, Nat.reduceLeDiff, reduceCtorEq, Int.reduceToNat]) <;> (try simp (disch := omega) only [qo])
      · rw [ha, qks (l := l.drop n) (by omega), List.drop_drop]; omega
      · rw [hk]

theorem qru {l : List UInt8} (h : pfx [45, 45] l = false) (hb : qbn qdu l = 0) : qcl l = 0 := by
  rw [qki]
  rw [qx6 (by rw [hb]; exact h), hb]
end Go.Proofs.Ytfjbmjplnmaclaa
