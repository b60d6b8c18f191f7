/- Texts of this proof, joined. -/
import Derived.Test.YtmekebfgmjaenaaGreatAbg
import Derived.Test.YtmekebfgmjaenaaGreatAbi

/- expressions: what is read tells that nothing failed; of a text: the reference; PexpsAt: the function -/
set_option maxRecDepth 4000
namespace Go.Proofs.YtmekebfgmjaenaaGreat
open Go Go.RowKit Go.V
set_option linter.unusedVariables false
set_option linter.unusedSimpArgs false

def qu3 (r : R3) : Prop := r.2.2 = true → r.1.err = 0
section
variable {rec : K → K × Option N} (ih : ∀ c, Fine (rec c))
include ih
omit ih in
theorem qpr (c : K) : Fine (qbl rec c) := by
  intro h
  unfold qbl at h ⊢
  split at h
  · rename_i h1
    rw [if_pos h1]
    exact qil (qd0 (qi4 h1)).1
  · rename_i h1
    rw [if_neg h1]
    split at h
    · rename_i h2
      rw [if_pos h2]
      split at h
      · rename_i h3
        rw [if_pos h3]
        split at h
        · rename_i h4
          rw [if_pos h4]
          split at h
          · rename_i h5
            rw [if_pos h5]
            exact qhf (qm8 h5)
          · cases h
        · cases h
      · cases h
    · cases h
omit ih in
theorem qpa : ∀ (f : Nat) (c : K) (n : N), c.err = 0 → qu3 (qfm rec f c n)
  | 0, c, n => fun _ h => by cases h
  | f + 1, c, n => fun h0 h => by
    rw [qfm] at h ⊢
    split at h
    · rename_i h1
      rw [if_pos h1]
      split at h
      · rename_i h2
        rw [if_pos h2]
        exact qpa f _ _ (qpr c h2) h
      · cases h
    · rename_i h1
      rw [if_neg h1]
      exact h0
omit ih in
theorem q0d (c : K) : qu3 (qg2 rec c) := by
  intro h
  unfold qg2 at h ⊢
  split at h
  · rename_i h1
    rw [if_pos h1]
    exact qpa _ _ _ (qpr c h1) h
  · cases h
theorem qk6 (x : List UInt8) : ∀ (f : Nat) (c : K), qu3 (qci rec x f c)
  | 0, c => fun h => by cases h
  | f + 1, c => fun h => by
    rw [qci] at h ⊢
    split at h
    · rename_i h1
      rw [if_pos h1]
      exact qk6 x f (q8 c) h
    · rename_i h1
      rw [if_neg h1]
      split at h
      · rename_i h2
        rw [if_pos h2]
        exact ih _ h
      · cases h
theorem qxg (c : K) : Fine (qcj rec c) := by
  intro h
  unfold qcj at h ⊢
  split at h
  · rename_i h1
    rw [if_pos h1]
    split at h
    · rename_i h2
      rw [if_pos h2]
      exact qx0 _ _ (by simpa using h)
    · rename_i h2
      rw [if_neg h2]
      have h3 : (toO (qci rec [61] (rest (qbk c 1).1 + 1) (qbk c 1).1)).2.isSome = true := by simpa using h
      unfold toO at h3
      simp only at h3
      split at h3
      · rename_i h4; exact qk6 ih _ _ _ h4
      · cases h3
  · cases h
omit ih in
theorem qmk {rd : K → R3} : ∀ (f : Nat) (c : K) (acc : List N), (qb4 rd f c acc).2.2 = true → (qb4 rd f c acc).1.err = 0
  | 0, c, acc => fun h => by cases h
  | f + 1, c, acc => fun h => by
    rw [qb4] at h ⊢
    split at h
    · rename_i h1
      rw [if_pos h1]
      split at h
      · rename_i h2
        rw [if_pos h2]
        exact qmk f _ _ h
      · rename_i h2
        rw [if_neg h2]
        exact qm8 h
    · cases h
omit ih in
theorem qw5 {rd : K → R3} (c : K) (h : (qbn rd c).2.2 = true) : (qbn rd c).1.err = 0 := by
  unfold qbn at h ⊢
  split at h
  · rename_i h1
    rw [if_pos h1]
    exact qmk _ _ _ h
  · cases h
theorem q2h (p : Int) (c : K) : qu3 (qh2 rec p c) := by
  intro h
  unfold qh2 letB letC at h ⊢
  split at h
  · rename_i h1
    rw [if_pos h1]
    split at h
    · rename_i h2
      rw [if_pos h2]
      exact ih _ h
    · cases h
  · cases h
omit ih in
theorem qxs (p : Int) (c : K) : qu3 (qf2 rec p c) := by
  intro h
  unfold qf2 qyh qym at h ⊢
  split at h
  · rename_i h1
    rw [if_pos h1]
    split at h
    · rename_i h2
      rw [if_pos h2]
      exact qw5 _ h
    · cases h
  · cases h
theorem qs7 (p : Int) : ∀ (l : List (List UInt8)) (c : K) (acc : List N), (l = [] → c.err = 0) → qu3 (qeh rec p l c acc)
  | [], c, acc => fun h0 h => h0 rfl
  | w :: r, c, acc => fun h0 h => by
    rw [qeh] at h ⊢
    split at h
    · rename_i h1
      rw [if_pos h1]
      split at h
      · rename_i h2
        rw [if_pos h2]
        exact qs7 p r _ _ (fun _ => ih _ h2) h
      · cases h
    · cases h
theorem qyu (c : K) : qu3 (qej rec c) := by
  intro h
  unfold qej at h ⊢
  split at h
  · rename_i h1
    rw [if_pos h1]
    split at h
    · rename_i h2
      rw [if_pos h2]
      exact qk6 ih _ _ _ h
    · cases h
  · rename_i h1
    rw [if_neg h1]
    split at h
    · rename_i h2
      rw [if_pos h2]
      exact q2h ih _ _ h
    · rename_i h2
      rw [if_neg h2]
      split at h
      · rename_i h3
        rw [if_pos h3]
        exact qxs _ _ h
      · rename_i h3
        rw [if_neg h3]
        split at h
        · rename_i h4
          rw [if_pos h4]
          exact qs7 ih _ _ _ _ (fun h => by cases h) h
        · rename_i h4
          rw [if_neg h4]
          exact q0d c h
end
theorem qqk : ∀ (f : Nat) (c : K), Fine (qfx f c)
  | 0, c => fun h => by cases h
  | f + 1, c => fun h => by
    rw [qfx] at h ⊢
    split at h
    · rename_i h1
      rw [if_pos h1]
      unfold toO at h
      simp only at h
      split at h
      · rename_i h2; exact qhf (qyu (qqk f) _ h2)
      · cases h
    · cases h
set_option maxRecDepth 4000

def en1 : N := .mk 24 0 0 [] [.mk 24 0 0 [] [.mk 21 0 0 [102] [], .mk 21 2 0 [120] []], .mk 23 4 1 [] []]
def enS : List UInt8 := [92, 32, 120, 32, 121, 32, 45, 62, 32, 108, 101, 116, 32, 123, 32, 103, 32, 122, 32, 61, 32, 122, 59, 32, 125, 32, 105, 110, 32, 99, 97, 115, 101, 32, 120, 32, 111, 102, 32, 123, 32, 75, 32, 97, 32, 45, 62, 32, 105, 102, 32, 97, 32, 116, 104, 101, 110, 32, 121, 32, 101, 108, 115, 101, 32, 50, 32, 125]
def en3 : N := .mk 26 9 0 [] [.mk 31 15 0 [103] [.mk 25 17 0 [122] [.mk 21 21 0 [122] []]], .mk 27 29 0 [] [.mk 21 34 0 [120] [], .mk 15 41 0 [] [.mk 14 41 0 [75] [.mk 11 43 0 [97] []], .mk 28 48 0 [] [.mk 21 51 0 [97] [], .mk 21 58 0 [121] [], .mk 23 65 2 [] []]]]]
def en2 : N := .mk 25 2 0 [120] [.mk 25 4 0 [121] [en3]]
theorem awE1 : qbp Tryz.prog 17 [.str [102, 32, 120, 32, 49]] (.tup [enc en1, .int .i64 0, .int .i64 0]) := quh (qm0 _ (by decide)) (by rw [show expV [102, 32, 120, 32, 49] = (en1, 0, 0) by kernel_rfl]; rfl)
theorem awE2 : qbp Tryz.prog 17 [.str enS] (.tup [enc en2, .int .i64 0, .int .i64 0]) := quh (qm0 _ (by decide)) (by rw [show expV enS = (en2, 0, 0) by kernel_rfl]; rfl)
theorem awE3 : qbp Tryz.prog 17 [.str [108, 101, 116, 32, 123, 32, 125, 32, 105, 110, 32, 120]] (.tup [enc N0, .int .i64 6, .int .i64 5]) := quh (qm0 _ (by decide)) (by rw [show expV [108, 101, 116, 32, 123, 32, 125, 32, 105, 110, 32, 120] = (N0, 6, 5) by kernel_rfl]; rfl)
theorem q5t : en1.kind = 24 := rfl
theorem qbhl : en1.kids.length = 2 := rfl
theorem q5b : (encs en1.kids).getD 0 .junk = .agg [.int .i64 24, .int .i64 0, .int .i64 0, .str [], .sl 5 [enc (.mk 21 0 0 [102] []), enc (.mk 21 2 0 [120] [])]] := rfl
theorem q9a : (encs en1.kids).getD 1 .junk = .agg [.int .i64 23, .int .i64 4, .int .i64 1, .str [], .sl 5 []] := rfl
theorem q5z : en2.kind = 25 := rfl
theorem q36 : en2.text = [120] := rfl
theorem qbl7 : en2.kids.length = 1 := rfl
theorem q56 : (encs en2.kids).getD 0 .junk = .agg [.int .i64 25, .int .i64 4, .int .i64 0, .str [121], .sl 5 [enc en3]] := rfl
attribute [go_sem] q5t qbhl q5b q9a q5z q36 qbl7 q56
theorem qbx : qbp Tryz.prog 5 [] (.bool true) := by
  refine qba c0a (by simp) (by simp only [go_sem]) rfl fun hw => ?_
  have h2 := awE2
  unfold enS at h2
  repeat' (first | refine ql ?_ | ((first | refine qn ?_ | refine qm ?_ | refine qj ?_ | refine qi ?_); simp (disch := first | omega | (simp only [List.length_set, List.length_append, List.length_cons, List.length_nil]; done) | (simp only [List.length_set, List.length_append, List.length_cons, List.length_nil]; omega)) only [Int.reduceLT, Int.reduceLE, Int.reduceEq, decide_true, ne_eq, not_true_eq_false, go_sem, ↓reduceIte, Nat.reduceEqDiff, Nat.reduceAdd, Nat.reduceSub, Nat.reduceMul, Nat.reduceLT, Nat.reduceLeDiff, reduceCtorEq, Int.reduceToNat]) | ((first | refine qf ?_ ?_ | refine qd ?_ ?_) <;> intro hc <;> simp only [hc, go_sem, ↓reduceIte, Nat.reduceEqDiff, Nat.reduceAdd, Nat.reduceSub, Nat.reduceMul, Nat.reduceLT, Nat.reduceLeDiff, reduceCtorEq, Int.reduceToNat] <;> (try simp only [qb, qa, decide_eq_true_eq, decide_eq_false_iff_not, Bool.and_eq_true] at hc)) | refine And.intro (by first | assumption | omega | (have := qg (by assumption); omega) | (unfold qq; omega)) ?_ | ((first | simp (disch := omega) only [qv] | simp (disch := omega) only [qbe]); (try simp only [go_sem, ↓reduceIte, Nat.reduceEqDiff, Nat.reduceAdd, Nat.reduceSub, Nat.reduceMul, Nat.reduceLT, Nat.reduceLeDiff, reduceCtorEq, Int.reduceToNat])) | ((first | refine qc awE1 fun _ => ?_ | refine qc h2 fun _ => ?_ | refine qc awE3 fun _ => ?_ | refine qe  awE1 ?_ | refine qe  h2 ?_ | refine qe  awE3 ?_); simp only [go_sem, ↓reduceIte, Nat.reduceEqDiff, Nat.reduceAdd, Nat.reduceSub, Nat.reduceMul, Nat.reduceLT, Nat.reduceLeDiff, reduceCtorEq, Int.reduceToNat]))
  all_goals first | exact absurd rfl (by assumption) | trace_state
theorem qv0 {c : K} {L : List Ent} {Kk : Md → AV → List Ent → Prop} (h : Kk .here (encT (qbc c)) (curE c :: L)) : DApp Tryz.prog (curE c :: L) (.fn 15 [] []) [.ptr 0 0] Kk :=
  .inl ⟨_, qb2 (qwc c) (qbh _ _) (qbh _ _) rfl rfl fun _ => ⟨rfl, rfl⟩, h⟩
theorem qy6 (l : List T) (hs : l.length ≤ 500) : qbp Tryz.prog 3 [.sl 4 (qcy l), .bool false] (.bool true) := by
  refine qba c0b (by simp) (by simp only [go_sem]) rfl fun hw => ?_
  have hsi : ¬ (500 : Int) < l.length := by omega
  have g : (newK l).good := qm5 (by omega)
  have hem := qid (newK l)
  obtain ⟨f, hfd⟩ : ∃ f, f = rest (newK l) + 2 := ⟨_, rfl⟩
  have hx : ∀ c : K, c.err ≠ 0 → (qez f c).1 = c := fun c h => qkp f h
  have hnw := qqf l (by omega)
  have hnr := qrn l
  have hks : NoEnd (newK l) := fun t ht => qjr ht
  have hj : ∀ n : N, qbp Tryz.prog 14 [enc n, enc n] (.bool true) := fun n => quh (qor _ _) (by rw [qrx])
  have hj0 := hj N0
  generalize newK l = c at *
  have hP := qz8 f c g (by omega)
  have hR := qvn f c g (by omega)
  have hal := qm4 f c hks (by omega)
  have hfi := qqk f c
  have hgd := (qhi f c).1 g
  generalize qfx f c = p at *
  generalize qez f c = r at *
  obtain ⟨d, o⟩ := p
  obtain ⟨d', m⟩ := r
  obtain ⟨a1, a2, a3⟩ := hal
  simp only at a1 a2 a3
  subst a1
  cases o with
  | none =>
    have h3 : ¬ d.err = 0 := a3 rfl
    repeat' (first | refine ql ?_ | ((first | refine qn ?_ | refine qx (by rfl) ?_ | refine qw ?_ | refine qm ?_ | refine qj ?_ | refine qi ?_); simp (disch := first | omega | (simp only [List.length_set, List.length_append, List.length_cons, List.length_nil]; done) | (simp only [List.length_set, List.length_append, List.length_cons, List.length_nil]; omega)) only [hsi, h3, Option.isSome_none, Option.isSome_some, beq_self_eq_true, Bool.false_beq, Bool.true_beq, Option.getD_none, Option.getD_some, Bool.not_false, Bool.not_true, Int.reduceEq, decide_true, decide_false, ne_eq, not_true_eq_false, not_false_eq_true, Bool.false_eq_true, go_sem, ↓reduceIte, Nat.reduceEqDiff, Nat.reduceAdd, Nat.reduceSub, Nat.reduceMul, Nat.reduceLT, Nat.reduceLeDiff, reduceCtorEq, Int.reduceToNat]) | ((first | refine qf ?_ ?_ | refine qd ?_ ?_) <;> intro hc <;> simp only [hc, go_sem, ↓reduceIte, Nat.reduceEqDiff, Nat.reduceAdd, Nat.reduceSub, Nat.reduceMul, Nat.reduceLT, Nat.reduceLeDiff, reduceCtorEq, Int.reduceToNat] <;> (try simp only [qb, qa, decide_eq_true_eq, decide_eq_false_iff_not, Bool.and_eq_true] at hc)) | refine And.intro (by first | assumption | omega | (have := qg (by assumption); omega) | (unfold qq; omega)) ?_ | fail | ((first | refine qc qbx fun _ => ?_ | refine qj1 hnw (qbh _ _) (by simp only [go_sem]) ?_ | refine qc hnr fun _ => ?_ | refine qdh hP rfl ?_ | refine qc hR fun _ => ?_ | refine qth hgd.ok ?_ | refine qc (qey d) fun _ => ?_ | refine qv0 ?_ | refine qc (qt d) fun _ => ?_ | refine qc hj0 fun _ => ?_ | refine qe  qbx ?_ | refine qe  hnr ?_ | refine qe  hR ?_ | refine qe  (qey d) ?_ | refine qe  (qt d) ?_ | refine qe  hj0 ?_); simp only [go_sem, ↓reduceIte, Nat.reduceEqDiff, Nat.reduceAdd, Nat.reduceSub, Nat.reduceMul, Nat.reduceLT, Nat.reduceLeDiff, reduceCtorEq, Int.reduceToNat]))
    simp only [encT]
    (simp (disch := first | omega | (simp only [List.length_set, List.length_append, List.length_cons, List.length_nil]; done) | (simp only [List.length_set, List.length_append, List.length_cons, List.length_nil]; omega)) only [hsi, h3, Option.isSome_none, Option.isSome_some, beq_self_eq_true, Bool.false_beq, Bool.true_beq, Option.getD_none, Option.getD_some, Bool.not_false, Bool.not_true, Int.reduceEq, decide_true, decide_false, ne_eq, not_true_eq_false, not_false_eq_true, Bool.false_eq_true, go_sem, ↓reduceIte, Nat.reduceEqDiff, Nat.reduceAdd, Nat.reduceSub, Nat.reduceMul, Nat.reduceLT, Nat.reduceLeDiff, reduceCtorEq, Int.reduceToNat])
    repeat' (first | refine ql ?_ | ((first | refine qn ?_ | refine qx (by rfl) ?_ | refine qw ?_ | refine qm ?_ | refine qj ?_ | refine qi ?_); simp (disch := first | omega | (simp only [List.length_set, List.length_append, List.length_cons, List.length_nil]; done) | (simp only [List.length_set, List.length_append, List.length_cons, List.length_nil]; omega)) only [hsi, h3, Option.isSome_none, Option.isSome_some, beq_self_eq_true, Bool.false_beq, Bool.true_beq, Option.getD_none, Option.getD_some, Bool.not_false, Bool.not_true, Int.reduceEq, decide_true, decide_false, ne_eq, not_true_eq_false, not_false_eq_true, Bool.false_eq_true, go_sem, ↓reduceIte, Nat.reduceEqDiff, Nat.reduceAdd, Nat.reduceSub, Nat.reduceMul, Nat.reduceLT, Nat.reduceLeDiff, reduceCtorEq, Int.reduceToNat]) | ((first | refine qf ?_ ?_ | refine qd ?_ ?_) <;> intro hc <;> simp only [hc, go_sem, ↓reduceIte, Nat.reduceEqDiff, Nat.reduceAdd, Nat.reduceSub, Nat.reduceMul, Nat.reduceLT, Nat.reduceLeDiff, reduceCtorEq, Int.reduceToNat] <;> (try simp only [qb, qa, decide_eq_true_eq, decide_eq_false_iff_not, Bool.and_eq_true] at hc)) | refine And.intro (by first | assumption | omega | (have := qg (by assumption); omega) | (unfold qq; omega)) ?_ | fail | ((first | refine qc qbx fun _ => ?_ | refine qc hj0 fun _ => ?_ | refine qe  qbx ?_ | refine qe  hj0 ?_); simp only [go_sem, ↓reduceIte, Nat.reduceEqDiff, Nat.reduceAdd, Nat.reduceSub, Nat.reduceMul, Nat.reduceLT, Nat.reduceLeDiff, reduceCtorEq, Int.reduceToNat]))
  | some n =>
    obtain rfl : n = m := a2 n rfl
    have h3 : (d.err = 0) = True := eq_true (hfi rfl)
    repeat' (first | refine ql ?_ | ((first | refine qn ?_ | refine qx (by rfl) ?_ | refine qw ?_ | refine qm ?_ | refine qj ?_ | refine qi ?_); simp (disch := first | omega | (simp only [List.length_set, List.length_append, List.length_cons, List.length_nil]; done) | (simp only [List.length_set, List.length_append, List.length_cons, List.length_nil]; omega)) only [hsi, h3, Option.isSome_none, Option.isSome_some, beq_self_eq_true, Bool.false_beq, Bool.true_beq, Option.getD_none, Option.getD_some, Bool.not_false, Bool.not_true, Int.reduceEq, decide_true, decide_false, ne_eq, not_true_eq_false, not_false_eq_true, Bool.false_eq_true, go_sem, ↓reduceIte, Nat.reduceEqDiff, Nat.reduceAdd, Nat.reduceSub, Nat.reduceMul, Nat.reduceLT, Nat.reduceLeDiff, reduceCtorEq, Int.reduceToNat]) | ((first | refine qf ?_ ?_ | refine qd ?_ ?_) <;> intro hc <;> simp only [hc, go_sem, ↓reduceIte, Nat.reduceEqDiff, Nat.reduceAdd, Nat.reduceSub, Nat.reduceMul, Nat.reduceLT, Nat.reduceLeDiff, reduceCtorEq, Int.reduceToNat] <;> (try simp only [qb, qa, decide_eq_true_eq, decide_eq_false_iff_not, Bool.and_eq_true] at hc)) | refine And.intro (by first | assumption | omega | (have := qg (by assumption); omega) | (unfold qq; omega)) ?_ | fail | ((first | refine qc qbx fun _ => ?_ | refine qj1 hnw (qbh _ _) (by simp only [go_sem]) ?_ | refine qc hnr fun _ => ?_ | refine qdh hP rfl ?_ | refine qc hR fun _ => ?_ | refine qth hgd.ok ?_ | refine qc (qey d) fun _ => ?_ | refine qv0 ?_ | refine qc (qt d) fun _ => ?_ | refine qc (hj n) fun _ => ?_ | refine qe  qbx ?_ | refine qe  hnr ?_ | refine qe  hR ?_ | refine qe  (qey d) ?_ | refine qe  (qt d) ?_ | refine qe  (hj n) ?_); simp only [go_sem, ↓reduceIte, Nat.reduceEqDiff, Nat.reduceAdd, Nat.reduceSub, Nat.reduceMul, Nat.reduceLT, Nat.reduceLeDiff, reduceCtorEq, Int.reduceToNat]))
    simp only [encT]
    (simp (disch := first | omega | (simp only [List.length_set, List.length_append, List.length_cons, List.length_nil]; done) | (simp only [List.length_set, List.length_append, List.length_cons, List.length_nil]; omega)) only [hsi, h3, Option.isSome_none, Option.isSome_some, beq_self_eq_true, Bool.false_beq, Bool.true_beq, Option.getD_none, Option.getD_some, Bool.not_false, Bool.not_true, Int.reduceEq, decide_true, decide_false, ne_eq, not_true_eq_false, not_false_eq_true, Bool.false_eq_true, go_sem, ↓reduceIte, Nat.reduceEqDiff, Nat.reduceAdd, Nat.reduceSub, Nat.reduceMul, Nat.reduceLT, Nat.reduceLeDiff, reduceCtorEq, Int.reduceToNat])
    repeat' (first | refine ql ?_ | ((first | refine qn ?_ | refine qx (by rfl) ?_ | refine qw ?_ | refine qm ?_ | refine qj ?_ | refine qi ?_); simp (disch := first | omega | (simp only [List.length_set, List.length_append, List.length_cons, List.length_nil]; done) | (simp only [List.length_set, List.length_append, List.length_cons, List.length_nil]; omega)) only [hsi, h3, Option.isSome_none, Option.isSome_some, beq_self_eq_true, Bool.false_beq, Bool.true_beq, Option.getD_none, Option.getD_some, Bool.not_false, Bool.not_true, Int.reduceEq, decide_true, decide_false, ne_eq, not_true_eq_false, not_false_eq_true, Bool.false_eq_true, go_sem, ↓reduceIte, Nat.reduceEqDiff, Nat.reduceAdd, Nat.reduceSub, Nat.reduceMul, Nat.reduceLT, Nat.reduceLeDiff, reduceCtorEq, Int.reduceToNat]) | ((first | refine qf ?_ ?_ | refine qd ?_ ?_) <;> intro hc <;> simp only [hc, go_sem, ↓reduceIte, Nat.reduceEqDiff, Nat.reduceAdd, Nat.reduceSub, Nat.reduceMul, Nat.reduceLT, Nat.reduceLeDiff, reduceCtorEq, Int.reduceToNat] <;> (try simp only [qb, qa, decide_eq_true_eq, decide_eq_false_iff_not, Bool.and_eq_true] at hc)) | refine And.intro (by first | assumption | omega | (have := qg (by assumption); omega) | (unfold qq; omega)) ?_ | fail | ((first | refine qc qbx fun _ => ?_ | refine qc (hj n) fun _ => ?_ | refine qe  qbx ?_ | refine qe  (hj n) ?_); simp only [go_sem, ↓reduceIte, Nat.reduceEqDiff, Nat.reduceAdd, Nat.reduceSub, Nat.reduceMul, Nat.reduceLT, Nat.reduceLeDiff, reduceCtorEq, Int.reduceToNat]))
theorem qzv (l : List T) (hs : l.length ≤ 500) : qbp Tryz.prog 3 [.sl 4 (qcy l), .bool true] (.bool true) := by
  refine qba c0b (by simp) (by simp only [go_sem]) rfl fun hw => ?_
  have hsi : ¬ (500 : Int) < l.length := by omega
  have g : (newK l).good := qm5 (by omega)
  have hem := qid (newK l)
  obtain ⟨f, hfd⟩ : ∃ f, f = rest (newK l) + 2 := ⟨_, rfl⟩
  have hx : ∀ c : K, c.err ≠ 0 → (qez f c).1 = c := fun c h => qkp f h
  have hnw := qqf l (by omega)
  have hnr := qrn l
  have hks : NoEnd (newK l) := fun t ht => qjr ht
  have hj : ∀ n : N, qbp Tryz.prog 14 [enc n, enc n] (.bool true) := fun n => quh (qor _ _) (by rw [qrx])
  have hj0 := hj N0
  generalize newK l = c at *
  have hP := qo3 (qz8 f) c g (by omega)
  have hR := qos (qvn f) c g (by omega)
  have hal := qmj hx (qm4 f) hks (by omega)
  have hfi := qxg (qqk f) c
  have hgd := (qgm (qhi f) c).1 g
  generalize qcj (qfx f) c = p at *
  generalize qdm (qez f) c = r at *
  obtain ⟨d, o⟩ := p
  obtain ⟨d', m⟩ := r
  obtain ⟨a1, a2, a3⟩ := hal
  simp only at a1 a2 a3
  subst a1
  cases o with
  | none =>
    have h3 : ¬ d.err = 0 := a3 rfl
    repeat' (first | refine ql ?_ | ((first | refine qn ?_ | refine qx (by rfl) ?_ | refine qw ?_ | refine qm ?_ | refine qj ?_ | refine qi ?_); simp (disch := first | omega | (simp only [List.length_set, List.length_append, List.length_cons, List.length_nil]; done) | (simp only [List.length_set, List.length_append, List.length_cons, List.length_nil]; omega)) only [hsi, h3, Option.isSome_none, Option.isSome_some, beq_self_eq_true, Bool.false_beq, Bool.true_beq, Option.getD_none, Option.getD_some, Bool.not_false, Bool.not_true, Int.reduceEq, decide_true, decide_false, ne_eq, not_true_eq_false, not_false_eq_true, Bool.false_eq_true, go_sem, ↓reduceIte, Nat.reduceEqDiff, Nat.reduceAdd, Nat.reduceSub, Nat.reduceMul, Nat.reduceLT, Nat.reduceLeDiff, reduceCtorEq, Int.reduceToNat]) | ((first | refine qf ?_ ?_ | refine qd ?_ ?_) <;> intro hc <;> simp only [hc, go_sem, ↓reduceIte, Nat.reduceEqDiff, Nat.reduceAdd, Nat.reduceSub, Nat.reduceMul, Nat.reduceLT, Nat.reduceLeDiff, reduceCtorEq, Int.reduceToNat] <;> (try simp only [qb, qa, decide_eq_true_eq, decide_eq_false_iff_not, Bool.and_eq_true] at hc)) | refine And.intro (by first | assumption | omega | (have := qg (by assumption); omega) | (unfold qq; omega)) ?_ | fail | ((first | refine qc qbx fun _ => ?_ | refine qj1 hnw (qbh _ _) (by simp only [go_sem]) ?_ | refine qc hnr fun _ => ?_ | refine qdh hP rfl ?_ | refine qc hR fun _ => ?_ | refine qth hgd.ok ?_ | refine qc (qey d) fun _ => ?_ | refine qv0 ?_ | refine qc (qt d) fun _ => ?_ | refine qc hj0 fun _ => ?_ | refine qe  qbx ?_ | refine qe  hnr ?_ | refine qe  hR ?_ | refine qe  (qey d) ?_ | refine qe  (qt d) ?_ | refine qe  hj0 ?_); simp only [go_sem, ↓reduceIte, Nat.reduceEqDiff, Nat.reduceAdd, Nat.reduceSub, Nat.reduceMul, Nat.reduceLT, Nat.reduceLeDiff, reduceCtorEq, Int.reduceToNat]))
    simp only [encT]
    (simp (disch := first | omega | (simp only [List.length_set, List.length_append, List.length_cons, List.length_nil]; done) | (simp only [List.length_set, List.length_append, List.length_cons, List.length_nil]; omega)) only [hsi, h3, Option.isSome_none, Option.isSome_some, beq_self_eq_true, Bool.false_beq, Bool.true_beq, Option.getD_none, Option.getD_some, Bool.not_false, Bool.not_true, Int.reduceEq, decide_true, decide_false, ne_eq, not_true_eq_false, not_false_eq_true, Bool.false_eq_true, go_sem, ↓reduceIte, Nat.reduceEqDiff, Nat.reduceAdd, Nat.reduceSub, Nat.reduceMul, Nat.reduceLT, Nat.reduceLeDiff, reduceCtorEq, Int.reduceToNat])
    repeat' (first | refine ql ?_ | ((first | refine qn ?_ | refine qx (by rfl) ?_ | refine qw ?_ | refine qm ?_ | refine qj ?_ | refine qi ?_); simp (disch := first | omega | (simp only [List.length_set, List.length_append, List.length_cons, List.length_nil]; done) | (simp only [List.length_set, List.length_append, List.length_cons, List.length_nil]; omega)) only [hsi, h3, Option.isSome_none, Option.isSome_some, beq_self_eq_true, Bool.false_beq, Bool.true_beq, Option.getD_none, Option.getD_some, Bool.not_false, Bool.not_true, Int.reduceEq, decide_true, decide_false, ne_eq, not_true_eq_false, not_false_eq_true, Bool.false_eq_true, go_sem, ↓reduceIte, Nat.reduceEqDiff, Nat.reduceAdd, Nat.reduceSub, Nat.reduceMul, Nat.reduceLT, Nat.reduceLeDiff, reduceCtorEq, Int.reduceToNat]) | ((first | refine qf ?_ ?_ | refine qd ?_ ?_) <;> intro hc <;> simp only [hc, go_sem, ↓reduceIte, Nat.reduceEqDiff, Nat.reduceAdd, Nat.reduceSub, Nat.reduceMul, Nat.reduceLT, Nat.reduceLeDiff, reduceCtorEq, Int.reduceToNat] <;> (try simp only [qb, qa, decide_eq_true_eq, decide_eq_false_iff_not, Bool.and_eq_true] at hc)) | refine And.intro (by first | assumption | omega | (have := qg (by assumption); omega) | (unfold qq; omega)) ?_ | fail | ((first | refine qc qbx fun _ => ?_ | refine qc hj0 fun _ => ?_ | refine qe  qbx ?_ | refine qe  hj0 ?_); simp only [go_sem, ↓reduceIte, Nat.reduceEqDiff, Nat.reduceAdd, Nat.reduceSub, Nat.reduceMul, Nat.reduceLT, Nat.reduceLeDiff, reduceCtorEq, Int.reduceToNat]))
  | some n =>
    obtain rfl : n = m := a2 n rfl
    have h3 : (d.err = 0) = True := eq_true (hfi rfl)
    repeat' (first | refine ql ?_ | ((first | refine qn ?_ | refine qx (by rfl) ?_ | refine qw ?_ | refine qm ?_ | refine qj ?_ | refine qi ?_); simp (disch := first | omega | (simp only [List.length_set, List.length_append, List.length_cons, List.length_nil]; done) | (simp only [List.length_set, List.length_append, List.length_cons, List.length_nil]; omega)) only [hsi, h3, Option.isSome_none, Option.isSome_some, beq_self_eq_true, Bool.false_beq, Bool.true_beq, Option.getD_none, Option.getD_some, Bool.not_false, Bool.not_true, Int.reduceEq, decide_true, decide_false, ne_eq, not_true_eq_false, not_false_eq_true, Bool.false_eq_true, go_sem, ↓reduceIte, Nat.reduceEqDiff, Nat.reduceAdd, Nat.reduceSub, Nat.reduceMul, Nat.reduceLT, Nat.reduceLeDiff, reduceCtorEq, Int.reduceToNat]) | ((first | refine qf ?_ ?_ | refine qd ?_ ?_) <;> intro hc <;> simp only [hc, go_sem, ↓reduceIte, Nat.reduceEqDiff, Nat.reduceAdd, Nat.reduceSub, Nat.reduceMul, Nat.reduceLT, Nat.reduceLeDiff, reduceCtorEq, Int.reduceToNat] <;> (try simp only [qb, qa, decide_eq_true_eq, decide_eq_false_iff_not, Bool.and_eq_true] at hc)) | refine And.intro (by first | assumption | omega | (have := qg (by assumption); omega) | (unfold qq; omega)) ?_ | fail | ((first | refine qc qbx fun _ => ?_ | refine qj1 hnw (qbh _ _) (by simp only [go_sem]) ?_ | refine qc hnr fun _ => ?_ | refine qdh hP rfl ?_ | refine qc hR fun _ => ?_ | refine qth hgd.ok ?_ | refine qc (qey d) fun _ => ?_ | refine qv0 ?_ | refine qc (qt d) fun _ => ?_ | refine qc (hj n) fun _ => ?_ | refine qe  qbx ?_ | refine qe  hnr ?_ | refine qe  hR ?_ | refine qe  (qey d) ?_ | refine qe  (qt d) ?_ | refine qe  (hj n) ?_); simp only [go_sem, ↓reduceIte, Nat.reduceEqDiff, Nat.reduceAdd, Nat.reduceSub, Nat.reduceMul, Nat.reduceLT, Nat.reduceLeDiff, reduceCtorEq, Int.reduceToNat]))
    simp only [encT]
    (simp (disch := first | omega | (simp only [List.length_set, List.length_append, List.length_cons, List.length_nil]; done) | (simp only [List.length_set, List.length_append, List.length_cons, List.length_nil]; omega)) only [hsi, h3, Option.isSome_none, Option.isSome_some, beq_self_eq_true, Bool.false_beq, Bool.true_beq, Option.getD_none, Option.getD_some, Bool.not_false, Bool.not_true, Int.reduceEq, decide_true, decide_false, ne_eq, not_true_eq_false, not_false_eq_true, Bool.false_eq_true, go_sem, ↓reduceIte, Nat.reduceEqDiff, Nat.reduceAdd, Nat.reduceSub, Nat.reduceMul, Nat.reduceLT, Nat.reduceLeDiff, reduceCtorEq, Int.reduceToNat])
    repeat' (first | refine ql ?_ | ((first | refine qn ?_ | refine qx (by rfl) ?_ | refine qw ?_ | refine qm ?_ | refine qj ?_ | refine qi ?_); simp (disch := first | omega | (simp only [List.length_set, List.length_append, List.length_cons, List.length_nil]; done) | (simp only [List.length_set, List.length_append, List.length_cons, List.length_nil]; omega)) only [hsi, h3, Option.isSome_none, Option.isSome_some, beq_self_eq_true, Bool.false_beq, Bool.true_beq, Option.getD_none, Option.getD_some, Bool.not_false, Bool.not_true, Int.reduceEq, decide_true, decide_false, ne_eq, not_true_eq_false, not_false_eq_true, Bool.false_eq_true, go_sem, ↓reduceIte, Nat.reduceEqDiff, Nat.reduceAdd, Nat.reduceSub, Nat.reduceMul, Nat.reduceLT, Nat.reduceLeDiff, reduceCtorEq, Int.reduceToNat]) | ((first | refine qf ?_ ?_ | refine qd ?_ ?_) <;> intro hc <;> simp only [hc, go_sem, ↓reduceIte, Nat.reduceEqDiff, Nat.reduceAdd, Nat.reduceSub, Nat.reduceMul, Nat.reduceLT, Nat.reduceLeDiff, reduceCtorEq, Int.reduceToNat] <;> (try simp only [qb, qa, decide_eq_true_eq, decide_eq_false_iff_not, Bool.and_eq_true] at hc)) | refine And.intro (by first | assumption | omega | (have := qg (by assumption); omega) | (unfold qq; omega)) ?_ | fail | ((first | refine qc qbx fun _ => ?_ | refine qc (hj n) fun _ => ?_ | refine qe  qbx ?_ | refine qe  (hj n) ?_); simp only [go_sem, ↓reduceIte, Nat.reduceEqDiff, Nat.reduceAdd, Nat.reduceSub, Nat.reduceMul, Nat.reduceLT, Nat.reduceLeDiff, reduceCtorEq, Int.reduceToNat]))
theorem qqi (l : List T) (b : Bool) : qbp Tryz.prog 3 [.sl 4 (qcy l), .bool b] (.bool true) := by
  by_cases hs : l.length ≤ 500
  · cases b
    · exact qy6 l hs
    · exact qzv l hs
  · refine qba c0b (by simp) (by simp only [go_sem]) rfl fun hw => ?_
    have hsi : (500 : Int) < l.length := by omega
    repeat' (first | refine ql ?_ | ((first | refine qn ?_ | refine qx (by rfl) ?_ | refine qw ?_ | refine qm ?_ | refine qj ?_ | refine qi ?_); simp (disch := first | omega | (simp only [List.length_set, List.length_append, List.length_cons, List.length_nil]; done) | (simp only [List.length_set, List.length_append, List.length_cons, List.length_nil]; omega)) only [hsi, go_sem, ↓reduceIte, Nat.reduceEqDiff, Nat.reduceAdd, Nat.reduceSub, Nat.reduceMul, Nat.reduceLT, Nat.reduceLeDiff, reduceCtorEq, Int.reduceToNat]) | ((first | refine qf ?_ ?_ | refine qd ?_ ?_) <;> intro hc <;> simp only [hc, go_sem, ↓reduceIte, Nat.reduceEqDiff, Nat.reduceAdd, Nat.reduceSub, Nat.reduceMul, Nat.reduceLT, Nat.reduceLeDiff, reduceCtorEq, Int.reduceToNat] <;> (try simp only [qb, qa, decide_eq_true_eq, decide_eq_false_iff_not, Bool.and_eq_true] at hc)) | refine And.intro (by first | assumption | omega | (have := qg (by assumption); omega) | (unfold qq; omega)) ?_ | fail | ((first | refine qc qbx fun _ => ?_ | refine qe  qbx ?_); simp only [go_sem, ↓reduceIte, Nat.reduceEqDiff, Nat.reduceAdd, Nat.reduceSub, Nat.reduceMul, Nat.reduceLT, Nat.reduceLeDiff, reduceCtorEq, Int.reduceToNat]))
end Go.Proofs.YtmekebfgmjaenaaGreat
