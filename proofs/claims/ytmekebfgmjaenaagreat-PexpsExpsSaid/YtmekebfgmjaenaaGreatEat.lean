/- A text of this proof. -/
import Derived.Test.YtmekebfgmjaenaaGreatEas
import Derived.Test.YtmekebfgmjaenaaGreatEai

/- the lexer's words: the reference -/
set_option maxRecDepth 4000
namespace Go.Proofs.YtmekebfgmjaenaaGreat
open Go Go.RowKit Go.V
set_option linter.unusedVariables false
set_option linter.unusedSimpArgs false

theorem qil (f : Int → Bool) : ∀ l : List UInt8, (l.take (qbh f l)).all (fun c => f c.toNat) = true
  | [] => rfl
  | c :: r => by
    unfold qbh
    rw [List.takeWhile_cons]
    by_cases h : f c.toNat = true
    · rw [if_pos h]
      simp only [List.length_cons, List.take_succ_cons, List.all_cons, h, Bool.true_and]
      exact qil f r
    · rw [if_neg h]; rfl
theorem qon {f : Int → Bool} {c : UInt8} {r : List UInt8} (h : f c.toNat = true) : qbh f (c :: r) = qbh f r + 1 := by
  unfold qbh; rw [List.takeWhile_cons, if_pos h, List.length_cons]
theorem q1g {l : List UInt8} (hl : l ≠ []) (h : onW (l.getD 0 0).toNat = true) : conW (l.take (qbh onW l)) = qio (l.getD 0 0).toNat := by
  cases l with
  | nil => exact absurd rfl hl
  | cons c r =>
    have h : onW c.toNat = true := h
    have hx : onsW (List.take (qbh onW (c :: r)) (c :: r)) = true := qil onW (c :: r)
    rw [qon h] at hx ⊢
    rw [List.take_succ_cons] at hx ⊢
    unfold conW
    rw [hx]
    simp
theorem qom {l : List UInt8} (h : qcm (l.getD 0 0).toNat = true) : qc2 l = (⟨3, 0, (qm3 (l.take (qbh qcm l))).1, l.take (qbh qcm l)⟩, (qm3 (l.take (qbh qcm l))).2) := if_pos h
theorem qxm {l : List UInt8} (h : qcm (l.getD 0 0).toNat = false) (h2 : (onW (l.getD 0 0).toNat && !decide (((l.getD 0 0).toNat : Int) = 39)) = true) : qc2 l = (quq (l.take (qbh onW l)), 0) := by
  rw [qc2, h, if_neg Bool.false_ne_true, if_pos h2]
theorem qxj {l : List UInt8} (h : qcm (l.getD 0 0).toNat = false) (h2 : (onW (l.getD 0 0).toNat && !decide (((l.getD 0 0).toNat : Int) = 39)) = false) (h3 : qiw l = 0) : qc2 l = (T0, 3) := by
  rw [qc2, h, if_neg Bool.false_ne_true, h2, if_neg Bool.false_ne_true, if_pos h3]
theorem qpw {l : List UInt8} (h : qcm (l.getD 0 0).toNat = false) (h2 : (onW (l.getD 0 0).toNat && !decide (((l.getD 0 0).toNat : Int) = 39)) = false) (h3 : qiw l ≠ 0) : qc2 l = (⟨5, 0, 0, l.take (qiw l)⟩, 0) := by
  rw [qc2, h, if_neg Bool.false_ne_true, h2, if_neg Bool.false_ne_true, if_neg h3]
theorem q2i {c : Int} (h : qcm c = false) : (onW c && !decide (c = 39)) = (qkc c || qio c) := by
  unfold onW
  rw [h]
  by_cases h39 : c = 39
  · subst h39; rfl
  · simp [h39]
theorem qv7 {l : List UInt8} {n : Nat} (hl : l ≠ []) (hn : n ≠ 0) : l.take n ≠ [] := by
  cases l with
  | nil => exact absurd rfl hl
  | cons c r => cases n with
    | zero => exact absurd rfl hn
    | succ n => simp

theorem qn7 {f : Int → Bool} {l : List UInt8} {n : Nat} (hn : n ≤ l.length) (ha : qbh f l = n + qbh f (l.drop n)) (h : ¬ (n : Int) < l.length) : n = qbh f l := by
  have : l.drop n = [] := List.drop_of_length_le (by omega)
  rw [this] at ha
  exact ha.symm
theorem qsq {f : Int → Bool} {l : List UInt8} {n : Nat} (ha : qbh f l = n + qbh f (l.drop n)) (hn : (n : Int) < l.length) (h : f (l.getD n 0).toNat = false) : n = qbh f l := by
  rw [ha, qd0 (by omega), if_neg (by rw [h]; simp)]; rfl
theorem ql8 {f : Int → Bool} {l : List UInt8} {n : Nat} (ha : qbh f l = n + qbh f (l.drop n)) (hn : (n : Int) < l.length) (h : f (l.getD n 0).toNat = true) : qbh f l = (n + 1) + qbh f (l.drop (n + 1)) := by
  rw [ha, qd0 (by omega), if_pos h]; omega
theorem qq5 {l : List UInt8} (hne : l ≠ []) (hd : qcm (l.getD 0 0).toNat = false) (hs : qkc (l.getD 0 0).toNat = true ∨ qio (l.getD 0 0).toNat = true) {n : Nat} (hn : n = qbh onW l) :
    qc2 l = (⟨if l.take n = [95] then 5 else if resW (l.take n) then 4 else if qio (l.getD 0 0).toNat then 2 else 1, 0, 0, l.take n⟩, 0) := by
  subst hn
  have hon : onW (l.getD 0 0).toNat = true := by unfold onW; rcases hs with h | h <;> rw [h] <;> simp only [Bool.true_or, Bool.or_true]
  rw [qxm hd (by rw [q2i hd]; rcases hs with h | h <;> rw [h] <;> simp only [Bool.true_or, Bool.or_true]), quq, q9i, q1g hne hon]
theorem qj5 (l : List UInt8) (hne : l ≠ []) : qbf Tryz.prog 68 [.str l] (q86 (qc2 l)) := by
  refine qu c0cw (by simp) (by simp only [go_sem]) rfl fun hw => ?_
  have hl : l.length ≤ maxLen := hw.1
  have h1 := qgd qcm l
  have h2 := qgd onW l
  have h3 := qsc l
  have h4 := List.length_pos_iff.2 hne
  repeat' (first | refine ql ?_ | refine qk ?_ | ((first | refine qn ?_ | refine qm ?_ | refine qs ?_ | refine qi ?_ | refine qh ?_ | refine qc (qfs _) fun _ => ?_ | refine qc (qh7 _) fun _ => ?_ | refine qc (qel _) fun _ => ?_ | refine qc (qqi _ hne) fun _ => ?_ | refine qd  (qfs _) ?_ | refine qd  (qh7 _) ?_ | refine qd  (qel _) ?_ | refine qd  (qqi _ hne) ?_); simp only [go_sem, ↓reduceIte, Nat.reduceEqDiff, Nat.reduceAdd, Nat.reduceSub, Nat.reduceMul, Nat.reduceLT, Nat.reduceLeDiff, reduceCtorEq, Int.reduceToNat]) | ((first | refine qf ?_ ?_ | refine qe ?_ ?_) <;> intro hc <;> simp only [hc, go_sem, ↓reduceIte, Nat.reduceEqDiff, Nat.reduceAdd, Nat.reduceSub, Nat.reduceMul, Nat.reduceLT, Nat.reduceLeDiff, reduceCtorEq, Int.reduceToNat] <;> (try simp only [qb, qa, decide_eq_true_eq, decide_eq_false_iff_not, Bool.and_eq_true] at hc)) | refine And.intro (by first | assumption | omega | (have := qg (by assumption); omega) | (unfold qp; omega)) ?_ | ((first | simp (disch := omega) only [qr] | simp (disch := omega) only [qbb]); (try simp only [go_sem, ↓reduceIte, Nat.reduceEqDiff, Nat.reduceAdd, Nat.reduceSub, Nat.reduceMul, Nat.reduceLT, Nat.reduceLeDiff, reduceCtorEq, Int.reduceToNat])))
  · refine qby (S := Nat) (fun n => n ≤ l.length ∧ qbh qcm l = n + qbh qcm (l.drop n)) (fun n => (⟨[(0, .str l), (2, .ptr 0 0), (3, .int .i64 0), (4, .int .i64 n)], []⟩, [.blk [.int .i64 0, .int .i64 0, .int .i64 0, .str []]])) (fun n => l.length - n) ?_ fun n hn => ?_
    · refine qbn 0 [0] ⟨Nat.zero_le _, by simp⟩ rfl (by simp) ?_ ?_ ?_ <;> (try simp only [go_sem, ↓reduceIte, Nat.reduceEqDiff, Nat.reduceAdd, Nat.reduceSub, Nat.reduceMul, Nat.reduceLT, Nat.reduceLeDiff, reduceCtorEq, Int.reduceToNat]) <;> (try simp (disch := omega) only [qbb])
    · obtain ⟨hn, ha⟩ := hn
      repeat' (first | refine ql ?_ | refine qk ?_ | ((first | refine qn ?_ | refine qm ?_ | refine qs ?_ | refine qi ?_ | refine qh ?_ | refine qc (qfs _) fun _ => ?_ | refine qc (qq1 _) fun _ => ?_ | refine qd  (qfs _) ?_ | refine qd  (qq1 _) ?_); simp only [go_sem, ↓reduceIte, Nat.reduceEqDiff, Nat.reduceAdd, Nat.reduceSub, Nat.reduceMul, Nat.reduceLT, Nat.reduceLeDiff, reduceCtorEq, Int.reduceToNat]) | ((first | refine qf ?_ ?_ | refine qe ?_ ?_) <;> intro hc <;> simp only [hc, go_sem, ↓reduceIte, Nat.reduceEqDiff, Nat.reduceAdd, Nat.reduceSub, Nat.reduceMul, Nat.reduceLT, Nat.reduceLeDiff, reduceCtorEq, Int.reduceToNat] <;> (try simp only [qb, qa, decide_eq_true_eq, decide_eq_false_iff_not, Bool.and_eq_true] at hc)) | refine And.intro (by first | assumption | omega | (have := qg (by assumption); omega) | (unfold qp; omega)) ?_ | ((first | simp (disch := omega) only [qr] | simp (disch := omega) only [qbb]); (try simp only [go_sem, ↓reduceIte, Nat.reduceEqDiff, Nat.reduceAdd, Nat.reduceSub, Nat.reduceMul, Nat.reduceLT, Nat.reduceLeDiff, reduceCtorEq, Int.reduceToNat])))
      · refine qbn (n + 1) [0] ⟨⟨by omega, ql8 ha (by assumption) (by assumption)⟩, by omega⟩ rfl (by simp) ?_ ?_ ?_ <;> (try simp only [go_sem, ↓reduceIte, Nat.reduceEqDiff, Nat.reduceAdd, Nat.reduceSub, Nat.reduceMul, Nat.reduceLT, Nat.reduceLeDiff, reduceCtorEq, Int.reduceToNat]) <;> (try simp (disch := omega) only [qbb])
      · have hnn := qsq ha (by assumption) (by assumption)
        rw [qom (by assumption), ← hnn]; rfl
      · have hnn := qn7 hn ha (by assumption)
        rw [qom (by assumption), ← hnn]; rfl
  · refine qby (S := Nat) (fun n => n ≤ l.length ∧ qbh onW l = n + qbh onW (l.drop n)) (fun n => (⟨[(0, .str l), (2, .ptr 0 0), (3, .int .i64 0), (4, .int .i64 n)], []⟩, [.blk [.int .i64 0, .int .i64 0, .int .i64 0, .str []]])) (fun n => l.length - n) ?_ fun n hn => ?_
    · refine qbn 0 [0] ⟨Nat.zero_le _, by simp⟩ rfl (by simp) ?_ ?_ ?_ <;> (try simp only [go_sem, ↓reduceIte, Nat.reduceEqDiff, Nat.reduceAdd, Nat.reduceSub, Nat.reduceMul, Nat.reduceLT, Nat.reduceLeDiff, reduceCtorEq, Int.reduceToNat]) <;> (try simp (disch := omega) only [qbb])
    · obtain ⟨hn, ha⟩ := hn
      repeat' (first | refine ql ?_ | refine qk ?_ | ((first | refine qn ?_ | refine qm ?_ | refine qs ?_ | refine qi ?_ | refine qh ?_ | refine qc (qna _) fun _ => ?_ | refine qc (qf3 _) fun _ => ?_ | refine qc (qel _) fun _ => ?_ | refine qd  (qna _) ?_ | refine qd  (qf3 _) ?_ | refine qd  (qel _) ?_); simp only [go_sem, ↓reduceIte, Nat.reduceEqDiff, Nat.reduceAdd, Nat.reduceSub, Nat.reduceMul, Nat.reduceLT, Nat.reduceLeDiff, reduceCtorEq, Int.reduceToNat]) | ((first | refine qf ?_ ?_ | refine qe ?_ ?_) <;> intro hc <;> simp only [hc, go_sem, ↓reduceIte, Nat.reduceEqDiff, Nat.reduceAdd, Nat.reduceSub, Nat.reduceMul, Nat.reduceLT, Nat.reduceLeDiff, reduceCtorEq, Int.reduceToNat] <;> (try simp only [qb, qa, decide_eq_true_eq, decide_eq_false_iff_not, Bool.and_eq_true] at hc)) | refine And.intro (by first | assumption | omega | (have := qg (by assumption); omega) | (unfold qp; omega)) ?_ | ((first | simp (disch := omega) only [qr] | simp (disch := omega) only [qbb]); (try simp only [go_sem, ↓reduceIte, Nat.reduceEqDiff, Nat.reduceAdd, Nat.reduceSub, Nat.reduceMul, Nat.reduceLT, Nat.reduceLeDiff, reduceCtorEq, Int.reduceToNat])))
      · refine qbn (n + 1) [0] ⟨⟨by omega, ql8 ha (by assumption) (by assumption)⟩, by omega⟩ rfl (by simp) ?_ ?_ ?_ <;> (try simp only [go_sem, ↓reduceIte, Nat.reduceEqDiff, Nat.reduceAdd, Nat.reduceSub, Nat.reduceMul, Nat.reduceLT, Nat.reduceLeDiff, reduceCtorEq, Int.reduceToNat]) <;> (try simp (disch := omega) only [qbb])
      all_goals
        have hnn : n = qbh onW l := by first | exact qsq ha (by assumption) (by assumption) | exact qn7 hn ha (by assumption)
        rw [qq5 hne (by assumption) (.inl (by assumption)) hnn]
        clear hnn ha hn
        first | (simp only [*, if_true, if_false, reduceIte, Bool.false_eq_true, encT]; done) | (simp_all; done)
  · refine qby (S := Nat) (fun n => n ≤ l.length ∧ qbh onW l = n + qbh onW (l.drop n)) (fun n => (⟨[(0, .str l), (2, .ptr 0 0), (3, .int .i64 0), (4, .int .i64 n)], []⟩, [.blk [.int .i64 0, .int .i64 0, .int .i64 0, .str []]])) (fun n => l.length - n) ?_ fun n hn => ?_
    · refine qbn 0 [0] ⟨Nat.zero_le _, by simp⟩ rfl (by simp) ?_ ?_ ?_ <;> (try simp only [go_sem, ↓reduceIte, Nat.reduceEqDiff, Nat.reduceAdd, Nat.reduceSub, Nat.reduceMul, Nat.reduceLT, Nat.reduceLeDiff, reduceCtorEq, Int.reduceToNat]) <;> (try simp (disch := omega) only [qbb])
    · obtain ⟨hn, ha⟩ := hn
      repeat' (first | refine ql ?_ | refine qk ?_ | ((first | refine qn ?_ | refine qm ?_ | refine qs ?_ | refine qi ?_ | refine qh ?_ | refine qc (qna _) fun _ => ?_ | refine qc (qf3 _) fun _ => ?_ | refine qc (qel _) fun _ => ?_ | refine qd  (qna _) ?_ | refine qd  (qf3 _) ?_ | refine qd  (qel _) ?_); simp only [go_sem, ↓reduceIte, Nat.reduceEqDiff, Nat.reduceAdd, Nat.reduceSub, Nat.reduceMul, Nat.reduceLT, Nat.reduceLeDiff, reduceCtorEq, Int.reduceToNat]) | ((first | refine qf ?_ ?_ | refine qe ?_ ?_) <;> intro hc <;> simp only [hc, go_sem, ↓reduceIte, Nat.reduceEqDiff, Nat.reduceAdd, Nat.reduceSub, Nat.reduceMul, Nat.reduceLT, Nat.reduceLeDiff, reduceCtorEq, Int.reduceToNat] <;> (try simp only [qb, qa, decide_eq_true_eq, decide_eq_false_iff_not, Bool.and_eq_true] at hc)) | refine And.intro (by first | assumption | omega | (have := qg (by assumption); omega) | (unfold qp; omega)) ?_ | ((first | simp (disch := omega) only [qr] | simp (disch := omega) only [qbb]); (try simp only [go_sem, ↓reduceIte, Nat.reduceEqDiff, Nat.reduceAdd, Nat.reduceSub, Nat.reduceMul, Nat.reduceLT, Nat.reduceLeDiff, reduceCtorEq, Int.reduceToNat])))
      · refine qbn (n + 1) [0] ⟨⟨by omega, ql8 ha (by assumption) (by assumption)⟩, by omega⟩ rfl (by simp) ?_ ?_ ?_ <;> (try simp only [go_sem, ↓reduceIte, Nat.reduceEqDiff, Nat.reduceAdd, Nat.reduceSub, Nat.reduceMul, Nat.reduceLT, Nat.reduceLeDiff, reduceCtorEq, Int.reduceToNat]) <;> (try simp (disch := omega) only [qbb])
      all_goals
        have hnn : n = qbh onW l := by first | exact qsq ha (by assumption) (by assumption) | exact qn7 hn ha (by assumption)
        rw [qq5 hne (by assumption) (.inr (by assumption)) hnn]
        clear hnn ha hn
        first | (simp only [*, if_true, if_false, reduceIte, Bool.false_eq_true, encT]; done) | (simp_all; done)
  · have hm : qiw l = 0 := by
      apply Decidable.byContradiction
      intro hm; exact qv7 hne hm hc
    rw [qxj (by assumption) (by rw [q2i (by assumption)]; simp only [*, Bool.or_false]) hm]; rfl
  · have hm : qiw l ≠ 0 := by
      intro hm; rw [hm] at hc; exact hc rfl
    rw [qpw (by assumption) (by rw [q2i (by assumption)]; simp only [*, Bool.or_false]) hm]; rfl

theorem qj9 {l : List T} (h : l ≠ []) : qcr l ≠ [] := by cases l with | nil => exact absurd rfl h | cons _ _ => simp [qcr]
theorem qyy (t : T) : [encT t] = qcr [t] := rfl
def qzl (s : List UInt8) (x : Nat × List T) : AF × List Ent :=
  (⟨[(0, .str s), (2, .nils), (3, .int .i64 0), (4, .int .i64 0), (5, accV 0 (qcr x.2)), (6, .int .i64 x.1)], []⟩, accE 4 (qcr x.2))
theorem qtv (s : List UInt8) : qbf Tryz.prog 39 [.str s] (lexR (lexV s)) := by
  refine qu c0cx (by simp) (by simp only [go_sem]) (by simp only [lexR, go_sem]) fun hw => ?_
  have hl : s.length ≤ maxLen := hw.1
  repeat' (first | refine ql ?_ | refine qk ?_ | ((first | refine qn ?_ | refine qm ?_ | refine qs ?_ | refine qi ?_ | refine qh ?_ | refine qc (qgv _ 0 (Nat.zero_le _)) fun _ => ?_ | refine qd  (qgv _ 0 (Nat.zero_le _)) ?_); simp only [go_sem, ↓reduceIte, Nat.reduceEqDiff, Nat.reduceAdd, Nat.reduceSub, Nat.reduceMul, Nat.reduceLT, Nat.reduceLeDiff, reduceCtorEq, Int.reduceToNat]) | ((first | refine qf ?_ ?_ | refine qe ?_ ?_) <;> intro hc <;> simp only [hc, go_sem, ↓reduceIte, Nat.reduceEqDiff, Nat.reduceAdd, Nat.reduceSub, Nat.reduceMul, Nat.reduceLT, Nat.reduceLeDiff, reduceCtorEq, Int.reduceToNat] <;> (try simp only [qb, qa, decide_eq_true_eq, decide_eq_false_iff_not, Bool.and_eq_true] at hc)) | refine And.intro (by first | assumption | omega | (have := qg (by assumption); omega) | (unfold qp; omega)) ?_ | ((first | simp (disch := omega) only [qr] | simp (disch := omega) only [qbb]); (try simp only [go_sem, ↓reduceIte, Nat.reduceEqDiff, Nat.reduceAdd, Nat.reduceSub, Nat.reduceMul, Nat.reduceLT, Nat.reduceLeDiff, reduceCtorEq, Int.reduceToNat])))
  · rw [qm9 hc]; rfl
  · have hk0 := qri s
    have hs : s.length ≤ 1048576 := by omega
    refine qby (S := Nat × List T) (fun x => x.1 ≤ s.length ∧ lexG s (qcz s) = appR x.2 (lexG s x.1) ∧ x.2.length ≤ x.1) (qzl s) (fun x => s.length - x.1) ?_ ?_
    · refine qbn (qcz s, []) [] ⟨hk0, (qng _).symm, Nat.zero_le _⟩ rfl (by simp) ?_ ?_ ?_ <;> simp only [qzl, qcr, List.map_nil] <;> (try simp only [go_sem, ↓reduceIte, Nat.reduceEqDiff, Nat.reduceAdd, Nat.reduceSub, Nat.reduceMul, Nat.reduceLT, Nat.reduceLeDiff, reduceCtorEq, Int.reduceToNat]) <;> (try simp (disch := omega) only [qbb])
      all_goals simp only [Nat.zero_add]
    · rintro ⟨k, acc⟩ ⟨hk, hG, hacc⟩
      simp only at hk hG hacc
      have hn := qvz hk
      have hk2 := qvq hk
      have w1 : IntKind.i64.wrap ((k : Int) + ((qc2 (List.drop k s)).1.text.length : Nat)) = (lexN s k : Nat) := by
        rw [qe1 (by unfold lexN at hn; omega) (by unfold lexN at hn; omega)]; rfl
      have hT : AV.agg [.int .i64 (qc2 (List.drop k s)).1.kind, .int .i64 k, .int .i64 (qc2 (List.drop k s)).1.num, .str (qc2 (List.drop k s)).1.text] = encT (lexT s k) := rfl
      by_cases hA : acc = []
      · subst hA
        simp only [qzl, qcr, List.map_nil]
        repeat' (first | refine ql ?_ | refine qk ?_ | ((first | refine qn ?_ | refine qm ?_ | refine qs ?_ | refine qi ?_ | refine qh ?_); simp (disch := first | omega | (simp only [List.length_set, List.length_append, List.length_cons, List.length_nil]; done) | (simp only [List.length_set, List.length_append, List.length_cons, List.length_nil]; omega)) only [w1, go_sem, ↓reduceIte, Nat.reduceEqDiff, Nat.reduceAdd, Nat.reduceSub, Nat.reduceMul, Nat.reduceLT, Nat.reduceLeDiff, reduceCtorEq, Int.reduceToNat]) | ((first | refine qf ?_ ?_ | refine qe ?_ ?_) <;> intro hc <;> simp only [hc, go_sem, ↓reduceIte, Nat.reduceEqDiff, Nat.reduceAdd, Nat.reduceSub, Nat.reduceMul, Nat.reduceLT, Nat.reduceLeDiff, reduceCtorEq, Int.reduceToNat] <;> (try simp only [qb, qa, decide_eq_true_eq, decide_eq_false_iff_not, Bool.and_eq_true] at hc)) | refine And.intro (by first | assumption | omega | (have := qg (by assumption); omega) | (unfold qp; omega)) ?_ | ((first | simp (disch := omega) only [qr] | simp (disch := omega) only [qbb]); (try simp only [go_sem, ↓reduceIte, Nat.reduceEqDiff, Nat.reduceAdd, Nat.reduceSub, Nat.reduceMul, Nat.reduceLT, Nat.reduceLeDiff, reduceCtorEq, Int.reduceToNat])) | ((first | refine qc (qgv _ _ hn) fun _ => ?_ | refine qc (qj5 _ (by simp; omega)) fun _ => ?_ | refine qd  (qgv _ _ hn) ?_ | refine qd  (qj5 _ (by simp; omega)) ?_); simp only [go_sem, ↓reduceIte, Nat.reduceEqDiff, Nat.reduceAdd, Nat.reduceSub, Nat.reduceMul, Nat.reduceLT, Nat.reduceLeDiff, reduceCtorEq, Int.reduceToNat]))
        · rw [qlk (by assumption) (by rw [hG, qty (by omega) hc, appR, if_neg hc]; exact hc), hG, qty (by omega) hc, appR, if_neg hc]; rfl
        · have hlt := ql9 (s := s) (k := k) (by omega) hc
          refine qbn (lexK s k, [] ++ [lexT s k]) [1] ⟨⟨hk2, ?_, ?_⟩, by simp only; omega⟩ rfl (by simp) ?_ ?_ ?_
          · simp only
            rw [hG, q5f (by omega) hc, qr0]
          · simp only [List.length_append, List.length_cons, List.length_nil]; omega
          all_goals simp only [qzl, List.nil_append, hT, qyy, qb4 (qj9 (l := [lexT s k]) (by simp)), qb3 (qj9 (l := [lexT s k]) (by simp)), lexK]
          all_goals simp only [go_sem, ↓reduceIte, Nat.reduceEqDiff, Nat.reduceAdd, Nat.reduceSub, Nat.reduceMul, Nat.reduceLT, Nat.reduceLeDiff, reduceCtorEq, Int.reduceToNat]
        · rw [qoa (by assumption) (by rw [hG, qtr (by omega)]; rfl), hG, qtr (by omega)]; rfl
      · simp only [qzl, qb4 (qj9 hA), qb3 (qj9 hA)]
        repeat' (first | refine ql ?_ | refine qk ?_ | ((first | refine qn ?_ | refine qm ?_ | refine qs ?_ | refine qi ?_ | refine qh ?_); simp (disch := first | omega | (simp only [List.length_set, List.length_append, List.length_cons, List.length_nil]; done) | (simp only [List.length_set, List.length_append, List.length_cons, List.length_nil]; omega)) only [w1, go_sem, ↓reduceIte, Nat.reduceEqDiff, Nat.reduceAdd, Nat.reduceSub, Nat.reduceMul, Nat.reduceLT, Nat.reduceLeDiff, reduceCtorEq, Int.reduceToNat]) | ((first | refine qf ?_ ?_ | refine qe ?_ ?_) <;> intro hc <;> simp only [hc, go_sem, ↓reduceIte, Nat.reduceEqDiff, Nat.reduceAdd, Nat.reduceSub, Nat.reduceMul, Nat.reduceLT, Nat.reduceLeDiff, reduceCtorEq, Int.reduceToNat] <;> (try simp only [qb, qa, decide_eq_true_eq, decide_eq_false_iff_not, Bool.and_eq_true] at hc)) | refine And.intro (by first | assumption | omega | (have := qg (by assumption); omega) | (unfold qp; omega)) ?_ | ((first | simp (disch := omega) only [qr] | simp (disch := omega) only [qbb]); (try simp only [go_sem, ↓reduceIte, Nat.reduceEqDiff, Nat.reduceAdd, Nat.reduceSub, Nat.reduceMul, Nat.reduceLT, Nat.reduceLeDiff, reduceCtorEq, Int.reduceToNat])) | ((first | refine qc (qgv _ _ hn) fun _ => ?_ | refine qc (qj5 _ (by simp; omega)) fun _ => ?_ | refine qd  (qgv _ _ hn) ?_ | refine qd  (qj5 _ (by simp; omega)) ?_); simp only [go_sem, ↓reduceIte, Nat.reduceEqDiff, Nat.reduceAdd, Nat.reduceSub, Nat.reduceMul, Nat.reduceLT, Nat.reduceLeDiff, reduceCtorEq, Int.reduceToNat]))
        · rw [qlk (by assumption) (by rw [hG, qty (by omega) hc, appR, if_neg hc]; exact hc), hG, qty (by omega) hc, appR, if_neg hc]; rfl
        · have hlt := ql9 (s := s) (k := k) (by omega) hc
          refine qbn (lexK s k, acc ++ [lexT s k]) [2] ⟨⟨hk2, ?_, ?_⟩, by simp only; omega⟩ rfl (by simp) ?_ ?_ ?_
          · simp only
            rw [hG, q5f (by omega) hc, qr0]
          · simp only [List.length_append, List.length_cons, List.length_nil]; omega
          all_goals simp only [qzl, hT, qff, qb4 (qj9 (l := acc ++ [lexT s k]) (by simp)), qb3 (qj9 (l := acc ++ [lexT s k]) (by simp)), lexK]
          all_goals simp only [go_sem, ↓reduceIte, Nat.reduceEqDiff, Nat.reduceAdd, Nat.reduceSub, Nat.reduceMul, Nat.reduceLT, Nat.reduceLeDiff, reduceCtorEq, Int.reduceToNat]
        · rw [qoa (by assumption) (by rw [hG, qtr (by omega)]; rfl), hG, qtr (by omega)]
          have hen : qcr acc ++ [AV.agg [AV.int IntKind.i64 0, AV.int IntKind.i64 s.length, AV.int IntKind.i64 0, AV.str []]] = qcr (acc ++ [⟨0, s.length, 0, []⟩]) := qff acc ⟨0, s.length, 0, []⟩
          rw [hen]
          refine ⟨qhk _ _, ?_⟩
          simp only [appR, if_true, List.append_nil]
          rfl
end Go.Proofs.YtmekebfgmjaenaaGreat
