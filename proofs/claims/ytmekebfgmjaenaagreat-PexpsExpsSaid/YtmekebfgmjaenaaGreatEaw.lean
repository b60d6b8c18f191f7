/- Texts of this proof, joined. -/
import Derived.Test.YtmekebfgmjaenaaGreatEak
import Derived.Test.YtmekebfgmjaenaaGreatEan

/- trees: count, Few, Size, Depth -/
set_option maxRecDepth 4000
namespace Go.Proofs.YtmekebfgmjaenaaGreat
open Go Go.RowKit Go.V
set_option linter.unusedVariables false
set_option linter.unusedSimpArgs false

/-! count, Few -/
mutual
def cntW : N → Int → Int
  | .mk _ _ _ _ ks, k => qby8 (IntKind.i64.wrap (k - 1)) ks
def qby8 : Int → List N → Int
  | a, [] => a
  | a, x :: r => if 0 ≤ a then qby8 (cntW x a) r else a
end
/-! the references -/
mutual
def qvl : N → Int
  | .mk _ _ _ _ ks => qqz 1 ks
def qqz : Int → List N → Int
  | a, [] => a
  | a, x :: r => qqz (IntKind.i64.wrap (a + qvl x)) r
end
theorem q5m (n : N) : qvl n = qqz 1 n.kids := by cases n; rw [qvl]; rfl
mutual
def depR : N → Int
  | .mk _ _ _ _ ks => IntKind.i64.wrap (quf 0 ks + 1)
def quf : Int → List N → Int
  | a, [] => a
  | a, x :: r => quf (if depR x > a then depR x else a) r
end
theorem q1p (n : N) : depR n = IntKind.i64.wrap (quf 0 n.kids + 1) := by cases n; rw [depR]; rfl
theorem q4x : ∀ n, qbf Tryz.prog 69 [enc n] (.int .i64 (depR n)) := by
  refine N.ind fun n ih => ?_
  refine qu c0eu (by simp) (by simp only [go_sem]) rfl fun hw => ?_
  have hkl : n.kids.length ≤ maxLen := ((qtu n).1 hw.1).1
  repeat' (first | refine ql ?_ | refine qk ?_ | ((first | refine qn ?_ | refine qm ?_ | refine qs ?_ | refine qi ?_ | refine qh ?_); simp only [go_sem, ↓reduceIte, Nat.reduceEqDiff, Nat.reduceAdd, Nat.reduceSub, Nat.reduceMul, Nat.reduceLT, Nat.reduceLeDiff, reduceCtorEq, Int.reduceToNat]) | ((first | refine qf ?_ ?_ | refine qe ?_ ?_) <;> intro hc <;> simp only [hc, go_sem, ↓reduceIte, Nat.reduceEqDiff, Nat.reduceAdd, Nat.reduceSub, Nat.reduceMul, Nat.reduceLT, Nat.reduceLeDiff, reduceCtorEq, Int.reduceToNat] <;> (try simp only [qb, qa, decide_eq_true_eq, decide_eq_false_iff_not, Bool.and_eq_true] at hc)) | refine And.intro (by first | assumption | omega | (have := qg (by assumption); omega) | (unfold qp; omega)) ?_ | ((first | simp (disch := omega) only [qr] | simp (disch := omega) only [qbb]); (try simp only [go_sem, ↓reduceIte, Nat.reduceEqDiff, Nat.reduceAdd, Nat.reduceSub, Nat.reduceMul, Nat.reduceLT, Nat.reduceLeDiff, reduceCtorEq, Int.reduceToNat])))
  refine qby (S := Nat × Int) (fun s => s.1 ≤ n.kids.length ∧ IntKind.i64.wrap (quf s.2 (n.kids.drop s.1) + 1) = depR n) (fun s => (⟨[(1, .ptr 0 0), (3, .int .i64 s.2), (4, .int .i64 s.1)], []⟩, [.blk (enc n).cells])) (fun s => n.kids.length - s.1) ?_ fun s hs => ?_
  · refine qbn (0, 0) [0] ⟨Nat.zero_le _, (q1p n).symm⟩ rfl (by simp) ?_ ?_ ?_ <;> (try simp only [go_sem, ↓reduceIte, Nat.reduceEqDiff, Nat.reduceAdd, Nat.reduceSub, Nat.reduceMul, Nat.reduceLT, Nat.reduceLeDiff, reduceCtorEq, Int.reduceToNat]) <;> (try simp (disch := omega) only [qbb])
  · obtain ⟨i, a⟩ := s
    obtain ⟨hi, ha⟩ := hs
    dsimp only at hi ha
    repeat' (first | refine ql ?_ | refine qk ?_ | ((first | refine qn ?_ | refine qm ?_ | refine qs ?_ | refine qi ?_ | refine qh ?_ | refine qc (ih _ (qen (by omega))) fun _ => ?_ | refine qd  (ih _ (qen (by omega))) ?_); simp only [go_sem, ↓reduceIte, Nat.reduceEqDiff, Nat.reduceAdd, Nat.reduceSub, Nat.reduceMul, Nat.reduceLT, Nat.reduceLeDiff, reduceCtorEq, Int.reduceToNat]) | ((first | refine qf ?_ ?_ | refine qe ?_ ?_) <;> intro hc <;> simp only [hc, go_sem, ↓reduceIte, Nat.reduceEqDiff, Nat.reduceAdd, Nat.reduceSub, Nat.reduceMul, Nat.reduceLT, Nat.reduceLeDiff, reduceCtorEq, Int.reduceToNat] <;> (try simp only [qb, qa, decide_eq_true_eq, decide_eq_false_iff_not, Bool.and_eq_true] at hc)) | refine And.intro (by first | assumption | omega | (have := qg (by assumption); omega) | (unfold qp; omega)) ?_ | ((first | simp (disch := omega) only [qr] | simp (disch := omega) only [qbb]); (try simp only [go_sem, ↓reduceIte, Nat.reduceEqDiff, Nat.reduceAdd, Nat.reduceSub, Nat.reduceMul, Nat.reduceLT, Nat.reduceLeDiff, reduceCtorEq, Int.reduceToNat])))
    · refine qbn (i + 1, if depR (n.kids.getD i N0) > a then depR (n.kids.getD i N0) else a) [0] ⟨⟨by omega, ?_⟩, by omega⟩ rfl (by simp) ?_ ?_ ?_ <;> (try simp only [go_sem, ↓reduceIte, Nat.reduceEqDiff, Nat.reduceAdd, Nat.reduceSub, Nat.reduceMul, Nat.reduceLT, Nat.reduceLeDiff, reduceCtorEq, Int.reduceToNat]) <;> (try simp (disch := omega) only [qbb])
      rw [← ha, q48 (l := n.kids) (i := i) (by omega), quf]
    · rw [← ha, show i = n.kids.length by omega, List.drop_length]; rfl
set_option maxRecDepth 4000

/-- What a loop over a function does with each node. -/
structure Yld (α : Type) where
  m : Nat
  hs : α → List Ent
  i : Nat
  step : α → Int → N → α × Bool
  len : ∀ s, (hs s).length = m
  bd : ∀ s, (hs s).all (Ent.bd m) = true
  lt : i < m
  live : α → Prop
  keep : ∀ s l n, live s → (step s l n).2 = true → live (step s l n).1
  app : ∀ s l n, live s → VApp Tryz.prog (hs s) (.opq i) [.int .i64 l, enc n] (fun H' o => H' = hs (step s l n).1 ∧ o = .val (.bool (step s l n).2))

theorem qbs0 {α : Type} (y : Yld α) (s : α) : (y.hs s).length = y.m := y.len s
theorem qb6o {α : Type} (y : Yld α) (s : α) : (y.hs s).all (Ent.bd y.m) = true := y.bd s
theorem q8g {α : Type} (y : Yld α) (s : α) (L : List Ent) : (y.hs s ++ L).take y.m = y.hs s := by rw [← y.len s]; simp
theorem qbqc {α : Type} (y : Yld α) (s : α) : (y.hs s).all (Ent.bd (y.m + 1)) = true := qbvh (by omega) (y.bd s)
theorem qbfv {α : Type} (y : Yld α) : decide (y.i < y.m + 1) = true := by have := y.lt; simp; omega
attribute [go_sem] qbs0 qb6o q8g qbqc qbfv
section
variable {α : Type} (y : Yld α)
theorem qbe3 {s : α} {l : Int} {n : N} {L : List Ent} {Q : List Ent → VO → Prop} (hlv : y.live s) (h : Q (y.hs (y.step s l n).1 ++ L) (.val (.bool (y.step s l n).2))) : VApp Tryz.prog (y.hs s ++ L) (.opq y.i) [.int .i64 l, enc n] Q := by
  refine q7g (y.app s l n hlv) (by rw [y.len]; exact y.bd s) (by rw [y.len]; simpa [AV.bd] using y.lt) (by simp only [go_sem]) ?_
  rintro H1 o ⟨rfl, rfl⟩
  exact ⟨by rw [y.len, y.len], by rw [y.len]; exact y.bd _, rfl, h⟩
theorem q4f {s s' : α} {b : Bool} {l : Int} {n : N} {L : List Ent} {Q : List Ent → VO → Prop} (hc : VCalls Tryz.prog 100 (y.hs s) [enc n, .int .i64 l, .opq y.i] (fun H' o => H' = y.hs s' ∧ o = .val (.bool b))) (h : Q (y.hs s' ++ L) (.val (.bool b))) : VApp Tryz.prog (y.hs s ++ L) (.fn 100 [] []) [enc n, .int .i64 l, .opq y.i] Q := by
  refine qhw (first := []) (caps := []) ?_
  simp only [List.nil_append, List.append_nil]
  have := y.lt
  refine qju hc (by rw [y.len]; exact y.bd s) (by simp only [go_sem, this]) ?_
  rintro H1 o ⟨rfl, rfl⟩
  exact ⟨by rw [y.len, y.len], by rw [y.len]; exact y.bd _, rfl, h⟩
mutual
def qd8 (f : α → Int → N → α × Bool) : N → Int → α → α × Bool
  | .mk k p n t ks, l, s => if (f s l (.mk k p n t ks)).2 then qer f (IntKind.i64.wrap (l + 1)) ks (f s l (.mk k p n t ks)).1 else ((f s l (.mk k p n t ks)).1, false)
def qer (f : α → Int → N → α × Bool) : Int → List N → α → α × Bool
  | l, [], s => (s, true)
  | l, x :: r, s => if (qd8 f x l s).2 then qer f l r (qd8 f x l s).1 else ((qd8 f x l s).1, false)
end
theorem qij (f : α → Int → N → α × Bool) (n : N) (l : Int) (s : α) : qd8 f n l s = if (f s l n).2 then qer f (IntKind.i64.wrap (l + 1)) n.kids (f s l n).1 else ((f s l n).1, false) := by cases n; rw [qd8]; rfl

theorem qp9 (l : Int) : ∀ (r : List N), (∀ x ∈ r, ∀ l s, y.live s → (qd8 y.step x l s).2 = true → y.live (qd8 y.step x l s).1) → ∀ s, y.live s → (qer y.step l r s).2 = true → y.live (qer y.step l r s).1
  | [], _, s, h, _ => h
  | x :: r, hx, s, h, h2 => by
    rw [qer] at h2 ⊢
    split at h2
    · rename_i h3
      rw [if_pos h3]
      exact qp9 l r (fun x hx' => hx x (by simp [hx'])) _ (hx x (by simp) l s h h3) h2
    · cases h2
theorem q2l : ∀ n l s, y.live s → (qd8 y.step n l s).2 = true → y.live (qd8 y.step n l s).1 := by
  refine N.ind fun n ih l s h h2 => ?_
  rw [qij] at h2 ⊢
  split at h2
  · rename_i h3
    rw [if_pos h3]
    exact qp9 y _ n.kids ih _ (y.keep s l n h h3) h2
  · cases h2

theorem qb34 : ∀ n l s, y.live s → VCalls Tryz.prog 100 (y.hs s) [enc n, .int .i64 l, .opq y.i] (fun H' o => H' = y.hs (qd8 y.step n l s).1 ∧ o = .val (.bool (qd8 y.step n l s).2)) := by
  refine N.ind fun n ih l s hlv => ?_
  have hlen := y.len
  have hlt := y.lt
  refine qs6 (by kernel_rfl) fun hw => ?_
  have hkl : n.kids.length ≤ maxLen := ((qtu n).1 hw.1).1
  have hbd : ∀ s, (y.hs s).all (Ent.bd (y.hs s).length) = true := fun s => by rw [y.len]; exact y.bd s
  refine qbe c0eq y.m (by rw [hlen]; exact Nat.le_refl _) (by simp) ?_
  repeat' (first | refine ql ?_ | refine qk ?_ | ((first | refine qn ?_ | refine qm ?_ | refine qs ?_ | refine qi ?_ | refine qh ?_ | refine qbe3 y hlv ?_); simp only [go_sem, ↓reduceIte, Nat.reduceEqDiff, Nat.reduceAdd, Nat.reduceSub, Nat.reduceMul, Nat.reduceLT, Nat.reduceLeDiff, reduceCtorEq, Int.reduceToNat]) | ((first | refine qf ?_ ?_ | refine qe ?_ ?_) <;> intro hc <;> simp only [hc, go_sem, ↓reduceIte, Nat.reduceEqDiff, Nat.reduceAdd, Nat.reduceSub, Nat.reduceMul, Nat.reduceLT, Nat.reduceLeDiff, reduceCtorEq, Int.reduceToNat] <;> (try simp only [qb, qa, decide_eq_true_eq, decide_eq_false_iff_not, Bool.and_eq_true] at hc)) | refine And.intro (by first | assumption | omega | (have := qg (by assumption); omega) | (unfold qp; omega)) ?_ | ((first | simp (disch := omega) only [qr] | simp (disch := omega) only [qbb]); (try simp only [go_sem, ↓reduceIte, Nat.reduceEqDiff, Nat.reduceAdd, Nat.reduceSub, Nat.reduceMul, Nat.reduceLT, Nat.reduceLeDiff, reduceCtorEq, Int.reduceToNat])))
  · rw [qij, if_neg (by simpa using hc)]
    exact ⟨rfl, rfl⟩
  · refine qby (S := Nat × α) (fun s' => y.live s'.2 ∧ s'.1 ≤ n.kids.length ∧ qer y.step (IntKind.i64.wrap (l + 1)) (n.kids.drop s'.1) s'.2 = qd8 y.step n l s) (fun s' => (⟨[(1, .int .i64 l), (2, .opq y.i), (15, .sl 5 (encs n.kids)), (16, .int .i64 n.kids.length), (17, .int .i64 s'.1)], []⟩, y.hs s'.2 ++ [.blk (enc n).cells])) (fun s => n.kids.length - s.1) ?_ fun s' hs' => ?_
    · refine qw3 (0, (y.step s l n).1) [] ⟨y.keep s l n hlv (by simpa using hc), Nat.zero_le _, ?_⟩ ?_ ?_ ?_ ?_ ?_ ?_ <;> (try simp only [go_sem, ↓reduceIte, Nat.reduceEqDiff, Nat.reduceAdd, Nat.reduceSub, Nat.reduceMul, Nat.reduceLT, Nat.reduceLeDiff, reduceCtorEq, Int.reduceToNat]) <;> (try simp (disch := omega) only [qbb])
      rw [qij, if_pos (by simpa using hc)]
    · obtain ⟨i, a⟩ := s'
      obtain ⟨hla, hi, ha⟩ := hs'
      dsimp only at hi ha hla
      have hstep : i < n.kids.length → qd8 y.step n l s = if (qd8 y.step (n.kids.getD i N0) (IntKind.i64.wrap (l + 1)) a).2 then qer y.step (IntKind.i64.wrap (l + 1)) (n.kids.drop (i + 1)) (qd8 y.step (n.kids.getD i N0) (IntKind.i64.wrap (l + 1)) a).1 else ((qd8 y.step (n.kids.getD i N0) (IntKind.i64.wrap (l + 1)) a).1, false) := fun h => by
        rw [← ha, q48 (l := n.kids) (i := i) h, qer]
      repeat' (first | refine ql ?_ | refine qk ?_ | ((first | refine qn ?_ | refine qm ?_ | refine qs ?_ | refine qi ?_ | refine qh ?_ | refine q4f y (ih _ (qen (by omega)) _ _ hla) ?_); simp only [go_sem, ↓reduceIte, Nat.reduceEqDiff, Nat.reduceAdd, Nat.reduceSub, Nat.reduceMul, Nat.reduceLT, Nat.reduceLeDiff, reduceCtorEq, Int.reduceToNat]) | ((first | refine qf ?_ ?_ | refine qe ?_ ?_) <;> intro hc <;> simp only [hc, go_sem, ↓reduceIte, Nat.reduceEqDiff, Nat.reduceAdd, Nat.reduceSub, Nat.reduceMul, Nat.reduceLT, Nat.reduceLeDiff, reduceCtorEq, Int.reduceToNat] <;> (try simp only [qb, qa, decide_eq_true_eq, decide_eq_false_iff_not, Bool.and_eq_true] at hc)) | refine And.intro (by first | assumption | omega | (have := qg (by assumption); omega) | (unfold qp; omega)) ?_ | ((first | simp (disch := omega) only [qr] | simp (disch := omega) only [qbb]); (try simp only [go_sem, ↓reduceIte, Nat.reduceEqDiff, Nat.reduceAdd, Nat.reduceSub, Nat.reduceMul, Nat.reduceLT, Nat.reduceLeDiff, reduceCtorEq, Int.reduceToNat])))
      · rw [hstep (by omega), if_neg (by simpa using hc)]
        exact ⟨rfl, rfl⟩
      · refine qw3 (i + 1, (qd8 y.step (n.kids.getD i N0) (IntKind.i64.wrap (l + 1)) a).1) [.blk (enc (n.kids.getD i N0)).cells] ⟨⟨q2l y _ _ _ hla (by simpa using hc), by omega, ?_⟩, by omega⟩ ?_ ?_ ?_ ?_ ?_ ?_ <;> (try simp only [go_sem, ↓reduceIte, Nat.reduceEqDiff, Nat.reduceAdd, Nat.reduceSub, Nat.reduceMul, Nat.reduceLT, Nat.reduceLeDiff, reduceCtorEq, Int.reduceToNat]) <;> (try simp (disch := omega) only [qbb])
        rw [hstep (by omega), if_pos (by simpa using hc)]
      · rw [← ha, show i = n.kids.length by omega, List.drop_length]
        exact ⟨rfl, rfl⟩

theorem qbbm {s s' : α} {b : Bool} {l : Int} {n : N} {Q : List Ent → VO → Prop} (hc : VCalls Tryz.prog 100 (y.hs s) [enc n, .int .i64 l, .opq y.i] (fun H' o => H' = y.hs s' ∧ o = .val (.bool b))) (h : Q (y.hs s') (.val (.bool b))) : VApp Tryz.prog (y.hs s) (.fn 100 [] []) [enc n, .int .i64 l, .opq y.i] Q := by
  have := q4f y (L := []) (Q := Q) hc (by simpa using h)
  simpa using this

theorem qb4i {n : N} {l : Int} {s : α} {p q : Nat} (hlv : y.live s) (hp : ent (y.hs s) p = .blk (nc n)) (hq : ent (y.hs s) q = .blk [.int .i64 l]) : VCalls Tryz.prog 99 (y.hs s) [.opq y.i, .ptr p 0, .ptr q 0] (fun H' o => H' = y.hs (qd8 y.step n l s).1 ∧ o = .val (.tup [])) := by
  refine qbe c0er y.m (by rw [y.len]; exact Nat.le_refl _) (by simp) ?_
  have ht : ∀ s, (y.hs s).take y.m = y.hs s := fun s => by rw [← y.len s]; simp
  refine qn ?_
  simp only [go_sem, hp, hq, ↓reduceIte, Nat.reduceEqDiff, Nat.reduceAdd, Nat.reduceSub, Nat.reduceMul, Nat.reduceLT, Nat.reduceLeDiff, reduceCtorEq, Int.reduceToNat]
  refine qbbm y (qb34 y _ _ _ hlv) ?_
  simp only [go_sem, ht, ↓reduceIte, Nat.reduceEqDiff, Nat.reduceAdd, Nat.reduceSub, Nat.reduceMul, Nat.reduceLT, Nat.reduceLeDiff, reduceCtorEq, Int.reduceToNat]
end

theorem qby2 (n : N) (l : Int) : VCalls Tryz.prog 66 [] [enc n, .int .i64 l] (fun H o => H = [.blk (enc n).cells, .blk [.int .i64 l]] ∧ o = .val (.fn 99 [] [.ptr 0 0, .ptr 1 0])) := by
  refine qbe c0es 2 (by simp) (by simp) ?_
  repeat' (first | refine ql ?_ | ((first | refine qn ?_ | refine qm ?_); simp only [go_sem, ↓reduceIte, Nat.reduceEqDiff, Nat.reduceAdd, Nat.reduceSub, Nat.reduceMul, Nat.reduceLT, Nat.reduceLeDiff, reduceCtorEq, Int.reduceToNat]) | ((first | refine qf ?_ ?_ | refine qe ?_ ?_) <;> intro hc <;> simp only [hc, go_sem, ↓reduceIte, Nat.reduceEqDiff, Nat.reduceAdd, Nat.reduceSub, Nat.reduceMul, Nat.reduceLT, Nat.reduceLeDiff, reduceCtorEq, Int.reduceToNat] <;> (try simp only [qb, qa, decide_eq_true_eq, decide_eq_false_iff_not, Bool.and_eq_true] at hc)) | refine And.intro (by first | assumption | omega | (have := qg (by assumption); omega) | (unfold qp; omega)) ?_ | fail)

/-! Size -/
/-! Depth -/
def qbdp (n : N) (fn : FuncId) (asn bd : Code) (ha : qde Tryz.prog 13 asn = some q3z) (hb : qde Tryz.prog 13 bd = some q03) : Yld Int where
  m := 5
  hs := fun k => [.blk (nc n), .blk [.int .i64 k], .blk (nc n), .blk [.int .i64 1], .lp ⟨.ready, none, fn, [7, 8].toArray, asn, bd⟩ (qka 13 [(6, .fn 99 [] [.ptr 2 0, .ptr 3 0]), (5, enc n), (3, .ptr 1 0), (2, .int .i64 0), (1, .ptr 0 0), (0, enc n)])]
  i := 4
  step := fun k l _ => (if l > k then l else k, true)
  len := fun _ => rfl
  bd := fun k => by simp only [go_sem, ↓reduceIte, Nat.reduceEqDiff, Nat.reduceAdd, Nat.reduceSub, Nat.reduceMul, Nat.reduceLT, Nat.reduceLeDiff, reduceCtorEq, Int.reduceToNat]
  lt := by omega
  live := fun _ => True
  keep := fun _ _ _ _ _ => trivial
  app := fun k l x _ => by
    refine qp4 (k := 5) rfl rfl qpg ha hb (by simp) (by simp) (by simp) fun lp => ?_
    repeat' (first | refine ql ?_ | refine qk ?_ | refine qe0 ?_ | ((first | refine qn ?_ | refine qbc (by rfl) ?_ | refine qy ?_ | refine qew ?_ | refine qgh ?_ | refine qm ?_ | refine qs ?_ | refine qi ?_ | refine qh ?_); simp only [go_sem, ↓reduceIte, Nat.reduceEqDiff, Nat.reduceAdd, Nat.reduceSub, Nat.reduceMul, Nat.reduceLT, Nat.reduceLeDiff, reduceCtorEq, Int.reduceToNat]) | ((first | refine qf ?_ ?_ | refine qe ?_ ?_) <;> intro hc <;> simp only [hc, go_sem, ↓reduceIte, Nat.reduceEqDiff, Nat.reduceAdd, Nat.reduceSub, Nat.reduceMul, Nat.reduceLT, Nat.reduceLeDiff, reduceCtorEq, Int.reduceToNat] <;> (try simp only [qb, qa, decide_eq_true_eq, decide_eq_false_iff_not, Bool.and_eq_true] at hc)) | refine And.intro (by first | assumption | omega | (have := qg (by assumption); omega) | (unfold qp; omega)) ?_ | ((first | simp (disch := omega) only [qr] | simp (disch := omega) only [qbb]); (try simp only [go_sem, ↓reduceIte, Nat.reduceEqDiff, Nat.reduceAdd, Nat.reduceSub, Nat.reduceMul, Nat.reduceLT, Nat.reduceLeDiff, reduceCtorEq, Int.reduceToNat])))

theorem q4y (n : N) : qbf Tryz.prog 38 [enc n] (.int .i64 (qd8 (fun (k : Int) l _ => (if l > k then l else k, true)) n 1 0).1) := by
  refine qu c0et (by simp) (by simp only [go_sem]) rfl fun hw => ?_
  repeat' (first | refine ql ?_ | refine qk ?_ | ((first | refine qn ?_ | refine qm ?_); simp only [go_sem, ↓reduceIte, Nat.reduceEqDiff, Nat.reduceAdd, Nat.reduceSub, Nat.reduceMul, Nat.reduceLT, Nat.reduceLeDiff, reduceCtorEq, Int.reduceToNat]) | ((first | refine qf ?_ ?_ | refine qe ?_ ?_) <;> intro hc <;> simp only [hc, go_sem, ↓reduceIte, Nat.reduceEqDiff, Nat.reduceAdd, Nat.reduceSub, Nat.reduceMul, Nat.reduceLT, Nat.reduceLeDiff, reduceCtorEq, Int.reduceToNat] <;> (try simp only [qb, qa, decide_eq_true_eq, decide_eq_false_iff_not, Bool.and_eq_true] at hc)) | refine And.intro (by first | assumption | omega | (have := qg (by assumption); omega) | (unfold qp; omega)) ?_ | fail)
  refine qrr (qby2 n 1) (by simp only [go_sem]) ?_
  rintro H1 o ⟨rfl, rfl⟩
  simp only [go_sem, ↓reduceIte, Nat.reduceEqDiff, Nat.reduceAdd, Nat.reduceSub, Nat.reduceMul, Nat.reduceLT, Nat.reduceLeDiff, reduceCtorEq, Int.reduceToNat]
  refine qk (q3e rfl (Nat.zero_le _) fun fn asn bd ha hb => ?_)
  refine VCalls.mono (qb4i (qbdp n fn asn bd ha hb) (n := n) (l := 1) (s := 0) (p := 2) (q := 3) trivial rfl rfl) ?_
  rintro H1 o ⟨rfl, rfl⟩
  simp only [qbdp, go_sem, ↓reduceIte, Nat.reduceEqDiff, Nat.reduceAdd, Nat.reduceSub, Nat.reduceMul, Nat.reduceLT, Nat.reduceLeDiff, reduceCtorEq, Int.reduceToNat]
  repeat' (first | refine ql ?_ | refine qk ?_ | ((first | refine qn ?_ | refine qm ?_); simp only [go_sem, ↓reduceIte, Nat.reduceEqDiff, Nat.reduceAdd, Nat.reduceSub, Nat.reduceMul, Nat.reduceLT, Nat.reduceLeDiff, reduceCtorEq, Int.reduceToNat]) | ((first | refine qf ?_ ?_ | refine qe ?_ ?_) <;> intro hc <;> simp only [hc, go_sem, ↓reduceIte, Nat.reduceEqDiff, Nat.reduceAdd, Nat.reduceSub, Nat.reduceMul, Nat.reduceLT, Nat.reduceLeDiff, reduceCtorEq, Int.reduceToNat] <;> (try simp only [qb, qa, decide_eq_true_eq, decide_eq_false_iff_not, Bool.and_eq_true] at hc)) | refine And.intro (by first | assumption | omega | (have := qg (by assumption); omega) | (unfold qp; omega)) ?_ | fail)
set_option maxRecDepth 4000

mutual
def qb62 : N → N → Bool
  | .mk k _ n t ks, .mk k' _ n' t' ks' => decide (k = k') && decide (t = t') && decide (n = n') && qp3 ks ks'
def qp3 : List N → List N → Bool
  | [], [] => true
  | x :: r, y :: r' => qb62 x y && qp3 r r'
  | _, _ => false
end
theorem qzb : ∀ {l l' : List N}, l.length ≠ l'.length → qp3 l l' = false
  | [], [], h => absurd rfl h
  | [], y :: r', _ => by rw [qp3] <;> simp
  | x :: r, [], _ => by rw [qp3] <;> simp
  | x :: r, y :: r', h => by rw [qp3, qzb (l := r) (l' := r') (by simpa using h)]; simp
mutual
def qut : N → N → Bool
  | .mk k p n t ks, .mk k' p' n' t' ks' => decide (p = p') && decide (k = k') && decide (t = t') && decide (n = n') && qe8 ks ks'
def qe8 : List N → List N → Bool
  | [], [] => true
  | x :: r, y :: r' => qut x y && qe8 r r'
  | _, _ => false
end
theorem qic (a b : N) : qut a b = (decide (a.pos = b.pos) && decide (a.kind = b.kind) && decide (a.text = b.text) && decide (a.num = b.num) && qe8 a.kids b.kids) := by cases a; cases b; rw [qut]; rfl
theorem qq3 : ∀ {l l' : List N}, l.length ≠ l'.length → qe8 l l' = false
  | [], [], h => absurd rfl h
  | [], y :: r', _ => by rw [qe8] <;> simp
  | x :: r, [], _ => by rw [qe8] <;> simp
  | x :: r, y :: r', h => by rw [qe8, qq3 (l := r) (l' := r') (by simpa using h)]; simp
theorem qor {l l' : List N} {i : Nat} (h : i < l.length) (h' : i < l'.length) : qe8 (l.drop i) (l'.drop i) = (qut (l.getD i N0) (l'.getD i N0) && qe8 (l.drop (i + 1)) (l'.drop (i + 1))) := by
  rw [q48 h, q48 h', qe8]
theorem qz9 {l l' : List N} {i : Nat} (h : l.length ≤ i) (h' : l'.length ≤ i) : qe8 (l.drop i) (l'.drop i) = true := by
  rw [List.drop_of_length_le h, List.drop_of_length_le h', qe8]
theorem q5y {a b : N} {i : Nat} (h0 : a.pos = b.pos) (h1 : a.kind = b.kind) (h2 : a.text = b.text) (h3 : a.num = b.num) (ha : qe8 (a.kids.drop i) (b.kids.drop i) = qe8 a.kids b.kids) : qut a b = qe8 (a.kids.drop i) (b.kids.drop i) := by
  rw [ha, qic]; simp [h0, h1, h2, h3]
theorem q0h : ∀ a b, qbf Tryz.prog 14 [enc a, enc b] (.bool (qut a b)) := by
  refine N.ind fun a ih b => ?_
  refine qu c0ep (by simp) (by simp only [go_sem]) rfl fun hw => ?_
  have hkl : a.kids.length ≤ maxLen := ((qtu a).1 hw.1).1
  repeat' (first | refine ql ?_ | refine qk ?_ | ((first | refine qn ?_ | refine qbc (by rfl) ?_ | refine qy ?_ | refine qm ?_ | refine qs ?_ | refine qi ?_ | refine qh ?_); simp only [go_sem, ↓reduceIte, Nat.reduceEqDiff, Nat.reduceAdd, Nat.reduceSub, Nat.reduceMul, Nat.reduceLT, Nat.reduceLeDiff, reduceCtorEq, Int.reduceToNat]) | ((first | refine qf ?_ ?_ | refine qe ?_ ?_) <;> intro hc <;> simp only [hc, go_sem, ↓reduceIte, Nat.reduceEqDiff, Nat.reduceAdd, Nat.reduceSub, Nat.reduceMul, Nat.reduceLT, Nat.reduceLeDiff, reduceCtorEq, Int.reduceToNat] <;> (try simp only [qb, qa, decide_eq_true_eq, decide_eq_false_iff_not, Bool.and_eq_true] at hc)) | refine And.intro (by first | assumption | omega | (have := qg (by assumption); omega) | (unfold qp; omega)) ?_ | ((first | simp (disch := omega) only [qr] | simp (disch := omega) only [qbb]); (try simp only [go_sem, ↓reduceIte, Nat.reduceEqDiff, Nat.reduceAdd, Nat.reduceSub, Nat.reduceMul, Nat.reduceLT, Nat.reduceLeDiff, reduceCtorEq, Int.reduceToNat])))
  · rw [qic]; simp [*]
  · rw [qic]; simp [*]
  · rw [qic]; simp [*]
  · rw [qic]; simp [*]
  · rw [qic, qq3 (by omega)]; simp
  rename_i h0 h1 h2 h3
  refine qby (S := Nat) (fun i => i ≤ a.kids.length ∧ qe8 (a.kids.drop i) (b.kids.drop i) = qe8 a.kids b.kids) (fun i => (⟨[(2, .ptr 0 0), (3, .ptr 1 0), (5, .int .i64 i)], []⟩, [.blk (nc a), .blk (nc b)])) (fun i => a.kids.length - i) ?_ fun i hi => ?_
  · refine qbn 0 [0, 1] ⟨Nat.zero_le _, rfl⟩ rfl (by simp) ?_ ?_ ?_ <;> (try simp only [go_sem, ↓reduceIte, Nat.reduceEqDiff, Nat.reduceAdd, Nat.reduceSub, Nat.reduceMul, Nat.reduceLT, Nat.reduceLeDiff, reduceCtorEq, Int.reduceToNat]) <;> (try simp (disch := omega) only [qbb])
  · obtain ⟨hi, ha⟩ := hi
    have hf := q5y h0 h1 h2 h3 ha
    repeat' (first | refine ql ?_ | refine qk ?_ | ((first | refine qn ?_ | refine qbc (by rfl) ?_ | refine qy ?_ | refine qm ?_ | refine qs ?_ | refine qi ?_ | refine qh ?_ | refine qc (ih _ (qen (by omega)) _) fun _ => ?_ | refine qd  (ih _ (qen (by omega)) _) ?_); simp only [go_sem, ↓reduceIte, Nat.reduceEqDiff, Nat.reduceAdd, Nat.reduceSub, Nat.reduceMul, Nat.reduceLT, Nat.reduceLeDiff, reduceCtorEq, Int.reduceToNat]) | ((first | refine qf ?_ ?_ | refine qe ?_ ?_) <;> intro hc <;> simp only [hc, go_sem, ↓reduceIte, Nat.reduceEqDiff, Nat.reduceAdd, Nat.reduceSub, Nat.reduceMul, Nat.reduceLT, Nat.reduceLeDiff, reduceCtorEq, Int.reduceToNat] <;> (try simp only [qb, qa, decide_eq_true_eq, decide_eq_false_iff_not, Bool.and_eq_true] at hc)) | refine And.intro (by first | assumption | omega | (have := qg (by assumption); omega) | (unfold qp; omega)) ?_ | ((first | simp (disch := omega) only [qr] | simp (disch := omega) only [qbb]); (try simp only [go_sem, ↓reduceIte, Nat.reduceEqDiff, Nat.reduceAdd, Nat.reduceSub, Nat.reduceMul, Nat.reduceLT, Nat.reduceLeDiff, reduceCtorEq, Int.reduceToNat])))
    · rw [hf, qor (by omega) (by omega), hc]; rfl
    · refine qbn (i + 1) [0, 1] ⟨⟨by omega, ?_⟩, by omega⟩ rfl (by simp) ?_ ?_ ?_ <;> (try simp only [go_sem, ↓reduceIte, Nat.reduceEqDiff, Nat.reduceAdd, Nat.reduceSub, Nat.reduceMul, Nat.reduceLT, Nat.reduceLeDiff, reduceCtorEq, Int.reduceToNat]) <;> (try simp (disch := omega) only [qbb])
      rw [← ha, qor (l := a.kids) (l' := b.kids) (i := i) (by omega) (by omega), hc, Bool.true_and]
    · rw [hf, qz9 (by omega) (by omega)]

/-! Strip -/
theorem qz (l : List N) (x : N) : encs l ++ [enc x] = encs (l ++ [x]) := by rw [qfm, qfm]; simp
end Go.Proofs.YtmekebfgmjaenaaGreat
