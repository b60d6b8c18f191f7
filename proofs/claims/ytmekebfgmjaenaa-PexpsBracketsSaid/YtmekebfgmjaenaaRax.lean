/- Texts of this proof, joined. -/
import Derived.Test.YtmekebfgmjaenaaRak
import Derived.Test.YtmekebfgmjaenaaRap

/- trees: count, Few, Size, Depth -/
namespace Go.Proofs.Ytmekebfgmjaenaa
open Go Go.RowKit Go.V
set_option linter.unusedVariables false
set_option linter.unusedSimpArgs false

/-! count, Few -/
mutual
def cntW : N → Int → Int
  | .mk _ _ _ _ ks, k => qbnu (IntKind.i64.wrap (k - 1)) ks
def qbnu : Int → List N → Int
  | a, [] => a
  | a, x :: r => if 0 ≤ a then qbnu (cntW x a) r else a
end
/-! the references -/
mutual
def qu9 : N → Int
  | .mk _ _ _ _ ks => qpo 1 ks
def qpo : Int → List N → Int
  | a, [] => a
  | a, x :: r => qpo (IntKind.i64.wrap (a + qu9 x)) r
end
theorem q4r (n : N) : qu9 n = qpo 1 n.kids := by cases n; rw [qu9]; rfl
mutual
def depR : N → Int
  | .mk _ _ _ _ ks => IntKind.i64.wrap (qn9 0 ks + 1)
def qn9 : Int → List N → Int
  | a, [] => a
  | a, x :: r => qn9 (if depR x > a then depR x else a) r
end
theorem qtu (n : N) : depR n = IntKind.i64.wrap (qn9 0 n.kids + 1) := by cases n; rw [depR]; rfl
set_option maxRecDepth 4000

/-- What a loop over a function does with each node. -/
structure Yld (α : Type) where
  m : Nat
  hs : α → List Ent
  i : Nat
  step : α → Int → N → α × Bool
  len : ∀ s, (hs s).length = m
  bd : ∀ s, (hs s).all (Ent.bd m) = true
  lt : i < m
  live : α → Prop
  keep : ∀ s l n, live s → (step s l n).2 = true → live (step s l n).1
  app : ∀ s l n, live s → VApp Try.prog (hs s) (.opq i) [.int .i64 l, enc n] (fun H' o => H' = hs (step s l n).1 ∧ o = .val (.bool (step s l n).2))

theorem q78 {α : Type} (y : Yld α) (s : α) : (y.hs s).length = y.m := y.len s
theorem qbpr {α : Type} (y : Yld α) (s : α) : (y.hs s).all (Ent.bd y.m) = true := y.bd s
theorem q3u {α : Type} (y : Yld α) (s : α) (L : List Ent) : (y.hs s ++ L).take y.m = y.hs s := by rw [← y.len s]; simp
theorem qbe0 {α : Type} (y : Yld α) (s : α) : (y.hs s).all (Ent.bd (y.m + 1)) = true := qbdo (by omega) (y.bd s)
theorem qbcq {α : Type} (y : Yld α) : decide (y.i < y.m + 1) = true := by have := y.lt; simp; omega
attribute [go_sem] q78 qbpr q3u qbe0 qbcq
section
variable {α : Type} (y : Yld α)
theorem q8d {s : α} {l : Int} {n : N} {L : List Ent} {Q : List Ent → VO → Prop} (hlv : y.live s) (h : Q (y.hs (y.step s l n).1 ++ L) (.val (.bool (y.step s l n).2))) : VApp Try.prog (y.hs s ++ L) (.opq y.i) [.int .i64 l, enc n] Q := by
  refine q5z (y.app s l n hlv) (by rw [y.len]; exact y.bd s) (by rw [y.len]; simpa [AV.bd] using y.lt) (by simp only [go_sem]) ?_
  rintro H1 o ⟨rfl, rfl⟩
  exact ⟨by rw [y.len, y.len], by rw [y.len]; exact y.bd _, rfl, h⟩
theorem qz8 {s s' : α} {b : Bool} {l : Int} {n : N} {L : List Ent} {Q : List Ent → VO → Prop} (hc : VCalls Try.prog 31 (y.hs s) [enc n, .int .i64 l, .opq y.i] (fun H' o => H' = y.hs s' ∧ o = .val (.bool b))) (h : Q (y.hs s' ++ L) (.val (.bool b))) : VApp Try.prog (y.hs s ++ L) (.fn 31 [] []) [enc n, .int .i64 l, .opq y.i] Q := by
  refine qgg (first := []) (caps := []) ?_
  simp only [List.nil_append, List.append_nil]
  have := y.lt
  refine qh5 hc (by rw [y.len]; exact y.bd s) (by simp only [go_sem, this]) ?_
  rintro H1 o ⟨rfl, rfl⟩
  exact ⟨by rw [y.len, y.len], by rw [y.len]; exact y.bd _, rfl, h⟩
mutual
def qej (f : α → Int → N → α × Bool) : N → Int → α → α × Bool
  | .mk k p n t ks, l, s => if (f s l (.mk k p n t ks)).2 then qfh f (IntKind.i64.wrap (l + 1)) ks (f s l (.mk k p n t ks)).1 else ((f s l (.mk k p n t ks)).1, false)
def qfh (f : α → Int → N → α × Bool) : Int → List N → α → α × Bool
  | l, [], s => (s, true)
  | l, x :: r, s => if (qej f x l s).2 then qfh f l r (qej f x l s).1 else ((qej f x l s).1, false)
end
theorem qjv (f : α → Int → N → α × Bool) (n : N) (l : Int) (s : α) : qej f n l s = if (f s l n).2 then qfh f (IntKind.i64.wrap (l + 1)) n.kids (f s l n).1 else ((f s l n).1, false) := by cases n; rw [qej]; rfl

theorem qog (l : Int) : ∀ (r : List N), (∀ x ∈ r, ∀ l s, y.live s → (qej y.step x l s).2 = true → y.live (qej y.step x l s).1) → ∀ s, y.live s → (qfh y.step l r s).2 = true → y.live (qfh y.step l r s).1
  | [], _, s, h, _ => h
  | x :: r, hx, s, h, h2 => by
    rw [qfh] at h2 ⊢
    split at h2
    · rename_i h3
      rw [if_pos h3]
      exact qog l r (fun x hx' => hx x (by simp [hx'])) _ (hx x (by simp) l s h h3) h2
    · cases h2
theorem q1d : ∀ n l s, y.live s → (qej y.step n l s).2 = true → y.live (qej y.step n l s).1 := by
  refine N.ind fun n ih l s h h2 => ?_
  rw [qjv] at h2 ⊢
  split at h2
  · rename_i h3
    rw [if_pos h3]
    exact qog y _ n.kids ih _ (y.keep s l n h h3) h2
  · cases h2

theorem qbk3 : ∀ n l s, y.live s → VCalls Try.prog 31 (y.hs s) [enc n, .int .i64 l, .opq y.i] (fun H' o => H' = y.hs (qej y.step n l s).1 ∧ o = .val (.bool (qej y.step n l s).2)) := by
  refine N.ind fun n ih l s hlv => ?_
  have hlen := y.len
  have hlt := y.lt
  refine qrh (by kernel_rfl) fun hw => ?_
  have hkl : n.kids.length ≤ maxLen := ((q7o n).1 hw.1).1
  have hbd : ∀ s, (y.hs s).all (Ent.bd (y.hs s).length) = true := fun s => by rw [y.len]; exact y.bd s
  refine q7 c0cj y.m (by rw [hlen]; exact Nat.le_refl _) (by simp) ?_
  repeat' (first | refine ql ?_ | refine qk ?_ | ((first | refine qn ?_ | refine qm ?_ | refine qz ?_ | refine qj ?_ | refine qi ?_ | refine q8d y hlv ?_ | ((first | refine qf ?_ ?_ | refine qc ?_ ?_) <;> intro hc <;> (try simp only [hc]) <;> (try simp only [qb, qa, decide_eq_true_eq, decide_eq_false_iff_not, Bool.and_eq_true] at hc)) | refine And.intro (by first | assumption | omega | (have := qh (by assumption); omega) | (unfold qs; omega)) ?_ | simp (disch := omega) only [qd] | simp (disch := omega) only [qr]) <;> (try simp only [go_sem, ↓reduceIte, Nat.reduceEqDiff, Nat.reduceAdd, Nat.reduceSub, Nat.reduceMul, Nat.reduceLT, Nat.reduceLeDiff, reduceCtorEq, Int.reduceToNat])))
  · rw [qjv, if_neg (by simpa using hc)]
    exact ⟨rfl, rfl⟩
  · refine qc7 (S := Nat × α) (fun s' => y.live s'.2 ∧ s'.1 ≤ n.kids.length ∧ qfh y.step (IntKind.i64.wrap (l + 1)) (n.kids.drop s'.1) s'.2 = qej y.step n l s) (fun s' => (⟨[(1, .int .i64 l), (2, .opq y.i), (15, .sl 5 (encs n.kids)), (16, .int .i64 n.kids.length), (17, .int .i64 s'.1)], []⟩, y.hs s'.2 ++ [.blk (enc n).cells])) (fun s => n.kids.length - s.1) ?_ fun s' hs' => ?_
    · refine qwh (0, (y.step s l n).1) [] ⟨y.keep s l n hlv (by simpa using hc), Nat.zero_le _, ?_⟩ ?_ ?_ ?_ ?_ ?_ ?_ <;> (try simp only [go_sem, ↓reduceIte, Nat.reduceEqDiff, Nat.reduceAdd, Nat.reduceSub, Nat.reduceMul, Nat.reduceLT, Nat.reduceLeDiff, reduceCtorEq, Int.reduceToNat]) <;> (try simp (disch := omega) only [qr])
      rw [qjv, if_pos (by simpa using hc)]
    · obtain ⟨i, a⟩ := s'
      obtain ⟨hla, hi, ha⟩ := hs'
      dsimp only at hi ha hla
      have hstep : i < n.kids.length → qej y.step n l s = if (qej y.step (n.kids.getD i N0) (IntKind.i64.wrap (l + 1)) a).2 then qfh y.step (IntKind.i64.wrap (l + 1)) (n.kids.drop (i + 1)) (qej y.step (n.kids.getD i N0) (IntKind.i64.wrap (l + 1)) a).1 else ((qej y.step (n.kids.getD i N0) (IntKind.i64.wrap (l + 1)) a).1, false) := fun h => by
        rw [← ha, qbc9 (l := n.kids) (i := i) h, qfh]
      repeat' (first | refine ql ?_ | refine qk ?_ | ((first | refine qn ?_ | refine qm ?_ | refine qz ?_ | refine qj ?_ | refine qi ?_ | refine qz8 y (ih _ (qpv (by omega)) _ _ hla) ?_ | ((first | refine qf ?_ ?_ | refine qc ?_ ?_) <;> intro hc <;> (try simp only [hc]) <;> (try simp only [qb, qa, decide_eq_true_eq, decide_eq_false_iff_not, Bool.and_eq_true] at hc)) | refine And.intro (by first | assumption | omega | (have := qh (by assumption); omega) | (unfold qs; omega)) ?_ | simp (disch := omega) only [qd] | simp (disch := omega) only [qr]) <;> (try simp only [go_sem, ↓reduceIte, Nat.reduceEqDiff, Nat.reduceAdd, Nat.reduceSub, Nat.reduceMul, Nat.reduceLT, Nat.reduceLeDiff, reduceCtorEq, Int.reduceToNat])))
      · rw [hstep (by omega), if_neg (by simpa using hc)]
        exact ⟨rfl, rfl⟩
      · refine qwh (i + 1, (qej y.step (n.kids.getD i N0) (IntKind.i64.wrap (l + 1)) a).1) [.blk (enc (n.kids.getD i N0)).cells] ⟨⟨q1d y _ _ _ hla (by simpa using hc), by omega, ?_⟩, by omega⟩ ?_ ?_ ?_ ?_ ?_ ?_ <;> (try simp only [go_sem, ↓reduceIte, Nat.reduceEqDiff, Nat.reduceAdd, Nat.reduceSub, Nat.reduceMul, Nat.reduceLT, Nat.reduceLeDiff, reduceCtorEq, Int.reduceToNat]) <;> (try simp (disch := omega) only [qr])
        rw [hstep (by omega), if_pos (by simpa using hc)]
      · rw [← ha, show i = n.kids.length by omega, List.drop_length]
        exact ⟨rfl, rfl⟩

theorem q6m {s s' : α} {b : Bool} {l : Int} {n : N} {Q : List Ent → VO → Prop} (hc : VCalls Try.prog 31 (y.hs s) [enc n, .int .i64 l, .opq y.i] (fun H' o => H' = y.hs s' ∧ o = .val (.bool b))) (h : Q (y.hs s') (.val (.bool b))) : VApp Try.prog (y.hs s) (.fn 31 [] []) [enc n, .int .i64 l, .opq y.i] Q := by
  have := qz8 y (L := []) (Q := Q) hc (by simpa using h)
  simpa using this

theorem qbqb {n : N} {l : Int} {s : α} {p q : Nat} (hlv : y.live s) (hp : ent (y.hs s) p = .blk (nc n)) (hq : ent (y.hs s) q = .blk [.int .i64 l]) : VCalls Try.prog 30 (y.hs s) [.opq y.i, .ptr p 0, .ptr q 0] (fun H' o => H' = y.hs (qej y.step n l s).1 ∧ o = .val (.tup [])) := by
  refine q7 c0ck y.m (by rw [y.len]; exact Nat.le_refl _) (by simp) ?_
  have ht : ∀ s, (y.hs s).take y.m = y.hs s := fun s => by rw [← y.len s]; simp
  refine qn ?_
  simp only [go_sem, hp, hq, ↓reduceIte, Nat.reduceEqDiff, Nat.reduceAdd, Nat.reduceSub, Nat.reduceMul, Nat.reduceLT, Nat.reduceLeDiff, reduceCtorEq, Int.reduceToNat]
  refine q6m y (qbk3 y _ _ _ hlv) ?_
  simp only [go_sem, ht, ↓reduceIte, Nat.reduceEqDiff, Nat.reduceAdd, Nat.reduceSub, Nat.reduceMul, Nat.reduceLT, Nat.reduceLeDiff, reduceCtorEq, Int.reduceToNat]
end

theorem qbqj (n : N) (l : Int) : VCalls Try.prog 17 [] [enc n, .int .i64 l] (fun H o => H = [.blk (enc n).cells, .blk [.int .i64 l]] ∧ o = .val (.fn 30 [] [.ptr 0 0, .ptr 1 0])) := by
  refine q7 c0cl 2 (by simp) (by simp) ?_
  repeat' (first | refine ql ?_ | ((first | refine qn ?_ | refine qm ?_ | ((first | refine qf ?_ ?_ | refine qc ?_ ?_) <;> intro hc <;> (try simp only [hc]) <;> (try simp only [qb, qa, decide_eq_true_eq, decide_eq_false_iff_not, Bool.and_eq_true] at hc)) | refine And.intro (by first | assumption | omega | (have := qh (by assumption); omega) | (unfold qs; omega)) ?_ | simp (disch := omega) only [qd] | simp (disch := omega) only [qr]) <;> (try simp only [go_sem, ↓reduceIte, Nat.reduceEqDiff, Nat.reduceAdd, Nat.reduceSub, Nat.reduceMul, Nat.reduceLT, Nat.reduceLeDiff, reduceCtorEq, Int.reduceToNat])))

/-! Size -/
/-! Depth -/
def q7n (n : N) (fn : FuncId) (asn bd : Code) (ha : qcw Try.prog 13 asn = some q0e) (hb : qcw Try.prog 13 bd = some qz6) : Yld Int where
  m := 5
  hs := fun k => [.blk (nc n), .blk [.int .i64 k], .blk (nc n), .blk [.int .i64 1], .lp ⟨.ready, none, fn, [7, 8].toArray, asn, bd⟩ (qi6 13 [(6, .fn 30 [] [.ptr 2 0, .ptr 3 0]), (5, enc n), (3, .ptr 1 0), (2, .int .i64 0), (1, .ptr 0 0), (0, enc n)])]
  i := 4
  step := fun k l _ => (if l > k then l else k, true)
  len := fun _ => rfl
  bd := fun k => by simp only [go_sem, ↓reduceIte, Nat.reduceEqDiff, Nat.reduceAdd, Nat.reduceSub, Nat.reduceMul, Nat.reduceLT, Nat.reduceLeDiff, reduceCtorEq, Int.reduceToNat]
  lt := by omega
  live := fun _ => True
  keep := fun _ _ _ _ _ => trivial
  app := fun k l x _ => by
    refine qw9 (k := 5) rfl rfl qsa ha hb (by simp) (by simp) (by simp) fun lp => ?_
    repeat' (first | refine ql ?_ | refine qk ?_ | refine qd9 ?_ | ((first | refine qn ?_ | refine qcr (by rfl) ?_ | refine qb4 ?_ | refine qef ?_ | refine qfj ?_ | refine qm ?_ | refine qz ?_ | refine qj ?_ | refine qi ?_ | ((first | refine qf ?_ ?_ | refine qc ?_ ?_) <;> intro hc <;> (try simp only [hc]) <;> (try simp only [qb, qa, decide_eq_true_eq, decide_eq_false_iff_not, Bool.and_eq_true] at hc)) | refine And.intro (by first | assumption | omega | (have := qh (by assumption); omega) | (unfold qs; omega)) ?_ | simp (disch := omega) only [qd] | simp (disch := omega) only [qr]) <;> (try simp only [go_sem, ↓reduceIte, Nat.reduceEqDiff, Nat.reduceAdd, Nat.reduceSub, Nat.reduceMul, Nat.reduceLT, Nat.reduceLeDiff, reduceCtorEq, Int.reduceToNat])))

theorem q1k (n : N) : qda Try.prog 12 [enc n] (.int .i64 (qej (fun (k : Int) l _ => (if l > k then l else k, true)) n 1 0).1) := by
  refine qb3 c0cm (by simp) (by simp only [go_sem]) rfl fun hw => ?_
  repeat' (first | refine ql ?_ | refine qk ?_ | ((first | refine qn ?_ | refine qm ?_ | ((first | refine qf ?_ ?_ | refine qc ?_ ?_) <;> intro hc <;> (try simp only [hc]) <;> (try simp only [qb, qa, decide_eq_true_eq, decide_eq_false_iff_not, Bool.and_eq_true] at hc)) | refine And.intro (by first | assumption | omega | (have := qh (by assumption); omega) | (unfold qs; omega)) ?_ | simp (disch := omega) only [qd] | simp (disch := omega) only [qr]) <;> (try simp only [go_sem, ↓reduceIte, Nat.reduceEqDiff, Nat.reduceAdd, Nat.reduceSub, Nat.reduceMul, Nat.reduceLT, Nat.reduceLeDiff, reduceCtorEq, Int.reduceToNat])))
  refine qvh (qbqj n 1) (by simp only [go_sem]) ?_
  rintro H1 o ⟨rfl, rfl⟩
  simp only [go_sem, ↓reduceIte, Nat.reduceEqDiff, Nat.reduceAdd, Nat.reduceSub, Nat.reduceMul, Nat.reduceLT, Nat.reduceLeDiff, reduceCtorEq, Int.reduceToNat]
  refine qk (q7f rfl (Nat.zero_le _) fun fn asn bd ha hb => ?_)
  refine VCalls.mono (qbqb (q7n n fn asn bd ha hb) (n := n) (l := 1) (s := 0) (p := 2) (q := 3) trivial rfl rfl) ?_
  rintro H1 o ⟨rfl, rfl⟩
  simp only [q7n, go_sem, ↓reduceIte, Nat.reduceEqDiff, Nat.reduceAdd, Nat.reduceSub, Nat.reduceMul, Nat.reduceLT, Nat.reduceLeDiff, reduceCtorEq, Int.reduceToNat]
  repeat' (first | refine ql ?_ | refine qk ?_ | ((first | refine qn ?_ | refine qm ?_ | ((first | refine qf ?_ ?_ | refine qc ?_ ?_) <;> intro hc <;> (try simp only [hc]) <;> (try simp only [qb, qa, decide_eq_true_eq, decide_eq_false_iff_not, Bool.and_eq_true] at hc)) | refine And.intro (by first | assumption | omega | (have := qh (by assumption); omega) | (unfold qs; omega)) ?_ | simp (disch := omega) only [qd] | simp (disch := omega) only [qr]) <;> (try simp only [go_sem, ↓reduceIte, Nat.reduceEqDiff, Nat.reduceAdd, Nat.reduceSub, Nat.reduceMul, Nat.reduceLT, Nat.reduceLeDiff, reduceCtorEq, Int.reduceToNat])))
set_option maxRecDepth 4000

mutual
def qqk : N → N → Bool
  | .mk k _ n t ks, .mk k' _ n' t' ks' => decide (k = k') && decide (t = t') && decide (n = n') && qd4 ks ks'
def qd4 : List N → List N → Bool
  | [], [] => true
  | x :: r, y :: r' => qqk x y && qd4 r r'
  | _, _ => false
end
theorem qh8 (a b : N) : qqk a b = (decide (a.kind = b.kind) && decide (a.text = b.text) && decide (a.num = b.num) && qd4 a.kids b.kids) := by cases a; cases b; rw [qqk]; rfl
theorem qox : ∀ {l l' : List N}, l.length ≠ l'.length → qd4 l l' = false
  | [], [], h => absurd rfl h
  | [], y :: r', _ => by rw [qd4] <;> simp
  | x :: r, [], _ => by rw [qd4] <;> simp
  | x :: r, y :: r', h => by rw [qd4, qox (l := r) (l' := r') (by simpa using h)]; simp
theorem qnh {l l' : List N} {i : Nat} (h : i < l.length) (h' : i < l'.length) : qd4 (l.drop i) (l'.drop i) = (qqk (l.getD i N0) (l'.getD i N0) && qd4 (l.drop (i + 1)) (l'.drop (i + 1))) := by
  rw [qbc9 h, qbc9 h', qd4]
theorem qx3 {l l' : List N} {i : Nat} (h : l.length ≤ i) (h' : l'.length ≤ i) : qd4 (l.drop i) (l'.drop i) = true := by
  rw [List.drop_of_length_le h, List.drop_of_length_le h', qd4]

theorem q6n {a b : N} {i : Nat} (h1 : a.kind = b.kind) (h2 : a.text = b.text) (h3 : a.num = b.num) (ha : qd4 (a.kids.drop i) (b.kids.drop i) = qd4 a.kids b.kids) : qqk a b = qd4 (a.kids.drop i) (b.kids.drop i) := by
  rw [ha, qh8]; simp [h1, h2, h3]

theorem qpi : ∀ a b, qda Try.prog 7 [enc a, enc b] (.bool (qqk a b)) := by
  refine N.ind fun a ih b => ?_
  refine qb3 c0ci (by simp) (by simp only [go_sem]) rfl fun hw => ?_
  have hkl : a.kids.length ≤ maxLen := ((q7o a).1 hw.1).1
  repeat' (first | refine ql ?_ | refine qk ?_ | ((first | refine qn ?_ | refine qcr (by rfl) ?_ | refine qb4 ?_ | refine qm ?_ | refine qz ?_ | refine qj ?_ | refine qi ?_ | ((first | refine qf ?_ ?_ | refine qc ?_ ?_) <;> intro hc <;> (try simp only [hc]) <;> (try simp only [qb, qa, decide_eq_true_eq, decide_eq_false_iff_not, Bool.and_eq_true] at hc)) | refine And.intro (by first | assumption | omega | (have := qh (by assumption); omega) | (unfold qs; omega)) ?_ | simp (disch := omega) only [qd] | simp (disch := omega) only [qr]) <;> (try simp only [go_sem, ↓reduceIte, Nat.reduceEqDiff, Nat.reduceAdd, Nat.reduceSub, Nat.reduceMul, Nat.reduceLT, Nat.reduceLeDiff, reduceCtorEq, Int.reduceToNat])))
  · rw [qh8]; simp [*]
  · rw [qh8]; simp [*]
  · rw [qh8]; simp [*]
  · rw [qh8, qox (by omega)]; simp
  rename_i h1 h2 h3
  refine qc7 (S := Nat) (fun i => i ≤ a.kids.length ∧ qd4 (a.kids.drop i) (b.kids.drop i) = qd4 a.kids b.kids) (fun i => (⟨[(2, .ptr 0 0), (3, .ptr 1 0), (36, .int .i64 a.kids.length), (37, .int .i64 i)], []⟩, [.blk (nc a), .blk (nc b)])) (fun i => a.kids.length - i) ?_ fun i hi => ?_
  · refine qcq 0 [0, 1] ⟨Nat.zero_le _, rfl⟩ rfl (by simp) ?_ ?_ ?_ <;> (try simp only [go_sem, ↓reduceIte, Nat.reduceEqDiff, Nat.reduceAdd, Nat.reduceSub, Nat.reduceMul, Nat.reduceLT, Nat.reduceLeDiff, reduceCtorEq, Int.reduceToNat]) <;> (try simp (disch := omega) only [qr])
  · obtain ⟨hi, ha⟩ := hi
    have hf := q6n h1 h2 h3 ha
    repeat' (first | refine ql ?_ | refine qk ?_ | ((first | refine qn ?_ | refine qcr (by rfl) ?_ | refine qb4 ?_ | refine qm ?_ | refine qz ?_ | refine qj ?_ | refine qi ?_ | refine qx (ih _ (qpv (by omega)) _) fun _ => ?_ | refine qba  (ih _ (qpv (by omega)) _) ?_ | ((first | refine qf ?_ ?_ | refine qc ?_ ?_) <;> intro hc <;> (try simp only [hc]) <;> (try simp only [qb, qa, decide_eq_true_eq, decide_eq_false_iff_not, Bool.and_eq_true] at hc)) | refine And.intro (by first | assumption | omega | (have := qh (by assumption); omega) | (unfold qs; omega)) ?_ | simp (disch := omega) only [qd] | simp (disch := omega) only [qr]) <;> (try simp only [go_sem, ↓reduceIte, Nat.reduceEqDiff, Nat.reduceAdd, Nat.reduceSub, Nat.reduceMul, Nat.reduceLT, Nat.reduceLeDiff, reduceCtorEq, Int.reduceToNat])))
    · rw [hf, qnh (by omega) (by omega), hc]; rfl
    · refine qcq (i + 1) [0, 1] ⟨⟨by omega, ?_⟩, by omega⟩ rfl (by simp) ?_ ?_ ?_ <;> (try simp only [go_sem, ↓reduceIte, Nat.reduceEqDiff, Nat.reduceAdd, Nat.reduceSub, Nat.reduceMul, Nat.reduceLT, Nat.reduceLeDiff, reduceCtorEq, Int.reduceToNat]) <;> (try simp (disch := omega) only [qr])
      rw [← ha, qnh (l := a.kids) (l' := b.kids) (i := i) (by omega) (by omega), hc, Bool.true_and]
    · rw [hf, qx3 (by omega) (by omega)]

/-! Strip -/
mutual
def qy : N → N
  | .mk k _ n t ks => .mk k 0 n t (qmf ks)
def qmf : List N → List N
  | [] => []
  | x :: r => qy x :: qmf r
end
theorem qne (n : N) : qy n = .mk n.kind 0 n.num n.text (qmf n.kids) := by cases n; rw [qy]; rfl
theorem qfq (l : List N) : qmf l = l.map qy := by
  induction l with
  | nil => rfl
  | cons x r ih => rw [qmf, ih]; rfl

theorem qbd (l : List N) (x : N) : encs l ++ [enc x] = encs (l ++ [x]) := by rw [qeb, qeb]; simp
end Go.Proofs.Ytmekebfgmjaenaa
