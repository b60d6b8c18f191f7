/- Texts of this proof, joined. -/
import Derived.Test.YtfjbmjplnmaclaaWak
import Derived.Test.YtfjbmjplnmaclaaWan

/- trees: count, Few, Size, Depth -/
set_option maxRecDepth 4000
namespace Go.Proofs.Ytfjbmjplnmaclaa
open Go Go.RowKit Go.V
set_option linter.unusedVariables false
set_option linter.unusedSimpArgs false

/-! count, Few -/
mutual
def cntW : N → Int → Int
  | .mk _ _ _ _ ks, k => qbk1 (IntKind.i64.wrap (k - 1)) ks
def qbk1 : Int → List N → Int
  | a, [] => a
  | a, x :: r => if 0 ≤ a then qbk1 (cntW x a) r else a
end
/-! the references -/
mutual
def qrk : N → Int
  | .mk _ _ _ _ ks => qmv 1 ks
def qmv : Int → List N → Int
  | a, [] => a
  | a, x :: r => qmv (IntKind.i64.wrap (a + qrk x)) r
end
theorem q4t (n : N) : qrk n = qmv 1 n.kids := by cases n; rw [qrk]; rfl
mutual
def depR : N → Int
  | .mk _ _ _ _ ks => IntKind.i64.wrap (qua 0 ks + 1)
def qua : Int → List N → Int
  | a, [] => a
  | a, x :: r => qua (if depR x > a then depR x else a) r
end
theorem qbe2 (n : N) : depR n = IntKind.i64.wrap (qua 0 n.kids + 1) := by cases n; rw [depR]; rfl
set_option maxRecDepth 4000

/-- What a loop over a function does with each node. -/
structure Yld (α : Type) where
  m : Nat
  hs : α → List Ent
  i : Nat
  step : α → Int → N → α × Bool
  len : ∀ s, (hs s).length = m
  bd : ∀ s, (hs s).all (Ent.bd m) = true
  lt : i < m
  live : α → Prop
  keep : ∀ s l n, live s → (step s l n).2 = true → live (step s l n).1
  app : ∀ s l n, live s → VApp Try.prog (hs s) (.opq i) [.int .i64 l, enc n] (fun H' o => H' = hs (step s l n).1 ∧ o = .val (.bool (step s l n).2))

theorem q6p {α : Type} (y : Yld α) (s : α) : (y.hs s).length = y.m := y.len s
theorem qbnv {α : Type} (y : Yld α) (s : α) : (y.hs s).all (Ent.bd y.m) = true := y.bd s
theorem q05 {α : Type} (y : Yld α) (s : α) (L : List Ent) : (y.hs s ++ L).take y.m = y.hs s := by rw [← y.len s]; simp
theorem qbd0 {α : Type} (y : Yld α) (s : α) : (y.hs s).all (Ent.bd (y.m + 1)) = true := qbi6 (by omega) (y.bd s)
theorem qbb1 {α : Type} (y : Yld α) : decide (y.i < y.m + 1) = true := by have := y.lt; simp; omega
attribute [go_sem] q6p qbnv q05 qbd0 qbb1
section
variable {α : Type} (y : Yld α)
theorem q8q {s : α} {l : Int} {n : N} {L : List Ent} {Q : List Ent → VO → Prop} (hlv : y.live s) (h : Q (y.hs (y.step s l n).1 ++ L) (.val (.bool (y.step s l n).2))) : VApp Try.prog (y.hs s ++ L) (.opq y.i) [.int .i64 l, enc n] Q := by
  refine q13 (y.app s l n hlv) (by rw [y.len]; exact y.bd s) (by rw [y.len]; simpa [AV.bd] using y.lt) (by simp only [go_sem]) ?_
  rintro H1 o ⟨rfl, rfl⟩
  exact ⟨by rw [y.len, y.len], by rw [y.len]; exact y.bd _, rfl, h⟩
theorem qx8 {s s' : α} {b : Bool} {l : Int} {n : N} {L : List Ent} {Q : List Ent → VO → Prop} (hc : VCalls Try.prog 51 (y.hs s) [enc n, .int .i64 l, .opq y.i] (fun H' o => H' = y.hs s' ∧ o = .val (.bool b))) (h : Q (y.hs s' ++ L) (.val (.bool b))) : VApp Try.prog (y.hs s ++ L) (.fn 51 [] []) [enc n, .int .i64 l, .opq y.i] Q := by
  refine qby (first := []) (caps := []) ?_
  simp only [List.nil_append, List.append_nil]
  have := y.lt
  refine qcs hc (by rw [y.len]; exact y.bd s) (by simp only [go_sem, this]) ?_
  rintro H1 o ⟨rfl, rfl⟩
  exact ⟨by rw [y.len, y.len], by rw [y.len]; exact y.bd _, rfl, h⟩
mutual
def qd5 (f : α → Int → N → α × Bool) : N → Int → α → α × Bool
  | .mk k p n t ks, l, s => if (f s l (.mk k p n t ks)).2 then qe6 f (IntKind.i64.wrap (l + 1)) ks (f s l (.mk k p n t ks)).1 else ((f s l (.mk k p n t ks)).1, false)
def qe6 (f : α → Int → N → α × Bool) : Int → List N → α → α × Bool
  | l, [], s => (s, true)
  | l, x :: r, s => if (qd5 f x l s).2 then qe6 f l r (qd5 f x l s).1 else ((qd5 f x l s).1, false)
end
theorem qh5 (f : α → Int → N → α × Bool) (n : N) (l : Int) (s : α) : qd5 f n l s = if (f s l n).2 then qe6 f (IntKind.i64.wrap (l + 1)) n.kids (f s l n).1 else ((f s l n).1, false) := by cases n; rw [qd5]; rfl

theorem qmi (l : Int) : ∀ (r : List N), (∀ x ∈ r, ∀ l s, y.live s → (qd5 y.step x l s).2 = true → y.live (qd5 y.step x l s).1) → ∀ s, y.live s → (qe6 y.step l r s).2 = true → y.live (qe6 y.step l r s).1
  | [], _, s, h, _ => h
  | x :: r, hx, s, h, h2 => by
    rw [qe6] at h2 ⊢
    split at h2
    · rename_i h3
      rw [if_pos h3]
      exact qmi l r (fun x hx' => hx x (by simp [hx'])) _ (hx x (by simp) l s h h3) h2
    · cases h2
theorem qxa : ∀ n l s, y.live s → (qd5 y.step n l s).2 = true → y.live (qd5 y.step n l s).1 := by
  refine N.ind fun n ih l s h h2 => ?_
  rw [qh5] at h2 ⊢
  split at h2
  · rename_i h3
    rw [if_pos h3]
    exact qmi y _ n.kids ih _ (y.keep s l n h h3) h2
  · cases h2

theorem qbmd : ∀ n l s, y.live s → VCalls Try.prog 51 (y.hs s) [enc n, .int .i64 l, .opq y.i] (fun H' o => H' = y.hs (qd5 y.step n l s).1 ∧ o = .val (.bool (qd5 y.step n l s).2)) := by
  refine N.ind fun n ih l s hlv => ?_
  have hlen := y.len
  have hlt := y.lt
  refine qp9 (by kernel_rfl) fun hw => ?_
  have hkl : n.kids.length ≤ maxLen := ((qbn8 n).1 hw.1).1
  have hbd : ∀ s, (y.hs s).all (Ent.bd (y.hs s).length) = true := fun s => by rw [y.len]; exact y.bd s
  refine qs c0dg y.m (by rw [hlen]; exact Nat.le_refl _) (by simp) ?_
  repeat' (first | refine qi ?_ | refine qk ?_ | ((first | refine qm ?_ | refine qj ?_ | refine qr ?_ | refine qh ?_ | refine qg ?_ | refine q8q y hlv ?_ | ((first | refine qe ?_ ?_ | refine qc ?_ ?_) <;> intro hc <;> (try simp only [hc]) <;> (try simp only [qb, qa, decide_eq_true_eq, decide_eq_false_iff_not, Bool.and_eq_true] at hc)) | refine And.intro (by first | assumption | omega | (have := qf (by assumption); omega) | (unfold qo; omega)) ?_ | simp (disch := omega) only [qd] | simp (disch := omega) only [qn]) <;> (try simp only [go_sem, ↓reduceIte, Nat.reduceEqDiff, Nat.reduceAdd, Nat.reduceSub, Nat.reduceMul, Nat.reduceLT, Nat.reduceLeDiff, reduceCtorEq, Int.reduceToNat])))
  · rw [qh5, if_neg (by simpa using hc)]
    exact ⟨rfl, rfl⟩
  · refine qcx (S := Nat × α) (fun s' => y.live s'.2 ∧ s'.1 ≤ n.kids.length ∧ qe6 y.step (IntKind.i64.wrap (l + 1)) (n.kids.drop s'.1) s'.2 = qd5 y.step n l s) (fun s' => (⟨[(1, .int .i64 l), (2, .opq y.i), (15, .sl 5 (encs n.kids)), (16, .int .i64 n.kids.length), (17, .int .i64 s'.1)], []⟩, y.hs s'.2 ++ [.blk (enc n).cells])) (fun s => n.kids.length - s.1) ?_ fun s' hs' => ?_
    · refine qss (0, (y.step s l n).1) [] ⟨y.keep s l n hlv (by simpa using hc), Nat.zero_le _, ?_⟩ ?_ ?_ ?_ ?_ ?_ ?_ <;> (try simp only [go_sem, ↓reduceIte, Nat.reduceEqDiff, Nat.reduceAdd, Nat.reduceSub, Nat.reduceMul, Nat.reduceLT, Nat.reduceLeDiff, reduceCtorEq, Int.reduceToNat]) <;> (try simp (disch := omega) only [qn])
      rw [qh5, if_pos (by simpa using hc)]
    · obtain ⟨i, a⟩ := s'
      obtain ⟨hla, hi, ha⟩ := hs'
      dsimp only at hi ha hla
      have hstep : i < n.kids.length → qd5 y.step n l s = if (qd5 y.step (n.kids.getD i N0) (IntKind.i64.wrap (l + 1)) a).2 then qe6 y.step (IntKind.i64.wrap (l + 1)) (n.kids.drop (i + 1)) (qd5 y.step (n.kids.getD i N0) (IntKind.i64.wrap (l + 1)) a).1 else ((qd5 y.step (n.kids.getD i N0) (IntKind.i64.wrap (l + 1)) a).1, false) := fun h => by
        rw [← ha, qbp9 (l := n.kids) (i := i) h, qe6]
      repeat' (first | refine qi ?_ | refine qk ?_ | ((first | refine qm ?_ | refine qj ?_ | refine qr ?_ | refine qh ?_ | refine qg ?_ | refine qx8 y (ih _ (q39 (by omega)) _ _ hla) ?_ | ((first | refine qe ?_ ?_ | refine qc ?_ ?_) <;> intro hc <;> (try simp only [hc]) <;> (try simp only [qb, qa, decide_eq_true_eq, decide_eq_false_iff_not, Bool.and_eq_true] at hc)) | refine And.intro (by first | assumption | omega | (have := qf (by assumption); omega) | (unfold qo; omega)) ?_ | simp (disch := omega) only [qd] | simp (disch := omega) only [qn]) <;> (try simp only [go_sem, ↓reduceIte, Nat.reduceEqDiff, Nat.reduceAdd, Nat.reduceSub, Nat.reduceMul, Nat.reduceLT, Nat.reduceLeDiff, reduceCtorEq, Int.reduceToNat])))
      · rw [hstep (by omega), if_neg (by simpa using hc)]
        exact ⟨rfl, rfl⟩
      · refine qss (i + 1, (qd5 y.step (n.kids.getD i N0) (IntKind.i64.wrap (l + 1)) a).1) [.blk (enc (n.kids.getD i N0)).cells] ⟨⟨qxa y _ _ _ hla (by simpa using hc), by omega, ?_⟩, by omega⟩ ?_ ?_ ?_ ?_ ?_ ?_ <;> (try simp only [go_sem, ↓reduceIte, Nat.reduceEqDiff, Nat.reduceAdd, Nat.reduceSub, Nat.reduceMul, Nat.reduceLT, Nat.reduceLeDiff, reduceCtorEq, Int.reduceToNat]) <;> (try simp (disch := omega) only [qn])
        rw [hstep (by omega), if_pos (by simpa using hc)]
      · rw [← ha, show i = n.kids.length by omega, List.drop_length]
        exact ⟨rfl, rfl⟩

theorem q0v {s s' : α} {b : Bool} {l : Int} {n : N} {Q : List Ent → VO → Prop} (hc : VCalls Try.prog 51 (y.hs s) [enc n, .int .i64 l, .opq y.i] (fun H' o => H' = y.hs s' ∧ o = .val (.bool b))) (h : Q (y.hs s') (.val (.bool b))) : VApp Try.prog (y.hs s) (.fn 51 [] []) [enc n, .int .i64 l, .opq y.i] Q := by
  have := qx8 y (L := []) (Q := Q) hc (by simpa using h)
  simpa using this

theorem qbqp {n : N} {l : Int} {s : α} {p q : Nat} (hlv : y.live s) (hp : ent (y.hs s) p = .blk (nc n)) (hq : ent (y.hs s) q = .blk [.int .i64 l]) : VCalls Try.prog 50 (y.hs s) [.opq y.i, .ptr p 0, .ptr q 0] (fun H' o => H' = y.hs (qd5 y.step n l s).1 ∧ o = .val (.tup [])) := by
  refine qs c0dh y.m (by rw [y.len]; exact Nat.le_refl _) (by simp) ?_
  have ht : ∀ s, (y.hs s).take y.m = y.hs s := fun s => by rw [← y.len s]; simp
  refine qm ?_
  simp only [go_sem, hp, hq, ↓reduceIte, Nat.reduceEqDiff, Nat.reduceAdd, Nat.reduceSub, Nat.reduceMul, Nat.reduceLT, Nat.reduceLeDiff, reduceCtorEq, Int.reduceToNat]
  refine q0v y (qbmd y _ _ _ hlv) ?_
  simp only [go_sem, ht, ↓reduceIte, Nat.reduceEqDiff, Nat.reduceAdd, Nat.reduceSub, Nat.reduceMul, Nat.reduceLT, Nat.reduceLeDiff, reduceCtorEq, Int.reduceToNat]
end

theorem qbqi (n : N) (l : Int) : VCalls Try.prog 32 [] [enc n, .int .i64 l] (fun H o => H = [.blk (enc n).cells, .blk [.int .i64 l]] ∧ o = .val (.fn 50 [] [.ptr 0 0, .ptr 1 0])) := by
  refine qs c0di 2 (by simp) (by simp) ?_
  repeat' (first | refine qi ?_ | ((first | refine qm ?_ | refine qj ?_ | ((first | refine qe ?_ ?_ | refine qc ?_ ?_) <;> intro hc <;> (try simp only [hc]) <;> (try simp only [qb, qa, decide_eq_true_eq, decide_eq_false_iff_not, Bool.and_eq_true] at hc)) | refine And.intro (by first | assumption | omega | (have := qf (by assumption); omega) | (unfold qo; omega)) ?_ | simp (disch := omega) only [qd] | simp (disch := omega) only [qn]) <;> (try simp only [go_sem, ↓reduceIte, Nat.reduceEqDiff, Nat.reduceAdd, Nat.reduceSub, Nat.reduceMul, Nat.reduceLT, Nat.reduceLeDiff, reduceCtorEq, Int.reduceToNat])))

/-! Size -/
/-! Depth -/
def q5z (n : N) (fn : FuncId) (asn bd : Code) (ha : qcz Try.prog 13 asn = some qy5) (hb : qcz Try.prog 13 bd = some qvt) : Yld Int where
  m := 5
  hs := fun k => [.blk (nc n), .blk [.int .i64 k], .blk (nc n), .blk [.int .i64 1], .lp ⟨.ready, none, fn, [7, 8].toArray, asn, bd⟩ (qhl 13 [(6, .fn 50 [] [.ptr 2 0, .ptr 3 0]), (5, enc n), (3, .ptr 1 0), (2, .int .i64 0), (1, .ptr 0 0), (0, enc n)])]
  i := 4
  step := fun k l _ => (if l > k then l else k, true)
  len := fun _ => rfl
  bd := fun k => by simp only [go_sem, ↓reduceIte, Nat.reduceEqDiff, Nat.reduceAdd, Nat.reduceSub, Nat.reduceMul, Nat.reduceLT, Nat.reduceLeDiff, reduceCtorEq, Int.reduceToNat]
  lt := by omega
  live := fun _ => True
  keep := fun _ _ _ _ _ => trivial
  app := fun k l x _ => by
    refine qu2 (k := 5) rfl rfl qoe ha hb (by simp) (by simp) (by simp) fun lp => ?_
    repeat' (first | refine qi ?_ | refine qk ?_ | refine qdz ?_ | ((first | refine qm ?_ | refine qcm (by rfl) ?_ | refine q9 ?_ | refine qdy ?_ | refine qew ?_ | refine qj ?_ | refine qr ?_ | refine qh ?_ | refine qg ?_ | ((first | refine qe ?_ ?_ | refine qc ?_ ?_) <;> intro hc <;> (try simp only [hc]) <;> (try simp only [qb, qa, decide_eq_true_eq, decide_eq_false_iff_not, Bool.and_eq_true] at hc)) | refine And.intro (by first | assumption | omega | (have := qf (by assumption); omega) | (unfold qo; omega)) ?_ | simp (disch := omega) only [qd] | simp (disch := omega) only [qn]) <;> (try simp only [go_sem, ↓reduceIte, Nat.reduceEqDiff, Nat.reduceAdd, Nat.reduceSub, Nat.reduceMul, Nat.reduceLT, Nat.reduceLeDiff, reduceCtorEq, Int.reduceToNat])))

theorem qws (n : N) : qc4 Try.prog 24 [enc n] (.int .i64 (qd5 (fun (k : Int) l _ => (if l > k then l else k, true)) n 1 0).1) := by
  refine qb3 c0dj (by simp) (by simp only [go_sem]) rfl fun hw => ?_
  repeat' (first | refine qi ?_ | refine qk ?_ | ((first | refine qm ?_ | refine qj ?_ | ((first | refine qe ?_ ?_ | refine qc ?_ ?_) <;> intro hc <;> (try simp only [hc]) <;> (try simp only [qb, qa, decide_eq_true_eq, decide_eq_false_iff_not, Bool.and_eq_true] at hc)) | refine And.intro (by first | assumption | omega | (have := qf (by assumption); omega) | (unfold qo; omega)) ?_ | simp (disch := omega) only [qd] | simp (disch := omega) only [qn]) <;> (try simp only [go_sem, ↓reduceIte, Nat.reduceEqDiff, Nat.reduceAdd, Nat.reduceSub, Nat.reduceMul, Nat.reduceLT, Nat.reduceLeDiff, reduceCtorEq, Int.reduceToNat])))
  refine qsp (qbqi n 1) (by simp only [go_sem]) ?_
  rintro H1 o ⟨rfl, rfl⟩
  simp only [go_sem, ↓reduceIte, Nat.reduceEqDiff, Nat.reduceAdd, Nat.reduceSub, Nat.reduceMul, Nat.reduceLT, Nat.reduceLeDiff, reduceCtorEq, Int.reduceToNat]
  refine qk (q5u rfl (Nat.zero_le _) fun fn asn bd ha hb => ?_)
  refine VCalls.mono (qbqp (q5z n fn asn bd ha hb) (n := n) (l := 1) (s := 0) (p := 2) (q := 3) trivial rfl rfl) ?_
  rintro H1 o ⟨rfl, rfl⟩
  simp only [q5z, go_sem, ↓reduceIte, Nat.reduceEqDiff, Nat.reduceAdd, Nat.reduceSub, Nat.reduceMul, Nat.reduceLT, Nat.reduceLeDiff, reduceCtorEq, Int.reduceToNat]
  repeat' (first | refine qi ?_ | refine qk ?_ | ((first | refine qm ?_ | refine qj ?_ | ((first | refine qe ?_ ?_ | refine qc ?_ ?_) <;> intro hc <;> (try simp only [hc]) <;> (try simp only [qb, qa, decide_eq_true_eq, decide_eq_false_iff_not, Bool.and_eq_true] at hc)) | refine And.intro (by first | assumption | omega | (have := qf (by assumption); omega) | (unfold qo; omega)) ?_ | simp (disch := omega) only [qd] | simp (disch := omega) only [qn]) <;> (try simp only [go_sem, ↓reduceIte, Nat.reduceEqDiff, Nat.reduceAdd, Nat.reduceSub, Nat.reduceMul, Nat.reduceLT, Nat.reduceLeDiff, reduceCtorEq, Int.reduceToNat])))
set_option maxRecDepth 4000

/-! Strip -/
theorem qq (l : List N) (x : N) : encs l ++ [enc x] = encs (l ++ [x]) := by rw [qd1, qd1]; simp
end Go.Proofs.Ytfjbmjplnmaclaa
