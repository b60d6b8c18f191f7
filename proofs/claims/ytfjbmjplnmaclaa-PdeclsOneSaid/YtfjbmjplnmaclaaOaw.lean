/- Texts of this proof, joined. -/
import Derived.Test.YtfjbmjplnmaclaaOak
import Derived.Test.YtfjbmjplnmaclaaOan

/- trees: count, Few, Size, Depth -/
set_option maxRecDepth 4000
namespace Go.Proofs.Ytfjbmjplnmaclaa
open Go Go.RowKit Go.V
set_option linter.unusedVariables false
set_option linter.unusedSimpArgs false

/-! count, Few -/
mutual
def cntW : N → Int → Int
  | .mk _ _ _ _ ks, k => qbsi (IntKind.i64.wrap (k - 1)) ks
def qbsi : Int → List N → Int
  | a, [] => a
  | a, x :: r => if 0 ≤ a then qbsi (cntW x a) r else a
end
/-! the references -/
mutual
def qxz : N → Int
  | .mk _ _ _ _ ks => qrb 1 ks
def qrb : Int → List N → Int
  | a, [] => a
  | a, x :: r => qrb (IntKind.i64.wrap (a + qxz x)) r
end
theorem qbar (n : N) : qxz n = qrb 1 n.kids := by cases n; rw [qxz]; rfl
mutual
def depR : N → Int
  | .mk _ _ _ _ ks => IntKind.i64.wrap (qtb 0 ks + 1)
def qtb : Int → List N → Int
  | a, [] => a
  | a, x :: r => qtb (if depR x > a then depR x else a) r
end
theorem qyf (n : N) : depR n = IntKind.i64.wrap (qtb 0 n.kids + 1) := by cases n; rw [depR]; rfl
theorem qbiu : ∀ n, qde Try.prog 9 [enc n] (.int .i64 (depR n)) := by
  refine N.ind fun n ih => ?_
  refine qb7 c0cn (by simp) (by simp only [go_sem]) rfl fun hw => ?_
  have hkl : n.kids.length ≤ maxLen := ((qyn n).1 hw.1).1
  repeat' (first | refine qj ?_ | refine ql ?_ | ((first | refine qn ?_ | refine qk ?_ | refine qu ?_ | refine qh ?_ | refine qg ?_ | ((first | refine qe ?_ ?_ | refine qd ?_ ?_) <;> intro hc <;> (try simp only [hc]) <;> (try simp only [qb, qa, decide_eq_true_eq, decide_eq_false_iff_not, Bool.and_eq_true] at hc)) | refine And.intro (by first | assumption | omega | (have := qf (by assumption); omega) | (unfold qp; omega)) ?_ | simp (disch := omega) only [qc] | simp (disch := omega) only [qo]) <;> (try simp only [go_sem, ↓reduceIte, Nat.reduceEqDiff, Nat.reduceAdd, Nat.reduceSub, Nat.reduceMul, Nat.reduceLT, Nat.reduceLeDiff, reduceCtorEq, Int.reduceToNat])))
  refine qcy (S := Nat × Int) (fun s => s.1 ≤ n.kids.length ∧ IntKind.i64.wrap (qtb s.2 (n.kids.drop s.1) + 1) = depR n) (fun s => (⟨[(1, .ptr 0 0), (3, .int .i64 s.2), (4, .int .i64 s.1)], []⟩, [.blk (enc n).cells])) (fun s => n.kids.length - s.1) ?_ fun s hs => ?_
  · refine qcd (0, 0) [0] ⟨Nat.zero_le _, (qyf n).symm⟩ rfl (by simp) ?_ ?_ ?_ <;> (try simp only [go_sem, ↓reduceIte, Nat.reduceEqDiff, Nat.reduceAdd, Nat.reduceSub, Nat.reduceMul, Nat.reduceLT, Nat.reduceLeDiff, reduceCtorEq, Int.reduceToNat]) <;> (try simp (disch := omega) only [qo])
  · obtain ⟨i, a⟩ := s
    obtain ⟨hi, ha⟩ := hs
    dsimp only at hi ha
    repeat' (first | refine qj ?_ | refine ql ?_ | ((first | refine qn ?_ | refine qk ?_ | refine qu ?_ | refine qh ?_ | refine qg ?_ | refine qv (ih _ (qh8 (by omega))) fun _ => ?_ | refine qy  (ih _ (qh8 (by omega))) ?_ | ((first | refine qe ?_ ?_ | refine qd ?_ ?_) <;> intro hc <;> (try simp only [hc]) <;> (try simp only [qb, qa, decide_eq_true_eq, decide_eq_false_iff_not, Bool.and_eq_true] at hc)) | refine And.intro (by first | assumption | omega | (have := qf (by assumption); omega) | (unfold qp; omega)) ?_ | simp (disch := omega) only [qc] | simp (disch := omega) only [qo]) <;> (try simp only [go_sem, ↓reduceIte, Nat.reduceEqDiff, Nat.reduceAdd, Nat.reduceSub, Nat.reduceMul, Nat.reduceLT, Nat.reduceLeDiff, reduceCtorEq, Int.reduceToNat])))
    · refine qcd (i + 1, if depR (n.kids.getD i N0) > a then depR (n.kids.getD i N0) else a) [0] ⟨⟨by omega, ?_⟩, by omega⟩ rfl (by simp) ?_ ?_ ?_ <;> (try simp only [go_sem, ↓reduceIte, Nat.reduceEqDiff, Nat.reduceAdd, Nat.reduceSub, Nat.reduceMul, Nat.reduceLT, Nat.reduceLeDiff, reduceCtorEq, Int.reduceToNat]) <;> (try simp (disch := omega) only [qo])
      rw [← ha, q17 (l := n.kids) (i := i) (by omega), qtb]
    · rw [← ha, show i = n.kids.length by omega, List.drop_length]; rfl
set_option maxRecDepth 4000

/-- What a loop over a function does with each node. -/
structure Yld (α : Type) where
  m : Nat
  hs : α → List Ent
  i : Nat
  step : α → Int → N → α × Bool
  len : ∀ s, (hs s).length = m
  bd : ∀ s, (hs s).all (Ent.bd m) = true
  lt : i < m
  live : α → Prop
  keep : ∀ s l n, live s → (step s l n).2 = true → live (step s l n).1
  app : ∀ s l n, live s → VApp Try.prog (hs s) (.opq i) [.int .i64 l, enc n] (fun H' o => H' = hs (step s l n).1 ∧ o = .val (.bool (step s l n).2))

theorem qbh2 {α : Type} (y : Yld α) (s : α) : (y.hs s).length = y.m := y.len s
theorem qbrn {α : Type} (y : Yld α) (s : α) : (y.hs s).all (Ent.bd y.m) = true := y.bd s
theorem q8d {α : Type} (y : Yld α) (s : α) (L : List Ent) : (y.hs s ++ L).take y.m = y.hs s := by rw [← y.len s]; simp
theorem qbje {α : Type} (y : Yld α) (s : α) : (y.hs s).all (Ent.bd (y.m + 1)) = true := qbrg (by omega) (y.bd s)
theorem qbhk {α : Type} (y : Yld α) : decide (y.i < y.m + 1) = true := by have := y.lt; simp; omega
attribute [go_sem] qbh2 qbrn q8d qbje qbhk
section
variable {α : Type} (y : Yld α)
theorem qbmu {s : α} {l : Int} {n : N} {L : List Ent} {Q : List Ent → VO → Prop} (hlv : y.live s) (h : Q (y.hs (y.step s l n).1 ++ L) (.val (.bool (y.step s l n).2))) : VApp Try.prog (y.hs s ++ L) (.opq y.i) [.int .i64 l, enc n] Q := by
  refine qbbr (y.app s l n hlv) (by rw [y.len]; exact y.bd s) (by rw [y.len]; simpa [AV.bd] using y.lt) (by simp only [go_sem]) ?_
  rintro H1 o ⟨rfl, rfl⟩
  exact ⟨by rw [y.len, y.len], by rw [y.len]; exact y.bd _, rfl, h⟩
theorem q5h {s s' : α} {b : Bool} {l : Int} {n : N} {L : List Ent} {Q : List Ent → VO → Prop} (hc : VCalls Try.prog 51 (y.hs s) [enc n, .int .i64 l, .opq y.i] (fun H' o => H' = y.hs s' ∧ o = .val (.bool b))) (h : Q (y.hs s' ++ L) (.val (.bool b))) : VApp Try.prog (y.hs s ++ L) (.fn 51 [] []) [enc n, .int .i64 l, .opq y.i] Q := by
  refine qcb (first := []) (caps := []) ?_
  simp only [List.nil_append, List.append_nil]
  have := y.lt
  refine qc6 hc (by rw [y.len]; exact y.bd s) (by simp only [go_sem, this]) ?_
  rintro H1 o ⟨rfl, rfl⟩
  exact ⟨by rw [y.len, y.len], by rw [y.len]; exact y.bd _, rfl, h⟩
mutual
def qfj (f : α → Int → N → α × Bool) : N → Int → α → α × Bool
  | .mk k p n t ks, l, s => if (f s l (.mk k p n t ks)).2 then qgs f (IntKind.i64.wrap (l + 1)) ks (f s l (.mk k p n t ks)).1 else ((f s l (.mk k p n t ks)).1, false)
def qgs (f : α → Int → N → α × Bool) : Int → List N → α → α × Bool
  | l, [], s => (s, true)
  | l, x :: r, s => if (qfj f x l s).2 then qgs f l r (qfj f x l s).1 else ((qfj f x l s).1, false)
end
theorem qlt (f : α → Int → N → α × Bool) (n : N) (l : Int) (s : α) : qfj f n l s = if (f s l n).2 then qgs f (IntKind.i64.wrap (l + 1)) n.kids (f s l n).1 else ((f s l n).1, false) := by cases n; rw [qfj]; rfl

theorem qr1 (l : Int) : ∀ (r : List N), (∀ x ∈ r, ∀ l s, y.live s → (qfj y.step x l s).2 = true → y.live (qfj y.step x l s).1) → ∀ s, y.live s → (qgs y.step l r s).2 = true → y.live (qgs y.step l r s).1
  | [], _, s, h, _ => h
  | x :: r, hx, s, h, h2 => by
    rw [qgs] at h2 ⊢
    split at h2
    · rename_i h3
      rw [if_pos h3]
      exact qr1 l r (fun x hx' => hx x (by simp [hx'])) _ (hx x (by simp) l s h h3) h2
    · cases h2
theorem q4u : ∀ n l s, y.live s → (qfj y.step n l s).2 = true → y.live (qfj y.step n l s).1 := by
  refine N.ind fun n ih l s h h2 => ?_
  rw [qlt] at h2 ⊢
  split at h2
  · rename_i h3
    rw [if_pos h3]
    exact qr1 y _ n.kids ih _ (y.keep s l n h h3) h2
  · cases h2

theorem qbuv : ∀ n l s, y.live s → VCalls Try.prog 51 (y.hs s) [enc n, .int .i64 l, .opq y.i] (fun H' o => H' = y.hs (qfj y.step n l s).1 ∧ o = .val (.bool (qfj y.step n l s).2)) := by
  refine N.ind fun n ih l s hlv => ?_
  have hlen := y.len
  have hlt := y.lt
  refine quz (by kernel_rfl) fun hw => ?_
  have hkl : n.kids.length ≤ maxLen := ((qyn n).1 hw.1).1
  have hbd : ∀ s, (y.hs s).all (Ent.bd (y.hs s).length) = true := fun s => by rw [y.len]; exact y.bd s
  refine qx c0cj y.m (by rw [hlen]; exact Nat.le_refl _) (by simp) ?_
  repeat' (first | refine qj ?_ | refine ql ?_ | ((first | refine qn ?_ | refine qk ?_ | refine qu ?_ | refine qh ?_ | refine qg ?_ | refine qbmu y hlv ?_ | ((first | refine qe ?_ ?_ | refine qd ?_ ?_) <;> intro hc <;> (try simp only [hc]) <;> (try simp only [qb, qa, decide_eq_true_eq, decide_eq_false_iff_not, Bool.and_eq_true] at hc)) | refine And.intro (by first | assumption | omega | (have := qf (by assumption); omega) | (unfold qp; omega)) ?_ | simp (disch := omega) only [qc] | simp (disch := omega) only [qo]) <;> (try simp only [go_sem, ↓reduceIte, Nat.reduceEqDiff, Nat.reduceAdd, Nat.reduceSub, Nat.reduceMul, Nat.reduceLT, Nat.reduceLeDiff, reduceCtorEq, Int.reduceToNat])))
  · rw [qlt, if_neg (by simpa using hc)]
    exact ⟨rfl, rfl⟩
  · refine qcy (S := Nat × α) (fun s' => y.live s'.2 ∧ s'.1 ≤ n.kids.length ∧ qgs y.step (IntKind.i64.wrap (l + 1)) (n.kids.drop s'.1) s'.2 = qfj y.step n l s) (fun s' => (⟨[(1, .int .i64 l), (2, .opq y.i), (15, .sl 5 (encs n.kids)), (16, .int .i64 n.kids.length), (17, .int .i64 s'.1)], []⟩, y.hs s'.2 ++ [.blk (enc n).cells])) (fun s => n.kids.length - s.1) ?_ fun s' hs' => ?_
    · refine q0n (0, (y.step s l n).1) [] ⟨y.keep s l n hlv (by simpa using hc), Nat.zero_le _, ?_⟩ ?_ ?_ ?_ ?_ ?_ ?_ <;> (try simp only [go_sem, ↓reduceIte, Nat.reduceEqDiff, Nat.reduceAdd, Nat.reduceSub, Nat.reduceMul, Nat.reduceLT, Nat.reduceLeDiff, reduceCtorEq, Int.reduceToNat]) <;> (try simp (disch := omega) only [qo])
      rw [qlt, if_pos (by simpa using hc)]
    · obtain ⟨i, a⟩ := s'
      obtain ⟨hla, hi, ha⟩ := hs'
      dsimp only at hi ha hla
      have hstep : i < n.kids.length → qfj y.step n l s = if (qfj y.step (n.kids.getD i N0) (IntKind.i64.wrap (l + 1)) a).2 then qgs y.step (IntKind.i64.wrap (l + 1)) (n.kids.drop (i + 1)) (qfj y.step (n.kids.getD i N0) (IntKind.i64.wrap (l + 1)) a).1 else ((qfj y.step (n.kids.getD i N0) (IntKind.i64.wrap (l + 1)) a).1, false) := fun h => by
        rw [← ha, q17 (l := n.kids) (i := i) h, qgs]
      repeat' (first | refine qj ?_ | refine ql ?_ | ((first | refine qn ?_ | refine qk ?_ | refine qu ?_ | refine qh ?_ | refine qg ?_ | refine q5h y (ih _ (qh8 (by omega)) _ _ hla) ?_ | ((first | refine qe ?_ ?_ | refine qd ?_ ?_) <;> intro hc <;> (try simp only [hc]) <;> (try simp only [qb, qa, decide_eq_true_eq, decide_eq_false_iff_not, Bool.and_eq_true] at hc)) | refine And.intro (by first | assumption | omega | (have := qf (by assumption); omega) | (unfold qp; omega)) ?_ | simp (disch := omega) only [qc] | simp (disch := omega) only [qo]) <;> (try simp only [go_sem, ↓reduceIte, Nat.reduceEqDiff, Nat.reduceAdd, Nat.reduceSub, Nat.reduceMul, Nat.reduceLT, Nat.reduceLeDiff, reduceCtorEq, Int.reduceToNat])))
      · rw [hstep (by omega), if_neg (by simpa using hc)]
        exact ⟨rfl, rfl⟩
      · refine q0n (i + 1, (qfj y.step (n.kids.getD i N0) (IntKind.i64.wrap (l + 1)) a).1) [.blk (enc (n.kids.getD i N0)).cells] ⟨⟨q4u y _ _ _ hla (by simpa using hc), by omega, ?_⟩, by omega⟩ ?_ ?_ ?_ ?_ ?_ ?_ <;> (try simp only [go_sem, ↓reduceIte, Nat.reduceEqDiff, Nat.reduceAdd, Nat.reduceSub, Nat.reduceMul, Nat.reduceLT, Nat.reduceLeDiff, reduceCtorEq, Int.reduceToNat]) <;> (try simp (disch := omega) only [qo])
        rw [hstep (by omega), if_pos (by simpa using hc)]
      · rw [← ha, show i = n.kids.length by omega, List.drop_length]
        exact ⟨rfl, rfl⟩

theorem q8o {s s' : α} {b : Bool} {l : Int} {n : N} {Q : List Ent → VO → Prop} (hc : VCalls Try.prog 51 (y.hs s) [enc n, .int .i64 l, .opq y.i] (fun H' o => H' = y.hs s' ∧ o = .val (.bool b))) (h : Q (y.hs s') (.val (.bool b))) : VApp Try.prog (y.hs s) (.fn 51 [] []) [enc n, .int .i64 l, .opq y.i] Q := by
  have := q5h y (L := []) (Q := Q) hc (by simpa using h)
  simpa using this

theorem qbz3 {n : N} {l : Int} {s : α} {p q : Nat} (hlv : y.live s) (hp : ent (y.hs s) p = .blk (nc n)) (hq : ent (y.hs s) q = .blk [.int .i64 l]) : VCalls Try.prog 50 (y.hs s) [.opq y.i, .ptr p 0, .ptr q 0] (fun H' o => H' = y.hs (qfj y.step n l s).1 ∧ o = .val (.tup [])) := by
  refine qx c0ck y.m (by rw [y.len]; exact Nat.le_refl _) (by simp) ?_
  have ht : ∀ s, (y.hs s).take y.m = y.hs s := fun s => by rw [← y.len s]; simp
  refine qn ?_
  simp only [go_sem, hp, hq, ↓reduceIte, Nat.reduceEqDiff, Nat.reduceAdd, Nat.reduceSub, Nat.reduceMul, Nat.reduceLT, Nat.reduceLeDiff, reduceCtorEq, Int.reduceToNat]
  refine q8o y (qbuv y _ _ _ hlv) ?_
  simp only [go_sem, ht, ↓reduceIte, Nat.reduceEqDiff, Nat.reduceAdd, Nat.reduceSub, Nat.reduceMul, Nat.reduceLT, Nat.reduceLeDiff, reduceCtorEq, Int.reduceToNat]
end

theorem qbz9 (n : N) (l : Int) : VCalls Try.prog 32 [] [enc n, .int .i64 l] (fun H o => H = [.blk (enc n).cells, .blk [.int .i64 l]] ∧ o = .val (.fn 50 [] [.ptr 0 0, .ptr 1 0])) := by
  refine qx c0cl 2 (by simp) (by simp) ?_
  repeat' (first | refine qj ?_ | ((first | refine qn ?_ | refine qk ?_ | ((first | refine qe ?_ ?_ | refine qd ?_ ?_) <;> intro hc <;> (try simp only [hc]) <;> (try simp only [qb, qa, decide_eq_true_eq, decide_eq_false_iff_not, Bool.and_eq_true] at hc)) | refine And.intro (by first | assumption | omega | (have := qf (by assumption); omega) | (unfold qp; omega)) ?_ | simp (disch := omega) only [qc] | simp (disch := omega) only [qo]) <;> (try simp only [go_sem, ↓reduceIte, Nat.reduceEqDiff, Nat.reduceAdd, Nat.reduceSub, Nat.reduceMul, Nat.reduceLT, Nat.reduceLeDiff, reduceCtorEq, Int.reduceToNat])))

/-! Size -/
/-! Depth -/
def qbc2 (n : N) (fn : FuncId) (asn bd : Code) (ha : qdh Try.prog 13 asn = some q4z) (hb : qdh Try.prog 13 bd = some q7d) : Yld Int where
  m := 5
  hs := fun k => [.blk (nc n), .blk [.int .i64 k], .blk (nc n), .blk [.int .i64 1], .lp ⟨.ready, none, fn, [7, 8].toArray, asn, bd⟩ (qkk 13 [(6, .fn 50 [] [.ptr 2 0, .ptr 3 0]), (5, enc n), (3, .ptr 1 0), (2, .int .i64 0), (1, .ptr 0 0), (0, enc n)])]
  i := 4
  step := fun k l _ => (if l > k then l else k, true)
  len := fun _ => rfl
  bd := fun k => by simp only [go_sem, ↓reduceIte, Nat.reduceEqDiff, Nat.reduceAdd, Nat.reduceSub, Nat.reduceMul, Nat.reduceLT, Nat.reduceLeDiff, reduceCtorEq, Int.reduceToNat]
  lt := by omega
  live := fun _ => True
  keep := fun _ _ _ _ _ => trivial
  app := fun k l x _ => by
    refine q1f (k := 5) rfl rfl quu ha hb (by simp) (by simp) (by simp) fun lp => ?_
    repeat' (first | refine qj ?_ | refine ql ?_ | refine qe8 ?_ | ((first | refine qn ?_ | refine qcm (by rfl) ?_ | refine qba ?_ | refine qe6 ?_ | refine qgu ?_ | refine qk ?_ | refine qu ?_ | refine qh ?_ | refine qg ?_ | ((first | refine qe ?_ ?_ | refine qd ?_ ?_) <;> intro hc <;> (try simp only [hc]) <;> (try simp only [qb, qa, decide_eq_true_eq, decide_eq_false_iff_not, Bool.and_eq_true] at hc)) | refine And.intro (by first | assumption | omega | (have := qf (by assumption); omega) | (unfold qp; omega)) ?_ | simp (disch := omega) only [qc] | simp (disch := omega) only [qo]) <;> (try simp only [go_sem, ↓reduceIte, Nat.reduceEqDiff, Nat.reduceAdd, Nat.reduceSub, Nat.reduceMul, Nat.reduceLT, Nat.reduceLeDiff, reduceCtorEq, Int.reduceToNat])))

theorem q4f (n : N) : qde Try.prog 24 [enc n] (.int .i64 (qfj (fun (k : Int) l _ => (if l > k then l else k, true)) n 1 0).1) := by
  refine qb7 c0cm (by simp) (by simp only [go_sem]) rfl fun hw => ?_
  repeat' (first | refine qj ?_ | refine ql ?_ | ((first | refine qn ?_ | refine qk ?_ | ((first | refine qe ?_ ?_ | refine qd ?_ ?_) <;> intro hc <;> (try simp only [hc]) <;> (try simp only [qb, qa, decide_eq_true_eq, decide_eq_false_iff_not, Bool.and_eq_true] at hc)) | refine And.intro (by first | assumption | omega | (have := qf (by assumption); omega) | (unfold qp; omega)) ?_ | simp (disch := omega) only [qc] | simp (disch := omega) only [qo]) <;> (try simp only [go_sem, ↓reduceIte, Nat.reduceEqDiff, Nat.reduceAdd, Nat.reduceSub, Nat.reduceMul, Nat.reduceLT, Nat.reduceLeDiff, reduceCtorEq, Int.reduceToNat])))
  refine qz0 (qbz9 n 1) (by simp only [go_sem]) ?_
  rintro H1 o ⟨rfl, rfl⟩
  simp only [go_sem, ↓reduceIte, Nat.reduceEqDiff, Nat.reduceAdd, Nat.reduceSub, Nat.reduceMul, Nat.reduceLT, Nat.reduceLeDiff, reduceCtorEq, Int.reduceToNat]
  refine ql (qbdl rfl (Nat.zero_le _) fun fn asn bd ha hb => ?_)
  refine VCalls.mono (qbz3 (qbc2 n fn asn bd ha hb) (n := n) (l := 1) (s := 0) (p := 2) (q := 3) trivial rfl rfl) ?_
  rintro H1 o ⟨rfl, rfl⟩
  simp only [qbc2, go_sem, ↓reduceIte, Nat.reduceEqDiff, Nat.reduceAdd, Nat.reduceSub, Nat.reduceMul, Nat.reduceLT, Nat.reduceLeDiff, reduceCtorEq, Int.reduceToNat]
  repeat' (first | refine qj ?_ | refine ql ?_ | ((first | refine qn ?_ | refine qk ?_ | ((first | refine qe ?_ ?_ | refine qd ?_ ?_) <;> intro hc <;> (try simp only [hc]) <;> (try simp only [qb, qa, decide_eq_true_eq, decide_eq_false_iff_not, Bool.and_eq_true] at hc)) | refine And.intro (by first | assumption | omega | (have := qf (by assumption); omega) | (unfold qp; omega)) ?_ | simp (disch := omega) only [qc] | simp (disch := omega) only [qo]) <;> (try simp only [go_sem, ↓reduceIte, Nat.reduceEqDiff, Nat.reduceAdd, Nat.reduceSub, Nat.reduceMul, Nat.reduceLT, Nat.reduceLeDiff, reduceCtorEq, Int.reduceToNat])))
set_option maxRecDepth 4000

mutual
def q11 : N → N → Bool
  | .mk k _ n t ks, .mk k' _ n' t' ks' => decide (k = k') && decide (t = t') && decide (n = n') && qfu ks ks'
def qfu : List N → List N → Bool
  | [], [] => true
  | x :: r, y :: r' => q11 x y && qfu r r'
  | _, _ => false
end
theorem qlb (a b : N) : q11 a b = (decide (a.kind = b.kind) && decide (a.text = b.text) && decide (a.num = b.num) && qfu a.kids b.kids) := by cases a; cases b; rw [q11]; rfl
theorem qq7 : ∀ {l l' : List N}, l.length ≠ l'.length → qfu l l' = false
  | [], [], h => absurd rfl h
  | [], y :: r', _ => by rw [qfu] <;> simp
  | x :: r, [], _ => by rw [qfu] <;> simp
  | x :: r, y :: r', h => by rw [qfu, qq7 (l := r) (l' := r') (by simpa using h)]; simp
theorem qoo {l l' : List N} {i : Nat} (h : i < l.length) (h' : i < l'.length) : qfu (l.drop i) (l'.drop i) = (q11 (l.getD i N0) (l'.getD i N0) && qfu (l.drop (i + 1)) (l'.drop (i + 1))) := by
  rw [q17 h, q17 h', qfu]
theorem q2q {l l' : List N} {i : Nat} (h : l.length ≤ i) (h' : l'.length ≤ i) : qfu (l.drop i) (l'.drop i) = true := by
  rw [List.drop_of_length_le h, List.drop_of_length_le h', qfu]

theorem q81 {a b : N} {i : Nat} (h1 : a.kind = b.kind) (h2 : a.text = b.text) (h3 : a.num = b.num) (ha : qfu (a.kids.drop i) (b.kids.drop i) = qfu a.kids b.kids) : q11 a b = qfu (a.kids.drop i) (b.kids.drop i) := by
  rw [ha, qlb]; simp [h1, h2, h3]

theorem qbrm : ∀ a b, qde Try.prog 11 [enc a, enc b] (.bool (q11 a b)) := by
  refine N.ind fun a ih b => ?_
  refine qb7 c0ch (by simp) (by simp only [go_sem]) rfl fun hw => ?_
  have hkl : a.kids.length ≤ maxLen := ((qyn a).1 hw.1).1
  repeat' (first | refine qj ?_ | refine ql ?_ | ((first | refine qn ?_ | refine qcm (by rfl) ?_ | refine qba ?_ | refine qk ?_ | refine qu ?_ | refine qh ?_ | refine qg ?_ | ((first | refine qe ?_ ?_ | refine qd ?_ ?_) <;> intro hc <;> (try simp only [hc]) <;> (try simp only [qb, qa, decide_eq_true_eq, decide_eq_false_iff_not, Bool.and_eq_true] at hc)) | refine And.intro (by first | assumption | omega | (have := qf (by assumption); omega) | (unfold qp; omega)) ?_ | simp (disch := omega) only [qc] | simp (disch := omega) only [qo]) <;> (try simp only [go_sem, ↓reduceIte, Nat.reduceEqDiff, Nat.reduceAdd, Nat.reduceSub, Nat.reduceMul, Nat.reduceLT, Nat.reduceLeDiff, reduceCtorEq, Int.reduceToNat])))
  · rw [qlb]; simp [*]
  · rw [qlb]; simp [*]
  · rw [qlb]; simp [*]
  · rw [qlb, qq7 (by omega)]; simp
  rename_i h1 h2 h3
  refine qcy (S := Nat) (fun i => i ≤ a.kids.length ∧ qfu (a.kids.drop i) (b.kids.drop i) = qfu a.kids b.kids) (fun i => (⟨[(2, .ptr 0 0), (3, .ptr 1 0), (36, .int .i64 a.kids.length), (37, .int .i64 i)], []⟩, [.blk (nc a), .blk (nc b)])) (fun i => a.kids.length - i) ?_ fun i hi => ?_
  · refine qcd 0 [0, 1] ⟨Nat.zero_le _, rfl⟩ rfl (by simp) ?_ ?_ ?_ <;> (try simp only [go_sem, ↓reduceIte, Nat.reduceEqDiff, Nat.reduceAdd, Nat.reduceSub, Nat.reduceMul, Nat.reduceLT, Nat.reduceLeDiff, reduceCtorEq, Int.reduceToNat]) <;> (try simp (disch := omega) only [qo])
  · obtain ⟨hi, ha⟩ := hi
    have hf := q81 h1 h2 h3 ha
    repeat' (first | refine qj ?_ | refine ql ?_ | ((first | refine qn ?_ | refine qcm (by rfl) ?_ | refine qba ?_ | refine qk ?_ | refine qu ?_ | refine qh ?_ | refine qg ?_ | refine qv (ih _ (qh8 (by omega)) _) fun _ => ?_ | refine qy  (ih _ (qh8 (by omega)) _) ?_ | ((first | refine qe ?_ ?_ | refine qd ?_ ?_) <;> intro hc <;> (try simp only [hc]) <;> (try simp only [qb, qa, decide_eq_true_eq, decide_eq_false_iff_not, Bool.and_eq_true] at hc)) | refine And.intro (by first | assumption | omega | (have := qf (by assumption); omega) | (unfold qp; omega)) ?_ | simp (disch := omega) only [qc] | simp (disch := omega) only [qo]) <;> (try simp only [go_sem, ↓reduceIte, Nat.reduceEqDiff, Nat.reduceAdd, Nat.reduceSub, Nat.reduceMul, Nat.reduceLT, Nat.reduceLeDiff, reduceCtorEq, Int.reduceToNat])))
    · rw [hf, qoo (by omega) (by omega), hc]; rfl
    · refine qcd (i + 1) [0, 1] ⟨⟨by omega, ?_⟩, by omega⟩ rfl (by simp) ?_ ?_ ?_ <;> (try simp only [go_sem, ↓reduceIte, Nat.reduceEqDiff, Nat.reduceAdd, Nat.reduceSub, Nat.reduceMul, Nat.reduceLT, Nat.reduceLeDiff, reduceCtorEq, Int.reduceToNat]) <;> (try simp (disch := omega) only [qo])
      rw [← ha, qoo (l := a.kids) (l' := b.kids) (i := i) (by omega) (by omega), hc, Bool.true_and]
    · rw [hf, q2q (by omega) (by omega)]

mutual
def qvg : N → N → Bool
  | .mk k p n t ks, .mk k' p' n' t' ks' => decide (p = p') && decide (k = k') && decide (t = t') && decide (n = n') && qev ks ks'
def qev : List N → List N → Bool
  | [], [] => true
  | x :: r, y :: r' => qvg x y && qev r r'
  | _, _ => false
end
theorem qh2 (a b : N) : qvg a b = (decide (a.pos = b.pos) && decide (a.kind = b.kind) && decide (a.text = b.text) && decide (a.num = b.num) && qev a.kids b.kids) := by cases a; cases b; rw [qvg]; rfl
theorem qsa : ∀ {l l' : List N}, l.length ≠ l'.length → qev l l' = false
  | [], [], h => absurd rfl h
  | [], y :: r', _ => by rw [qev] <;> simp
  | x :: r, [], _ => by rw [qev] <;> simp
  | x :: r, y :: r', h => by rw [qev, qsa (l := r) (l' := r') (by simpa using h)]; simp
theorem qqd {l l' : List N} {i : Nat} (h : i < l.length) (h' : i < l'.length) : qev (l.drop i) (l'.drop i) = (qvg (l.getD i N0) (l'.getD i N0) && qev (l.drop (i + 1)) (l'.drop (i + 1))) := by
  rw [q17 h, q17 h', qev]
theorem q2h {l l' : List N} {i : Nat} (h : l.length ≤ i) (h' : l'.length ≤ i) : qev (l.drop i) (l'.drop i) = true := by
  rw [List.drop_of_length_le h, List.drop_of_length_le h', qev]
theorem qbbs {a b : N} {i : Nat} (h0 : a.pos = b.pos) (h1 : a.kind = b.kind) (h2 : a.text = b.text) (h3 : a.num = b.num) (ha : qev (a.kids.drop i) (b.kids.drop i) = qev a.kids b.kids) : qvg a b = qev (a.kids.drop i) (b.kids.drop i) := by
  rw [ha, qh2]; simp [h0, h1, h2, h3]
theorem q2f : ∀ a b, qde Try.prog 10 [enc a, enc b] (.bool (qvg a b)) := by
  refine N.ind fun a ih b => ?_
  refine qb7 c0ci (by simp) (by simp only [go_sem]) rfl fun hw => ?_
  have hkl : a.kids.length ≤ maxLen := ((qyn a).1 hw.1).1
  repeat' (first | refine qj ?_ | refine ql ?_ | ((first | refine qn ?_ | refine qcm (by rfl) ?_ | refine qba ?_ | refine qk ?_ | refine qu ?_ | refine qh ?_ | refine qg ?_ | ((first | refine qe ?_ ?_ | refine qd ?_ ?_) <;> intro hc <;> (try simp only [hc]) <;> (try simp only [qb, qa, decide_eq_true_eq, decide_eq_false_iff_not, Bool.and_eq_true] at hc)) | refine And.intro (by first | assumption | omega | (have := qf (by assumption); omega) | (unfold qp; omega)) ?_ | simp (disch := omega) only [qc] | simp (disch := omega) only [qo]) <;> (try simp only [go_sem, ↓reduceIte, Nat.reduceEqDiff, Nat.reduceAdd, Nat.reduceSub, Nat.reduceMul, Nat.reduceLT, Nat.reduceLeDiff, reduceCtorEq, Int.reduceToNat])))
  · rw [qh2]; simp [*]
  · rw [qh2]; simp [*]
  · rw [qh2]; simp [*]
  · rw [qh2]; simp [*]
  · rw [qh2, qsa (by omega)]; simp
  rename_i h0 h1 h2 h3
  refine qcy (S := Nat) (fun i => i ≤ a.kids.length ∧ qev (a.kids.drop i) (b.kids.drop i) = qev a.kids b.kids) (fun i => (⟨[(2, .ptr 0 0), (3, .ptr 1 0), (5, .int .i64 i)], []⟩, [.blk (nc a), .blk (nc b)])) (fun i => a.kids.length - i) ?_ fun i hi => ?_
  · refine qcd 0 [0, 1] ⟨Nat.zero_le _, rfl⟩ rfl (by simp) ?_ ?_ ?_ <;> (try simp only [go_sem, ↓reduceIte, Nat.reduceEqDiff, Nat.reduceAdd, Nat.reduceSub, Nat.reduceMul, Nat.reduceLT, Nat.reduceLeDiff, reduceCtorEq, Int.reduceToNat]) <;> (try simp (disch := omega) only [qo])
  · obtain ⟨hi, ha⟩ := hi
    have hf := qbbs h0 h1 h2 h3 ha
    repeat' (first | refine qj ?_ | refine ql ?_ | ((first | refine qn ?_ | refine qcm (by rfl) ?_ | refine qba ?_ | refine qk ?_ | refine qu ?_ | refine qh ?_ | refine qg ?_ | refine qv (ih _ (qh8 (by omega)) _) fun _ => ?_ | refine qy  (ih _ (qh8 (by omega)) _) ?_ | ((first | refine qe ?_ ?_ | refine qd ?_ ?_) <;> intro hc <;> (try simp only [hc]) <;> (try simp only [qb, qa, decide_eq_true_eq, decide_eq_false_iff_not, Bool.and_eq_true] at hc)) | refine And.intro (by first | assumption | omega | (have := qf (by assumption); omega) | (unfold qp; omega)) ?_ | simp (disch := omega) only [qc] | simp (disch := omega) only [qo]) <;> (try simp only [go_sem, ↓reduceIte, Nat.reduceEqDiff, Nat.reduceAdd, Nat.reduceSub, Nat.reduceMul, Nat.reduceLT, Nat.reduceLeDiff, reduceCtorEq, Int.reduceToNat])))
    · rw [hf, qqd (by omega) (by omega), hc]; rfl
    · refine qcd (i + 1) [0, 1] ⟨⟨by omega, ?_⟩, by omega⟩ rfl (by simp) ?_ ?_ ?_ <;> (try simp only [go_sem, ↓reduceIte, Nat.reduceEqDiff, Nat.reduceAdd, Nat.reduceSub, Nat.reduceMul, Nat.reduceLT, Nat.reduceLeDiff, reduceCtorEq, Int.reduceToNat]) <;> (try simp (disch := omega) only [qo])
      rw [← ha, qqd (l := a.kids) (l' := b.kids) (i := i) (by omega) (by omega), hc, Bool.true_and]
    · rw [hf, q2h (by omega) (by omega)]

/-! Strip -/
theorem qt (l : List N) (x : N) : encs l ++ [enc x] = encs (l ++ [x]) := by rw [qe5, qe5]; simp
end Go.Proofs.Ytfjbmjplnmaclaa
