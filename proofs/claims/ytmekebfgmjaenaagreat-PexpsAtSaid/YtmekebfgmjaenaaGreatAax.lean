/- Texts of this proof, joined. -/
import Derived.Test.YtmekebfgmjaenaaGreatAak
import Derived.Test.YtmekebfgmjaenaaGreatAap

/- trees: count, Few, Size, Depth -/
set_option maxRecDepth 4000
namespace Go.Proofs.YtmekebfgmjaenaaGreat
open Go Go.RowKit Go.V
set_option linter.unusedVariables false
set_option linter.unusedSimpArgs false

/-! count, Few -/
mutual
def cntW : N → Int → Int
  | .mk _ _ _ _ ks, k => qbu4 (IntKind.i64.wrap (k - 1)) ks
def qbu4 : Int → List N → Int
  | a, [] => a
  | a, x :: r => if 0 ≤ a then qbu4 (cntW x a) r else a
end
/-! the references -/
mutual
def qt2 : N → Int
  | .mk _ _ _ _ ks => qo6 1 ks
def qo6 : Int → List N → Int
  | a, [] => a
  | a, x :: r => qo6 (IntKind.i64.wrap (a + qt2 x)) r
end
theorem q85 (n : N) : qt2 n = qo6 1 n.kids := by cases n; rw [qt2]; rfl
mutual
def depR : N → Int
  | .mk _ _ _ _ ks => IntKind.i64.wrap (qyq 0 ks + 1)
def qyq : Int → List N → Int
  | a, [] => a
  | a, x :: r => qyq (if depR x > a then depR x else a) r
end
theorem qbk8 (n : N) : depR n = IntKind.i64.wrap (qyq 0 n.kids + 1) := by cases n; rw [depR]; rfl
set_option maxRecDepth 4000

/-- What a loop over a function does with each node. -/
structure Yld (α : Type) where
  m : Nat
  hs : α → List Ent
  i : Nat
  step : α → Int → N → α × Bool
  len : ∀ s, (hs s).length = m
  bd : ∀ s, (hs s).all (Ent.bd m) = true
  lt : i < m
  live : α → Prop
  keep : ∀ s l n, live s → (step s l n).2 = true → live (step s l n).1
  app : ∀ s l n, live s → VApp Tryz.prog (hs s) (.opq i) [.int .i64 l, enc n] (fun H' o => H' = hs (step s l n).1 ∧ o = .val (.bool (step s l n).2))

theorem qbof {α : Type} (y : Yld α) (s : α) : (y.hs s).length = y.m := y.len s
theorem qbud {α : Type} (y : Yld α) (s : α) : (y.hs s).all (Ent.bd y.m) = true := y.bd s
theorem q6b {α : Type} (y : Yld α) (s : α) (L : List Ent) : (y.hs s ++ L).take y.m = y.hs s := by rw [← y.len s]; simp
theorem qbeh {α : Type} (y : Yld α) (s : α) : (y.hs s).all (Ent.bd (y.m + 1)) = true := qbia (by omega) (y.bd s)
theorem qbjz {α : Type} (y : Yld α) : decide (y.i < y.m + 1) = true := by have := y.lt; simp; omega
attribute [go_sem] qbof qbud q6b qbeh qbjz
section
variable {α : Type} (y : Yld α)
theorem qbex {s : α} {l : Int} {n : N} {L : List Ent} {Q : List Ent → VO → Prop} (hlv : y.live s) (h : Q (y.hs (y.step s l n).1 ++ L) (.val (.bool (y.step s l n).2))) : VApp Tryz.prog (y.hs s ++ L) (.opq y.i) [.int .i64 l, enc n] Q := by
  refine q8f (y.app s l n hlv) (by rw [y.len]; exact y.bd s) (by rw [y.len]; simpa [AV.bd] using y.lt) (by simp only [go_sem]) ?_
  rintro H1 o ⟨rfl, rfl⟩
  exact ⟨by rw [y.len, y.len], by rw [y.len]; exact y.bd _, rfl, h⟩
theorem q0s {s s' : α} {b : Bool} {l : Int} {n : N} {L : List Ent} {Q : List Ent → VO → Prop} (hc : VCalls Tryz.prog 100 (y.hs s) [enc n, .int .i64 l, .opq y.i] (fun H' o => H' = y.hs s' ∧ o = .val (.bool b))) (h : Q (y.hs s' ++ L) (.val (.bool b))) : VApp Tryz.prog (y.hs s ++ L) (.fn 100 [] []) [enc n, .int .i64 l, .opq y.i] Q := by
  refine qha (first := []) (caps := []) ?_
  simp only [List.nil_append, List.append_nil]
  have := y.lt
  refine qi5 hc (by rw [y.len]; exact y.bd s) (by simp only [go_sem, this]) ?_
  rintro H1 o ⟨rfl, rfl⟩
  exact ⟨by rw [y.len, y.len], by rw [y.len]; exact y.bd _, rfl, h⟩
mutual
def qfk (f : α → Int → N → α × Bool) : N → Int → α → α × Bool
  | .mk k p n t ks, l, s => if (f s l (.mk k p n t ks)).2 then qgq f (IntKind.i64.wrap (l + 1)) ks (f s l (.mk k p n t ks)).1 else ((f s l (.mk k p n t ks)).1, false)
def qgq (f : α → Int → N → α × Bool) : Int → List N → α → α × Bool
  | l, [], s => (s, true)
  | l, x :: r, s => if (qfk f x l s).2 then qgq f l r (qfk f x l s).1 else ((qfk f x l s).1, false)
end
theorem qko (f : α → Int → N → α × Bool) (n : N) (l : Int) (s : α) : qfk f n l s = if (f s l n).2 then qgq f (IntKind.i64.wrap (l + 1)) n.kids (f s l n).1 else ((f s l n).1, false) := by cases n; rw [qfk]; rfl

theorem qoz (l : Int) : ∀ (r : List N), (∀ x ∈ r, ∀ l s, y.live s → (qfk y.step x l s).2 = true → y.live (qfk y.step x l s).1) → ∀ s, y.live s → (qgq y.step l r s).2 = true → y.live (qgq y.step l r s).1
  | [], _, s, h, _ => h
  | x :: r, hx, s, h, h2 => by
    rw [qgq] at h2 ⊢
    split at h2
    · rename_i h3
      rw [if_pos h3]
      exact qoz l r (fun x hx' => hx x (by simp [hx'])) _ (hx x (by simp) l s h h3) h2
    · cases h2
theorem q1u : ∀ n l s, y.live s → (qfk y.step n l s).2 = true → y.live (qfk y.step n l s).1 := by
  refine N.ind fun n ih l s h h2 => ?_
  rw [qko] at h2 ⊢
  split at h2
  · rename_i h3
    rw [if_pos h3]
    exact qoz y _ n.kids ih _ (y.keep s l n h h3) h2
  · cases h2

theorem qbtx : ∀ n l s, y.live s → VCalls Tryz.prog 100 (y.hs s) [enc n, .int .i64 l, .opq y.i] (fun H' o => H' = y.hs (qfk y.step n l s).1 ∧ o = .val (.bool (qfk y.step n l s).2)) := by
  refine N.ind fun n ih l s hlv => ?_
  have hlen := y.len
  have hlt := y.lt
  refine qsm (by kernel_rfl) fun hw => ?_
  have hkl : n.kids.length ≤ maxLen := ((q9q n).1 hw.1).1
  have hbd : ∀ s, (y.hs s).all (Ent.bd (y.hs s).length) = true := fun s => by rw [y.len]; exact y.bd s
  refine qbd c0dt y.m (by rw [hlen]; exact Nat.le_refl _) (by simp) ?_
  repeat' (first | refine ql ?_ | refine qk ?_ | ((first | refine qn ?_ | refine qm ?_ | refine qs ?_ | refine qj ?_ | refine qi ?_ | refine qbex y hlv ?_); simp only [go_sem, ↓reduceIte, Nat.reduceEqDiff, Nat.reduceAdd, Nat.reduceSub, Nat.reduceMul, Nat.reduceLT, Nat.reduceLeDiff, reduceCtorEq, Int.reduceToNat]) | ((first | refine qf ?_ ?_ | refine qd ?_ ?_) <;> intro hc <;> simp only [hc, go_sem, ↓reduceIte, Nat.reduceEqDiff, Nat.reduceAdd, Nat.reduceSub, Nat.reduceMul, Nat.reduceLT, Nat.reduceLeDiff, reduceCtorEq, Int.reduceToNat] <;> (try simp only [qb, qa, decide_eq_true_eq, decide_eq_false_iff_not, Bool.and_eq_true] at hc)) | refine And.intro (by first | assumption | omega | (have := qg (by assumption); omega) | (unfold qq; omega)) ?_ | ((first | simp (disch := omega) only [qv] | simp (disch := omega) only [qbe]); (try simp only [go_sem, ↓reduceIte, Nat.reduceEqDiff, Nat.reduceAdd, Nat.reduceSub, Nat.reduceMul, Nat.reduceLT, Nat.reduceLeDiff, reduceCtorEq, Int.reduceToNat])))
  · rw [qko, if_neg (by simpa using hc)]
    exact ⟨rfl, rfl⟩
  · refine qca (S := Nat × α) (fun s' => y.live s'.2 ∧ s'.1 ≤ n.kids.length ∧ qgq y.step (IntKind.i64.wrap (l + 1)) (n.kids.drop s'.1) s'.2 = qfk y.step n l s) (fun s' => (⟨[(1, .int .i64 l), (2, .opq y.i), (15, .sl 5 (encs n.kids)), (16, .int .i64 n.kids.length), (17, .int .i64 s'.1)], []⟩, y.hs s'.2 ++ [.blk (enc n).cells])) (fun s => n.kids.length - s.1) ?_ fun s' hs' => ?_
    · refine qvt (0, (y.step s l n).1) [] ⟨y.keep s l n hlv (by simpa using hc), Nat.zero_le _, ?_⟩ ?_ ?_ ?_ ?_ ?_ ?_ <;> (try simp only [go_sem, ↓reduceIte, Nat.reduceEqDiff, Nat.reduceAdd, Nat.reduceSub, Nat.reduceMul, Nat.reduceLT, Nat.reduceLeDiff, reduceCtorEq, Int.reduceToNat]) <;> (try simp (disch := omega) only [qbe])
      rw [qko, if_pos (by simpa using hc)]
    · obtain ⟨i, a⟩ := s'
      obtain ⟨hla, hi, ha⟩ := hs'
      dsimp only at hi ha hla
      have hstep : i < n.kids.length → qfk y.step n l s = if (qfk y.step (n.kids.getD i N0) (IntKind.i64.wrap (l + 1)) a).2 then qgq y.step (IntKind.i64.wrap (l + 1)) (n.kids.drop (i + 1)) (qfk y.step (n.kids.getD i N0) (IntKind.i64.wrap (l + 1)) a).1 else ((qfk y.step (n.kids.getD i N0) (IntKind.i64.wrap (l + 1)) a).1, false) := fun h => by
        rw [← ha, qbg4 (l := n.kids) (i := i) h, qgq]
      repeat' (first | refine ql ?_ | refine qk ?_ | ((first | refine qn ?_ | refine qm ?_ | refine qs ?_ | refine qj ?_ | refine qi ?_ | refine q0s y (ih _ (qq9 (by omega)) _ _ hla) ?_); simp only [go_sem, ↓reduceIte, Nat.reduceEqDiff, Nat.reduceAdd, Nat.reduceSub, Nat.reduceMul, Nat.reduceLT, Nat.reduceLeDiff, reduceCtorEq, Int.reduceToNat]) | ((first | refine qf ?_ ?_ | refine qd ?_ ?_) <;> intro hc <;> simp only [hc, go_sem, ↓reduceIte, Nat.reduceEqDiff, Nat.reduceAdd, Nat.reduceSub, Nat.reduceMul, Nat.reduceLT, Nat.reduceLeDiff, reduceCtorEq, Int.reduceToNat] <;> (try simp only [qb, qa, decide_eq_true_eq, decide_eq_false_iff_not, Bool.and_eq_true] at hc)) | refine And.intro (by first | assumption | omega | (have := qg (by assumption); omega) | (unfold qq; omega)) ?_ | ((first | simp (disch := omega) only [qv] | simp (disch := omega) only [qbe]); (try simp only [go_sem, ↓reduceIte, Nat.reduceEqDiff, Nat.reduceAdd, Nat.reduceSub, Nat.reduceMul, Nat.reduceLT, Nat.reduceLeDiff, reduceCtorEq, Int.reduceToNat])))
      · rw [hstep (by omega), if_neg (by simpa using hc)]
        exact ⟨rfl, rfl⟩
      · refine qvt (i + 1, (qfk y.step (n.kids.getD i N0) (IntKind.i64.wrap (l + 1)) a).1) [.blk (enc (n.kids.getD i N0)).cells] ⟨⟨q1u y _ _ _ hla (by simpa using hc), by omega, ?_⟩, by omega⟩ ?_ ?_ ?_ ?_ ?_ ?_ <;> (try simp only [go_sem, ↓reduceIte, Nat.reduceEqDiff, Nat.reduceAdd, Nat.reduceSub, Nat.reduceMul, Nat.reduceLT, Nat.reduceLeDiff, reduceCtorEq, Int.reduceToNat]) <;> (try simp (disch := omega) only [qbe])
        rw [hstep (by omega), if_pos (by simpa using hc)]
      · rw [← ha, show i = n.kids.length by omega, List.drop_length]
        exact ⟨rfl, rfl⟩

theorem q8j {s s' : α} {b : Bool} {l : Int} {n : N} {Q : List Ent → VO → Prop} (hc : VCalls Tryz.prog 100 (y.hs s) [enc n, .int .i64 l, .opq y.i] (fun H' o => H' = y.hs s' ∧ o = .val (.bool b))) (h : Q (y.hs s') (.val (.bool b))) : VApp Tryz.prog (y.hs s) (.fn 100 [] []) [enc n, .int .i64 l, .opq y.i] Q := by
  have := q0s y (L := []) (Q := Q) hc (by simpa using h)
  simpa using this

theorem qbz5 {n : N} {l : Int} {s : α} {p q : Nat} (hlv : y.live s) (hp : ent (y.hs s) p = .blk (nc n)) (hq : ent (y.hs s) q = .blk [.int .i64 l]) : VCalls Tryz.prog 99 (y.hs s) [.opq y.i, .ptr p 0, .ptr q 0] (fun H' o => H' = y.hs (qfk y.step n l s).1 ∧ o = .val (.tup [])) := by
  refine qbd c0du y.m (by rw [y.len]; exact Nat.le_refl _) (by simp) ?_
  have ht : ∀ s, (y.hs s).take y.m = y.hs s := fun s => by rw [← y.len s]; simp
  refine qn ?_
  simp only [go_sem, hp, hq, ↓reduceIte, Nat.reduceEqDiff, Nat.reduceAdd, Nat.reduceSub, Nat.reduceMul, Nat.reduceLT, Nat.reduceLeDiff, reduceCtorEq, Int.reduceToNat]
  refine q8j y (qbtx y _ _ _ hlv) ?_
  simp only [go_sem, ht, ↓reduceIte, Nat.reduceEqDiff, Nat.reduceAdd, Nat.reduceSub, Nat.reduceMul, Nat.reduceLT, Nat.reduceLeDiff, reduceCtorEq, Int.reduceToNat]
end

theorem qbzr (n : N) (l : Int) : VCalls Tryz.prog 66 [] [enc n, .int .i64 l] (fun H o => H = [.blk (enc n).cells, .blk [.int .i64 l]] ∧ o = .val (.fn 99 [] [.ptr 0 0, .ptr 1 0])) := by
  refine qbd c0dv 2 (by simp) (by simp) ?_
  repeat' (first | refine ql ?_ | ((first | refine qn ?_ | refine qm ?_); simp only [go_sem, ↓reduceIte, Nat.reduceEqDiff, Nat.reduceAdd, Nat.reduceSub, Nat.reduceMul, Nat.reduceLT, Nat.reduceLeDiff, reduceCtorEq, Int.reduceToNat]) | ((first | refine qf ?_ ?_ | refine qd ?_ ?_) <;> intro hc <;> simp only [hc, go_sem, ↓reduceIte, Nat.reduceEqDiff, Nat.reduceAdd, Nat.reduceSub, Nat.reduceMul, Nat.reduceLT, Nat.reduceLeDiff, reduceCtorEq, Int.reduceToNat] <;> (try simp only [qb, qa, decide_eq_true_eq, decide_eq_false_iff_not, Bool.and_eq_true] at hc)) | refine And.intro (by first | assumption | omega | (have := qg (by assumption); omega) | (unfold qq; omega)) ?_ | fail)

/-! Size -/
/-! Depth -/
def q91 (n : N) (fn : FuncId) (asn bd : Code) (ha : qdf Tryz.prog 13 asn = some qz5) (hb : qdf Tryz.prog 13 bd = some q1t) : Yld Int where
  m := 5
  hs := fun k => [.blk (nc n), .blk [.int .i64 k], .blk (nc n), .blk [.int .i64 1], .lp ⟨.ready, none, fn, [7, 8].toArray, asn, bd⟩ (qjn 13 [(6, .fn 99 [] [.ptr 2 0, .ptr 3 0]), (5, enc n), (3, .ptr 1 0), (2, .int .i64 0), (1, .ptr 0 0), (0, enc n)])]
  i := 4
  step := fun k l _ => (if l > k then l else k, true)
  len := fun _ => rfl
  bd := fun k => by simp only [go_sem, ↓reduceIte, Nat.reduceEqDiff, Nat.reduceAdd, Nat.reduceSub, Nat.reduceMul, Nat.reduceLT, Nat.reduceLeDiff, reduceCtorEq, Int.reduceToNat]
  lt := by omega
  live := fun _ => True
  keep := fun _ _ _ _ _ => trivial
  app := fun k l x _ => by
    refine qyp (k := 5) rfl rfl qsd ha hb (by simp) (by simp) (by simp) fun lp => ?_
    repeat' (first | refine ql ?_ | refine qk ?_ | refine qfg ?_ | ((first | refine qn ?_ | refine qx (by rfl) ?_ | refine qw ?_ | refine qe3 ?_ | refine qgj ?_ | refine qm ?_ | refine qs ?_ | refine qj ?_ | refine qi ?_); simp only [go_sem, ↓reduceIte, Nat.reduceEqDiff, Nat.reduceAdd, Nat.reduceSub, Nat.reduceMul, Nat.reduceLT, Nat.reduceLeDiff, reduceCtorEq, Int.reduceToNat]) | ((first | refine qf ?_ ?_ | refine qd ?_ ?_) <;> intro hc <;> simp only [hc, go_sem, ↓reduceIte, Nat.reduceEqDiff, Nat.reduceAdd, Nat.reduceSub, Nat.reduceMul, Nat.reduceLT, Nat.reduceLeDiff, reduceCtorEq, Int.reduceToNat] <;> (try simp only [qb, qa, decide_eq_true_eq, decide_eq_false_iff_not, Bool.and_eq_true] at hc)) | refine And.intro (by first | assumption | omega | (have := qg (by assumption); omega) | (unfold qq; omega)) ?_ | ((first | simp (disch := omega) only [qv] | simp (disch := omega) only [qbe]); (try simp only [go_sem, ↓reduceIte, Nat.reduceEqDiff, Nat.reduceAdd, Nat.reduceSub, Nat.reduceMul, Nat.reduceLT, Nat.reduceLeDiff, reduceCtorEq, Int.reduceToNat])))

theorem qzz (n : N) : qbp Tryz.prog 38 [enc n] (.int .i64 (qfk (fun (k : Int) l _ => (if l > k then l else k, true)) n 1 0).1) := by
  refine qba c0dw (by simp) (by simp only [go_sem]) rfl fun hw => ?_
  repeat' (first | refine ql ?_ | refine qk ?_ | ((first | refine qn ?_ | refine qm ?_); simp only [go_sem, ↓reduceIte, Nat.reduceEqDiff, Nat.reduceAdd, Nat.reduceSub, Nat.reduceMul, Nat.reduceLT, Nat.reduceLeDiff, reduceCtorEq, Int.reduceToNat]) | ((first | refine qf ?_ ?_ | refine qd ?_ ?_) <;> intro hc <;> simp only [hc, go_sem, ↓reduceIte, Nat.reduceEqDiff, Nat.reduceAdd, Nat.reduceSub, Nat.reduceMul, Nat.reduceLT, Nat.reduceLeDiff, reduceCtorEq, Int.reduceToNat] <;> (try simp only [qb, qa, decide_eq_true_eq, decide_eq_false_iff_not, Bool.and_eq_true] at hc)) | refine And.intro (by first | assumption | omega | (have := qg (by assumption); omega) | (unfold qq; omega)) ?_ | fail)
  refine qv1 (qbzr n 1) (by simp only [go_sem]) ?_
  rintro H1 o ⟨rfl, rfl⟩
  simp only [go_sem, ↓reduceIte, Nat.reduceEqDiff, Nat.reduceAdd, Nat.reduceSub, Nat.reduceMul, Nat.reduceLT, Nat.reduceLeDiff, reduceCtorEq, Int.reduceToNat]
  refine qk (q93 rfl (Nat.zero_le _) fun fn asn bd ha hb => ?_)
  refine VCalls.mono (qbz5 (q91 n fn asn bd ha hb) (n := n) (l := 1) (s := 0) (p := 2) (q := 3) trivial rfl rfl) ?_
  rintro H1 o ⟨rfl, rfl⟩
  simp only [q91, go_sem, ↓reduceIte, Nat.reduceEqDiff, Nat.reduceAdd, Nat.reduceSub, Nat.reduceMul, Nat.reduceLT, Nat.reduceLeDiff, reduceCtorEq, Int.reduceToNat]
  repeat' (first | refine ql ?_ | refine qk ?_ | ((first | refine qn ?_ | refine qm ?_); simp only [go_sem, ↓reduceIte, Nat.reduceEqDiff, Nat.reduceAdd, Nat.reduceSub, Nat.reduceMul, Nat.reduceLT, Nat.reduceLeDiff, reduceCtorEq, Int.reduceToNat]) | ((first | refine qf ?_ ?_ | refine qd ?_ ?_) <;> intro hc <;> simp only [hc, go_sem, ↓reduceIte, Nat.reduceEqDiff, Nat.reduceAdd, Nat.reduceSub, Nat.reduceMul, Nat.reduceLT, Nat.reduceLeDiff, reduceCtorEq, Int.reduceToNat] <;> (try simp only [qb, qa, decide_eq_true_eq, decide_eq_false_iff_not, Bool.and_eq_true] at hc)) | refine And.intro (by first | assumption | omega | (have := qg (by assumption); omega) | (unfold qq; omega)) ?_ | fail)
set_option maxRecDepth 4000

mutual
def qbz6 : N → N → Bool
  | .mk k _ n t ks, .mk k' _ n' t' ks' => decide (k = k') && decide (t = t') && decide (n = n') && qpc ks ks'
def qpc : List N → List N → Bool
  | [], [] => true
  | x :: r, y :: r' => qbz6 x y && qpc r r'
  | _, _ => false
end
theorem qx7 : ∀ {l l' : List N}, l.length ≠ l'.length → qpc l l' = false
  | [], [], h => absurd rfl h
  | [], y :: r', _ => by rw [qpc] <;> simp
  | x :: r, [], _ => by rw [qpc] <;> simp
  | x :: r, y :: r', h => by rw [qpc, qx7 (l := r) (l' := r') (by simpa using h)]; simp
mutual
def qr1 : N → N → Bool
  | .mk k p n t ks, .mk k' p' n' t' ks' => decide (p = p') && decide (k = k') && decide (t = t') && decide (n = n') && qe0 ks ks'
def qe0 : List N → List N → Bool
  | [], [] => true
  | x :: r, y :: r' => qr1 x y && qe0 r r'
  | _, _ => false
end
theorem qhl (a b : N) : qr1 a b = (decide (a.pos = b.pos) && decide (a.kind = b.kind) && decide (a.text = b.text) && decide (a.num = b.num) && qe0 a.kids b.kids) := by cases a; cases b; rw [qr1]; rfl
theorem qph : ∀ {l l' : List N}, l.length ≠ l'.length → qe0 l l' = false
  | [], [], h => absurd rfl h
  | [], y :: r', _ => by rw [qe0] <;> simp
  | x :: r, [], _ => by rw [qe0] <;> simp
  | x :: r, y :: r', h => by rw [qe0, qph (l := r) (l' := r') (by simpa using h)]; simp
theorem qm7 {l l' : List N} {i : Nat} (h : i < l.length) (h' : i < l'.length) : qe0 (l.drop i) (l'.drop i) = (qr1 (l.getD i N0) (l'.getD i N0) && qe0 (l.drop (i + 1)) (l'.drop (i + 1))) := by
  rw [qbg4 h, qbg4 h', qe0]
theorem qyj {l l' : List N} {i : Nat} (h : l.length ≤ i) (h' : l'.length ≤ i) : qe0 (l.drop i) (l'.drop i) = true := by
  rw [List.drop_of_length_le h, List.drop_of_length_le h', qe0]
theorem q3v {a b : N} {i : Nat} (h0 : a.pos = b.pos) (h1 : a.kind = b.kind) (h2 : a.text = b.text) (h3 : a.num = b.num) (ha : qe0 (a.kids.drop i) (b.kids.drop i) = qe0 a.kids b.kids) : qr1 a b = qe0 (a.kids.drop i) (b.kids.drop i) := by
  rw [ha, qhl]; simp [h0, h1, h2, h3]
theorem qor : ∀ a b, qbp Tryz.prog 14 [enc a, enc b] (.bool (qr1 a b)) := by
  refine N.ind fun a ih b => ?_
  refine qba c0ds (by simp) (by simp only [go_sem]) rfl fun hw => ?_
  have hkl : a.kids.length ≤ maxLen := ((q9q a).1 hw.1).1
  repeat' (first | refine ql ?_ | refine qk ?_ | ((first | refine qn ?_ | refine qx (by rfl) ?_ | refine qw ?_ | refine qm ?_ | refine qs ?_ | refine qj ?_ | refine qi ?_); simp only [go_sem, ↓reduceIte, Nat.reduceEqDiff, Nat.reduceAdd, Nat.reduceSub, Nat.reduceMul, Nat.reduceLT, Nat.reduceLeDiff, reduceCtorEq, Int.reduceToNat]) | ((first | refine qf ?_ ?_ | refine qd ?_ ?_) <;> intro hc <;> simp only [hc, go_sem, ↓reduceIte, Nat.reduceEqDiff, Nat.reduceAdd, Nat.reduceSub, Nat.reduceMul, Nat.reduceLT, Nat.reduceLeDiff, reduceCtorEq, Int.reduceToNat] <;> (try simp only [qb, qa, decide_eq_true_eq, decide_eq_false_iff_not, Bool.and_eq_true] at hc)) | refine And.intro (by first | assumption | omega | (have := qg (by assumption); omega) | (unfold qq; omega)) ?_ | ((first | simp (disch := omega) only [qv] | simp (disch := omega) only [qbe]); (try simp only [go_sem, ↓reduceIte, Nat.reduceEqDiff, Nat.reduceAdd, Nat.reduceSub, Nat.reduceMul, Nat.reduceLT, Nat.reduceLeDiff, reduceCtorEq, Int.reduceToNat])))
  · rw [qhl]; simp [*]
  · rw [qhl]; simp [*]
  · rw [qhl]; simp [*]
  · rw [qhl]; simp [*]
  · rw [qhl, qph (by omega)]; simp
  rename_i h0 h1 h2 h3
  refine qca (S := Nat) (fun i => i ≤ a.kids.length ∧ qe0 (a.kids.drop i) (b.kids.drop i) = qe0 a.kids b.kids) (fun i => (⟨[(2, .ptr 0 0), (3, .ptr 1 0), (5, .int .i64 i)], []⟩, [.blk (nc a), .blk (nc b)])) (fun i => a.kids.length - i) ?_ fun i hi => ?_
  · refine qbq 0 [0, 1] ⟨Nat.zero_le _, rfl⟩ rfl (by simp) ?_ ?_ ?_ <;> (try simp only [go_sem, ↓reduceIte, Nat.reduceEqDiff, Nat.reduceAdd, Nat.reduceSub, Nat.reduceMul, Nat.reduceLT, Nat.reduceLeDiff, reduceCtorEq, Int.reduceToNat]) <;> (try simp (disch := omega) only [qbe])
  · obtain ⟨hi, ha⟩ := hi
    have hf := q3v h0 h1 h2 h3 ha
    repeat' (first | refine ql ?_ | refine qk ?_ | ((first | refine qn ?_ | refine qx (by rfl) ?_ | refine qw ?_ | refine qm ?_ | refine qs ?_ | refine qj ?_ | refine qi ?_ | refine qc (ih _ (qq9 (by omega)) _) fun _ => ?_ | refine qe  (ih _ (qq9 (by omega)) _) ?_); simp only [go_sem, ↓reduceIte, Nat.reduceEqDiff, Nat.reduceAdd, Nat.reduceSub, Nat.reduceMul, Nat.reduceLT, Nat.reduceLeDiff, reduceCtorEq, Int.reduceToNat]) | ((first | refine qf ?_ ?_ | refine qd ?_ ?_) <;> intro hc <;> simp only [hc, go_sem, ↓reduceIte, Nat.reduceEqDiff, Nat.reduceAdd, Nat.reduceSub, Nat.reduceMul, Nat.reduceLT, Nat.reduceLeDiff, reduceCtorEq, Int.reduceToNat] <;> (try simp only [qb, qa, decide_eq_true_eq, decide_eq_false_iff_not, Bool.and_eq_true] at hc)) | refine And.intro (by first | assumption | omega | (have := qg (by assumption); omega) | (unfold qq; omega)) ?_ | ((first | simp (disch := omega) only [qv] | simp (disch := omega) only [qbe]); (try simp only [go_sem, ↓reduceIte, Nat.reduceEqDiff, Nat.reduceAdd, Nat.reduceSub, Nat.reduceMul, Nat.reduceLT, Nat.reduceLeDiff, reduceCtorEq, Int.reduceToNat])))
    · rw [hf, qm7 (by omega) (by omega), hc]; rfl
    · refine qbq (i + 1) [0, 1] ⟨⟨by omega, ?_⟩, by omega⟩ rfl (by simp) ?_ ?_ ?_ <;> (try simp only [go_sem, ↓reduceIte, Nat.reduceEqDiff, Nat.reduceAdd, Nat.reduceSub, Nat.reduceMul, Nat.reduceLT, Nat.reduceLeDiff, reduceCtorEq, Int.reduceToNat]) <;> (try simp (disch := omega) only [qbe])
      rw [← ha, qm7 (l := a.kids) (l' := b.kids) (i := i) (by omega) (by omega), hc, Bool.true_and]
    · rw [hf, qyj (by omega) (by omega)]

/-! Strip -/
theorem qz (l : List N) (x : N) : encs l ++ [enc x] = encs (l ++ [x]) := by rw [qfd, qfd]; simp
end Go.Proofs.YtmekebfgmjaenaaGreat
