/- Texts of this proof, joined. -/
import Derived.Test.YtjigahnncojikaaPaj
import Derived.Test.YtjigahnncojikaaPao

/- trees: count, Few, Size, Depth -/
set_option maxRecDepth 4000
namespace Go.Proofs.Ytjigahnncojikaa
open Go Go.RowKit Go.V
set_option linter.unusedVariables false
set_option linter.unusedSimpArgs false

/-! count, Few -/
mutual
def cntW : N → Int → Int
  | .mk _ _ _ _ ks, k => cntsW (IntKind.i64.wrap (k - 1)) ks
def cntsW : Int → List N → Int
  | a, [] => a
  | a, x :: r => if 0 ≤ a then cntsW (cntW x a) r else a
end
/-! the references -/
mutual
def sizeR : N → Int
  | .mk _ _ _ _ ks => sizesR 1 ks
def sizesR : Int → List N → Int
  | a, [] => a
  | a, x :: r => sizesR (IntKind.i64.wrap (a + sizeR x)) r
end
theorem sizeR_eq (n : N) : sizeR n = sizesR 1 n.kids := by cases n; rw [sizeR]; rfl
mutual
def depR : N → Int
  | .mk _ _ _ _ ks => IntKind.i64.wrap (depsR 0 ks + 1)
def depsR : Int → List N → Int
  | a, [] => a
  | a, x :: r => depsR (if depR x > a then depR x else a) r
end
theorem depR_eq (n : N) : depR n = IntKind.i64.wrap (depsR 0 n.kids + 1) := by cases n; rw [depR]; rfl
theorem depth12 : ∀ n, VPure Try.prog 31 [enc n] (.int .i64 (depR n)) := by
  refine N.ind fun n ih => ?_
  refine vpure_of c0cr (by simp) (by simp only [go_sem]) rfl fun hw => ?_
  have hkl : n.kids.length ≤ maxLen := ((enc_wf n).1 hw.1).1
  repeat' (first | refine vi_seq ?_ | refine vi_block ?_ | refine vi_scope ?_ | ((first | refine vi_reg ?_ | refine vi_regE (by rfl) ?_ | refine vi_regD ?_ | refine vi_label ?_ | refine vi_goto ?_ | refine vi_ret ?_ | refine vi_exit ?_ | refine vi_skip ?_ | refine vi_cond ?_); simp only [go_sem, ↓reduceIte, Nat.reduceEqDiff, Nat.reduceAdd, Nat.reduceSub, Nat.reduceMul, Nat.reduceLT, Nat.reduceLeDiff, reduceCtorEq, Int.reduceToNat]) | ((first | refine gd_caseb ?_ ?_ | refine cnd_caseb ?_ ?_) <;> intro hc <;> simp only [hc, go_sem, ↓reduceIte, Nat.reduceEqDiff, Nat.reduceAdd, Nat.reduceSub, Nat.reduceMul, Nat.reduceLT, Nat.reduceLeDiff, reduceCtorEq, Int.reduceToNat] <;> (try simp only [bool_not_true, bool_not_false, decide_eq_true_eq, decide_eq_false_iff_not, Bool.and_eq_true] at hc)) | refine And.intro (by first | assumption | omega | (have := len_pos (by assumption); omega) | (unfold capOK; omega)) ?_ | ((first | simp (disch := omega) only [encs_getN] | simp (disch := omega) only [wrapS]); (try simp only [go_sem, ↓reduceIte, Nat.reduceEqDiff, Nat.reduceAdd, Nat.reduceSub, Nat.reduceMul, Nat.reduceLT, Nat.reduceLeDiff, reduceCtorEq, Int.reduceToNat])))
  refine vi_loop (S := Nat × Int) (fun s => s.1 ≤ n.kids.length ∧ IntKind.i64.wrap (depsR s.2 (n.kids.drop s.1) + 1) = depR n) (fun s => (⟨[(1, .ptr 0 0), (3, .int .i64 s.2), (4, .int .i64 s.1)], []⟩, [.blk (enc n).cells])) (fun s => n.kids.length - s.1) ?_ fun s hs => ?_
  · refine at_of (0, 0) [0] ⟨Nat.zero_le _, (depR_eq n).symm⟩ rfl (by simp) ?_ ?_ ?_ <;> (try simp only [go_sem, ↓reduceIte, Nat.reduceEqDiff, Nat.reduceAdd, Nat.reduceSub, Nat.reduceMul, Nat.reduceLT, Nat.reduceLeDiff, reduceCtorEq, Int.reduceToNat]) <;> (try simp (disch := omega) only [wrapS])
  · obtain ⟨i, a⟩ := s
    obtain ⟨hi, ha⟩ := hs
    dsimp only at hi ha
    repeat' (first | refine vi_seq ?_ | refine vi_block ?_ | refine vi_scope ?_ | ((first | refine vi_reg ?_ | refine vi_regE (by rfl) ?_ | refine vi_regD ?_ | refine vi_label ?_ | refine vi_goto ?_ | refine vi_ret ?_ | refine vi_exit ?_ | refine vi_skip ?_ | refine vi_cond ?_ | refine vapp_pure0 (ih _ (getN_mem (by omega))) fun _ => ?_ | refine dapp_pure  (ih _ (getN_mem (by omega))) ?_); simp only [go_sem, ↓reduceIte, Nat.reduceEqDiff, Nat.reduceAdd, Nat.reduceSub, Nat.reduceMul, Nat.reduceLT, Nat.reduceLeDiff, reduceCtorEq, Int.reduceToNat]) | ((first | refine gd_caseb ?_ ?_ | refine cnd_caseb ?_ ?_) <;> intro hc <;> simp only [hc, go_sem, ↓reduceIte, Nat.reduceEqDiff, Nat.reduceAdd, Nat.reduceSub, Nat.reduceMul, Nat.reduceLT, Nat.reduceLeDiff, reduceCtorEq, Int.reduceToNat] <;> (try simp only [bool_not_true, bool_not_false, decide_eq_true_eq, decide_eq_false_iff_not, Bool.and_eq_true] at hc)) | refine And.intro (by first | assumption | omega | (have := len_pos (by assumption); omega) | (unfold capOK; omega)) ?_ | ((first | simp (disch := omega) only [encs_getN] | simp (disch := omega) only [wrapS]); (try simp only [go_sem, ↓reduceIte, Nat.reduceEqDiff, Nat.reduceAdd, Nat.reduceSub, Nat.reduceMul, Nat.reduceLT, Nat.reduceLeDiff, reduceCtorEq, Int.reduceToNat])))
    · refine at_of (i + 1, if depR (n.kids.getD i N0) > a then depR (n.kids.getD i N0) else a) [0] ⟨⟨by omega, ?_⟩, by omega⟩ rfl (by simp) ?_ ?_ ?_ <;> (try simp only [go_sem, ↓reduceIte, Nat.reduceEqDiff, Nat.reduceAdd, Nat.reduceSub, Nat.reduceMul, Nat.reduceLT, Nat.reduceLeDiff, reduceCtorEq, Int.reduceToNat]) <;> (try simp (disch := omega) only [wrapS])
      rw [← ha, dropN (l := n.kids) (i := i) (by omega), depsR]
    · rw [← ha, show i = n.kids.length by omega, List.drop_length]; rfl
end Go.Proofs.Ytjigahnncojikaa

/- trees: the walk over all nodes, by a loop over a function -/
set_option maxRecDepth 4000
namespace Go.Proofs.Ytjigahnncojikaa
open Go Go.RowKit Go.V
set_option linter.unusedVariables false
set_option linter.unusedSimpArgs false

/-- What a loop over a function does with each node. -/
structure Yld (α : Type) where
  m : Nat
  hs : α → List Ent
  i : Nat
  step : α → Int → N → α × Bool
  len : ∀ s, (hs s).length = m
  bd : ∀ s, (hs s).all (Ent.bd m) = true
  lt : i < m
  live : α → Prop
  keep : ∀ s l n, live s → (step s l n).2 = true → live (step s l n).1
  app : ∀ s l n, live s → VApp Try.prog (hs s) (.opq i) [.int .i64 l, enc n] (fun H' o => H' = hs (step s l n).1 ∧ o = .val (.bool (step s l n).2))

theorem yld_len {α : Type} (y : Yld α) (s : α) : (y.hs s).length = y.m := y.len s
theorem yld_bd {α : Type} (y : Yld α) (s : α) : (y.hs s).all (Ent.bd y.m) = true := y.bd s
theorem yld_take {α : Type} (y : Yld α) (s : α) (L : List Ent) : (y.hs s ++ L).take y.m = y.hs s := by rw [← y.len s]; simp
theorem yld_bd1 {α : Type} (y : Yld α) (s : α) : (y.hs s).all (Ent.bd (y.m + 1)) = true := ebds_le (by omega) (y.bd s)
theorem yld_lt1 {α : Type} (y : Yld α) : decide (y.i < y.m + 1) = true := by have := y.lt; simp; omega
attribute [go_sem] yld_len yld_bd yld_take yld_bd1 yld_lt1
section
variable {α : Type} (y : Yld α)
theorem yld_app {s : α} {l : Int} {n : N} {L : List Ent} {Q : List Ent → VO → Prop} (hlv : y.live s) (h : Q (y.hs (y.step s l n).1 ++ L) (.val (.bool (y.step s l n).2))) : VApp Try.prog (y.hs s ++ L) (.opq y.i) [.int .i64 l, enc n] Q := by
  refine vapp_pre (y.app s l n hlv) (by rw [y.len]; exact y.bd s) (by rw [y.len]; simpa [AV.bd] using y.lt) (by simp only [go_sem]) ?_
  rintro H1 o ⟨rfl, rfl⟩
  exact ⟨by rw [y.len, y.len], by rw [y.len]; exact y.bd _, rfl, h⟩
theorem wlk_app {s s' : α} {b : Bool} {l : Int} {n : N} {L : List Ent} {Q : List Ent → VO → Prop} (hc : VCalls Try.prog 94 (y.hs s) [enc n, .int .i64 l, .opq y.i] (fun H' o => H' = y.hs s' ∧ o = .val (.bool b))) (h : Q (y.hs s' ++ L) (.val (.bool b))) : VApp Try.prog (y.hs s ++ L) (.fn 94 [] []) [enc n, .int .i64 l, .opq y.i] Q := by
  refine vapp_fn (first := []) (caps := []) ?_
  simp only [List.nil_append, List.append_nil]
  have := y.lt
  refine vcalls_pre hc (by rw [y.len]; exact y.bd s) (by simp only [go_sem, this]) ?_
  rintro H1 o ⟨rfl, rfl⟩
  exact ⟨by rw [y.len, y.len], by rw [y.len]; exact y.bd _, rfl, h⟩
mutual
def walkW (f : α → Int → N → α × Bool) : N → Int → α → α × Bool
  | .mk k p n t ks, l, s => if (f s l (.mk k p n t ks)).2 then walksW f (IntKind.i64.wrap (l + 1)) ks (f s l (.mk k p n t ks)).1 else ((f s l (.mk k p n t ks)).1, false)
def walksW (f : α → Int → N → α × Bool) : Int → List N → α → α × Bool
  | l, [], s => (s, true)
  | l, x :: r, s => if (walkW f x l s).2 then walksW f l r (walkW f x l s).1 else ((walkW f x l s).1, false)
end
theorem walkW_eq (f : α → Int → N → α × Bool) (n : N) (l : Int) (s : α) : walkW f n l s = if (f s l n).2 then walksW f (IntKind.i64.wrap (l + 1)) n.kids (f s l n).1 else ((f s l n).1, false) := by cases n; rw [walkW]; rfl

theorem walks_live (l : Int) : ∀ (r : List N), (∀ x ∈ r, ∀ l s, y.live s → (walkW y.step x l s).2 = true → y.live (walkW y.step x l s).1) → ∀ s, y.live s → (walksW y.step l r s).2 = true → y.live (walksW y.step l r s).1
  | [], _, s, h, _ => h
  | x :: r, hx, s, h, h2 => by
    rw [walksW] at h2 ⊢
    split at h2
    · rename_i h3
      rw [if_pos h3]
      exact walks_live l r (fun x hx' => hx x (by simp [hx'])) _ (hx x (by simp) l s h h3) h2
    · cases h2
theorem walk_live : ∀ n l s, y.live s → (walkW y.step n l s).2 = true → y.live (walkW y.step n l s).1 := by
  refine N.ind fun n ih l s h h2 => ?_
  rw [walkW_eq] at h2 ⊢
  split at h2
  · rename_i h3
    rw [if_pos h3]
    exact walks_live y _ n.kids ih _ (y.keep s l n h h3) h2
  · cases h2

theorem walk41 : ∀ n l s, y.live s → VCalls Try.prog 94 (y.hs s) [enc n, .int .i64 l, .opq y.i] (fun H' o => H' = y.hs (walkW y.step n l s).1 ∧ o = .val (.bool (walkW y.step n l s).2)) := by
  refine N.ind fun n ih l s hlv => ?_
  have hlen := y.len
  have hlt := y.lt
  refine vcalls_wf (by kernel_rfl) fun hw => ?_
  have hkl : n.kids.length ≤ maxLen := ((enc_wf n).1 hw.1).1
  have hbd : ∀ s, (y.hs s).all (Ent.bd (y.hs s).length) = true := fun s => by rw [y.len]; exact y.bd s
  refine vcalls_of c0cz y.m (by rw [hlen]; exact Nat.le_refl _) (by simp) ?_
  repeat' (first | refine vi_seq ?_ | refine vi_block ?_ | refine vi_scope ?_ | ((first | refine vi_reg ?_ | refine vi_regE (by rfl) ?_ | refine vi_regD ?_ | refine vi_label ?_ | refine vi_goto ?_ | refine vi_ret ?_ | refine vi_exit ?_ | refine vi_skip ?_ | refine vi_cond ?_ | refine yld_app y hlv ?_); simp only [go_sem, ↓reduceIte, Nat.reduceEqDiff, Nat.reduceAdd, Nat.reduceSub, Nat.reduceMul, Nat.reduceLT, Nat.reduceLeDiff, reduceCtorEq, Int.reduceToNat]) | ((first | refine gd_caseb ?_ ?_ | refine cnd_caseb ?_ ?_) <;> intro hc <;> simp only [hc, go_sem, ↓reduceIte, Nat.reduceEqDiff, Nat.reduceAdd, Nat.reduceSub, Nat.reduceMul, Nat.reduceLT, Nat.reduceLeDiff, reduceCtorEq, Int.reduceToNat] <;> (try simp only [bool_not_true, bool_not_false, decide_eq_true_eq, decide_eq_false_iff_not, Bool.and_eq_true] at hc)) | refine And.intro (by first | assumption | omega | (have := len_pos (by assumption); omega) | (unfold capOK; omega)) ?_ | ((first | simp (disch := omega) only [encs_getN] | simp (disch := omega) only [wrapS]); (try simp only [go_sem, ↓reduceIte, Nat.reduceEqDiff, Nat.reduceAdd, Nat.reduceSub, Nat.reduceMul, Nat.reduceLT, Nat.reduceLeDiff, reduceCtorEq, Int.reduceToNat])))
  · rw [walkW_eq, if_neg (by simpa using hc)]
    exact ⟨rfl, rfl⟩
  · refine vi_loop (S := Nat × α) (fun s' => y.live s'.2 ∧ s'.1 ≤ n.kids.length ∧ walksW y.step (IntKind.i64.wrap (l + 1)) (n.kids.drop s'.1) s'.2 = walkW y.step n l s) (fun s' => (⟨[(1, .int .i64 l), (2, .opq y.i), (15, .sl 5 (encs n.kids)), (16, .int .i64 n.kids.length), (17, .int .i64 s'.1)], []⟩, y.hs s'.2 ++ [.blk (enc n).cells])) (fun s => n.kids.length - s.1) ?_ fun s' hs' => ?_
    · refine at_pre (0, (y.step s l n).1) [] ⟨y.keep s l n hlv (by simpa using hc), Nat.zero_le _, ?_⟩ ?_ ?_ ?_ ?_ ?_ ?_ <;> (try simp only [go_sem, ↓reduceIte, Nat.reduceEqDiff, Nat.reduceAdd, Nat.reduceSub, Nat.reduceMul, Nat.reduceLT, Nat.reduceLeDiff, reduceCtorEq, Int.reduceToNat]) <;> (try simp (disch := omega) only [wrapS])
      rw [walkW_eq, if_pos (by simpa using hc)]
    · obtain ⟨i, a⟩ := s'
      obtain ⟨hla, hi, ha⟩ := hs'
      dsimp only at hi ha hla
      have hstep : i < n.kids.length → walkW y.step n l s = if (walkW y.step (n.kids.getD i N0) (IntKind.i64.wrap (l + 1)) a).2 then walksW y.step (IntKind.i64.wrap (l + 1)) (n.kids.drop (i + 1)) (walkW y.step (n.kids.getD i N0) (IntKind.i64.wrap (l + 1)) a).1 else ((walkW y.step (n.kids.getD i N0) (IntKind.i64.wrap (l + 1)) a).1, false) := fun h => by
        rw [← ha, dropN (l := n.kids) (i := i) h, walksW]
      repeat' (first | refine vi_seq ?_ | refine vi_block ?_ | refine vi_scope ?_ | ((first | refine vi_reg ?_ | refine vi_regE (by rfl) ?_ | refine vi_regD ?_ | refine vi_label ?_ | refine vi_goto ?_ | refine vi_ret ?_ | refine vi_exit ?_ | refine vi_skip ?_ | refine vi_cond ?_ | refine wlk_app y (ih _ (getN_mem (by omega)) _ _ hla) ?_); simp only [go_sem, ↓reduceIte, Nat.reduceEqDiff, Nat.reduceAdd, Nat.reduceSub, Nat.reduceMul, Nat.reduceLT, Nat.reduceLeDiff, reduceCtorEq, Int.reduceToNat]) | ((first | refine gd_caseb ?_ ?_ | refine cnd_caseb ?_ ?_) <;> intro hc <;> simp only [hc, go_sem, ↓reduceIte, Nat.reduceEqDiff, Nat.reduceAdd, Nat.reduceSub, Nat.reduceMul, Nat.reduceLT, Nat.reduceLeDiff, reduceCtorEq, Int.reduceToNat] <;> (try simp only [bool_not_true, bool_not_false, decide_eq_true_eq, decide_eq_false_iff_not, Bool.and_eq_true] at hc)) | refine And.intro (by first | assumption | omega | (have := len_pos (by assumption); omega) | (unfold capOK; omega)) ?_ | ((first | simp (disch := omega) only [encs_getN] | simp (disch := omega) only [wrapS]); (try simp only [go_sem, ↓reduceIte, Nat.reduceEqDiff, Nat.reduceAdd, Nat.reduceSub, Nat.reduceMul, Nat.reduceLT, Nat.reduceLeDiff, reduceCtorEq, Int.reduceToNat])))
      · rw [hstep (by omega), if_neg (by simpa using hc)]
        exact ⟨rfl, rfl⟩
      · refine at_pre (i + 1, (walkW y.step (n.kids.getD i N0) (IntKind.i64.wrap (l + 1)) a).1) [.blk (enc (n.kids.getD i N0)).cells] ⟨⟨walk_live y _ _ _ hla (by simpa using hc), by omega, ?_⟩, by omega⟩ ?_ ?_ ?_ ?_ ?_ ?_ <;> (try simp only [go_sem, ↓reduceIte, Nat.reduceEqDiff, Nat.reduceAdd, Nat.reduceSub, Nat.reduceMul, Nat.reduceLT, Nat.reduceLeDiff, reduceCtorEq, Int.reduceToNat]) <;> (try simp (disch := omega) only [wrapS])
        rw [hstep (by omega), if_pos (by simpa using hc)]
      · rw [← ha, show i = n.kids.length by omega, List.drop_length]
        exact ⟨rfl, rfl⟩

theorem wlk_app0 {s s' : α} {b : Bool} {l : Int} {n : N} {Q : List Ent → VO → Prop} (hc : VCalls Try.prog 94 (y.hs s) [enc n, .int .i64 l, .opq y.i] (fun H' o => H' = y.hs s' ∧ o = .val (.bool b))) (h : Q (y.hs s') (.val (.bool b))) : VApp Try.prog (y.hs s) (.fn 94 [] []) [enc n, .int .i64 l, .opq y.i] Q := by
  have := wlk_app y (L := []) (Q := Q) hc (by simpa using h)
  simpa using this

theorem all40 {n : N} {l : Int} {s : α} {p q : Nat} (hlv : y.live s) (hp : ent (y.hs s) p = .blk (nc n)) (hq : ent (y.hs s) q = .blk [.int .i64 l]) : VCalls Try.prog 93 (y.hs s) [.opq y.i, .ptr p 0, .ptr q 0] (fun H' o => H' = y.hs (walkW y.step n l s).1 ∧ o = .val (.tup [])) := by
  refine vcalls_of c0cy y.m (by rw [y.len]; exact Nat.le_refl _) (by simp) ?_
  have ht : ∀ s, (y.hs s).take y.m = y.hs s := fun s => by rw [← y.len s]; simp
  refine vi_reg ?_
  simp only [go_sem, hp, hq, ↓reduceIte, Nat.reduceEqDiff, Nat.reduceAdd, Nat.reduceSub, Nat.reduceMul, Nat.reduceLT, Nat.reduceLeDiff, reduceCtorEq, Int.reduceToNat]
  refine wlk_app0 y (walk41 y _ _ _ hlv) ?_
  simp only [go_sem, ht, ↓reduceIte, Nat.reduceEqDiff, Nat.reduceAdd, Nat.reduceSub, Nat.reduceMul, Nat.reduceLT, Nat.reduceLeDiff, reduceCtorEq, Int.reduceToNat]
end

theorem all27 (n : N) (l : Int) : VCalls Try.prog 83 [] [enc n, .int .i64 l] (fun H o => H = [.blk (enc n).cells, .blk [.int .i64 l]] ∧ o = .val (.fn 93 [] [.ptr 0 0, .ptr 1 0])) := by
  refine vcalls_of c0cx 2 (by simp) (by simp) ?_
  repeat' (first | refine vi_seq ?_ | refine vi_block ?_ | refine vi_scope ?_ | ((first | refine vi_reg ?_ | refine vi_regE (by rfl) ?_ | refine vi_regD ?_ | refine vi_label ?_ | refine vi_goto ?_ | refine vi_ret ?_ | refine vi_exit ?_ | refine vi_skip ?_ | refine vi_cond ?_); simp only [go_sem, ↓reduceIte, Nat.reduceEqDiff, Nat.reduceAdd, Nat.reduceSub, Nat.reduceMul, Nat.reduceLT, Nat.reduceLeDiff, reduceCtorEq, Int.reduceToNat]) | ((first | refine gd_caseb ?_ ?_ | refine cnd_caseb ?_ ?_) <;> intro hc <;> simp only [hc, go_sem, ↓reduceIte, Nat.reduceEqDiff, Nat.reduceAdd, Nat.reduceSub, Nat.reduceMul, Nat.reduceLT, Nat.reduceLeDiff, reduceCtorEq, Int.reduceToNat] <;> (try simp only [bool_not_true, bool_not_false, decide_eq_true_eq, decide_eq_false_iff_not, Bool.and_eq_true] at hc)) | refine And.intro (by first | assumption | omega | (have := len_pos (by assumption); omega) | (unfold capOK; omega)) ?_ | ((first | simp (disch := omega) only [encs_getN] | simp (disch := omega) only [wrapS]); (try simp only [go_sem, ↓reduceIte, Nat.reduceEqDiff, Nat.reduceAdd, Nat.reduceSub, Nat.reduceMul, Nat.reduceLT, Nat.reduceLeDiff, reduceCtorEq, Int.reduceToNat])))

/-! Size -/
/-! Depth -/
def yDepth (n : N) (fn : FuncId) (asn bd : Code) (ha : cCode Try.prog 13 asn = some k0cu_r6) (hb : cCode Try.prog 13 bd = some k0cu_b3) : Yld Int where
  m := 5
  hs := fun k => [.blk (nc n), .blk [.int .i64 k], .blk (nc n), .blk [.int .i64 1], .lp ⟨.ready, none, fn, [7, 8].toArray, asn, bd⟩ (tmAll 13 [(6, .fn 93 [] [.ptr 2 0, .ptr 3 0]), (5, enc n), (3, .ptr 1 0), (2, .int .i64 0), (1, .ptr 0 0), (0, enc n)])]
  i := 4
  step := fun k l _ => (if l > k then l else k, true)
  len := fun _ => rfl
  bd := fun k => by simp only [go_sem, ↓reduceIte, Nat.reduceEqDiff, Nat.reduceAdd, Nat.reduceSub, Nat.reduceMul, Nat.reduceLT, Nat.reduceLeDiff, reduceCtorEq, Int.reduceToNat]
  lt := by omega
  live := fun _ => True
  keep := fun _ _ _ _ _ => trivial
  app := fun k l x _ => by
    refine vapp_yield (k := 5) rfl rfl tmAll_len ha hb (by simp) (by simp) (by simp) fun lp => ?_
    repeat' (first | refine vi_seq ?_ | refine vi_block ?_ | refine vi_scope ?_ | ((first | refine vi_reg ?_ | refine vi_regE (by rfl) ?_ | refine vi_regD ?_ | refine vi_label ?_ | refine vi_goto ?_ | refine vi_ret ?_ | refine vi_exit ?_ | refine vi_skip ?_ | refine vi_cond ?_); simp only [go_sem, ↓reduceIte, Nat.reduceEqDiff, Nat.reduceAdd, Nat.reduceSub, Nat.reduceMul, Nat.reduceLT, Nat.reduceLeDiff, reduceCtorEq, Int.reduceToNat]) | ((first | refine gd_caseb ?_ ?_ | refine cnd_caseb ?_ ?_) <;> intro hc <;> simp only [hc, go_sem, ↓reduceIte, Nat.reduceEqDiff, Nat.reduceAdd, Nat.reduceSub, Nat.reduceMul, Nat.reduceLT, Nat.reduceLeDiff, reduceCtorEq, Int.reduceToNat] <;> (try simp only [bool_not_true, bool_not_false, decide_eq_true_eq, decide_eq_false_iff_not, Bool.and_eq_true] at hc)) | refine And.intro (by first | assumption | omega | (have := len_pos (by assumption); omega) | (unfold capOK; omega)) ?_ | ((first | simp (disch := omega) only [encs_getN] | simp (disch := omega) only [wrapS]); (try simp only [go_sem, ↓reduceIte, Nat.reduceEqDiff, Nat.reduceAdd, Nat.reduceSub, Nat.reduceMul, Nat.reduceLT, Nat.reduceLeDiff, reduceCtorEq, Int.reduceToNat])))

theorem depth11 (n : N) : VPure Try.prog 72 [enc n] (.int .i64 (walkW (fun (k : Int) l _ => (if l > k then l else k, true)) n 1 0).1) := by
  refine vpure_of c0cu (by simp) (by simp only [go_sem]) rfl fun hw => ?_
  repeat' (first | refine vi_seq ?_ | refine vi_block ?_ | refine vi_scope ?_ | ((first | refine vi_reg ?_ | refine vi_regE (by rfl) ?_ | refine vi_regD ?_ | refine vi_label ?_ | refine vi_goto ?_ | refine vi_ret ?_ | refine vi_exit ?_ | refine vi_skip ?_ | refine vi_cond ?_); simp only [go_sem, ↓reduceIte, Nat.reduceEqDiff, Nat.reduceAdd, Nat.reduceSub, Nat.reduceMul, Nat.reduceLT, Nat.reduceLeDiff, reduceCtorEq, Int.reduceToNat]) | ((first | refine gd_caseb ?_ ?_ | refine cnd_caseb ?_ ?_) <;> intro hc <;> simp only [hc, go_sem, ↓reduceIte, Nat.reduceEqDiff, Nat.reduceAdd, Nat.reduceSub, Nat.reduceMul, Nat.reduceLT, Nat.reduceLeDiff, reduceCtorEq, Int.reduceToNat] <;> (try simp only [bool_not_true, bool_not_false, decide_eq_true_eq, decide_eq_false_iff_not, Bool.and_eq_true] at hc)) | refine And.intro (by first | assumption | omega | (have := len_pos (by assumption); omega) | (unfold capOK; omega)) ?_ | ((first | simp (disch := omega) only [encs_getN] | simp (disch := omega) only [wrapS]); (try simp only [go_sem, ↓reduceIte, Nat.reduceEqDiff, Nat.reduceAdd, Nat.reduceSub, Nat.reduceMul, Nat.reduceLT, Nat.reduceLeDiff, reduceCtorEq, Int.reduceToNat])))
  refine vapp_new (all27 n 1) (by simp only [go_sem]) ?_
  rintro H1 o ⟨rfl, rfl⟩
  simp only [go_sem, ↓reduceIte, Nat.reduceEqDiff, Nat.reduceAdd, Nat.reduceSub, Nat.reduceMul, Nat.reduceLT, Nat.reduceLeDiff, reduceCtorEq, Int.reduceToNat]
  refine vi_block (vi_rng rfl (Nat.zero_le _) fun fn asn bd ha hb => ?_)
  refine VCalls.mono (all40 (yDepth n fn asn bd ha hb) (n := n) (l := 1) (s := 0) (p := 2) (q := 3) trivial rfl rfl) ?_
  rintro H1 o ⟨rfl, rfl⟩
  simp only [yDepth, go_sem, ↓reduceIte, Nat.reduceEqDiff, Nat.reduceAdd, Nat.reduceSub, Nat.reduceMul, Nat.reduceLT, Nat.reduceLeDiff, reduceCtorEq, Int.reduceToNat]
  repeat' (first | refine vi_seq ?_ | refine vi_block ?_ | refine vi_scope ?_ | ((first | refine vi_reg ?_ | refine vi_regE (by rfl) ?_ | refine vi_regD ?_ | refine vi_label ?_ | refine vi_goto ?_ | refine vi_ret ?_ | refine vi_exit ?_ | refine vi_skip ?_ | refine vi_cond ?_); simp only [go_sem, ↓reduceIte, Nat.reduceEqDiff, Nat.reduceAdd, Nat.reduceSub, Nat.reduceMul, Nat.reduceLT, Nat.reduceLeDiff, reduceCtorEq, Int.reduceToNat]) | ((first | refine gd_caseb ?_ ?_ | refine cnd_caseb ?_ ?_) <;> intro hc <;> simp only [hc, go_sem, ↓reduceIte, Nat.reduceEqDiff, Nat.reduceAdd, Nat.reduceSub, Nat.reduceMul, Nat.reduceLT, Nat.reduceLeDiff, reduceCtorEq, Int.reduceToNat] <;> (try simp only [bool_not_true, bool_not_false, decide_eq_true_eq, decide_eq_false_iff_not, Bool.and_eq_true] at hc)) | refine And.intro (by first | assumption | omega | (have := len_pos (by assumption); omega) | (unfold capOK; omega)) ?_ | ((first | simp (disch := omega) only [encs_getN] | simp (disch := omega) only [wrapS]); (try simp only [go_sem, ↓reduceIte, Nat.reduceEqDiff, Nat.reduceAdd, Nat.reduceSub, Nat.reduceMul, Nat.reduceLT, Nat.reduceLeDiff, reduceCtorEq, Int.reduceToNat])))
end Go.Proofs.Ytjigahnncojikaa

/- trees: Same, Just, low, each, bare, named, plain -/
set_option maxRecDepth 4000
namespace Go.Proofs.Ytjigahnncojikaa
open Go Go.RowKit Go.V
set_option linter.unusedVariables false
set_option linter.unusedSimpArgs false

mutual
def sameW : N → N → Bool
  | .mk k _ n t ks, .mk k' _ n' t' ks' => decide (k = k') && decide (t = t') && decide (n = n') && samesW ks ks'
def samesW : List N → List N → Bool
  | [], [] => true
  | x :: r, y :: r' => sameW x y && samesW r r'
  | _, _ => false
end
theorem samesW_len : ∀ {l l' : List N}, l.length ≠ l'.length → samesW l l' = false
  | [], [], h => absurd rfl h
  | [], y :: r', _ => by rw [samesW] <;> simp
  | x :: r, [], _ => by rw [samesW] <;> simp
  | x :: r, y :: r', h => by rw [samesW, samesW_len (l := r) (l' := r') (by simpa using h)]; simp
mutual
def justW : N → N → Bool
  | .mk k p n t ks, .mk k' p' n' t' ks' => decide (p = p') && decide (k = k') && decide (t = t') && decide (n = n') && justsW ks ks'
def justsW : List N → List N → Bool
  | [], [] => true
  | x :: r, y :: r' => justW x y && justsW r r'
  | _, _ => false
end
theorem justW_eq (a b : N) : justW a b = (decide (a.pos = b.pos) && decide (a.kind = b.kind) && decide (a.text = b.text) && decide (a.num = b.num) && justsW a.kids b.kids) := by cases a; cases b; rw [justW]; rfl
theorem justsW_len : ∀ {l l' : List N}, l.length ≠ l'.length → justsW l l' = false
  | [], [], h => absurd rfl h
  | [], y :: r', _ => by rw [justsW] <;> simp
  | x :: r, [], _ => by rw [justsW] <;> simp
  | x :: r, y :: r', h => by rw [justsW, justsW_len (l := r) (l' := r') (by simpa using h)]; simp
theorem justsW_drop {l l' : List N} {i : Nat} (h : i < l.length) (h' : i < l'.length) : justsW (l.drop i) (l'.drop i) = (justW (l.getD i N0) (l'.getD i N0) && justsW (l.drop (i + 1)) (l'.drop (i + 1))) := by
  rw [dropN h, dropN h', justsW]
theorem justsW_end {l l' : List N} {i : Nat} (h : l.length ≤ i) (h' : l'.length ≤ i) : justsW (l.drop i) (l'.drop i) = true := by
  rw [List.drop_of_length_le h, List.drop_of_length_le h', justsW]
theorem just_fin {a b : N} {i : Nat} (h0 : a.pos = b.pos) (h1 : a.kind = b.kind) (h2 : a.text = b.text) (h3 : a.num = b.num) (ha : justsW (a.kids.drop i) (b.kids.drop i) = justsW a.kids b.kids) : justW a b = justsW (a.kids.drop i) (b.kids.drop i) := by
  rw [ha, justW_eq]; simp [h0, h1, h2, h3]
theorem ref06_Just : ∀ a b, VPure Try.prog 11 [enc a, enc b] (.bool (justW a b)) := by
  refine N.ind fun a ih b => ?_
  refine vpure_of c0cq (by simp) (by simp only [go_sem]) rfl fun hw => ?_
  have hkl : a.kids.length ≤ maxLen := ((enc_wf a).1 hw.1).1
  repeat' (first | refine vi_seq ?_ | refine vi_block ?_ | refine vi_scope ?_ | ((first | refine vi_reg ?_ | refine vi_regE (by rfl) ?_ | refine vi_regD ?_ | refine vi_label ?_ | refine vi_goto ?_ | refine vi_ret ?_ | refine vi_exit ?_ | refine vi_skip ?_ | refine vi_cond ?_); simp only [go_sem, ↓reduceIte, Nat.reduceEqDiff, Nat.reduceAdd, Nat.reduceSub, Nat.reduceMul, Nat.reduceLT, Nat.reduceLeDiff, reduceCtorEq, Int.reduceToNat]) | ((first | refine gd_caseb ?_ ?_ | refine cnd_caseb ?_ ?_) <;> intro hc <;> simp only [hc, go_sem, ↓reduceIte, Nat.reduceEqDiff, Nat.reduceAdd, Nat.reduceSub, Nat.reduceMul, Nat.reduceLT, Nat.reduceLeDiff, reduceCtorEq, Int.reduceToNat] <;> (try simp only [bool_not_true, bool_not_false, decide_eq_true_eq, decide_eq_false_iff_not, Bool.and_eq_true] at hc)) | refine And.intro (by first | assumption | omega | (have := len_pos (by assumption); omega) | (unfold capOK; omega)) ?_ | ((first | simp (disch := omega) only [encs_getN] | simp (disch := omega) only [wrapS]); (try simp only [go_sem, ↓reduceIte, Nat.reduceEqDiff, Nat.reduceAdd, Nat.reduceSub, Nat.reduceMul, Nat.reduceLT, Nat.reduceLeDiff, reduceCtorEq, Int.reduceToNat])))
  · rw [justW_eq]; simp [*]
  · rw [justW_eq]; simp [*]
  · rw [justW_eq]; simp [*]
  · rw [justW_eq]; simp [*]
  · rw [justW_eq, justsW_len (by omega)]; simp
  rename_i h0 h1 h2 h3
  refine vi_loop (S := Nat) (fun i => i ≤ a.kids.length ∧ justsW (a.kids.drop i) (b.kids.drop i) = justsW a.kids b.kids) (fun i => (⟨[(2, .ptr 0 0), (3, .ptr 1 0), (5, .int .i64 i)], []⟩, [.blk (nc a), .blk (nc b)])) (fun i => a.kids.length - i) ?_ fun i hi => ?_
  · refine at_of 0 [0, 1] ⟨Nat.zero_le _, rfl⟩ rfl (by simp) ?_ ?_ ?_ <;> (try simp only [go_sem, ↓reduceIte, Nat.reduceEqDiff, Nat.reduceAdd, Nat.reduceSub, Nat.reduceMul, Nat.reduceLT, Nat.reduceLeDiff, reduceCtorEq, Int.reduceToNat]) <;> (try simp (disch := omega) only [wrapS])
  · obtain ⟨hi, ha⟩ := hi
    have hf := just_fin h0 h1 h2 h3 ha
    repeat' (first | refine vi_seq ?_ | refine vi_block ?_ | refine vi_scope ?_ | ((first | refine vi_reg ?_ | refine vi_regE (by rfl) ?_ | refine vi_regD ?_ | refine vi_label ?_ | refine vi_goto ?_ | refine vi_ret ?_ | refine vi_exit ?_ | refine vi_skip ?_ | refine vi_cond ?_ | refine vapp_pure0 (ih _ (getN_mem (by omega)) _) fun _ => ?_ | refine dapp_pure  (ih _ (getN_mem (by omega)) _) ?_); simp only [go_sem, ↓reduceIte, Nat.reduceEqDiff, Nat.reduceAdd, Nat.reduceSub, Nat.reduceMul, Nat.reduceLT, Nat.reduceLeDiff, reduceCtorEq, Int.reduceToNat]) | ((first | refine gd_caseb ?_ ?_ | refine cnd_caseb ?_ ?_) <;> intro hc <;> simp only [hc, go_sem, ↓reduceIte, Nat.reduceEqDiff, Nat.reduceAdd, Nat.reduceSub, Nat.reduceMul, Nat.reduceLT, Nat.reduceLeDiff, reduceCtorEq, Int.reduceToNat] <;> (try simp only [bool_not_true, bool_not_false, decide_eq_true_eq, decide_eq_false_iff_not, Bool.and_eq_true] at hc)) | refine And.intro (by first | assumption | omega | (have := len_pos (by assumption); omega) | (unfold capOK; omega)) ?_ | ((first | simp (disch := omega) only [encs_getN] | simp (disch := omega) only [wrapS]); (try simp only [go_sem, ↓reduceIte, Nat.reduceEqDiff, Nat.reduceAdd, Nat.reduceSub, Nat.reduceMul, Nat.reduceLT, Nat.reduceLeDiff, reduceCtorEq, Int.reduceToNat])))
    · rw [hf, justsW_drop (by omega) (by omega), hc]; rfl
    · refine at_of (i + 1) [0, 1] ⟨⟨by omega, ?_⟩, by omega⟩ rfl (by simp) ?_ ?_ ?_ <;> (try simp only [go_sem, ↓reduceIte, Nat.reduceEqDiff, Nat.reduceAdd, Nat.reduceSub, Nat.reduceMul, Nat.reduceLT, Nat.reduceLeDiff, reduceCtorEq, Int.reduceToNat]) <;> (try simp (disch := omega) only [wrapS])
      rw [← ha, justsW_drop (l := a.kids) (l' := b.kids) (i := i) (by omega) (by omega), hc, Bool.true_and]
    · rw [hf, justsW_end (by omega) (by omega)]

/-! Strip -/
theorem encs_snoc (l : List N) (x : N) : encs l ++ [enc x] = encs (l ++ [x]) := by rw [encs_map, encs_map]; simp
end Go.Proofs.Ytjigahnncojikaa
