/- Texts of this proof, joined. -/
import Derived.Test.YtjigahnncojikaaJav
import Derived.Test.YtjigahnncojikaaJan

/- trees: low, each, bare, named, plain -/
set_option maxRecDepth 4000
namespace Go.Proofs.Ytjigahnncojikaa
open Go Go.RowKit Go.V
set_option linter.unusedVariables false
set_option linter.unusedSimpArgs false

theorem encs_take (l : List N) (i : Nat) : (encs l).take i = encs (l.take i) := by rw [encs_map, encs_map, List.map_take]
theorem encs_drop (l : List N) (i : Nat) : (encs l).drop i = encs (l.drop i) := by rw [encs_map, encs_map, List.map_drop]
attribute [go_sem] encs_take encs_drop

def bareW (n : N) : Bool := decide (n.text = []) && decide (n.num = 0)
theorem nodes_bare (n : N) : VPure Try.prog 67 [enc n] (.bool (bareW n)) := by
  refine vpure_of c_nodes_bare (by simp) (by simp only [go_sem]) rfl fun hw => ?_
  repeat' (first | refine vi_seq ?_ | refine vi_block ?_ | refine vi_scope ?_ | ((first | refine vi_reg ?_ | refine vi_regE (by rfl) ?_ | refine vi_regD ?_ | refine vi_label ?_ | refine vi_goto ?_ | refine vi_ret ?_ | refine vi_exit ?_ | refine vi_skip ?_ | refine vi_cond ?_); simp only [go_sem, ↓reduceIte, Nat.reduceEqDiff, Nat.reduceAdd, Nat.reduceSub, Nat.reduceMul, Nat.reduceLT, Nat.reduceLeDiff, reduceCtorEq, Int.reduceToNat]) | ((first | refine gd_caseb ?_ ?_ | refine cnd_caseb ?_ ?_) <;> intro hc <;> simp only [hc, go_sem, ↓reduceIte, Nat.reduceEqDiff, Nat.reduceAdd, Nat.reduceSub, Nat.reduceMul, Nat.reduceLT, Nat.reduceLeDiff, reduceCtorEq, Int.reduceToNat] <;> (try simp only [bool_not_true, bool_not_false, decide_eq_true_eq, decide_eq_false_iff_not, Bool.and_eq_true] at hc)) | refine And.intro (by first | assumption | omega | (have := len_pos (by assumption); omega) | (unfold capOK; omega)) ?_ | ((first | simp (disch := omega) only [encs_getN] | simp (disch := omega) only [wrapS]); (try simp only [go_sem, ↓reduceIte, Nat.reduceEqDiff, Nat.reduceAdd, Nat.reduceSub, Nat.reduceMul, Nat.reduceLT, Nat.reduceLeDiff, reduceCtorEq, Int.reduceToNat])))
  all_goals simp_all [bareW]
def namedW (n : N) (f : List UInt8 → Bool) : Bool := decide (n.num = 0) && f n.text
theorem nodes_named {so : FuncId} {f : List UInt8 → Bool} (h : ∀ l, VPure Try.prog so [.str l] (.bool (f l))) (n : N) : VPure Try.prog 90 [enc n, .fn so [] []] (.bool (namedW n f)) := by
  refine vpure_of c_nodes_named (by simp) (by simp only [go_sem]) rfl fun hw => ?_
  repeat' (first | refine vi_seq ?_ | refine vi_block ?_ | refine vi_scope ?_ | ((first | refine vi_reg ?_ | refine vi_regE (by rfl) ?_ | refine vi_regD ?_ | refine vi_label ?_ | refine vi_goto ?_ | refine vi_ret ?_ | refine vi_exit ?_ | refine vi_skip ?_ | refine vi_cond ?_ | refine vapp_pure0 (h _) fun _ => ?_ | refine dapp_pure  (h _) ?_); simp only [go_sem, ↓reduceIte, Nat.reduceEqDiff, Nat.reduceAdd, Nat.reduceSub, Nat.reduceMul, Nat.reduceLT, Nat.reduceLeDiff, reduceCtorEq, Int.reduceToNat]) | ((first | refine gd_caseb ?_ ?_ | refine cnd_caseb ?_ ?_) <;> intro hc <;> simp only [hc, go_sem, ↓reduceIte, Nat.reduceEqDiff, Nat.reduceAdd, Nat.reduceSub, Nat.reduceMul, Nat.reduceLT, Nat.reduceLeDiff, reduceCtorEq, Int.reduceToNat] <;> (try simp only [bool_not_true, bool_not_false, decide_eq_true_eq, decide_eq_false_iff_not, Bool.and_eq_true] at hc)) | refine And.intro (by first | assumption | omega | (have := len_pos (by assumption); omega) | (unfold capOK; omega)) ?_ | ((first | simp (disch := omega) only [encs_getN] | simp (disch := omega) only [wrapS]); (try simp only [go_sem, ↓reduceIte, Nat.reduceEqDiff, Nat.reduceAdd, Nat.reduceSub, Nat.reduceMul, Nat.reduceLT, Nat.reduceLeDiff, reduceCtorEq, Int.reduceToNat])))
  all_goals simp_all [namedW]
theorem all_dropN {l : List N} {f : N → Bool} {i : Nat} (h : i < l.length) : (l.drop i).all f = (f (l.getD i N0) && (l.drop (i + 1)).all f) := by
  rw [dropN h, List.all_cons]

theorem nodes_each {so : FuncId} {f : N → Bool} {l : List N} (h : ∀ x ∈ l, VPure Try.prog so [enc x] (.bool (f x))) : VPure Try.prog 68 [.sl 5 (encs l), .fn so [] []] (.bool (l.all f)) := by
  refine vpure_of c_nodes_each (by simp) (by simp only [go_sem]) rfl fun hw => ?_
  have hkl : l.length ≤ maxLen := by have := hw.1.1; rwa [encs_len] at this
  repeat' (first | refine vi_seq ?_ | refine vi_block ?_ | refine vi_scope ?_ | ((first | refine vi_reg ?_ | refine vi_regE (by rfl) ?_ | refine vi_regD ?_ | refine vi_label ?_ | refine vi_goto ?_ | refine vi_ret ?_ | refine vi_exit ?_ | refine vi_skip ?_ | refine vi_cond ?_); simp only [go_sem, ↓reduceIte, Nat.reduceEqDiff, Nat.reduceAdd, Nat.reduceSub, Nat.reduceMul, Nat.reduceLT, Nat.reduceLeDiff, reduceCtorEq, Int.reduceToNat]) | ((first | refine gd_caseb ?_ ?_ | refine cnd_caseb ?_ ?_) <;> intro hc <;> simp only [hc, go_sem, ↓reduceIte, Nat.reduceEqDiff, Nat.reduceAdd, Nat.reduceSub, Nat.reduceMul, Nat.reduceLT, Nat.reduceLeDiff, reduceCtorEq, Int.reduceToNat] <;> (try simp only [bool_not_true, bool_not_false, decide_eq_true_eq, decide_eq_false_iff_not, Bool.and_eq_true] at hc)) | refine And.intro (by first | assumption | omega | (have := len_pos (by assumption); omega) | (unfold capOK; omega)) ?_ | ((first | simp (disch := omega) only [encs_getN] | simp (disch := omega) only [wrapS]); (try simp only [go_sem, ↓reduceIte, Nat.reduceEqDiff, Nat.reduceAdd, Nat.reduceSub, Nat.reduceMul, Nat.reduceLT, Nat.reduceLeDiff, reduceCtorEq, Int.reduceToNat])))
  refine vi_loop (S := Nat) (fun i => i ≤ l.length ∧ (l.drop i).all f = l.all f) (fun i => (⟨[(1, .fn so [] []), (7, .sl 5 (encs l)), (8, .int .i64 l.length), (9, .int .i64 i)], []⟩, [])) (fun i => l.length - i) ?_ fun i hi => ?_
  · refine at_of 0 [] ⟨Nat.zero_le _, rfl⟩ rfl (by simp) ?_ ?_ ?_ <;> (try simp only [go_sem, ↓reduceIte, Nat.reduceEqDiff, Nat.reduceAdd, Nat.reduceSub, Nat.reduceMul, Nat.reduceLT, Nat.reduceLeDiff, reduceCtorEq, Int.reduceToNat]) <;> (try simp (disch := omega) only [wrapS])
  · obtain ⟨hi, ha⟩ := hi
    repeat' (first | refine vi_seq ?_ | refine vi_block ?_ | refine vi_scope ?_ | ((first | refine vi_reg ?_ | refine vi_regE (by rfl) ?_ | refine vi_regD ?_ | refine vi_label ?_ | refine vi_goto ?_ | refine vi_ret ?_ | refine vi_exit ?_ | refine vi_skip ?_ | refine vi_cond ?_ | refine vapp_pure0 (h _ (getN_mem (by omega))) fun _ => ?_ | refine dapp_pure  (h _ (getN_mem (by omega))) ?_); simp only [go_sem, ↓reduceIte, Nat.reduceEqDiff, Nat.reduceAdd, Nat.reduceSub, Nat.reduceMul, Nat.reduceLT, Nat.reduceLeDiff, reduceCtorEq, Int.reduceToNat]) | ((first | refine gd_caseb ?_ ?_ | refine cnd_caseb ?_ ?_) <;> intro hc <;> simp only [hc, go_sem, ↓reduceIte, Nat.reduceEqDiff, Nat.reduceAdd, Nat.reduceSub, Nat.reduceMul, Nat.reduceLT, Nat.reduceLeDiff, reduceCtorEq, Int.reduceToNat] <;> (try simp only [bool_not_true, bool_not_false, decide_eq_true_eq, decide_eq_false_iff_not, Bool.and_eq_true] at hc)) | refine And.intro (by first | assumption | omega | (have := len_pos (by assumption); omega) | (unfold capOK; omega)) ?_ | ((first | simp (disch := omega) only [encs_getN] | simp (disch := omega) only [wrapS]); (try simp only [go_sem, ↓reduceIte, Nat.reduceEqDiff, Nat.reduceAdd, Nat.reduceSub, Nat.reduceMul, Nat.reduceLT, Nat.reduceLeDiff, reduceCtorEq, Int.reduceToNat])))
    · rw [← ha, all_dropN (by omega), hc]; rfl
    · refine at_of (i + 1) [] ⟨⟨by omega, ?_⟩, by omega⟩ rfl (by simp) ?_ ?_ ?_ <;> (try simp only [go_sem, ↓reduceIte, Nat.reduceEqDiff, Nat.reduceAdd, Nat.reduceSub, Nat.reduceMul, Nat.reduceLT, Nat.reduceLeDiff, reduceCtorEq, Int.reduceToNat]) <;> (try simp (disch := omega) only [wrapS])
      rw [← ha, all_dropN (l := l) (i := i) (by omega), hc, Bool.true_and]
    · rw [← ha, List.drop_of_length_le (by omega)]; rfl

/-! low -/
def yLow (n : N) (fn : FuncId) (asn bd : Code) (ha : cCode Try.prog 10 asn = some k_nodes_low_r6) (hb : cCode Try.prog 10 bd = some k_nodes_low_b2) : Yld Bool where
  m := 5
  hs := fun b => [.blk (nc n), .blk [.bool false], .blk (nc n), .blk [.int .i64 1], .lp (if b then ⟨.done, some .ret, fn, [6, 7].toArray, asn, bd⟩ else ⟨.ready, none, fn, [6, 7].toArray, asn, bd⟩) (tmAll 10 [(5, .fn 93 [] [.ptr 2 0, .ptr 3 0]), (4, enc n), (2, .ptr 1 0), (1, .ptr 0 0), (0, enc n)])]
  i := 4
  step := fun k l _ => (decide (100 < l), !decide (100 < l))
  len := fun _ => rfl
  bd := fun k => by cases k <;> simp only [go_sem, ↓reduceIte, Nat.reduceEqDiff, Nat.reduceAdd, Nat.reduceSub, Nat.reduceMul, Nat.reduceLT, Nat.reduceLeDiff, reduceCtorEq, Int.reduceToNat]
  lt := by omega
  live := fun b => b = false
  keep := fun s l n _ h => by simpa using h
  app := fun k l x hk => by
    subst hk
    refine vapp_yield (k := 5) rfl rfl tmAll_len ha hb (by simp) (by simp) (by simp) fun lp => ?_
    repeat' (first | refine vi_seq ?_ | refine vi_block ?_ | refine vi_scope ?_ | ((first | refine vi_reg ?_ | refine vi_regE (by rfl) ?_ | refine vi_regD ?_ | refine vi_label ?_ | refine vi_goto ?_ | refine vi_ret ?_ | refine vi_exit ?_ | refine vi_skip ?_ | refine vi_cond ?_); simp only [go_sem, ↓reduceIte, Nat.reduceEqDiff, Nat.reduceAdd, Nat.reduceSub, Nat.reduceMul, Nat.reduceLT, Nat.reduceLeDiff, reduceCtorEq, Int.reduceToNat]) | ((first | refine gd_caseb ?_ ?_ | refine cnd_caseb ?_ ?_) <;> intro hc <;> simp only [hc, go_sem, ↓reduceIte, Nat.reduceEqDiff, Nat.reduceAdd, Nat.reduceSub, Nat.reduceMul, Nat.reduceLT, Nat.reduceLeDiff, reduceCtorEq, Int.reduceToNat] <;> (try simp only [bool_not_true, bool_not_false, decide_eq_true_eq, decide_eq_false_iff_not, Bool.and_eq_true] at hc)) | refine And.intro (by first | assumption | omega | (have := len_pos (by assumption); omega) | (unfold capOK; omega)) ?_ | ((first | simp (disch := omega) only [encs_getN] | simp (disch := omega) only [wrapS]); (try simp only [go_sem, ↓reduceIte, Nat.reduceEqDiff, Nat.reduceAdd, Nat.reduceSub, Nat.reduceMul, Nat.reduceLT, Nat.reduceLeDiff, reduceCtorEq, Int.reduceToNat])))

def lowF : Bool → Int → N → Bool × Bool := fun _ l _ => (decide (100 < l), !decide (100 < l))
def lowW (n : N) : Bool := (walkW lowF n 1 false).2
theorem low_fst : ∀ n l s, (walkW lowF n l s).1 = !(walkW lowF n l s).2 := by
  refine N.ind fun n ih l s => ?_
  rw [walkW_eq]
  split
  · rename_i h
    have key : ∀ (r : List N), (∀ x ∈ r, ∀ l s, (walkW lowF x l s).1 = !(walkW lowF x l s).2) → ∀ (l : Int) (s : Bool), s = false → (walksW lowF l r s).1 = !(walksW lowF l r s).2 := by
      intro r
      induction r with
      | nil => intro _ l s hs; subst hs; rfl
      | cons x r ihr =>
        intro hx l s hs
        rw [walksW]
        split
        · rename_i h3
          exact ihr (fun x hx' => hx x (by simp [hx'])) l _ (by rw [hx x (by simp), h3]; rfl)
        · rename_i h3
          simp only [Bool.not_eq_true] at h3
          rw [hx x (by simp), h3]
    exact key _ ih _ _ (by simpa [lowF] using h)
  · rename_i h
    simpa [lowF] using h

theorem nodes_low (n : N) : VPure Try.prog 66 [enc n] (.bool (lowW n)) := by
  refine vpure_of c_nodes_low (by simp) (by simp only [go_sem]) rfl fun hw => ?_
  repeat' (first | refine vi_seq ?_ | refine vi_block ?_ | refine vi_scope ?_ | ((first | refine vi_reg ?_ | refine vi_regE (by rfl) ?_ | refine vi_regD ?_ | refine vi_label ?_ | refine vi_goto ?_ | refine vi_ret ?_ | refine vi_exit ?_ | refine vi_skip ?_ | refine vi_cond ?_); simp only [go_sem, ↓reduceIte, Nat.reduceEqDiff, Nat.reduceAdd, Nat.reduceSub, Nat.reduceMul, Nat.reduceLT, Nat.reduceLeDiff, reduceCtorEq, Int.reduceToNat]) | ((first | refine gd_caseb ?_ ?_ | refine cnd_caseb ?_ ?_) <;> intro hc <;> simp only [hc, go_sem, ↓reduceIte, Nat.reduceEqDiff, Nat.reduceAdd, Nat.reduceSub, Nat.reduceMul, Nat.reduceLT, Nat.reduceLeDiff, reduceCtorEq, Int.reduceToNat] <;> (try simp only [bool_not_true, bool_not_false, decide_eq_true_eq, decide_eq_false_iff_not, Bool.and_eq_true] at hc)) | refine And.intro (by first | assumption | omega | (have := len_pos (by assumption); omega) | (unfold capOK; omega)) ?_ | ((first | simp (disch := omega) only [encs_getN] | simp (disch := omega) only [wrapS]); (try simp only [go_sem, ↓reduceIte, Nat.reduceEqDiff, Nat.reduceAdd, Nat.reduceSub, Nat.reduceMul, Nat.reduceLT, Nat.reduceLeDiff, reduceCtorEq, Int.reduceToNat])))
  refine vapp_new (all27 n 1) (by simp only [go_sem]) ?_
  rintro H1 o ⟨rfl, rfl⟩
  simp only [go_sem, ↓reduceIte, Nat.reduceEqDiff, Nat.reduceAdd, Nat.reduceSub, Nat.reduceMul, Nat.reduceLT, Nat.reduceLeDiff, reduceCtorEq, Int.reduceToNat]
  refine vi_block (vi_rng rfl (Nat.zero_le _) fun fn asn bd ha hb => ?_)
  refine VCalls.mono (all40 (yLow n fn asn bd ha hb) (n := n) (l := 1) (s := false) (p := 2) (q := 3) rfl rfl rfl) ?_
  rintro H1 o ⟨rfl, rfl⟩
  have hlow := low_fst n 1 false
  rw [show walkW (yLow n fn asn bd ha hb).step n 1 false = walkW lowF n 1 false from rfl, lowW]
  generalize walkW lowF n 1 false = pq at hlow ⊢
  obtain ⟨p, q⟩ := pq
  simp only at hlow
  subst hlow
  cases q
  · simp only [yLow, Bool.not_false, go_sem, ↓reduceIte, Nat.reduceEqDiff, Nat.reduceAdd, Nat.reduceSub, Nat.reduceMul, Nat.reduceLT, Nat.reduceLeDiff, reduceCtorEq, Int.reduceToNat]
  · simp only [yLow, Bool.not_true, go_sem, ↓reduceIte, Nat.reduceEqDiff, Nat.reduceAdd, Nat.reduceSub, Nat.reduceMul, Nat.reduceLT, Nat.reduceLeDiff, reduceCtorEq, Int.reduceToNat]
    repeat' (first | refine vi_seq ?_ | refine vi_block ?_ | refine vi_scope ?_ | ((first | refine vi_reg ?_ | refine vi_regE (by rfl) ?_ | refine vi_regD ?_ | refine vi_label ?_ | refine vi_goto ?_ | refine vi_ret ?_ | refine vi_exit ?_ | refine vi_skip ?_ | refine vi_cond ?_); simp only [go_sem, ↓reduceIte, Nat.reduceEqDiff, Nat.reduceAdd, Nat.reduceSub, Nat.reduceMul, Nat.reduceLT, Nat.reduceLeDiff, reduceCtorEq, Int.reduceToNat]) | ((first | refine gd_caseb ?_ ?_ | refine cnd_caseb ?_ ?_) <;> intro hc <;> simp only [hc, go_sem, ↓reduceIte, Nat.reduceEqDiff, Nat.reduceAdd, Nat.reduceSub, Nat.reduceMul, Nat.reduceLT, Nat.reduceLeDiff, reduceCtorEq, Int.reduceToNat] <;> (try simp only [bool_not_true, bool_not_false, decide_eq_true_eq, decide_eq_false_iff_not, Bool.and_eq_true] at hc)) | refine And.intro (by first | assumption | omega | (have := len_pos (by assumption); omega) | (unfold capOK; omega)) ?_ | ((first | simp (disch := omega) only [encs_getN] | simp (disch := omega) only [wrapS]); (try simp only [go_sem, ↓reduceIte, Nat.reduceEqDiff, Nat.reduceAdd, Nat.reduceSub, Nat.reduceMul, Nat.reduceLT, Nat.reduceLeDiff, reduceCtorEq, Int.reduceToNat])))
end Go.Proofs.Ytjigahnncojikaa

/- trees: types, patterns, predicates -/
set_option maxRecDepth 4000
namespace Go.Proofs.Ytjigahnncojikaa
open Go Go.RowKit Go.V
set_option linter.unusedVariables false
set_option linter.unusedSimpArgs false

theorem wrapM {i : Nat} (h : i ≤ maxLen) : IntKind.i64.wrap ((i : Int) - 1) = (i : Int) - 1 := by
  unfold maxLen at h
  simp [IntKind.wrap, IntKind.signed, IntKind.bits]
  omega
theorem toNatM {i : Nat} : ((i : Int) - 1).toNat = i - 1 := by omega

mutual
def tyW : N → Bool
  | .mk k _ n t ks => if k = 1 then decide (n = 0) && varW t && decide ((ks.length : Int) = 0)
    else if k = 2 ∧ n = 0 then (if t = [45, 62] then decide ((ks.length : Int) = 2) else conW t) && tysW ks else false
def tysW : List N → Bool
  | [] => true
  | x :: r => tyW x && tysW r
end
theorem tysW_all (l : List N) : tysW l = l.all tyW := by
  induction l with
  | nil => rfl
  | cons x r ih => rw [tysW, ih]; rfl
theorem tyW_eq (n : N) : tyW n = if n.kind = 1 then decide (n.num = 0) && varW n.text && decide ((n.kids.length : Int) = 0)
    else if n.kind = 2 ∧ n.num = 0 then (if n.text = [45, 62] then decide ((n.kids.length : Int) = 2) else conW n.text) && n.kids.all tyW else false := by
  rw [← tysW_all]; cases n; rw [tyW]; rfl

theorem nodes_isType : ∀ n, VPure Try.prog 70 [enc n] (.bool (tyW n)) := by
  refine N.ind fun n ih => ?_
  refine vpure_of c_nodes_isType (by simp) (by simp only [go_sem]) rfl fun hw => ?_
  rw [tyW_eq]
  repeat' (first | refine vi_seq ?_ | refine vi_block ?_ | refine vi_scope ?_ | ((first | refine vi_reg ?_ | refine vi_regE (by rfl) ?_ | refine vi_regD ?_ | refine vi_label ?_ | refine vi_goto ?_ | refine vi_ret ?_ | refine vi_exit ?_ | refine vi_skip ?_ | refine vi_cond ?_ | refine vapp_pure0 (nodes_named names_Var _) fun _ => ?_ | refine vapp_pure0 (nodes_each ih) fun _ => ?_ | refine vapp_pure0 (names_Con _) fun _ => ?_ | refine dapp_pure  (nodes_named names_Var _) ?_ | refine dapp_pure  (nodes_each ih) ?_ | refine dapp_pure  (names_Con _) ?_); simp only [go_sem, ↓reduceIte, Nat.reduceEqDiff, Nat.reduceAdd, Nat.reduceSub, Nat.reduceMul, Nat.reduceLT, Nat.reduceLeDiff, reduceCtorEq, Int.reduceToNat]) | ((first | refine gd_caseb ?_ ?_ | refine cnd_caseb ?_ ?_) <;> intro hc <;> simp only [hc, go_sem, ↓reduceIte, Nat.reduceEqDiff, Nat.reduceAdd, Nat.reduceSub, Nat.reduceMul, Nat.reduceLT, Nat.reduceLeDiff, reduceCtorEq, Int.reduceToNat] <;> (try simp only [bool_not_true, bool_not_false, decide_eq_true_eq, decide_eq_false_iff_not, Bool.and_eq_true] at hc)) | refine And.intro (by first | assumption | omega | (have := len_pos (by assumption); omega) | (unfold capOK; omega)) ?_ | ((first | simp (disch := omega) only [encs_getN] | simp (disch := omega) only [wrapS]); (try simp only [go_sem, ↓reduceIte, Nat.reduceEqDiff, Nat.reduceAdd, Nat.reduceSub, Nat.reduceMul, Nat.reduceLT, Nat.reduceLeDiff, reduceCtorEq, Int.reduceToNat])))
  all_goals simp_all [namedW]

theorem con_arrow : conW [45, 62] = false := by decide
theorem con_ne {t : List UInt8} (h : conW t = true) : ¬ t = [45, 62] := fun e => by rw [e, con_arrow] at h; cases h
/-! patterns -/
mutual
def paW : N → Bool
  | .mk k _ n t ks => if k = 11 then decide (n = 0) && varW t && decide ((ks.length : Int) = 0)
    else if k = 12 then decide (t = []) && decide (n = 0) && decide ((ks.length : Int) = 0)
    else if k = 13 then decide (t = []) && decide (0 ≤ n) && decide ((ks.length : Int) = 0)
    else if k = 14 then decide (n = 0) && conW t && pasW ks else false
def pasW : List N → Bool
  | [] => true
  | x :: r => paW x && pasW r
end
theorem pasW_all (l : List N) : pasW l = l.all paW := by
  induction l with
  | nil => rfl
  | cons x r ih => rw [pasW, ih]; rfl
theorem paW_eq (n : N) : paW n = if n.kind = 11 then decide (n.num = 0) && varW n.text && decide ((n.kids.length : Int) = 0)
    else if n.kind = 12 then decide (n.text = []) && decide (n.num = 0) && decide ((n.kids.length : Int) = 0)
    else if n.kind = 13 then decide (n.text = []) && decide (0 ≤ n.num) && decide ((n.kids.length : Int) = 0)
    else if n.kind = 14 then decide (n.num = 0) && conW n.text && n.kids.all paW else false := by
  rw [← pasW_all]; cases n; rw [paW]; rfl
theorem nodes_isPat : ∀ n, VPure Try.prog 115 [enc n] (.bool (paW n)) := by
  refine N.ind fun n ih => ?_
  refine vpure_of c_nodes_isPat (by simp) (by simp only [go_sem]) rfl fun hw => ?_
  rw [paW_eq]
  repeat' (first | refine vi_seq ?_ | refine vi_block ?_ | refine vi_scope ?_ | ((first | refine vi_reg ?_ | refine vi_regE (by rfl) ?_ | refine vi_regD ?_ | refine vi_label ?_ | refine vi_goto ?_ | refine vi_ret ?_ | refine vi_exit ?_ | refine vi_skip ?_ | refine vi_cond ?_ | refine vapp_pure0 (nodes_named names_Var _) fun _ => ?_ | refine vapp_pure0 (nodes_named names_Con _) fun _ => ?_ | refine vapp_pure0 (nodes_each ih) fun _ => ?_ | refine vapp_pure0 (nodes_bare _) fun _ => ?_ | refine dapp_pure  (nodes_named names_Var _) ?_ | refine dapp_pure  (nodes_named names_Con _) ?_ | refine dapp_pure  (nodes_each ih) ?_ | refine dapp_pure  (nodes_bare _) ?_); simp only [go_sem, ↓reduceIte, Nat.reduceEqDiff, Nat.reduceAdd, Nat.reduceSub, Nat.reduceMul, Nat.reduceLT, Nat.reduceLeDiff, reduceCtorEq, Int.reduceToNat]) | ((first | refine gd_caseb ?_ ?_ | refine cnd_caseb ?_ ?_) <;> intro hc <;> simp only [hc, go_sem, ↓reduceIte, Nat.reduceEqDiff, Nat.reduceAdd, Nat.reduceSub, Nat.reduceMul, Nat.reduceLT, Nat.reduceLeDiff, reduceCtorEq, Int.reduceToNat] <;> (try simp only [bool_not_true, bool_not_false, decide_eq_true_eq, decide_eq_false_iff_not, Bool.and_eq_true] at hc)) | refine And.intro (by first | assumption | omega | (have := len_pos (by assumption); omega) | (unfold capOK; omega)) ?_ | ((first | simp (disch := omega) only [encs_getN] | simp (disch := omega) only [wrapS]); (try simp only [go_sem, ↓reduceIte, Nat.reduceEqDiff, Nat.reduceAdd, Nat.reduceSub, Nat.reduceMul, Nat.reduceLT, Nat.reduceLeDiff, reduceCtorEq, Int.reduceToNat])))
  all_goals simp_all [namedW, bareW]
/-! predicates, contexts, signatures -/
def prW (n : N) : Bool := decide (n.kind = 3) && decide (n.num = 0) && conW n.text && decide ((n.kids.length : Int) = 1) && tyW (n.kids.getD 0 N0)
theorem nodes_isPred (n : N) : VPure Try.prog 89 [enc n] (.bool (prW n)) := by
  refine vpure_of c_nodes_isPred (by simp) (by simp only [go_sem]) rfl fun hw => ?_
  repeat' (first | refine vi_seq ?_ | refine vi_block ?_ | refine vi_scope ?_ | ((first | refine vi_reg ?_ | refine vi_regE (by rfl) ?_ | refine vi_regD ?_ | refine vi_label ?_ | refine vi_goto ?_ | refine vi_ret ?_ | refine vi_exit ?_ | refine vi_skip ?_ | refine vi_cond ?_ | refine vapp_pure0 (nodes_named names_Con _) fun _ => ?_ | refine vapp_pure0 (nodes_isType _) fun _ => ?_ | refine dapp_pure  (nodes_named names_Con _) ?_ | refine dapp_pure  (nodes_isType _) ?_); simp only [go_sem, ↓reduceIte, Nat.reduceEqDiff, Nat.reduceAdd, Nat.reduceSub, Nat.reduceMul, Nat.reduceLT, Nat.reduceLeDiff, reduceCtorEq, Int.reduceToNat]) | ((first | refine gd_caseb ?_ ?_ | refine cnd_caseb ?_ ?_) <;> intro hc <;> simp only [hc, go_sem, ↓reduceIte, Nat.reduceEqDiff, Nat.reduceAdd, Nat.reduceSub, Nat.reduceMul, Nat.reduceLT, Nat.reduceLeDiff, reduceCtorEq, Int.reduceToNat] <;> (try simp only [bool_not_true, bool_not_false, decide_eq_true_eq, decide_eq_false_iff_not, Bool.and_eq_true] at hc)) | refine And.intro (by first | assumption | omega | (have := len_pos (by assumption); omega) | (unfold capOK; omega)) ?_ | ((first | simp (disch := omega) only [encs_getN] | simp (disch := omega) only [wrapS]); (try simp only [go_sem, ↓reduceIte, Nat.reduceEqDiff, Nat.reduceAdd, Nat.reduceSub, Nat.reduceMul, Nat.reduceLT, Nat.reduceLeDiff, reduceCtorEq, Int.reduceToNat])))
  all_goals simp_all [namedW, prW]
def quW (n : N) : Bool := decide (n.kind = 4) && bareW n && decide (0 ≤ (n.kids.length : Int) - 1) && (n.kids.take ((n.kids.length : Int) - 1).toNat).all prW && tyW (n.kids.getD ((n.kids.length : Int) - 1).toNat N0)
theorem nodes_isQual (n : N) : VPure Try.prog 96 [enc n] (.bool (quW n)) := by
  refine vpure_of c_nodes_isQual (by simp) (by simp only [go_sem]) rfl fun hw => ?_
  have hkl : n.kids.length ≤ maxLen := ((enc_wf n).1 hw.1).1
  repeat' (first | refine vi_seq ?_ | refine vi_block ?_ | refine vi_scope ?_ | ((first | refine vi_reg ?_ | refine vi_regE (by rfl) ?_ | refine vi_regD ?_ | refine vi_label ?_ | refine vi_goto ?_ | refine vi_ret ?_ | refine vi_exit ?_ | refine vi_skip ?_ | refine vi_cond ?_ | refine vapp_pure0 (nodes_bare _) fun _ => ?_ | refine vapp_pure0 (nodes_each fun x _ => nodes_isPred x) fun _ => ?_ | refine vapp_pure0 (nodes_isType _) fun _ => ?_ | refine dapp_pure  (nodes_bare _) ?_ | refine dapp_pure  (nodes_each fun x _ => nodes_isPred x) ?_ | refine dapp_pure  (nodes_isType _) ?_); simp only [go_sem, ↓reduceIte, Nat.reduceEqDiff, Nat.reduceAdd, Nat.reduceSub, Nat.reduceMul, Nat.reduceLT, Nat.reduceLeDiff, reduceCtorEq, Int.reduceToNat]) | ((first | simp (disch := omega) only [wrapM]); (try simp only [go_sem, ↓reduceIte, Nat.reduceEqDiff, Nat.reduceAdd, Nat.reduceSub, Nat.reduceMul, Nat.reduceLT, Nat.reduceLeDiff, reduceCtorEq, Int.reduceToNat])) | ((first | refine gd_caseb ?_ ?_ | refine cnd_caseb ?_ ?_) <;> intro hc <;> simp only [hc, go_sem, ↓reduceIte, Nat.reduceEqDiff, Nat.reduceAdd, Nat.reduceSub, Nat.reduceMul, Nat.reduceLT, Nat.reduceLeDiff, reduceCtorEq, Int.reduceToNat] <;> (try simp only [bool_not_true, bool_not_false, decide_eq_true_eq, decide_eq_false_iff_not, Bool.and_eq_true] at hc)) | refine And.intro (by first | assumption | omega | (have := len_pos (by assumption); omega) | (unfold capOK; omega)) ?_ | ((first | simp (disch := omega) only [encs_getN] | simp (disch := omega) only [wrapS]); (try simp only [go_sem, ↓reduceIte, Nat.reduceEqDiff, Nat.reduceAdd, Nat.reduceSub, Nat.reduceMul, Nat.reduceLT, Nat.reduceLeDiff, reduceCtorEq, Int.reduceToNat])))
  all_goals first | (simp only [quW, *, decide_true, decide_false, Bool.and_true, Bool.true_and, Bool.and_false, Bool.false_and, Bool.or_true, Bool.true_or, Bool.or_false, Bool.false_or, Bool.not_true, Bool.not_false, if_true, if_false, reduceIte, Int.reduceEq]; done) | (simp_all [quW]; done) | (simp_all [quW]; omega)
def sgW (n : N) : Bool := decide (n.kind = 32) && decide (n.num = 0) && varW n.text && decide ((n.kids.length : Int) = 1) && quW (n.kids.getD 0 N0)
theorem nodes_isSig (n : N) : VPure Try.prog 85 [enc n] (.bool (sgW n)) := by
  refine vpure_of c_nodes_isSig (by simp) (by simp only [go_sem]) rfl fun hw => ?_
  repeat' (first | refine vi_seq ?_ | refine vi_block ?_ | refine vi_scope ?_ | ((first | refine vi_reg ?_ | refine vi_regE (by rfl) ?_ | refine vi_regD ?_ | refine vi_label ?_ | refine vi_goto ?_ | refine vi_ret ?_ | refine vi_exit ?_ | refine vi_skip ?_ | refine vi_cond ?_ | refine vapp_pure0 (nodes_named names_Var _) fun _ => ?_ | refine vapp_pure0 (nodes_isQual _) fun _ => ?_ | refine dapp_pure  (nodes_named names_Var _) ?_ | refine dapp_pure  (nodes_isQual _) ?_); simp only [go_sem, ↓reduceIte, Nat.reduceEqDiff, Nat.reduceAdd, Nat.reduceSub, Nat.reduceMul, Nat.reduceLT, Nat.reduceLeDiff, reduceCtorEq, Int.reduceToNat]) | ((first | refine gd_caseb ?_ ?_ | refine cnd_caseb ?_ ?_) <;> intro hc <;> simp only [hc, go_sem, ↓reduceIte, Nat.reduceEqDiff, Nat.reduceAdd, Nat.reduceSub, Nat.reduceMul, Nat.reduceLT, Nat.reduceLeDiff, reduceCtorEq, Int.reduceToNat] <;> (try simp only [bool_not_true, bool_not_false, decide_eq_true_eq, decide_eq_false_iff_not, Bool.and_eq_true] at hc)) | refine And.intro (by first | assumption | omega | (have := len_pos (by assumption); omega) | (unfold capOK; omega)) ?_ | ((first | simp (disch := omega) only [encs_getN] | simp (disch := omega) only [wrapS]); (try simp only [go_sem, ↓reduceIte, Nat.reduceEqDiff, Nat.reduceAdd, Nat.reduceSub, Nat.reduceMul, Nat.reduceLT, Nat.reduceLeDiff, reduceCtorEq, Int.reduceToNat])))
  all_goals first | (simp only [namedW, sgW, *, decide_true, decide_false, Bool.and_true, Bool.true_and, Bool.and_false, Bool.false_and, Bool.or_true, Bool.true_or, Bool.or_false, Bool.false_or, Bool.not_true, Bool.not_false, if_true, if_false, reduceIte, Int.reduceEq]; done) | (simp_all [namedW, sgW]; done) | (simp_all [namedW, sgW]; omega)
end Go.Proofs.Ytjigahnncojikaa

/- trees: expressions -/
set_option maxRecDepth 4000
namespace Go.Proofs.Ytjigahnncojikaa
open Go Go.RowKit Go.V
set_option linter.unusedVariables false
set_option linter.unusedSimpArgs false

/-- Whether a tree is an expression, a binding, an alternative. -/
abbrev T3 := Bool × Bool × Bool
def d3 : T3 × N := ((false, false, false), N0)
mutual
def eba : N → T3
  | .mk k _ n t ks =>
    let l := (ebas ks).zip ks
    (if k = 21 then decide (n = 0) && varW t && decide ((ks.length : Int) = 0)
     else if k = 22 then decide (n = 0) && conW t && decide ((ks.length : Int) = 0)
     else if k = 23 then decide (t = []) && decide (0 ≤ n) && decide ((ks.length : Int) = 0)
     else if k = 24 then decide (t = []) && decide (n = 0) && decide ((ks.length : Int) = 2) && l.all (·.1.1)
     else if k = 25 then decide (n = 0) && varW t && decide ((ks.length : Int) = 1) && (l.getD 0 d3).1.1
     else if k = 26 then decide (t = []) && decide (n = 0) && decide (2 ≤ (ks.length : Int)) && (l.take ((ks.length : Int) - 1).toNat).all (fun p => p.1.2.1 || sgW p.2) && (l.getD ((ks.length : Int) - 1).toNat d3).1.1
     else if k = 27 then decide (t = []) && decide (n = 0) && decide (2 ≤ (ks.length : Int)) && (l.getD 0 d3).1.1 && (l.drop 1).all (·.1.2.2)
     else if k = 28 then decide (t = []) && decide (n = 0) && decide ((ks.length : Int) = 3) && l.all (·.1.1)
     else false,
     decide (k = 31) && decide (n = 0) && varW t && decide ((ks.length : Int) = 1) && (l.getD 0 d3).1.1,
     decide (k = 15) && decide (t = []) && decide (n = 0) && decide ((ks.length : Int) = 2) && paW (l.getD 0 d3).2 && (l.getD 1 d3).1.1)
def ebas : List N → List T3
  | [] => []
  | x :: r => eba x :: ebas r
end
def exW (n : N) : Bool := (eba n).1
def biW (n : N) : Bool := (eba n).2.1
def alW (n : N) : Bool := (eba n).2.2
theorem ebas_zip (l : List N) : (ebas l).zip l = l.map fun x => (eba x, x) := by
  induction l with
  | nil => rfl
  | cons x r ih => rw [ebas, List.zip_cons_cons, ih]; rfl
theorem zip_getD {l : List N} {i : Nat} (h : i < l.length) : (l.map fun x => (eba x, x)).getD i d3 = (eba (l.getD i N0), l.getD i N0) := by
  rw [List.getD_eq_getElem?_getD, List.getElem?_map, List.getElem?_eq_getElem h, List.getD_eq_getElem?_getD, List.getElem?_eq_getElem h]; rfl
theorem and_of {c a b : Bool} (h : c = true → a = b) : (c && a) = (c && b) := by cases c <;> simp_all
theorem exW_eq (n : N) : exW n = if n.kind = 21 then decide (n.num = 0) && varW n.text && decide ((n.kids.length : Int) = 0)
     else if n.kind = 22 then decide (n.num = 0) && conW n.text && decide ((n.kids.length : Int) = 0)
     else if n.kind = 23 then decide (n.text = []) && decide (0 ≤ n.num) && decide ((n.kids.length : Int) = 0)
     else if n.kind = 24 then decide (n.text = []) && decide (n.num = 0) && decide ((n.kids.length : Int) = 2) && n.kids.all exW
     else if n.kind = 25 then decide (n.num = 0) && varW n.text && decide ((n.kids.length : Int) = 1) && exW (n.kids.getD 0 N0)
     else if n.kind = 26 then decide (n.text = []) && decide (n.num = 0) && decide (2 ≤ (n.kids.length : Int)) && (n.kids.take ((n.kids.length : Int) - 1).toNat).all (fun x => biW x || sgW x) && exW (n.kids.getD ((n.kids.length : Int) - 1).toNat N0)
     else if n.kind = 27 then decide (n.text = []) && decide (n.num = 0) && decide (2 ≤ (n.kids.length : Int)) && exW (n.kids.getD 0 N0) && (n.kids.drop 1).all alW
     else if n.kind = 28 then decide (n.text = []) && decide (n.num = 0) && decide ((n.kids.length : Int) = 3) && n.kids.all exW
     else false := by
  obtain ⟨k, p, m, t, ks⟩ := n
  simp only [exW, eba, N.kind, N.num, N.text, N.kids, ebas_zip, ← List.map_take, ← List.map_drop, List.all_map]
  have h0 : ∀ (c : Int), 1 ≤ c → decide ((ks.length : Int) = c) = true → ((ks.map fun x => (eba x, x)).getD 0 d3).1.1 = (eba (ks.getD 0 N0)).1 := fun c h1 h => by
    simp only [decide_eq_true_eq] at h
    rw [zip_getD (by omega)]
  have h2 : decide (2 ≤ (ks.length : Int)) = true → ((ks.map fun x => (eba x, x)).getD 0 d3).1.1 = (eba (ks.getD 0 N0)).1 := fun h => by
    simp only [decide_eq_true_eq] at h
    rw [zip_getD (by omega)]
  have h3 : decide (2 ≤ (ks.length : Int)) = true → ((ks.map fun x => (eba x, x)).getD ((ks.length : Int) - 1).toNat d3).1.1 = (eba (ks.getD ((ks.length : Int) - 1).toNat N0)).1 := fun h => by
    simp only [decide_eq_true_eq] at h
    rw [zip_getD (by omega)]
  repeat' (refine ite_congr rfl (fun _ => ?_) (fun _ => ?_))
  all_goals first
    | rfl
    | (refine and_of fun h => h0 1 (by omega) ?_; simp only [Bool.and_eq_true] at h; exact h.2)
    | (refine and_of fun h => h3 ?_; simp only [Bool.and_eq_true] at h; exact h.1.2)
    | (refine congrArg (· && _) (and_of fun h => h2 ?_); simp only [Bool.and_eq_true] at h; exact h.2)
theorem biW_eq (n : N) : biW n = (decide (n.kind = 31) && decide (n.num = 0) && varW n.text && decide ((n.kids.length : Int) = 1) && exW (n.kids.getD 0 N0)) := by
  obtain ⟨k, p, m, t, ks⟩ := n
  simp only [biW, exW, eba, N.kind, N.num, N.text, N.kids, ebas_zip]
  refine and_of fun h => ?_
  simp only [Bool.and_eq_true, decide_eq_true_eq] at h
  rw [zip_getD (by omega)]
theorem alW_eq (n : N) : alW n = (decide (n.kind = 15) && decide (n.text = []) && decide (n.num = 0) && decide ((n.kids.length : Int) = 2) && paW (n.kids.getD 0 N0) && exW (n.kids.getD 1 N0)) := by
  obtain ⟨k, p, m, t, ks⟩ := n
  simp only [alW, exW, eba, N.kind, N.num, N.text, N.kids, ebas_zip]
  by_cases h : (ks.length : Int) = 2
  · rw [zip_getD (by omega), zip_getD (by omega)]; rfl
  · simp [h]

theorem nodes_isExp_1 {x : N} (h : VPure Try.prog 84 [enc x] (.bool (biW x))) : VPure Try.prog 104 [enc x] (.bool (biW x || sgW x)) := by
  refine vpure_of c_nodes_isExp_1 (by simp) (by simp only [go_sem]) rfl fun hw => ?_
  repeat' (first | refine vi_seq ?_ | refine vi_block ?_ | refine vi_scope ?_ | ((first | refine vi_reg ?_ | refine vi_regE (by rfl) ?_ | refine vi_regD ?_ | refine vi_label ?_ | refine vi_goto ?_ | refine vi_ret ?_ | refine vi_exit ?_ | refine vi_skip ?_ | refine vi_cond ?_ | refine vapp_pure0 h fun _ => ?_ | refine vapp_pure0 (nodes_isSig x) fun _ => ?_ | refine dapp_pure  h ?_ | refine dapp_pure  (nodes_isSig x) ?_); simp only [go_sem, ↓reduceIte, Nat.reduceEqDiff, Nat.reduceAdd, Nat.reduceSub, Nat.reduceMul, Nat.reduceLT, Nat.reduceLeDiff, reduceCtorEq, Int.reduceToNat]) | ((first | refine gd_caseb ?_ ?_ | refine cnd_caseb ?_ ?_) <;> intro hc <;> simp only [hc, go_sem, ↓reduceIte, Nat.reduceEqDiff, Nat.reduceAdd, Nat.reduceSub, Nat.reduceMul, Nat.reduceLT, Nat.reduceLeDiff, reduceCtorEq, Int.reduceToNat] <;> (try simp only [bool_not_true, bool_not_false, decide_eq_true_eq, decide_eq_false_iff_not, Bool.and_eq_true] at hc)) | refine And.intro (by first | assumption | omega | (have := len_pos (by assumption); omega) | (unfold capOK; omega)) ?_ | ((first | simp (disch := omega) only [encs_getN] | simp (disch := omega) only [wrapS]); (try simp only [go_sem, ↓reduceIte, Nat.reduceEqDiff, Nat.reduceAdd, Nat.reduceSub, Nat.reduceMul, Nat.reduceLT, Nat.reduceLeDiff, reduceCtorEq, Int.reduceToNat])))
  all_goals first | (simp only [*, decide_true, decide_false, Bool.and_true, Bool.true_and, Bool.and_false, Bool.false_and, Bool.or_true, Bool.true_or, Bool.or_false, Bool.false_or, Bool.not_true, Bool.not_false, if_true, if_false, reduceIte, Int.reduceEq]; done) | (simp_all []; done) | (simp_all []; omega)

set_option maxHeartbeats 2000000 in
theorem nodes_isExp_of {n : N} (ih : ∀ x ∈ n.kids, VPure Try.prog 95 [enc x] (.bool (exW x))) (iha : ∀ x ∈ n.kids, VPure Try.prog 105 [enc x] (.bool (alW x))) (ihw : ∀ x ∈ n.kids, VPure Try.prog 104 [enc x] (.bool (biW x || sgW x))) :
    VPure Try.prog 95 [enc n] (.bool (exW n)) := by
  refine vpure_of c_nodes_isExp (by simp) (by simp only [go_sem]) rfl fun hw => ?_
  have hkl : n.kids.length ≤ maxLen := ((enc_wf n).1 hw.1).1
  repeat' (first | refine vi_seq ?_ | refine vi_block ?_ | refine vi_scope ?_ | ((first | refine vi_reg ?_ | refine vi_regE (by rfl) ?_ | refine vi_regD ?_ | refine vi_label ?_ | refine vi_goto ?_ | refine vi_ret ?_ | refine vi_exit ?_ | refine vi_skip ?_ | refine vi_cond ?_ | refine vapp_pure0 (nodes_named names_Var _) fun _ => ?_ | refine vapp_pure0 (nodes_named names_Con _) fun _ => ?_ | refine vapp_pure0 (nodes_bare _) fun _ => ?_ | refine vapp_pure0 (ih _ (getN_mem (by omega))) fun _ => ?_ | refine vapp_pure0 (nodes_each ih) fun _ => ?_ | refine vapp_pure0 (nodes_each (f := alW) fun x hx => iha x (List.mem_of_mem_drop hx)) fun _ => ?_ | refine vapp_pure0 (nodes_each (f := fun x => biW x || sgW x) fun x hx => ihw x (List.mem_of_mem_take hx)) fun _ => ?_ | refine dapp_pure  (nodes_named names_Var _) ?_ | refine dapp_pure  (nodes_named names_Con _) ?_ | refine dapp_pure  (nodes_bare _) ?_ | refine dapp_pure  (ih _ (getN_mem (by omega))) ?_ | refine dapp_pure  (nodes_each ih) ?_ | refine dapp_pure  (nodes_each (f := alW) fun x hx => iha x (List.mem_of_mem_drop hx)) ?_ | refine dapp_pure  (nodes_each (f := fun x => biW x || sgW x) fun x hx => ihw x (List.mem_of_mem_take hx)) ?_); simp only [go_sem, ↓reduceIte, Nat.reduceEqDiff, Nat.reduceAdd, Nat.reduceSub, Nat.reduceMul, Nat.reduceLT, Nat.reduceLeDiff, reduceCtorEq, Int.reduceToNat]) | ((first | simp (disch := omega) only [wrapM]); (try simp only [go_sem, ↓reduceIte, Nat.reduceEqDiff, Nat.reduceAdd, Nat.reduceSub, Nat.reduceMul, Nat.reduceLT, Nat.reduceLeDiff, reduceCtorEq, Int.reduceToNat])) | ((first | refine gd_caseb ?_ ?_ | refine cnd_caseb ?_ ?_) <;> intro hc <;> simp only [hc, go_sem, ↓reduceIte, Nat.reduceEqDiff, Nat.reduceAdd, Nat.reduceSub, Nat.reduceMul, Nat.reduceLT, Nat.reduceLeDiff, reduceCtorEq, Int.reduceToNat] <;> (try simp only [bool_not_true, bool_not_false, decide_eq_true_eq, decide_eq_false_iff_not, Bool.and_eq_true] at hc)) | refine And.intro (by first | assumption | omega | (have := len_pos (by assumption); omega) | (unfold capOK; omega)) ?_ | ((first | simp (disch := omega) only [encs_getN] | simp (disch := omega) only [wrapS]); (try simp only [go_sem, ↓reduceIte, Nat.reduceEqDiff, Nat.reduceAdd, Nat.reduceSub, Nat.reduceMul, Nat.reduceLT, Nat.reduceLeDiff, reduceCtorEq, Int.reduceToNat])))
  all_goals clear ih iha ihw hw hkl
  all_goals rw [exW_eq n]
  all_goals (try simp only [namedW, bareW] at *)
  all_goals first | (simp only [*, decide_true, decide_false, Bool.and_true, Bool.true_and, Bool.and_false, Bool.false_and, Bool.or_true, Bool.true_or, Bool.or_false, Bool.false_or, Bool.not_true, Bool.not_false, if_true, if_false, reduceIte, Int.reduceEq]; done) | (simp_all []; done) | (simp_all []; omega)

theorem nodes_exp : ∀ n, VPure Try.prog 95 [enc n] (.bool (exW n)) ∧ VPure Try.prog 84 [enc n] (.bool (biW n)) ∧ VPure Try.prog 105 [enc n] (.bool (alW n)) := by
  refine N.ind fun n ih => ⟨nodes_isExp_of (fun x hx => (ih x hx).1) (fun x hx => (ih x hx).2.2) (fun x hx => nodes_isExp_1 (ih x hx).2.1), ?_, ?_⟩
  · refine vpure_of c_nodes_isBind (by simp) (by simp only [go_sem]) rfl fun hw => ?_
    rw [biW_eq n]
    repeat' (first | refine vi_seq ?_ | refine vi_block ?_ | refine vi_scope ?_ | ((first | refine vi_reg ?_ | refine vi_regE (by rfl) ?_ | refine vi_regD ?_ | refine vi_label ?_ | refine vi_goto ?_ | refine vi_ret ?_ | refine vi_exit ?_ | refine vi_skip ?_ | refine vi_cond ?_ | refine vapp_pure0 (nodes_named names_Var _) fun _ => ?_ | refine vapp_pure0 (ih _ (getN_mem (by omega))).1 fun _ => ?_ | refine dapp_pure  (nodes_named names_Var _) ?_ | refine dapp_pure  (ih _ (getN_mem (by omega))).1 ?_); simp only [go_sem, ↓reduceIte, Nat.reduceEqDiff, Nat.reduceAdd, Nat.reduceSub, Nat.reduceMul, Nat.reduceLT, Nat.reduceLeDiff, reduceCtorEq, Int.reduceToNat]) | ((first | refine gd_caseb ?_ ?_ | refine cnd_caseb ?_ ?_) <;> intro hc <;> simp only [hc, go_sem, ↓reduceIte, Nat.reduceEqDiff, Nat.reduceAdd, Nat.reduceSub, Nat.reduceMul, Nat.reduceLT, Nat.reduceLeDiff, reduceCtorEq, Int.reduceToNat] <;> (try simp only [bool_not_true, bool_not_false, decide_eq_true_eq, decide_eq_false_iff_not, Bool.and_eq_true] at hc)) | refine And.intro (by first | assumption | omega | (have := len_pos (by assumption); omega) | (unfold capOK; omega)) ?_ | ((first | simp (disch := omega) only [encs_getN] | simp (disch := omega) only [wrapS]); (try simp only [go_sem, ↓reduceIte, Nat.reduceEqDiff, Nat.reduceAdd, Nat.reduceSub, Nat.reduceMul, Nat.reduceLT, Nat.reduceLeDiff, reduceCtorEq, Int.reduceToNat])))
    all_goals first | (simp only [namedW, *, decide_true, decide_false, Bool.and_true, Bool.true_and, Bool.and_false, Bool.false_and, Bool.or_true, Bool.true_or, Bool.or_false, Bool.false_or, Bool.not_true, Bool.not_false, if_true, if_false, reduceIte, Int.reduceEq]; done) | (simp_all [namedW]; done) | (simp_all [namedW]; omega)
  · refine vpure_of c_nodes_isAlt (by simp) (by simp only [go_sem]) rfl fun hw => ?_
    rw [alW_eq n]
    repeat' (first | refine vi_seq ?_ | refine vi_block ?_ | refine vi_scope ?_ | ((first | refine vi_reg ?_ | refine vi_regE (by rfl) ?_ | refine vi_regD ?_ | refine vi_label ?_ | refine vi_goto ?_ | refine vi_ret ?_ | refine vi_exit ?_ | refine vi_skip ?_ | refine vi_cond ?_ | refine vapp_pure0 (nodes_bare _) fun _ => ?_ | refine vapp_pure0 (nodes_isPat _) fun _ => ?_ | refine vapp_pure0 (ih _ (getN_mem (by omega))).1 fun _ => ?_ | refine dapp_pure  (nodes_bare _) ?_ | refine dapp_pure  (nodes_isPat _) ?_ | refine dapp_pure  (ih _ (getN_mem (by omega))).1 ?_); simp only [go_sem, ↓reduceIte, Nat.reduceEqDiff, Nat.reduceAdd, Nat.reduceSub, Nat.reduceMul, Nat.reduceLT, Nat.reduceLeDiff, reduceCtorEq, Int.reduceToNat]) | ((first | refine gd_caseb ?_ ?_ | refine cnd_caseb ?_ ?_) <;> intro hc <;> simp only [hc, go_sem, ↓reduceIte, Nat.reduceEqDiff, Nat.reduceAdd, Nat.reduceSub, Nat.reduceMul, Nat.reduceLT, Nat.reduceLeDiff, reduceCtorEq, Int.reduceToNat] <;> (try simp only [bool_not_true, bool_not_false, decide_eq_true_eq, decide_eq_false_iff_not, Bool.and_eq_true] at hc)) | refine And.intro (by first | assumption | omega | (have := len_pos (by assumption); omega) | (unfold capOK; omega)) ?_ | ((first | simp (disch := omega) only [encs_getN] | simp (disch := omega) only [wrapS]); (try simp only [go_sem, ↓reduceIte, Nat.reduceEqDiff, Nat.reduceAdd, Nat.reduceSub, Nat.reduceMul, Nat.reduceLT, Nat.reduceLeDiff, reduceCtorEq, Int.reduceToNat])))
    all_goals first | (simp only [bareW, *, decide_true, decide_false, Bool.and_true, Bool.true_and, Bool.and_false, Bool.false_and, Bool.or_true, Bool.true_or, Bool.or_false, Bool.false_or, Bool.not_true, Bool.not_false, if_true, if_false, reduceIte, Int.reduceEq]; done) | (simp_all [bareW]; done) | (simp_all [bareW]; omega)
end Go.Proofs.Ytjigahnncojikaa

/- trees: expressions, by the reference -/
namespace Go.Proofs.Ytjigahnncojikaa
open Go Go.RowKit Go.V
set_option linter.unusedVariables false
set_option linter.unusedSimpArgs false

section
end

end Go.Proofs.Ytjigahnncojikaa

/- trees: declarations -/
set_option maxRecDepth 4000
namespace Go.Proofs.Ytjigahnncojikaa
open Go Go.RowKit Go.V
set_option linter.unusedVariables false
set_option linter.unusedSimpArgs false

def vaW (n : N) : Bool := decide (n.kind = 1) && tyW n
theorem nodes_isVar (n : N) : VPure Try.prog 87 [enc n] (.bool (vaW n)) := by
  refine vpure_of c_nodes_isVar (by simp) (by simp only [go_sem]) rfl fun hw => ?_
  repeat' (first | refine vi_seq ?_ | refine vi_block ?_ | refine vi_scope ?_ | ((first | refine vi_reg ?_ | refine vi_regE (by rfl) ?_ | refine vi_regD ?_ | refine vi_label ?_ | refine vi_goto ?_ | refine vi_ret ?_ | refine vi_exit ?_ | refine vi_skip ?_ | refine vi_cond ?_ | refine vapp_pure0 (nodes_isType _) fun _ => ?_ | refine dapp_pure  (nodes_isType _) ?_); simp only [go_sem, ↓reduceIte, Nat.reduceEqDiff, Nat.reduceAdd, Nat.reduceSub, Nat.reduceMul, Nat.reduceLT, Nat.reduceLeDiff, reduceCtorEq, Int.reduceToNat]) | ((first | refine gd_caseb ?_ ?_ | refine cnd_caseb ?_ ?_) <;> intro hc <;> simp only [hc, go_sem, ↓reduceIte, Nat.reduceEqDiff, Nat.reduceAdd, Nat.reduceSub, Nat.reduceMul, Nat.reduceLT, Nat.reduceLeDiff, reduceCtorEq, Int.reduceToNat] <;> (try simp only [bool_not_true, bool_not_false, decide_eq_true_eq, decide_eq_false_iff_not, Bool.and_eq_true] at hc)) | refine And.intro (by first | assumption | omega | (have := len_pos (by assumption); omega) | (unfold capOK; omega)) ?_ | ((first | simp (disch := omega) only [encs_getN] | simp (disch := omega) only [wrapS]); (try simp only [go_sem, ↓reduceIte, Nat.reduceEqDiff, Nat.reduceAdd, Nat.reduceSub, Nat.reduceMul, Nat.reduceLT, Nat.reduceLeDiff, reduceCtorEq, Int.reduceToNat])))
  all_goals first | (simp only [vaW, *, decide_true, decide_false, Bool.and_true, Bool.true_and, Bool.and_false, Bool.false_and, Bool.or_true, Bool.true_or, Bool.or_false, Bool.false_or, Bool.not_true, Bool.not_false, if_true, if_false, reduceIte, Int.reduceEq]; done) | (simp_all [vaW]; done) | (simp_all [vaW]; omega)
def cnW (n : N) : Bool := decide (n.kind = 34) && namedW n conW && n.kids.all tyW
theorem nodes_isCon (n : N) : VPure Try.prog 88 [enc n] (.bool (cnW n)) := by
  refine vpure_of c_nodes_isCon (by simp) (by simp only [go_sem]) rfl fun hw => ?_
  repeat' (first | refine vi_seq ?_ | refine vi_block ?_ | refine vi_scope ?_ | ((first | refine vi_reg ?_ | refine vi_regE (by rfl) ?_ | refine vi_regD ?_ | refine vi_label ?_ | refine vi_goto ?_ | refine vi_ret ?_ | refine vi_exit ?_ | refine vi_skip ?_ | refine vi_cond ?_ | refine vapp_pure0 (nodes_named names_Con _) fun _ => ?_ | refine vapp_pure0 (nodes_each fun x _ => nodes_isType x) fun _ => ?_ | refine dapp_pure  (nodes_named names_Con _) ?_ | refine dapp_pure  (nodes_each fun x _ => nodes_isType x) ?_); simp only [go_sem, ↓reduceIte, Nat.reduceEqDiff, Nat.reduceAdd, Nat.reduceSub, Nat.reduceMul, Nat.reduceLT, Nat.reduceLeDiff, reduceCtorEq, Int.reduceToNat]) | ((first | refine gd_caseb ?_ ?_ | refine cnd_caseb ?_ ?_) <;> intro hc <;> simp only [hc, go_sem, ↓reduceIte, Nat.reduceEqDiff, Nat.reduceAdd, Nat.reduceSub, Nat.reduceMul, Nat.reduceLT, Nat.reduceLeDiff, reduceCtorEq, Int.reduceToNat] <;> (try simp only [bool_not_true, bool_not_false, decide_eq_true_eq, decide_eq_false_iff_not, Bool.and_eq_true] at hc)) | refine And.intro (by first | assumption | omega | (have := len_pos (by assumption); omega) | (unfold capOK; omega)) ?_ | ((first | simp (disch := omega) only [encs_getN] | simp (disch := omega) only [wrapS]); (try simp only [go_sem, ↓reduceIte, Nat.reduceEqDiff, Nat.reduceAdd, Nat.reduceSub, Nat.reduceMul, Nat.reduceLT, Nat.reduceLeDiff, reduceCtorEq, Int.reduceToNat])))
  all_goals first | (simp only [cnW, *, decide_true, decide_false, Bool.and_true, Bool.true_and, Bool.and_false, Bool.false_and, Bool.or_true, Bool.true_or, Bool.or_false, Bool.false_or, Bool.not_true, Bool.not_false, if_true, if_false, reduceIte, Int.reduceEq]; done) | (simp_all [cnW]; done) | (simp_all [cnW]; omega)
def deW (n : N) : Bool :=
  if n.kind = 31 then biW n else if n.kind = 32 then sgW n
  else conW n.text && !decide (n.num < 0) && !decide ((n.kids.length : Int) ≤ n.num) &&
    (if n.kind = 33 then (n.kids.take n.num.toNat).all vaW && cnW (n.kids.getD n.num.toNat N0) && (n.kids.drop (n.num + 1).toNat).all cnW
     else if n.kind = 35 then (n.kids.take n.num.toNat).all prW && vaW (n.kids.getD n.num.toNat N0) && (n.kids.drop (n.num + 1).toNat).all sgW
     else if n.kind = 36 then (n.kids.take n.num.toNat).all prW && tyW (n.kids.getD n.num.toNat N0) && (n.kids.drop (n.num + 1).toNat).all biW
     else false)
theorem nodes_isDecl (n : N) : VPure Try.prog 69 [enc n] (.bool (deW n)) := by
  refine vpure_of c_nodes_isDecl (by simp) (by simp only [go_sem]) rfl fun hw => ?_
  have hkl : n.kids.length ≤ maxLen := ((enc_wf n).1 hw.1).1
  repeat' (first | refine vi_seq ?_ | refine vi_block ?_ | refine vi_scope ?_ | ((first | refine vi_reg ?_ | refine vi_regE (by rfl) ?_ | refine vi_regD ?_ | refine vi_label ?_ | refine vi_goto ?_ | refine vi_ret ?_ | refine vi_exit ?_ | refine vi_skip ?_ | refine vi_cond ?_); simp (disch := first | omega | (simp only [List.length_set, List.length_append, List.length_cons, List.length_nil]; done) | (simp only [List.length_set, List.length_append, List.length_cons, List.length_nil]; omega)) only [encs_getN, wrap_id, go_sem, ↓reduceIte, Nat.reduceEqDiff, Nat.reduceAdd, Nat.reduceSub, Nat.reduceMul, Nat.reduceLT, Nat.reduceLeDiff, reduceCtorEq, Int.reduceToNat]) | ((first | refine gd_caseb ?_ ?_ | refine cnd_caseb ?_ ?_) <;> intro hc <;> simp only [hc, go_sem, ↓reduceIte, Nat.reduceEqDiff, Nat.reduceAdd, Nat.reduceSub, Nat.reduceMul, Nat.reduceLT, Nat.reduceLeDiff, reduceCtorEq, Int.reduceToNat] <;> (try simp only [bool_not_true, bool_not_false, decide_eq_true_eq, decide_eq_false_iff_not, Bool.and_eq_true] at hc)) | refine And.intro (by first | assumption | omega | (have := len_pos (by assumption); omega) | (unfold capOK; omega)) ?_ | ((first | simp (disch := omega) only [encs_getN] | simp (disch := omega) only [wrapS]); (try simp only [go_sem, ↓reduceIte, Nat.reduceEqDiff, Nat.reduceAdd, Nat.reduceSub, Nat.reduceMul, Nat.reduceLT, Nat.reduceLeDiff, reduceCtorEq, Int.reduceToNat])) | ((first | refine vapp_pure0 (nodes_exp n).2.1 fun _ => ?_ | refine vapp_pure0 (nodes_isSig n) fun _ => ?_ | refine vapp_pure0 (names_Con _) fun _ => ?_ | refine vapp_pure0 (nodes_each fun x _ => nodes_isVar x) fun _ => ?_ | refine vapp_pure0 (nodes_each fun x _ => nodes_isPred x) fun _ => ?_ | refine vapp_pure0 (nodes_each fun x _ => nodes_isCon x) fun _ => ?_ | refine vapp_pure0 (nodes_each fun x _ => nodes_isSig x) fun _ => ?_ | refine vapp_pure0 (nodes_each (f := biW) fun x _ => (nodes_exp x).2.1) fun _ => ?_ | refine vapp_pure0 (nodes_isCon _) fun _ => ?_ | refine vapp_pure0 (nodes_isVar _) fun _ => ?_ | refine vapp_pure0 (nodes_isType _) fun _ => ?_ | refine dapp_pure  (nodes_exp n).2.1 ?_ | refine dapp_pure  (nodes_isSig n) ?_ | refine dapp_pure  (names_Con _) ?_ | refine dapp_pure  (nodes_each fun x _ => nodes_isVar x) ?_ | refine dapp_pure  (nodes_each fun x _ => nodes_isPred x) ?_ | refine dapp_pure  (nodes_each fun x _ => nodes_isCon x) ?_ | refine dapp_pure  (nodes_each fun x _ => nodes_isSig x) ?_ | refine dapp_pure  (nodes_each (f := biW) fun x _ => (nodes_exp x).2.1) ?_ | refine dapp_pure  (nodes_isCon _) ?_ | refine dapp_pure  (nodes_isVar _) ?_ | refine dapp_pure  (nodes_isType _) ?_); simp only [go_sem, ↓reduceIte, Nat.reduceEqDiff, Nat.reduceAdd, Nat.reduceSub, Nat.reduceMul, Nat.reduceLT, Nat.reduceLeDiff, reduceCtorEq, Int.reduceToNat]))
  all_goals clear hw hkl
  all_goals simp only [deW]
  all_goals first | (simp only [*, decide_true, decide_false, Bool.and_true, Bool.true_and, Bool.and_false, Bool.false_and, Bool.or_true, Bool.true_or, Bool.or_false, Bool.false_or, Bool.not_true, Bool.not_false, if_true, if_false, reduceIte, Int.reduceEq]; done) | (simp_all []; done) | (simp_all []; omega)

theorem nodes_Type (n : N) : VPure Try.prog 33 [enc n] (.bool (lowW n && tyW n)) := by
  refine vpure_of c_nodes_Type (by simp) (by simp only [go_sem]) rfl fun hw => ?_
  repeat' (first | refine vi_seq ?_ | refine vi_block ?_ | refine vi_scope ?_ | ((first | refine vi_reg ?_ | refine vi_regE (by rfl) ?_ | refine vi_regD ?_ | refine vi_label ?_ | refine vi_goto ?_ | refine vi_ret ?_ | refine vi_exit ?_ | refine vi_skip ?_ | refine vi_cond ?_ | refine vapp_pure0 (nodes_low _) fun _ => ?_ | refine vapp_pure0 (nodes_isType _) fun _ => ?_ | refine dapp_pure  (nodes_low _) ?_ | refine dapp_pure  (nodes_isType _) ?_); simp only [go_sem, ↓reduceIte, Nat.reduceEqDiff, Nat.reduceAdd, Nat.reduceSub, Nat.reduceMul, Nat.reduceLT, Nat.reduceLeDiff, reduceCtorEq, Int.reduceToNat]) | ((first | refine gd_caseb ?_ ?_ | refine cnd_caseb ?_ ?_) <;> intro hc <;> simp only [hc, go_sem, ↓reduceIte, Nat.reduceEqDiff, Nat.reduceAdd, Nat.reduceSub, Nat.reduceMul, Nat.reduceLT, Nat.reduceLeDiff, reduceCtorEq, Int.reduceToNat] <;> (try simp only [bool_not_true, bool_not_false, decide_eq_true_eq, decide_eq_false_iff_not, Bool.and_eq_true] at hc)) | refine And.intro (by first | assumption | omega | (have := len_pos (by assumption); omega) | (unfold capOK; omega)) ?_ | ((first | simp (disch := omega) only [encs_getN] | simp (disch := omega) only [wrapS]); (try simp only [go_sem, ↓reduceIte, Nat.reduceEqDiff, Nat.reduceAdd, Nat.reduceSub, Nat.reduceMul, Nat.reduceLT, Nat.reduceLeDiff, reduceCtorEq, Int.reduceToNat])))
  all_goals first | (simp only [*, decide_true, decide_false, Bool.and_true, Bool.true_and, Bool.and_false, Bool.false_and, Bool.or_true, Bool.true_or, Bool.or_false, Bool.false_or, Bool.not_true, Bool.not_false, if_true, if_false, reduceIte, Int.reduceEq]; done) | (simp_all []; done) | (simp_all []; omega)
def declW (n : N) : Bool := if n.kind = 37 then lowW n && bareW n && n.kids.all deW else lowW n && deW n
theorem nodes_Decl (n : N) : VPure Try.prog 32 [enc n] (.bool (declW n)) := by
  refine vpure_of c_nodes_Decl (by simp) (by simp only [go_sem]) rfl fun hw => ?_
  repeat' (first | refine vi_seq ?_ | refine vi_block ?_ | refine vi_scope ?_ | ((first | refine vi_reg ?_ | refine vi_regE (by rfl) ?_ | refine vi_regD ?_ | refine vi_label ?_ | refine vi_goto ?_ | refine vi_ret ?_ | refine vi_exit ?_ | refine vi_skip ?_ | refine vi_cond ?_ | refine vapp_pure0 (nodes_low _) fun _ => ?_ | refine vapp_pure0 (nodes_bare _) fun _ => ?_ | refine vapp_pure0 (nodes_isDecl _) fun _ => ?_ | refine vapp_pure0 (nodes_each fun x _ => nodes_isDecl x) fun _ => ?_ | refine dapp_pure  (nodes_low _) ?_ | refine dapp_pure  (nodes_bare _) ?_ | refine dapp_pure  (nodes_isDecl _) ?_ | refine dapp_pure  (nodes_each fun x _ => nodes_isDecl x) ?_); simp only [go_sem, ↓reduceIte, Nat.reduceEqDiff, Nat.reduceAdd, Nat.reduceSub, Nat.reduceMul, Nat.reduceLT, Nat.reduceLeDiff, reduceCtorEq, Int.reduceToNat]) | ((first | refine gd_caseb ?_ ?_ | refine cnd_caseb ?_ ?_) <;> intro hc <;> simp only [hc, go_sem, ↓reduceIte, Nat.reduceEqDiff, Nat.reduceAdd, Nat.reduceSub, Nat.reduceMul, Nat.reduceLT, Nat.reduceLeDiff, reduceCtorEq, Int.reduceToNat] <;> (try simp only [bool_not_true, bool_not_false, decide_eq_true_eq, decide_eq_false_iff_not, Bool.and_eq_true] at hc)) | refine And.intro (by first | assumption | omega | (have := len_pos (by assumption); omega) | (unfold capOK; omega)) ?_ | ((first | simp (disch := omega) only [encs_getN] | simp (disch := omega) only [wrapS]); (try simp only [go_sem, ↓reduceIte, Nat.reduceEqDiff, Nat.reduceAdd, Nat.reduceSub, Nat.reduceMul, Nat.reduceLT, Nat.reduceLeDiff, reduceCtorEq, Int.reduceToNat])))
  all_goals first | (simp only [declW, *, decide_true, decide_false, Bool.and_true, Bool.true_and, Bool.and_false, Bool.false_and, Bool.or_true, Bool.true_or, Bool.or_false, Bool.false_or, Bool.not_true, Bool.not_false, if_true, if_false, reduceIte, Int.reduceEq]; done) | (simp_all [declW]; done) | (simp_all [declW]; omega)
end Go.Proofs.Ytjigahnncojikaa

/- trees: the plain laws of sizes and depths -/
namespace Go.Proofs.Ytjigahnncojikaa
open Go Go.RowKit Go.V
set_option linter.unusedVariables false
set_option linter.unusedSimpArgs false

mutual
def sz : N → Nat
  | .mk _ _ _ _ ks => szs ks + 1
def szs : List N → Nat
  | [] => 0
  | x :: r => sz x + szs r
end
mutual
def dp : N → Nat
  | .mk _ _ _ _ ks => dps ks + 1
def dps : List N → Nat
  | [] => 0
  | x :: r => max (dp x) (dps r)
end
theorem sz_eq (n : N) : sz n = szs n.kids + 1 := by cases n; rw [sz]; rfl
theorem dp_eq (n : N) : dp n = dps n.kids + 1 := by cases n; rw [dp]; rfl
theorem sz_pos (n : N) : 1 ≤ sz n := by rw [sz_eq]; omega
theorem len_szs : ∀ l : List N, l.length ≤ szs l
  | [] => Nat.le_refl _
  | x :: r => by have := len_szs r; have := sz_pos x; simp only [szs, List.length_cons]; omega
theorem mem_szs : ∀ {l : List N} {x : N}, x ∈ l → sz x ≤ szs l
  | y :: r, x, h => by
    simp only [szs]
    rcases List.mem_cons.1 h with rfl | h
    · omega
    · have := mem_szs h; omega
theorem dps_szs : ∀ {l : List N}, (∀ x ∈ l, dp x ≤ sz x) → dps l ≤ szs l
  | [], _ => Nat.le_refl _
  | x :: r, h => by
    have h1 := h x (by simp)
    have h2 := dps_szs (l := r) fun y hy => h y (by simp [hy])
    simp only [dps, szs]; omega
theorem dp_sz : ∀ n, dp n ≤ sz n := N.ind fun n ih => by rw [dp_eq, sz_eq]; have := dps_szs ih; omega

theorem wrapB {z : Int} (h0 : -1 ≤ z) (h1 : z ≤ 1000000000) : IntKind.i64.wrap z = z := by
  simp [IntKind.wrap, IntKind.signed, IntKind.bits]
  omega

theorem cnt_spec : ∀ n k, 0 ≤ k → k ≤ 1000000 → -1 ≤ cntW n k ∧ cntW n k ≤ k ∧ (0 ≤ cntW n k → cntW n k = k - sz n) := by
  refine N.ind fun n ih k h0 h1 => ?_
  rw [cntW_eq, wrapB (by omega) (by omega), sz_eq]
  have key : ∀ (l : List N), (∀ x ∈ l, ∀ k, 0 ≤ k → k ≤ 1000000 → -1 ≤ cntW x k ∧ cntW x k ≤ k ∧ (0 ≤ cntW x k → cntW x k = k - sz x)) → ∀ a : Int, -1 ≤ a → a ≤ 1000000 → -1 ≤ cntsW a l ∧ cntsW a l ≤ a ∧ (0 ≤ cntsW a l → cntsW a l = a - szs l) := by
    intro l
    induction l with
    | nil => intro _ a h0 h1; simp only [cntsW, szs]; omega
    | cons x r ihr =>
      intro hx a h0 h1
      simp only [cntsW, szs]
      split
      · obtain ⟨q1, q2, q3⟩ := hx x (by simp) a (by omega) (by omega)
        obtain ⟨r1, r2, r3⟩ := ihr (fun y hy => hx y (by simp [hy])) (cntW x a) (by omega) (by omega)
        refine ⟨by omega, by omega, fun h => ?_⟩
        have := r3 h
        have := q3 (by omega)
        omega
      · exact ⟨by omega, by omega, fun h => by omega⟩
  obtain ⟨q1, q2, q3⟩ := key n.kids ih (k - 1) (by omega) (by omega)
  exact ⟨by omega, by omega, fun h => by have := q3 h; omega⟩
theorem few_sz {n : N} (h : fewW n = true) : sz n ≤ 3000 := by
  simp only [fewW, decide_eq_true_eq] at h
  obtain ⟨_, q2, q3⟩ := cnt_spec n 3000 (by omega) (by omega)
  have := q3 h
  omega
theorem okN_of : ∀ n, sz n ≤ 1000000 → okN n := N.ind fun n ih h => by
  rw [okN_eq]
  rw [sz_eq] at h
  have := len_szs n.kids
  exact ⟨by omega, fun x hx => ih x hx (by have := mem_szs hx; omega)⟩

theorem sizeR_sz : ∀ n, sz n ≤ 1000000 → sizeR n = sz n := N.ind fun n ih h => by
  rw [sizeR_eq, sz_eq]
  rw [sz_eq] at h
  have key : ∀ (l : List N), (∀ x ∈ l, sz x ≤ 1000000 → sizeR x = sz x) → ∀ a : Int, 1 ≤ a → a + szs l ≤ 1000001 → sizesR a l = a + szs l := by
    intro l
    induction l with
    | nil => intro _ a h0 h1; simp [sizesR, szs]
    | cons x r ihr =>
      intro hx a h0 h1
      simp only [sizesR, szs] at h1 ⊢
      rw [hx x (by simp) (by omega), wrapB (by omega) (by omega), ihr (fun y hy => hx y (by simp [hy])) _ (by omega) (by omega)]
      omega
  rw [key n.kids ih 1 (by omega) (by omega)]
  omega
def szF : Int → Int → N → Int × Bool := fun k _ _ => (IntKind.i64.wrap (k + 1), true)
theorem walk_sz : ∀ n l (s : Int), 0 ≤ s → s + sz n ≤ 2000000 → walkW szF n l s = (s + sz n, true) := N.ind fun n ih l s h0 h1 => by
  rw [walkW_eq, sz_eq]
  rw [sz_eq] at h1
  simp only [szF, if_true]
  have key : ∀ (r : List N), (∀ x ∈ r, ∀ l (s : Int), 0 ≤ s → s + sz x ≤ 2000000 → walkW szF x l s = (s + sz x, true)) → ∀ l (s : Int), 0 ≤ s → s + szs r ≤ 2000000 → walksW szF l r s = (s + szs r, true) := by
    intro r
    induction r with
    | nil => intro _ l s _ _; simp [walksW, szs]
    | cons x r ihr =>
      intro hx l s h0 h1
      simp only [walksW, szs] at h1 ⊢
      rw [hx x (by simp) _ _ h0 (by omega), if_pos rfl, ihr (fun y hy => hx y (by simp [hy])) _ _ (by omega) (by omega)]
      simp only [Prod.mk.injEq, and_true]; omega
  have := key n.kids ih (IntKind.i64.wrap (l + 1)) (IntKind.i64.wrap (s + 1)) (by rw [wrapB (by omega) (by omega)]; omega) (by rw [wrapB (by omega) (by omega)]; omega)
  rw [this, wrapB (by omega) (by omega)]
  simp only [Prod.mk.injEq, and_true]; omega
theorem size_law {n : N} (h : sz n ≤ 3000) : (walkW (fun (k : Int) _ _ => (IntKind.i64.wrap (k + 1), true)) n 1 0).1 = sizeR n := by
  show (walkW szF n 1 0).1 = sizeR n
  rw [walk_sz n 1 0 (by omega) (by omega), sizeR_sz n (by omega)]; simp

theorem depR_dp : ∀ n, sz n ≤ 1000000 → depR n = dp n := N.ind fun n ih h => by
  rw [depR_eq, dp_eq]
  rw [sz_eq] at h
  have key : ∀ (l : List N), (∀ x ∈ l, sz x ≤ 1000000 → depR x = dp x) → szs l ≤ 1000000 → ∀ a : Int, 0 ≤ a → depsR a l = max a (dps l) := by
    intro l
    induction l with
    | nil => intro _ _ a h0; simp [depsR, dps]; omega
    | cons x r ihr =>
      intro hx hs a h0
      simp only [szs] at hs
      simp only [depsR, dps]
      rw [hx x (by simp) (by omega)]
      have := ihr (fun y hy => hx y (by simp [hy])) (by omega)
      split
      · rw [this _ (by omega)]; omega
      · rw [this _ (by omega)]; omega
  have hd := dps_szs (l := n.kids) fun x _ => dp_sz x
  rw [key n.kids ih (by omega) 0 (by omega), wrapB (by omega) (by omega)]
  omega
def dpF : Int → Int → N → Int × Bool := fun k l _ => (if l > k then l else k, true)
theorem walk_dp : ∀ n (l s : Int), 0 ≤ l → l + sz n ≤ 2000000 → walkW dpF n l s = (max s (l + dp n - 1), true) := N.ind fun n ih l s h0 h1 => by
  rw [walkW_eq, dp_eq]
  rw [sz_eq] at h1
  simp only [dpF, if_true]
  have key : ∀ (r : List N), (∀ x ∈ r, ∀ (l s : Int), 0 ≤ l → l + sz x ≤ 2000000 → walkW dpF x l s = (max s (l + dp x - 1), true)) → ∀ (l s : Int), 0 ≤ l → l + szs r ≤ 2000000 → l - 1 ≤ s → walksW dpF l r s = (max s (l + dps r - 1), true) := by
    intro r
    induction r with
    | nil => intro _ l s _ _ h; simp only [walksW, dps, Prod.mk.injEq, and_true]; omega
    | cons x r ihr =>
      intro hx l s h0 h1 h2
      simp only [szs] at h1
      simp only [walksW, dps]
      rw [hx x (by simp) _ _ h0 (by omega), if_pos rfl, ihr (fun y hy => hx y (by simp [hy])) _ _ (by omega) (by omega) (by omega)]
      simp only [Prod.mk.injEq, and_true]; omega
  have := key n.kids ih (IntKind.i64.wrap (l + 1)) (if l > s then l else s) (by rw [wrapB (by omega) (by omega)]; omega) (by rw [wrapB (by omega) (by omega)]; omega) (by rw [wrapB (by omega) (by omega)]; split <;> omega)
  rw [this, wrapB (by omega) (by omega)]
  simp only [Prod.mk.injEq, and_true]
  split <;> omega
theorem depth_law {n : N} (h : sz n ≤ 3000) : (walkW (fun (k : Int) l _ => (if l > k then l else k, true)) n 1 0).1 = depR n := by
  show (walkW dpF n 1 0).1 = depR n
  rw [walk_dp n 1 0 (by omega) (by omega), depR_dp n (by omega)]
  have := dp_eq n
  simp only; omega
theorem walk_low : ∀ n (l : Int) (s : Bool), 0 ≤ l → l + sz n ≤ 2000000 → (walkW lowF n l s).2 = decide (l + dp n - 1 ≤ 100) := N.ind fun n ih l s h0 h1 => by
  rw [walkW_eq, dp_eq]
  rw [sz_eq] at h1
  have key : ∀ (r : List N), (∀ x ∈ r, ∀ (l : Int) (s : Bool), 0 ≤ l → l + sz x ≤ 2000000 → (walkW lowF x l s).2 = decide (l + dp x - 1 ≤ 100)) → ∀ (l : Int) (s : Bool), 0 ≤ l → l + szs r ≤ 2000000 → l - 1 ≤ 100 → (walksW lowF l r s).2 = decide (l + dps r - 1 ≤ 100) := by
    intro r
    induction r with
    | nil => intro _ l s _ _ h; simp only [walksW, dps]; symm; simp; omega
    | cons x r ihr =>
      intro hx l s h0 h1 h2
      simp only [szs] at h1
      simp only [walksW, dps]
      rw [hx x (by simp) _ _ h0 (by omega)]
      split
      · rename_i h3
        simp only [decide_eq_true_eq] at h3
        rw [ihr (fun y hy => hx y (by simp [hy])) _ _ (by omega) (by omega) (by omega)]
        congr 1; simp only [eq_iff_iff]; omega
      · rename_i h3
        simp only [decide_eq_true_eq] at h3
        exact (decide_eq_false (by omega)).symm
  by_cases h2 : (100 : Int) < l
  · simp only [lowF, h2, decide_true, Bool.not_true, Bool.false_eq_true, if_false]
    exact (decide_eq_false (by omega)).symm
  · simp only [lowF, h2, decide_false, Bool.not_false, if_true]
    rw [key n.kids ih _ _ (by rw [wrapB (by omega) (by omega)]; omega) (by rw [wrapB (by omega) (by omega)]; omega) (by rw [wrapB (by omega) (by omega)]; omega), wrapB (by omega) (by omega)]
    congr 1; simp only [eq_iff_iff]; omega
theorem low_law {n : N} (h : sz n ≤ 3000) : lowW n = decide (depR n ≤ 100) := by
  rw [lowW, walk_low n 1 false (by omega) (by omega), depR_dp n (by omega)]
  congr 1; simp only [eq_iff_iff]; omega
end Go.Proofs.Ytjigahnncojikaa
