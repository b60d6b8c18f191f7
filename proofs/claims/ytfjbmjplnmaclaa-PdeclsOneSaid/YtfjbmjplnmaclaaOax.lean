/- Texts of this proof, joined. -/
import Derived.Test.YtfjbmjplnmaclaaOaw
import Derived.Test.YtfjbmjplnmaclaaOao

/- trees: low, each, bare, named, plain -/
namespace Go.Proofs.Ytfjbmjplnmaclaa
open Go Go.RowKit Go.V
set_option linter.unusedVariables false
set_option linter.unusedSimpArgs false

theorem q59 (l : List N) (i : Nat) : (encs l).take i = encs (l.take i) := by rw [qe5, qe5, List.map_take]
theorem q3i (l : List N) (i : Nat) : (encs l).drop i = encs (l.drop i) := by rw [qe5, qe5, List.map_drop]
attribute [go_sem] q59 q3i
/-! low -/

/-! patterns -/
/-! predicates, contexts, signatures -/

/-- Whether a tree is an expression, a binding, an alternative. -/
abbrev T3 := Bool × Bool × Bool
def d3 : T3 × N := ((false, false, false), N0)




mutual
def sz : N → Nat
  | .mk _ _ _ _ ks => szs ks + 1
def szs : List N → Nat
  | [] => 0
  | x :: r => sz x + szs r
end
mutual
def dp : N → Nat
  | .mk _ _ _ _ ks => dps ks + 1
def dps : List N → Nat
  | [] => 0
  | x :: r => max (dp x) (dps r)
end
theorem qjh (n : N) : sz n = szs n.kids + 1 := by cases n; rw [sz]; rfl
theorem qba9 (n : N) : dp n = dps n.kids + 1 := by cases n; rw [dp]; rfl
theorem qxa : ∀ {l : List N}, (∀ x ∈ l, dp x ≤ sz x) → dps l ≤ szs l
  | [], _ => Nat.le_refl _
  | x :: r, h => by
    have h1 := h x (by simp)
    have h2 := qxa (l := r) fun y hy => h y (by simp [hy])
    simp only [dps, szs]; omega
theorem qbzy : ∀ n, dp n ≤ sz n := N.ind fun n ih => by rw [qba9, qjh]; have := qxa ih; omega

theorem qs1 {z : Int} (h0 : -1 ≤ z) (h1 : z ≤ 1000000000) : IntKind.i64.wrap z = z := by
  simp [IntKind.wrap, IntKind.signed, IntKind.bits]
  omega

theorem q8c : ∀ n, sz n ≤ 1000000 → qxz n = sz n := N.ind fun n ih h => by
  rw [qbar, qjh]
  rw [qjh] at h
  have key : ∀ (l : List N), (∀ x ∈ l, sz x ≤ 1000000 → qxz x = sz x) → ∀ a : Int, 1 ≤ a → a + szs l ≤ 1000001 → qrb a l = a + szs l := by
    intro l
    induction l with
    | nil => intro _ a h0 h1; simp [qrb, szs]
    | cons x r ihr =>
      intro hx a h0 h1
      simp only [qrb, szs] at h1 ⊢
      rw [hx x (by simp) (by omega), qs1 (by omega) (by omega), ihr (fun y hy => hx y (by simp [hy])) _ (by omega) (by omega)]
      omega
  rw [key n.kids ih 1 (by omega) (by omega)]
  omega
def szF : Int → Int → N → Int × Bool := fun k _ _ => (IntKind.i64.wrap (k + 1), true)
theorem qbjw : ∀ n l (s : Int), 0 ≤ s → s + sz n ≤ 2000000 → qfj szF n l s = (s + sz n, true) := N.ind fun n ih l s h0 h1 => by
  rw [qlt, qjh]
  rw [qjh] at h1
  simp only [szF, if_true]
  have key : ∀ (r : List N), (∀ x ∈ r, ∀ l (s : Int), 0 ≤ s → s + sz x ≤ 2000000 → qfj szF x l s = (s + sz x, true)) → ∀ l (s : Int), 0 ≤ s → s + szs r ≤ 2000000 → qgs szF l r s = (s + szs r, true) := by
    intro r
    induction r with
    | nil => intro _ l s _ _; simp [qgs, szs]
    | cons x r ihr =>
      intro hx l s h0 h1
      simp only [qgs, szs] at h1 ⊢
      rw [hx x (by simp) _ _ h0 (by omega), if_pos rfl, ihr (fun y hy => hx y (by simp [hy])) _ _ (by omega) (by omega)]
      simp only [Prod.mk.injEq, and_true]; omega
  have := key n.kids ih (IntKind.i64.wrap (l + 1)) (IntKind.i64.wrap (s + 1)) (by rw [qs1 (by omega) (by omega)]; omega) (by rw [qs1 (by omega) (by omega)]; omega)
  rw [this, qs1 (by omega) (by omega)]
  simp only [Prod.mk.injEq, and_true]; omega
theorem qbzu {n : N} (h : sz n ≤ 3000) : (qfj (fun (k : Int) _ _ => (IntKind.i64.wrap (k + 1), true)) n 1 0).1 = qxz n := by
  show (qfj szF n 1 0).1 = qxz n
  rw [qbjw n 1 0 (by omega) (by omega), q8c n (by omega)]; simp

theorem qbgy : ∀ n, sz n ≤ 1000000 → depR n = dp n := N.ind fun n ih h => by
  rw [qyf, qba9]
  rw [qjh] at h
  have key : ∀ (l : List N), (∀ x ∈ l, sz x ≤ 1000000 → depR x = dp x) → szs l ≤ 1000000 → ∀ a : Int, 0 ≤ a → qtb a l = max a (dps l) := by
    intro l
    induction l with
    | nil => intro _ _ a h0; simp [qtb, dps]; omega
    | cons x r ihr =>
      intro hx hs a h0
      simp only [szs] at hs
      simp only [qtb, dps]
      rw [hx x (by simp) (by omega)]
      have := ihr (fun y hy => hx y (by simp [hy])) (by omega)
      split
      · rw [this _ (by omega)]; omega
      · rw [this _ (by omega)]; omega
  have hd := qxa (l := n.kids) fun x _ => qbzy x
  rw [key n.kids ih (by omega) 0 (by omega), qs1 (by omega) (by omega)]
  omega
def dpF : Int → Int → N → Int × Bool := fun k l _ => (if l > k then l else k, true)
theorem qbjg : ∀ n (l s : Int), 0 ≤ l → l + sz n ≤ 2000000 → qfj dpF n l s = (max s (l + dp n - 1), true) := N.ind fun n ih l s h0 h1 => by
  rw [qlt, qba9]
  rw [qjh] at h1
  simp only [dpF, if_true]
  have key : ∀ (r : List N), (∀ x ∈ r, ∀ (l s : Int), 0 ≤ l → l + sz x ≤ 2000000 → qfj dpF x l s = (max s (l + dp x - 1), true)) → ∀ (l s : Int), 0 ≤ l → l + szs r ≤ 2000000 → l - 1 ≤ s → qgs dpF l r s = (max s (l + dps r - 1), true) := by
    intro r
    induction r with
    | nil => intro _ l s _ _ h; simp only [qgs, dps, Prod.mk.injEq, and_true]; omega
    | cons x r ihr =>
      intro hx l s h0 h1 h2
      simp only [szs] at h1
      simp only [qgs, dps]
      rw [hx x (by simp) _ _ h0 (by omega), if_pos rfl, ihr (fun y hy => hx y (by simp [hy])) _ _ (by omega) (by omega) (by omega)]
      simp only [Prod.mk.injEq, and_true]; omega
  have := key n.kids ih (IntKind.i64.wrap (l + 1)) (if l > s then l else s) (by rw [qs1 (by omega) (by omega)]; omega) (by rw [qs1 (by omega) (by omega)]; omega) (by rw [qs1 (by omega) (by omega)]; split <;> omega)
  rw [this, qs1 (by omega) (by omega)]
  simp only [Prod.mk.injEq, and_true]
  split <;> omega
end Go.Proofs.Ytfjbmjplnmaclaa
