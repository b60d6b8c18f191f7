/- Texts of this proof, joined. -/
import Derived.Test.YtfjbmjplnmaclaaWaw
import Derived.Test.YtfjbmjplnmaclaaWao

/- trees: low, each, bare, named, plain -/
namespace Go.Proofs.Ytfjbmjplnmaclaa
open Go Go.RowKit Go.V
set_option linter.unusedVariables false
set_option linter.unusedSimpArgs false

theorem qz2 (l : List N) (i : Nat) : (encs l).take i = encs (l.take i) := by rw [qd1, qd1, List.map_take]
theorem qzy (l : List N) (i : Nat) : (encs l).drop i = encs (l.drop i) := by rw [qd1, qd1, List.map_drop]
attribute [go_sem] qz2 qzy
/-! low -/

/-! patterns -/
/-! predicates, contexts, signatures -/

/-- Whether a tree is an expression, a binding, an alternative. -/
abbrev T3 := Bool × Bool × Bool
def d3 : T3 × N := ((false, false, false), N0)




mutual
def sz : N → Nat
  | .mk _ _ _ _ ks => szs ks + 1
def szs : List N → Nat
  | [] => 0
  | x :: r => sz x + szs r
end
mutual
def dp : N → Nat
  | .mk _ _ _ _ ks => dps ks + 1
def dps : List N → Nat
  | [] => 0
  | x :: r => max (dp x) (dps r)
end
theorem qgw (n : N) : sz n = szs n.kids + 1 := by cases n; rw [sz]; rfl
theorem q40 (n : N) : dp n = dps n.kids + 1 := by cases n; rw [dp]; rfl
theorem qqm : ∀ {l : List N}, (∀ x ∈ l, dp x ≤ sz x) → dps l ≤ szs l
  | [], _ => Nat.le_refl _
  | x :: r, h => by
    have h1 := h x (by simp)
    have h2 := qqm (l := r) fun y hy => h y (by simp [hy])
    simp only [dps, szs]; omega
theorem qbqd : ∀ n, dp n ≤ sz n := N.ind fun n ih => by rw [q40, qgw]; have := qqm ih; omega

theorem qn6 {z : Int} (h0 : -1 ≤ z) (h1 : z ≤ 1000000000) : IntKind.i64.wrap z = z := by
  simp [IntKind.wrap, IntKind.signed, IntKind.bits]
  omega

theorem q02 : ∀ n, sz n ≤ 1000000 → qrk n = sz n := N.ind fun n ih h => by
  rw [q4t, qgw]
  rw [qgw] at h
  have key : ∀ (l : List N), (∀ x ∈ l, sz x ≤ 1000000 → qrk x = sz x) → ∀ a : Int, 1 ≤ a → a + szs l ≤ 1000001 → qmv a l = a + szs l := by
    intro l
    induction l with
    | nil => intro _ a h0 h1; simp [qmv, szs]
    | cons x r ihr =>
      intro hx a h0 h1
      simp only [qmv, szs] at h1 ⊢
      rw [hx x (by simp) (by omega), qn6 (by omega) (by omega), ihr (fun y hy => hx y (by simp [hy])) _ (by omega) (by omega)]
      omega
  rw [key n.kids ih 1 (by omega) (by omega)]
  omega
def szF : Int → Int → N → Int × Bool := fun k _ _ => (IntKind.i64.wrap (k + 1), true)
theorem qbgq : ∀ n l (s : Int), 0 ≤ s → s + sz n ≤ 2000000 → qd5 szF n l s = (s + sz n, true) := N.ind fun n ih l s h0 h1 => by
  rw [qh5, qgw]
  rw [qgw] at h1
  simp only [szF, if_true]
  have key : ∀ (r : List N), (∀ x ∈ r, ∀ l (s : Int), 0 ≤ s → s + sz x ≤ 2000000 → qd5 szF x l s = (s + sz x, true)) → ∀ l (s : Int), 0 ≤ s → s + szs r ≤ 2000000 → qe6 szF l r s = (s + szs r, true) := by
    intro r
    induction r with
    | nil => intro _ l s _ _; simp [qe6, szs]
    | cons x r ihr =>
      intro hx l s h0 h1
      simp only [qe6, szs] at h1 ⊢
      rw [hx x (by simp) _ _ h0 (by omega), if_pos rfl, ihr (fun y hy => hx y (by simp [hy])) _ _ (by omega) (by omega)]
      simp only [Prod.mk.injEq, and_true]; omega
  have := key n.kids ih (IntKind.i64.wrap (l + 1)) (IntKind.i64.wrap (s + 1)) (by rw [qn6 (by omega) (by omega)]; omega) (by rw [qn6 (by omega) (by omega)]; omega)
  rw [this, qn6 (by omega) (by omega)]
  simp only [Prod.mk.injEq, and_true]; omega
theorem qbp7 {n : N} (h : sz n ≤ 3000) : (qd5 (fun (k : Int) _ _ => (IntKind.i64.wrap (k + 1), true)) n 1 0).1 = qrk n := by
  show (qd5 szF n 1 0).1 = qrk n
  rw [qbgq n 1 0 (by omega) (by omega), q02 n (by omega)]; simp

theorem q8x : ∀ n, sz n ≤ 1000000 → depR n = dp n := N.ind fun n ih h => by
  rw [qbe2, q40]
  rw [qgw] at h
  have key : ∀ (l : List N), (∀ x ∈ l, sz x ≤ 1000000 → depR x = dp x) → szs l ≤ 1000000 → ∀ a : Int, 0 ≤ a → qua a l = max a (dps l) := by
    intro l
    induction l with
    | nil => intro _ _ a h0; simp [qua, dps]; omega
    | cons x r ihr =>
      intro hx hs a h0
      simp only [szs] at hs
      simp only [qua, dps]
      rw [hx x (by simp) (by omega)]
      have := ihr (fun y hy => hx y (by simp [hy])) (by omega)
      split
      · rw [this _ (by omega)]; omega
      · rw [this _ (by omega)]; omega
  have hd := qqm (l := n.kids) fun x _ => qbqd x
  rw [key n.kids ih (by omega) 0 (by omega), qn6 (by omega) (by omega)]
  omega
def dpF : Int → Int → N → Int × Bool := fun k l _ => (if l > k then l else k, true)
theorem qbel : ∀ n (l s : Int), 0 ≤ l → l + sz n ≤ 2000000 → qd5 dpF n l s = (max s (l + dp n - 1), true) := N.ind fun n ih l s h0 h1 => by
  rw [qh5, q40]
  rw [qgw] at h1
  simp only [dpF, if_true]
  have key : ∀ (r : List N), (∀ x ∈ r, ∀ (l s : Int), 0 ≤ l → l + sz x ≤ 2000000 → qd5 dpF x l s = (max s (l + dp x - 1), true)) → ∀ (l s : Int), 0 ≤ l → l + szs r ≤ 2000000 → l - 1 ≤ s → qe6 dpF l r s = (max s (l + dps r - 1), true) := by
    intro r
    induction r with
    | nil => intro _ l s _ _ h; simp only [qe6, dps, Prod.mk.injEq, and_true]; omega
    | cons x r ihr =>
      intro hx l s h0 h1 h2
      simp only [szs] at h1
      simp only [qe6, dps]
      rw [hx x (by simp) _ _ h0 (by omega), if_pos rfl, ihr (fun y hy => hx y (by simp [hy])) _ _ (by omega) (by omega) (by omega)]
      simp only [Prod.mk.injEq, and_true]; omega
  have := key n.kids ih (IntKind.i64.wrap (l + 1)) (if l > s then l else s) (by rw [qn6 (by omega) (by omega)]; omega) (by rw [qn6 (by omega) (by omega)]; omega) (by rw [qn6 (by omega) (by omega)]; split <;> omega)
  rw [this, qn6 (by omega) (by omega)]
  simp only [Prod.mk.injEq, and_true]
  split <;> omega
end Go.Proofs.Ytfjbmjplnmaclaa
