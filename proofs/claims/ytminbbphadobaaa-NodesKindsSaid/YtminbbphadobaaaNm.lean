/- trees: the plain laws of sizes and depths -/
import Derived.Test.YtminbbphadobaaaNl
namespace Go.Proofs.Ytminbbphadobaaa
open Go Go.RowKit Go.V
set_option linter.unusedVariables false
set_option linter.unusedSimpArgs false

mutual
def sz : N → Nat
  | .mk _ _ _ _ ks => szs ks + 1
def szs : List N → Nat
  | [] => 0
  | x :: r => sz x + szs r
end
mutual
def dp : N → Nat
  | .mk _ _ _ _ ks => dps ks + 1
def dps : List N → Nat
  | [] => 0
  | x :: r => max (dp x) (dps r)
end
theorem sz_eq (n : N) : sz n = szs n.kids + 1 := by cases n; rw [sz]; rfl
theorem dp_eq (n : N) : dp n = dps n.kids + 1 := by cases n; rw [dp]; rfl
theorem sz_pos (n : N) : 1 ≤ sz n := by rw [sz_eq]; omega
theorem len_szs : ∀ l : List N, l.length ≤ szs l
  | [] => Nat.le_refl _
  | x :: r => by have := len_szs r; have := sz_pos x; simp only [szs, List.length_cons]; omega
theorem mem_szs : ∀ {l : List N} {x : N}, x ∈ l → sz x ≤ szs l
  | y :: r, x, h => by
    simp only [szs]
    rcases List.mem_cons.1 h with rfl | h
    · omega
    · have := mem_szs h; omega
theorem dps_szs : ∀ {l : List N}, (∀ x ∈ l, dp x ≤ sz x) → dps l ≤ szs l
  | [], _ => Nat.le_refl _
  | x :: r, h => by
    have h1 := h x (by simp)
    have h2 := dps_szs (l := r) fun y hy => h y (by simp [hy])
    simp only [dps, szs]; omega
theorem dp_sz : ∀ n, dp n ≤ sz n := N.ind fun n ih => by rw [dp_eq, sz_eq]; have := dps_szs ih; omega

theorem wrapB {z : Int} (h0 : -1 ≤ z) (h1 : z ≤ 1000000000) : IntKind.i64.wrap z = z := by
  simp [IntKind.wrap, IntKind.signed, IntKind.bits]
  omega

theorem cnt_spec : ∀ n k, 0 ≤ k → k ≤ 1000000 → -1 ≤ cntW n k ∧ cntW n k ≤ k ∧ (0 ≤ cntW n k → cntW n k = k - sz n) := by
  refine N.ind fun n ih k h0 h1 => ?_
  rw [cntW_eq, wrapB (by omega) (by omega), sz_eq]
  have key : ∀ (l : List N), (∀ x ∈ l, ∀ k, 0 ≤ k → k ≤ 1000000 → -1 ≤ cntW x k ∧ cntW x k ≤ k ∧ (0 ≤ cntW x k → cntW x k = k - sz x)) → ∀ a : Int, -1 ≤ a → a ≤ 1000000 → -1 ≤ cntsW a l ∧ cntsW a l ≤ a ∧ (0 ≤ cntsW a l → cntsW a l = a - szs l) := by
    intro l
    induction l with
    | nil => intro _ a h0 h1; simp only [cntsW, szs]; omega
    | cons x r ihr =>
      intro hx a h0 h1
      simp only [cntsW, szs]
      split
      · obtain ⟨q1, q2, q3⟩ := hx x (by simp) a (by omega) (by omega)
        obtain ⟨r1, r2, r3⟩ := ihr (fun y hy => hx y (by simp [hy])) (cntW x a) (by omega) (by omega)
        refine ⟨by omega, by omega, fun h => ?_⟩
        have := r3 h
        have := q3 (by omega)
        omega
      · exact ⟨by omega, by omega, fun h => by omega⟩
  obtain ⟨q1, q2, q3⟩ := key n.kids ih (k - 1) (by omega) (by omega)
  exact ⟨by omega, by omega, fun h => by have := q3 h; omega⟩
theorem few_sz {n : N} (h : fewW n = true) : sz n ≤ 3000 := by
  simp only [fewW, decide_eq_true_eq] at h
  obtain ⟨_, q2, q3⟩ := cnt_spec n 3000 (by omega) (by omega)
  have := q3 h
  omega
theorem okN_of : ∀ n, sz n ≤ 1000000 → okN n := N.ind fun n ih h => by
  rw [okN_eq]
  rw [sz_eq] at h
  have := len_szs n.kids
  exact ⟨by omega, fun x hx => ih x hx (by have := mem_szs hx; omega)⟩

theorem sizeR_sz : ∀ n, sz n ≤ 1000000 → sizeR n = sz n := N.ind fun n ih h => by
  rw [sizeR_eq, sz_eq]
  rw [sz_eq] at h
  have key : ∀ (l : List N), (∀ x ∈ l, sz x ≤ 1000000 → sizeR x = sz x) → ∀ a : Int, 1 ≤ a → a + szs l ≤ 1000001 → sizesR a l = a + szs l := by
    intro l
    induction l with
    | nil => intro _ a h0 h1; simp [sizesR, szs]
    | cons x r ihr =>
      intro hx a h0 h1
      simp only [sizesR, szs] at h1 ⊢
      rw [hx x (by simp) (by omega), wrapB (by omega) (by omega), ihr (fun y hy => hx y (by simp [hy])) _ (by omega) (by omega)]
      omega
  rw [key n.kids ih 1 (by omega) (by omega)]
  omega
def szF : Int → Int → N → Int × Bool := fun k _ _ => (IntKind.i64.wrap (k + 1), true)
theorem walk_sz : ∀ n l (s : Int), 0 ≤ s → s + sz n ≤ 2000000 → walkW szF n l s = (s + sz n, true) := N.ind fun n ih l s h0 h1 => by
  rw [walkW_eq, sz_eq]
  rw [sz_eq] at h1
  simp only [szF, if_true]
  have key : ∀ (r : List N), (∀ x ∈ r, ∀ l (s : Int), 0 ≤ s → s + sz x ≤ 2000000 → walkW szF x l s = (s + sz x, true)) → ∀ l (s : Int), 0 ≤ s → s + szs r ≤ 2000000 → walksW szF l r s = (s + szs r, true) := by
    intro r
    induction r with
    | nil => intro _ l s _ _; simp [walksW, szs]
    | cons x r ihr =>
      intro hx l s h0 h1
      simp only [walksW, szs] at h1 ⊢
      rw [hx x (by simp) _ _ h0 (by omega), if_pos rfl, ihr (fun y hy => hx y (by simp [hy])) _ _ (by omega) (by omega)]
      simp only [Prod.mk.injEq, and_true]; omega
  have := key n.kids ih (IntKind.i64.wrap (l + 1)) (IntKind.i64.wrap (s + 1)) (by rw [wrapB (by omega) (by omega)]; omega) (by rw [wrapB (by omega) (by omega)]; omega)
  rw [this, wrapB (by omega) (by omega)]
  simp only [Prod.mk.injEq, and_true]; omega
theorem size_law {n : N} (h : sz n ≤ 3000) : (walkW (fun (k : Int) _ _ => (IntKind.i64.wrap (k + 1), true)) n 1 0).1 = sizeR n := by
  show (walkW szF n 1 0).1 = sizeR n
  rw [walk_sz n 1 0 (by omega) (by omega), sizeR_sz n (by omega)]; simp

theorem depR_dp : ∀ n, sz n ≤ 1000000 → depR n = dp n := N.ind fun n ih h => by
  rw [depR_eq, dp_eq]
  rw [sz_eq] at h
  have key : ∀ (l : List N), (∀ x ∈ l, sz x ≤ 1000000 → depR x = dp x) → szs l ≤ 1000000 → ∀ a : Int, 0 ≤ a → depsR a l = max a (dps l) := by
    intro l
    induction l with
    | nil => intro _ _ a h0; simp [depsR, dps]; omega
    | cons x r ihr =>
      intro hx hs a h0
      simp only [szs] at hs
      simp only [depsR, dps]
      rw [hx x (by simp) (by omega)]
      have := ihr (fun y hy => hx y (by simp [hy])) (by omega)
      split
      · rw [this _ (by omega)]; omega
      · rw [this _ (by omega)]; omega
  have hd := dps_szs (l := n.kids) fun x _ => dp_sz x
  rw [key n.kids ih (by omega) 0 (by omega), wrapB (by omega) (by omega)]
  omega
def dpF : Int → Int → N → Int × Bool := fun k l _ => (if l > k then l else k, true)
theorem walk_dp : ∀ n (l s : Int), 0 ≤ l → l + sz n ≤ 2000000 → walkW dpF n l s = (max s (l + dp n - 1), true) := N.ind fun n ih l s h0 h1 => by
  rw [walkW_eq, dp_eq]
  rw [sz_eq] at h1
  simp only [dpF, if_true]
  have key : ∀ (r : List N), (∀ x ∈ r, ∀ (l s : Int), 0 ≤ l → l + sz x ≤ 2000000 → walkW dpF x l s = (max s (l + dp x - 1), true)) → ∀ (l s : Int), 0 ≤ l → l + szs r ≤ 2000000 → l - 1 ≤ s → walksW dpF l r s = (max s (l + dps r - 1), true) := by
    intro r
    induction r with
    | nil => intro _ l s _ _ h; simp only [walksW, dps, Prod.mk.injEq, and_true]; omega
    | cons x r ihr =>
      intro hx l s h0 h1 h2
      simp only [szs] at h1
      simp only [walksW, dps]
      rw [hx x (by simp) _ _ h0 (by omega), if_pos rfl, ihr (fun y hy => hx y (by simp [hy])) _ _ (by omega) (by omega) (by omega)]
      simp only [Prod.mk.injEq, and_true]; omega
  have := key n.kids ih (IntKind.i64.wrap (l + 1)) (if l > s then l else s) (by rw [wrapB (by omega) (by omega)]; omega) (by rw [wrapB (by omega) (by omega)]; omega) (by rw [wrapB (by omega) (by omega)]; split <;> omega)
  rw [this, wrapB (by omega) (by omega)]
  simp only [Prod.mk.injEq, and_true]
  split <;> omega
theorem depth_law {n : N} (h : sz n ≤ 3000) : (walkW (fun (k : Int) l _ => (if l > k then l else k, true)) n 1 0).1 = depR n := by
  show (walkW dpF n 1 0).1 = depR n
  rw [walk_dp n 1 0 (by omega) (by omega), depR_dp n (by omega)]
  have := dp_eq n
  simp only; omega
theorem walk_low : ∀ n (l : Int) (s : Bool), 0 ≤ l → l + sz n ≤ 2000000 → (walkW lowF n l s).2 = decide (l + dp n - 1 ≤ 100) := N.ind fun n ih l s h0 h1 => by
  rw [walkW_eq, dp_eq]
  rw [sz_eq] at h1
  have key : ∀ (r : List N), (∀ x ∈ r, ∀ (l : Int) (s : Bool), 0 ≤ l → l + sz x ≤ 2000000 → (walkW lowF x l s).2 = decide (l + dp x - 1 ≤ 100)) → ∀ (l : Int) (s : Bool), 0 ≤ l → l + szs r ≤ 2000000 → l - 1 ≤ 100 → (walksW lowF l r s).2 = decide (l + dps r - 1 ≤ 100) := by
    intro r
    induction r with
    | nil => intro _ l s _ _ h; simp only [walksW, dps]; symm; simp; omega
    | cons x r ihr =>
      intro hx l s h0 h1 h2
      simp only [szs] at h1
      simp only [walksW, dps]
      rw [hx x (by simp) _ _ h0 (by omega)]
      split
      · rename_i h3
        simp only [decide_eq_true_eq] at h3
        rw [ihr (fun y hy => hx y (by simp [hy])) _ _ (by omega) (by omega) (by omega)]
        congr 1; simp only [eq_iff_iff]; omega
      · rename_i h3
        simp only [decide_eq_true_eq] at h3
        exact (decide_eq_false (by omega)).symm
  by_cases h2 : (100 : Int) < l
  · simp only [lowF, h2, decide_true, Bool.not_true, Bool.false_eq_true, if_false]
    exact (decide_eq_false (by omega)).symm
  · simp only [lowF, h2, decide_false, Bool.not_false, if_true]
    rw [key n.kids ih _ _ (by rw [wrapB (by omega) (by omega)]; omega) (by rw [wrapB (by omega) (by omega)]; omega) (by rw [wrapB (by omega) (by omega)]; omega), wrapB (by omega) (by omega)]
    congr 1; simp only [eq_iff_iff]; omega
theorem low_law {n : N} (h : sz n ≤ 3000) : lowW n = decide (depR n ≤ 100) := by
  rw [lowW, walk_low n 1 false (by omega) (by omega), depR_dp n (by omega)]
  congr 1; simp only [eq_iff_iff]; omega
end Go.Proofs.Ytminbbphadobaaa
