/- A text of this proof. -/
import Derived.Test.YtfpobiheiloamaaPai

/-
 Types: how great they are, their variables, whether two are the same; texts of numbers.
-/
namespace Go.V
open Go Go.RowKit
set_option linter.unusedVariables false
set_option linter.unusedSimpArgs false

mutual
def szY : Ty → Nat
 | .mk _ _ l => 1 + szYs l
def szYs : List Ty → Nat
 | [] => 0
 | x :: r => szY x + szYs r
end
mutual
def dpY : Ty → Nat
 | .mk _ _ l => 1 + dpYs l
def dpYs : List Ty → Nat
 | [] => 0
 | x :: r => max (dpY x) (dpYs r)
end
mutual
def varY : Ty → List Int
 | .mk c v l => (if c = [] then [v] else []) ++ qkf l
def qkf : List Ty → List Int
 | [] => []
 | x :: r => varY x ++ qkf r
end
theorem qur (t : Ty) : szY t = 1 + szYs t.args := by cases t; rw [szY]; rfl
theorem q3r (t : Ty) : dpY t = 1 + dpYs t.args := by cases t; rw [dpY]; rfl
theorem q1m (t : Ty) : 1 ≤ dpY t := by rw [q3r]; omega

mutual
def qev : Ty → Ty → Bool
 | .mk c v l, .mk c' v' l' => decide (c = c') && decide (v = v') && qx l l'
def qx : List Ty → List Ty → Bool
 | [], [] => true
 | x :: r, y :: r' => qev x y && qx r r'
 | _, _ => false
end
theorem qdn (a b : Ty) : qev a b = (decide (a.con = b.con) && decide (a.var = b.var) && qx a.args b.args) := by cases a; cases b; rw [qev]; rfl
theorem qht : ∀ {l l' : List Ty}, l.length ≠ l'.length → qx l l' = false
 | [], [], h => absurd rfl h
 | [], y :: r', _ => by rw [qx] <;> simp
 | x :: r, [], _ => by rw [qx] <;> simp
 | x :: r, y :: r', h => by rw [qx, qht (l := r) (l' := r') (by simpa using h)]; simp
theorem qcp {l l' : List Ty} {i : Nat} (h : i < l.length) (h' : i < l'.length) : qx (l.drop i) (l'.drop i) = (qev (l.getD i Y0) (l'.getD i Y0) && qx (l.drop (i + 1)) (l'.drop (i + 1))) := by
 rw [qnr h, qnr h', qx]
theorem qhi {l l' : List Ty} {i : Nat} (h : l.length ≤ i) (h' : l'.length ≤ i) : qx (l.drop i) (l'.drop i) = true := by
 rw [List.drop_of_length_le h, List.drop_of_length_le h', qx]
theorem qi5 {y : Ty} {r : List Ty} : qx [] (y :: r) = false := by rw [qx] <;> simp
theorem qjz {y : Ty} {r : List Ty} : qx (y :: r) [] = false := by rw [qx] <;> simp
theorem qos {l : List Ty} (h : ∀ x ∈ l, ∀ b, qev x b = true ↔ x = b) : ∀ l', qx l l' = true ↔ l = l' := by
 induction l with
 | nil => intro l'; cases l' with
   | nil => simp [qx]
   | cons y r => rw [qi5]; simp
 | cons x r ih => intro l'; cases l' with
   | nil => rw [qjz]; simp
   | cons y r' =>
     rw [qx, Bool.and_eq_true, h x (by simp), ih (fun z hz => h z (by simp [hz]))]
     simp
theorem q87 {a b : Ty} : a = b ↔ (a.con = b.con ∧ a.var = b.var) ∧ a.args = b.args := by
 cases a; cases b; simp [Ty.con, Ty.var, Ty.args, and_assoc]
theorem qlp : ∀ a b, qev a b = true ↔ a = b := Ty.ind fun a ih b => by
 rw [qdn, Bool.and_eq_true, Bool.and_eq_true, qos ih, q87, decide_eq_true_eq, decide_eq_true_eq]
def qn (acc : List Int) : List Int → List Int
 | [] => acc
 | x :: r => if x ∈ acc then qn acc r else qn (acc ++ [x]) r
theorem qc4 (acc l r : List Int) : qn acc (l ++ r) = qn (qn acc l) r := by
 induction l generalizing acc with
 | nil => rfl
 | cons x l ih => simp only [List.cons_append, qn]; split <;> exact ih _
theorem qpv (l acc : List Int) (x : Int) : x ∈ qn acc l ↔ x ∈ acc ∨ x ∈ l := by
 induction l generalizing acc with
 | nil => simp [qn]
 | cons y l ih =>
   rw [qn]
   split
   ·rename_i h; rw [ih]; constructor
    ·rintro (h1 | h1)
     ·exact .inl h1
     ·exact .inr (by simp [h1])
    ·rintro (h1 | h1)
     ·exact .inl h1
     ·rcases List.mem_cons.1 h1 with rfl | h1
      ·exact .inl h
      ·exact .inr h1
   ·rw [ih]; simp [or_assoc]
theorem qi7 (l acc : List Int) : (qn acc l).length ≤ acc.length + l.length := by
 induction l generalizing acc with
 | nil => simp [qn]
 | cons y l ih =>
   rw [qn]
   split
   ·have := ih acc; simp only [List.length_cons]; omega
   ·have := ih (acc ++ [y]); simp only [List.length_append, List.length_cons, List.length_nil] at this ⊢; omega

mutual
theorem qh6 : ∀ t, (varY t).length ≤ szY t
 | .mk c v l => by
   rw [varY, szY, List.length_append]
   have := qi8 l
   split <;> simp <;> omega
theorem qi8 : ∀ l, (qkf l).length ≤ szYs l
 | [] => by simp [qkf]
 | x :: r => by
   rw [qkf, szYs, List.length_append]
   have := qh6 x
   have := qi8 r
   omega
end
theorem qxu {l : List Ty} {x : Ty} (h : x ∈ l) : szY x ≤ szYs l := by
 induction l with
 | nil => cases h
 | cons y r ih =>
   rw [szYs]
   rcases List.mem_cons.1 h with rfl | h
   ·omega
   ·have := ih h; omega
def digN (u : Nat) : List UInt8 := if h : u < 10 then [UInt8.ofNat (48 + u)] else digN (u / 10) ++ [UInt8.ofNat (48 + u % 10)]
termination_by u
decreasing_by omega
theorem qdt {u : Nat} (h : u < 10) : digN u = [UInt8.ofNat (48 + u)] := by rw [digN, dif_pos h]
theorem qla {u : Nat} (h : ¬ u < 10) : digN u = digN (u / 10) ++ [UInt8.ofNat (48 + u % 10)] := by rw [digN, dif_neg h]
theorem ql1 : ∀ (k u : Nat), u < 10 ^ (k + 1) → (digN u).length ≤ k + 1
 | 0, u, h => by rw [qdt (by simpa using h)]; simp
 | k + 1, u, h => by
   by_cases h10 : u < 10
   ·rw [qdt h10]; simp
   ·rw [qla h10, List.length_append]
    have := ql1 k (u / 10) (by rw [Nat.div_lt_iff_lt_mul (by omega)]; rw [Nat.pow_succ] at h; exact h)
    simp; exact this
theorem qt8 (u : Nat) : 0 < (digN u).length := by
 by_cases h : u < 10
 ·rw [qdt h]; simp
 ·rw [qla h]; simp
def digI (n : Int) : List UInt8 := if n < 0 then 45 :: digN n.natAbs else digN n.natAbs
def ltrI (n : Int) : List UInt8 := if n < 0 then [] else if n < 26 then [UInt8.ofNat (97 + n.toNat)] else UInt8.ofNat (97 + n.toNat % 26) :: digN (n.toNat / 26)
def qe2 (t : Ty) : List UInt8 := if t.con = [] then (if 0 ≤ t.var then ltrI t.var else 63 :: digI (-1 - t.var)) else t.con
def arrW : List UInt8 := [45, 62]
def parW (b : Bool) (s : List UInt8) : List UInt8 := if b = true then 40 :: (s ++ [41]) else s
mutual
def txtY : Ty → List UInt8
 | .mk c v l => if c = arrW then (match l with | [a, b] => parW (decide (a.con = arrW)) (txtY a) ++ ([32, 45, 62, 32] ++ txtY b) | _ => []) else qe2 (.mk c v l) ++ argY l
def argY : List Ty → List UInt8
 | [] => []
 | a :: r => (32 :: parW (decide (a.args ≠ [])) (txtY a)) ++ argY r
end
end Go.V
