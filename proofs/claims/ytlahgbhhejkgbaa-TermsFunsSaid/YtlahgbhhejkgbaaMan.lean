/- A text of this proof. -/
import Derived.Test.YtlahgbhhejkgbaaMaj

/-
 Types: how great they are, their variables, whether two are the same; texts of numbers.
-/
namespace Go.V
open Go Go.RowKit
set_option linter.unusedVariables false
set_option linter.unusedSimpArgs false

mutual
def szY : Ty → Nat
 | .mk _ _ l => 1 + szYs l
def szYs : List Ty → Nat
 | [] => 0
 | x :: r => szY x + szYs r
end
mutual
def dpY : Ty → Nat
 | .mk _ _ l => 1 + dpYs l
def dpYs : List Ty → Nat
 | [] => 0
 | x :: r => max (dpY x) (dpYs r)
end
mutual
def varY : Ty → List Int
 | .mk c v l => (if c = [] then [v] else []) ++ qjh l
def qjh : List Ty → List Int
 | [] => []
 | x :: r => varY x ++ qjh r
end
theorem qwh (t : Ty) : szY t = 1 + szYs t.args := by cases t; rw [szY]; rfl
theorem qwj (t : Ty) : dpY t = 1 + dpYs t.args := by cases t; rw [dpY]; rfl
theorem qiw (t : Ty) : 1 ≤ dpY t := by rw [qwj]; omega

mutual
def qe0 : Ty → Ty → Bool
 | .mk c v l, .mk c' v' l' => decide (c = c') && decide (v = v') && qn l l'
def qn : List Ty → List Ty → Bool
 | [], [] => true
 | x :: r, y :: r' => qe0 x y && qn r r'
 | _, _ => false
end
theorem qdv (a b : Ty) : qe0 a b = (decide (a.con = b.con) && decide (a.var = b.var) && qn a.args b.args) := by cases a; cases b; rw [qe0]; rfl
theorem qe2 : ∀ {l l' : List Ty}, l.length ≠ l'.length → qn l l' = false
 | [], [], h => absurd rfl h
 | [], y :: r', _ => by rw [qn] <;> simp
 | x :: r, [], _ => by rw [qn] <;> simp
 | x :: r, y :: r', h => by rw [qn, qe2 (l := r) (l' := r') (by simpa using h)]; simp
theorem qcc {l l' : List Ty} {i : Nat} (h : i < l.length) (h' : i < l'.length) : qn (l.drop i) (l'.drop i) = (qe0 (l.getD i Y0) (l'.getD i Y0) && qn (l.drop (i + 1)) (l'.drop (i + 1))) := by
 rw [qi3 h, qi3 h', qn]
theorem qfc {l l' : List Ty} {i : Nat} (h : l.length ≤ i) (h' : l'.length ≤ i) : qn (l.drop i) (l'.drop i) = true := by
 rw [List.drop_of_length_le h, List.drop_of_length_le h', qn]
theorem qfi {y : Ty} {r : List Ty} : qn [] (y :: r) = false := by rw [qn] <;> simp
theorem qfj {y : Ty} {r : List Ty} : qn (y :: r) [] = false := by rw [qn] <;> simp
theorem qrl {l : List Ty} (h : ∀ x ∈ l, ∀ b, qe0 x b = true ↔ x = b) : ∀ l', qn l l' = true ↔ l = l' := by
 induction l with
 | nil => intro l'; cases l' with
   | nil => simp [qn]
   | cons y r => rw [qfi]; simp
 | cons x r ih => intro l'; cases l' with
   | nil => rw [qfj]; simp
   | cons y r' =>
     rw [qn, Bool.and_eq_true, h x (by simp), ih (fun z hz => h z (by simp [hz]))]
     simp
theorem qba4 {a b : Ty} : a = b ↔ (a.con = b.con ∧ a.var = b.var) ∧ a.args = b.args := by
 cases a; cases b; simp [Ty.con, Ty.var, Ty.args, and_assoc]
theorem qie : ∀ a b, qe0 a b = true ↔ a = b := Ty.ind fun a ih b => by
 rw [qdv, Bool.and_eq_true, Bool.and_eq_true, qrl ih, qba4, decide_eq_true_eq, decide_eq_true_eq]
theorem qja (a : Ty) : qe0 a a = true := (qie a a).2 rfl
theorem qhv : ∀ l l', qn l l' = true ↔ l = l'
 | [], [] => by simp [qn]
 | [], y :: r => by rw [qfi]; simp
 | x :: r, [] => by rw [qfj]; simp
 | x :: r, y :: r' => by rw [qn, Bool.and_eq_true, qie, qhv r r']; simp

def qgx (acc : List Int) : List Int → List Int
 | [] => acc
 | x :: r => if x ∈ acc then qgx acc r else qgx (acc ++ [x]) r
theorem qj0 (acc l r : List Int) : qgx acc (l ++ r) = qgx (qgx acc l) r := by
 induction l generalizing acc with
 | nil => rfl
 | cons x l ih => simp only [List.cons_append, qgx]; split <;> exact ih _
theorem qxw {l : List Ty} {x : Ty} (h : x ∈ l) : szY x ≤ szYs l := by
 induction l with
 | nil => cases h
 | cons y r ih =>
   rw [szYs]
   rcases List.mem_cons.1 h with rfl | h
   ·omega
   ·have := ih h; omega
theorem qq0 {l : List Ty} {x : Ty} (h : x ∈ l) : dpY x ≤ dpYs l := by
 induction l with
 | nil => cases h
 | cons y r ih =>
   rw [dpYs]
   rcases List.mem_cons.1 h with rfl | h
   ·omega
   ·have := ih h; omega

def digN (u : Nat) : List UInt8 := if h : u < 10 then [UInt8.ofNat (48 + u)] else digN (u / 10) ++ [UInt8.ofNat (48 + u % 10)]
termination_by u
decreasing_by omega
theorem qd9 {u : Nat} (h : u < 10) : digN u = [UInt8.ofNat (48 + u)] := by rw [digN, dif_pos h]
theorem qks {u : Nat} (h : ¬ u < 10) : digN u = digN (u / 10) ++ [UInt8.ofNat (48 + u % 10)] := by rw [digN, dif_neg h]
theorem qmg : ∀ (k u : Nat), u < 10 ^ (k + 1) → (digN u).length ≤ k + 1
 | 0, u, h => by rw [qd9 (by simpa using h)]; simp
 | k + 1, u, h => by
   by_cases h10 : u < 10
   ·rw [qd9 h10]; simp
   ·rw [qks h10, List.length_append]
    have := qmg k (u / 10) (by rw [Nat.div_lt_iff_lt_mul (by omega)]; rw [Nat.pow_succ] at h; exact h)
    simp; exact this
theorem qty (u : Nat) : 0 < (digN u).length := by
 by_cases h : u < 10
 ·rw [qd9 h]; simp
 ·rw [qks h]; simp
def digI (n : Int) : List UInt8 := if n < 0 then 45 :: digN n.natAbs else digN n.natAbs
def ltrI (n : Int) : List UInt8 := if n < 0 then [] else if n < 26 then [UInt8.ofNat (97 + n.toNat)] else UInt8.ofNat (97 + n.toNat % 26) :: digN (n.toNat / 26)
def qe3 (t : Ty) : List UInt8 := if t.con = [] then (if 0 ≤ t.var then ltrI t.var else 63 :: digI (-1 - t.var)) else t.con
def arrW : List UInt8 := [45, 62]
def parW (b : Bool) (s : List UInt8) : List UInt8 := if b = true then 40 :: (s ++ [41]) else s
mutual
def txtY : Ty → List UInt8
 | .mk c v l => if c = arrW then (match l with | [a, b] => parW (decide (a.con = arrW)) (txtY a) ++ ([32, 45, 62, 32] ++ txtY b) | _ => []) else qe3 (.mk c v l) ++ argY l
def argY : List Ty → List UInt8
 | [] => []
 | a :: r => (32 :: parW (decide (a.args ≠ [])) (txtY a)) ++ argY r
end
end Go.V
