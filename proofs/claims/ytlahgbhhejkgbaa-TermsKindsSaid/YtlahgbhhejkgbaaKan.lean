/- A text of this proof. -/
import Derived.Test.YtlahgbhhejkgbaaKaj

/-
 Types: how great they are, their variables, whether two are the same; texts of numbers.
-/
namespace Go.V
open Go Go.RowKit
set_option linter.unusedVariables false
set_option linter.unusedSimpArgs false

mutual
def szY : Ty → Nat
 | .mk _ _ l => 1 + szYs l
def szYs : List Ty → Nat
 | [] => 0
 | x :: r => szY x + szYs r
end
mutual
def dpY : Ty → Nat
 | .mk _ _ l => 1 + dpYs l
def dpYs : List Ty → Nat
 | [] => 0
 | x :: r => max (dpY x) (dpYs r)
end
mutual
def varY : Ty → List Int
 | .mk c v l => (if c = [] then [v] else []) ++ qdc l
def qdc : List Ty → List Int
 | [] => []
 | x :: r => varY x ++ qdc r
end
theorem qmp (t : Ty) : szY t = 1 + szYs t.args := by cases t; rw [szY]; rfl
theorem qxj (t : Ty) : dpY t = 1 + dpYs t.args := by cases t; rw [dpY]; rfl
theorem q4z (t : Ty) : varY t = (if t.con = [] then [t.var] else []) ++ qdc t.args := by cases t; rw [varY]; rfl
theorem qgd (t : Ty) : 1 ≤ dpY t := by rw [qxj]; omega

mutual
def qhq : Ty → Ty → Bool
 | .mk c v l, .mk c' v' l' => decide (c = c') && decide (v = v') && qbq l l'
def qbq : List Ty → List Ty → Bool
 | [], [] => true
 | x :: r, y :: r' => qhq x y && qbq r r'
 | _, _ => false
end
theorem qm5 (a b : Ty) : qhq a b = (decide (a.con = b.con) && decide (a.var = b.var) && qbq a.args b.args) := by cases a; cases b; rw [qhq]; rfl
theorem qgp {l l' : List Ty} {i : Nat} (h : i < l.length) (h' : i < l'.length) : qbq (l.drop i) (l'.drop i) = (qhq (l.getD i Y0) (l'.getD i Y0) && qbq (l.drop (i + 1)) (l'.drop (i + 1))) := by
 rw [qhu h, qhu h', qbq]
theorem qop {l l' : List Ty} {i : Nat} (h : l.length ≤ i) (h' : l'.length ≤ i) : qbq (l.drop i) (l'.drop i) = true := by
 rw [List.drop_of_length_le h, List.drop_of_length_le h', qbq]
theorem qkt {y : Ty} {r : List Ty} : qbq [] (y :: r) = false := by rw [qbq] <;> simp
theorem qkl {y : Ty} {r : List Ty} : qbq (y :: r) [] = false := by rw [qbq] <;> simp
theorem qse {l : List Ty} (h : ∀ x ∈ l, ∀ b, qhq x b = true ↔ x = b) : ∀ l', qbq l l' = true ↔ l = l' := by
 induction l with
 | nil => intro l'; cases l' with
   | nil => simp [qbq]
   | cons y r => rw [qkt]; simp
 | cons x r ih => intro l'; cases l' with
   | nil => rw [qkl]; simp
   | cons y r' =>
     rw [qbq, Bool.and_eq_true, h x (by simp), ih (fun z hz => h z (by simp [hz]))]
     simp
theorem qbc3 {a b : Ty} : a = b ↔ (a.con = b.con ∧ a.var = b.var) ∧ a.args = b.args := by
 cases a; cases b; simp [Ty.con, Ty.var, Ty.args, and_assoc]
theorem qul : ∀ a b, qhq a b = true ↔ a = b := Ty.ind fun a ih b => by
 rw [qm5, Bool.and_eq_true, Bool.and_eq_true, qse ih, qbc3, decide_eq_true_eq, decide_eq_true_eq]
def qcs (acc : List Int) : List Int → List Int
 | [] => acc
 | x :: r => if x ∈ acc then qcs acc r else qcs (acc ++ [x]) r
theorem qjz (acc l r : List Int) : qcs acc (l ++ r) = qcs (qcs acc l) r := by
 induction l generalizing acc with
 | nil => rfl
 | cons x l ih => simp only [List.cons_append, qcs]; split <;> exact ih _
mutual
theorem qmc : ∀ t, (varY t).length ≤ szY t
 | .mk c v l => by
   rw [varY, szY, List.length_append]
   have := qhn l
   split <;> simp <;> omega
theorem qhn : ∀ l, (qdc l).length ≤ szYs l
 | [] => by simp [qdc]
 | x :: r => by
   rw [qdc, szYs, List.length_append]
   have := qmc x
   have := qhn r
   omega
end
theorem qj8 : ∀ (l : List Ty) (i : Nat), szYs (l.take i) ≤ szYs l
 | [], i => by simp
 | x :: r, 0 => by simp [szYs]
 | x :: r, i + 1 => by rw [List.take_succ_cons, szYs, szYs]; have := qj8 r i; omega
theorem qq0 {l : List Ty} {x : Ty} (h : x ∈ l) : szY x ≤ szYs l := by
 induction l with
 | nil => cases h
 | cons y r ih =>
   rw [szYs]
   rcases List.mem_cons.1 h with rfl | h
   ·omega
   ·have := ih h; omega
theorem qql {l : List Ty} {x : Ty} (h : x ∈ l) : dpY x ≤ dpYs l := by
 induction l with
 | nil => cases h
 | cons y r ih =>
   rw [dpYs]
   rcases List.mem_cons.1 h with rfl | h
   ·omega
   ·have := ih h; omega

def digN (u : Nat) : List UInt8 := if h : u < 10 then [UInt8.ofNat (48 + u)] else digN (u / 10) ++ [UInt8.ofNat (48 + u % 10)]
termination_by u
decreasing_by omega
theorem qd6 {u : Nat} (h : u < 10) : digN u = [UInt8.ofNat (48 + u)] := by rw [digN, dif_pos h]
theorem qlv {u : Nat} (h : ¬ u < 10) : digN u = digN (u / 10) ++ [UInt8.ofNat (48 + u % 10)] := by rw [digN, dif_neg h]
theorem qmu : ∀ (k u : Nat), u < 10 ^ (k + 1) → (digN u).length ≤ k + 1
 | 0, u, h => by rw [qd6 (by simpa using h)]; simp
 | k + 1, u, h => by
   by_cases h10 : u < 10
   ·rw [qd6 h10]; simp
   ·rw [qlv h10, List.length_append]
    have := qmu k (u / 10) (by rw [Nat.div_lt_iff_lt_mul (by omega)]; rw [Nat.pow_succ] at h; exact h)
    simp; exact this
theorem qtx (u : Nat) : 0 < (digN u).length := by
 by_cases h : u < 10
 ·rw [qd6 h]; simp
 ·rw [qlv h]; simp
def digI (n : Int) : List UInt8 := if n < 0 then 45 :: digN n.natAbs else digN n.natAbs
def ltrI (n : Int) : List UInt8 := if n < 0 then [] else if n < 26 then [UInt8.ofNat (97 + n.toNat)] else UInt8.ofNat (97 + n.toNat % 26) :: digN (n.toNat / 26)
def qfk (t : Ty) : List UInt8 := if t.con = [] then (if 0 ≤ t.var then ltrI t.var else 63 :: digI (-1 - t.var)) else t.con
def arrW : List UInt8 := [45, 62]
def parW (b : Bool) (s : List UInt8) : List UInt8 := if b = true then 40 :: (s ++ [41]) else s
mutual
def txtY : Ty → List UInt8
 | .mk c v l => if c = arrW then (match l with | [a, b] => parW (decide (a.con = arrW)) (txtY a) ++ ([32, 45, 62, 32] ++ txtY b) | _ => []) else qfk (.mk c v l) ++ argY l
def argY : List Ty → List UInt8
 | [] => []
 | a :: r => (32 :: parW (decide (a.args ≠ [])) (txtY a)) ++ argY r
end
end Go.V
