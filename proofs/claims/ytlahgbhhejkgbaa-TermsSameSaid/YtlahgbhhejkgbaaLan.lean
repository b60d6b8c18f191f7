/- A text of this proof. -/
import Derived.Test.YtlahgbhhejkgbaaLaj

/-
 Types: how great they are, their variables, whether two are the same; texts of numbers.
-/
namespace Go.V
open Go Go.RowKit
set_option linter.unusedVariables false
set_option linter.unusedSimpArgs false

mutual
def szY : Ty → Nat
 | .mk _ _ l => 1 + szYs l
def szYs : List Ty → Nat
 | [] => 0
 | x :: r => szY x + szYs r
end
mutual
def dpY : Ty → Nat
 | .mk _ _ l => 1 + dpYs l
def dpYs : List Ty → Nat
 | [] => 0
 | x :: r => max (dpY x) (dpYs r)
end
mutual
def varY : Ty → List Int
 | .mk c v l => (if c = [] then [v] else []) ++ qi0 l
def qi0 : List Ty → List Int
 | [] => []
 | x :: r => varY x ++ qi0 r
end
theorem qvw (t : Ty) : szY t = 1 + szYs t.args := by cases t; rw [szY]; rfl
theorem qvy (t : Ty) : dpY t = 1 + dpYs t.args := by cases t; rw [dpY]; rfl
theorem qh4 (t : Ty) : 1 ≤ dpY t := by rw [qvy]; omega

mutual
def qeb : Ty → Ty → Bool
 | .mk c v l, .mk c' v' l' => decide (c = c') && decide (v = v') && qu l l'
def qu : List Ty → List Ty → Bool
 | [], [] => true
 | x :: r, y :: r' => qeb x y && qu r r'
 | _, _ => false
end
theorem qdr (a b : Ty) : qeb a b = (decide (a.con = b.con) && decide (a.var = b.var) && qu a.args b.args) := by cases a; cases b; rw [qeb]; rfl
theorem qhh : ∀ {l l' : List Ty}, l.length ≠ l'.length → qu l l' = false
 | [], [], h => absurd rfl h
 | [], y :: r', _ => by rw [qu] <;> simp
 | x :: r, [], _ => by rw [qu] <;> simp
 | x :: r, y :: r', h => by rw [qu, qhh (l := r) (l' := r') (by simpa using h)]; simp
theorem qc2 {l l' : List Ty} {i : Nat} (h : i < l.length) (h' : i < l'.length) : qu (l.drop i) (l'.drop i) = (qeb (l.getD i Y0) (l'.getD i Y0) && qu (l.drop (i + 1)) (l'.drop (i + 1))) := by
 rw [qkp h, qkp h', qu]
theorem qg8 {l l' : List Ty} {i : Nat} (h : l.length ≤ i) (h' : l'.length ≤ i) : qu (l.drop i) (l'.drop i) = true := by
 rw [List.drop_of_length_le h, List.drop_of_length_le h', qu]
theorem qjk {y : Ty} {r : List Ty} : qu [] (y :: r) = false := by rw [qu] <;> simp
theorem qi3 {y : Ty} {r : List Ty} : qu (y :: r) [] = false := by rw [qu] <;> simp
theorem qqp {l : List Ty} (h : ∀ x ∈ l, ∀ b, qeb x b = true ↔ x = b) : ∀ l', qu l l' = true ↔ l = l' := by
 induction l with
 | nil => intro l'; cases l' with
   | nil => simp [qu]
   | cons y r => rw [qjk]; simp
 | cons x r ih => intro l'; cases l' with
   | nil => rw [qi3]; simp
   | cons y r' =>
     rw [qu, Bool.and_eq_true, h x (by simp), ih (fun z hz => h z (by simp [hz]))]
     simp
theorem q9x {a b : Ty} : a = b ↔ (a.con = b.con ∧ a.var = b.var) ∧ a.args = b.args := by
 cases a; cases b; simp [Ty.con, Ty.var, Ty.args, and_assoc]
theorem ql6 : ∀ a b, qeb a b = true ↔ a = b := Ty.ind fun a ih b => by
 rw [qdr, Bool.and_eq_true, Bool.and_eq_true, qqp ih, q9x, decide_eq_true_eq, decide_eq_true_eq]
theorem qqr (a : Ty) : qeb a a = true := (ql6 a a).2 rfl
def qgf (acc : List Int) : List Int → List Int
 | [] => acc
 | x :: r => if x ∈ acc then qgf acc r else qgf (acc ++ [x]) r
theorem qi5 (acc l r : List Int) : qgf acc (l ++ r) = qgf (qgf acc l) r := by
 induction l generalizing acc with
 | nil => rfl
 | cons x l ih => simp only [List.cons_append, qgf]; split <;> exact ih _
theorem qxm {l : List Ty} {x : Ty} (h : x ∈ l) : dpY x ≤ dpYs l := by
 induction l with
 | nil => cases h
 | cons y r ih =>
   rw [dpYs]
   rcases List.mem_cons.1 h with rfl | h
   ·omega
   ·have := ih h; omega

def digN (u : Nat) : List UInt8 := if h : u < 10 then [UInt8.ofNat (48 + u)] else digN (u / 10) ++ [UInt8.ofNat (48 + u % 10)]
termination_by u
decreasing_by omega
theorem qdy {u : Nat} (h : u < 10) : digN u = [UInt8.ofNat (48 + u)] := by rw [digN, dif_pos h]
theorem qk2 {u : Nat} (h : ¬ u < 10) : digN u = digN (u / 10) ++ [UInt8.ofNat (48 + u % 10)] := by rw [digN, dif_neg h]
theorem qmc : ∀ (k u : Nat), u < 10 ^ (k + 1) → (digN u).length ≤ k + 1
 | 0, u, h => by rw [qdy (by simpa using h)]; simp
 | k + 1, u, h => by
   by_cases h10 : u < 10
   ·rw [qdy h10]; simp
   ·rw [qk2 h10, List.length_append]
    have := qmc k (u / 10) (by rw [Nat.div_lt_iff_lt_mul (by omega)]; rw [Nat.pow_succ] at h; exact h)
    simp; exact this
theorem qug (u : Nat) : 0 < (digN u).length := by
 by_cases h : u < 10
 ·rw [qdy h]; simp
 ·rw [qk2 h]; simp
def digI (n : Int) : List UInt8 := if n < 0 then 45 :: digN n.natAbs else digN n.natAbs
def ltrI (n : Int) : List UInt8 := if n < 0 then [] else if n < 26 then [UInt8.ofNat (97 + n.toNat)] else UInt8.ofNat (97 + n.toNat % 26) :: digN (n.toNat / 26)
def qe1 (t : Ty) : List UInt8 := if t.con = [] then (if 0 ≤ t.var then ltrI t.var else 63 :: digI (-1 - t.var)) else t.con
def arrW : List UInt8 := [45, 62]
def parW (b : Bool) (s : List UInt8) : List UInt8 := if b = true then 40 :: (s ++ [41]) else s
mutual
def txtY : Ty → List UInt8
 | .mk c v l => if c = arrW then (match l with | [a, b] => parW (decide (a.con = arrW)) (txtY a) ++ ([32, 45, 62, 32] ++ txtY b) | _ => []) else qe1 (.mk c v l) ++ argY l
def argY : List Ty → List UInt8
 | [] => []
 | a :: r => (32 :: parW (decide (a.args ≠ [])) (txtY a)) ++ argY r
end
end Go.V
