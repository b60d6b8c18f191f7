/- A text of this proof. -/
import Derived.Test.YtfpobiheiloamaaKai

/-
 Types: how great they are, their variables, whether two are the same; texts of numbers.
-/
namespace Go.V
open Go Go.RowKit
set_option linter.unusedVariables false
set_option linter.unusedSimpArgs false

mutual
def szY : Ty → Nat
 | .mk _ _ l => 1 + szYs l
def szYs : List Ty → Nat
 | [] => 0
 | x :: r => szY x + szYs r
end
mutual
def dpY : Ty → Nat
 | .mk _ _ l => 1 + dpYs l
def dpYs : List Ty → Nat
 | [] => 0
 | x :: r => max (dpY x) (dpYs r)
end
mutual
def varY : Ty → List Int
 | .mk c v l => (if c = [] then [v] else []) ++ qto l
def qto : List Ty → List Int
 | [] => []
 | x :: r => varY x ++ qto r
end
theorem qdh (t : Ty) : szY t = 1 + szYs t.args := by cases t; rw [szY]; rfl
theorem qmd (t : Ty) : dpY t = 1 + dpYs t.args := by cases t; rw [dpY]; rfl
theorem qvh (t : Ty) : 1 ≤ szY t := by rw [qdh]; omega
theorem q33 (t : Ty) : 1 ≤ dpY t := by rw [qmd]; omega

mutual
def qdi : Ty → Ty → Bool
 | .mk c v l, .mk c' v' l' => decide (c = c') && decide (v = v') && qba l l'
def qba : List Ty → List Ty → Bool
 | [], [] => true
 | x :: r, y :: r' => qdi x y && qba r r'
 | _, _ => false
end
theorem qed (a b : Ty) : qdi a b = (decide (a.con = b.con) && decide (a.var = b.var) && qba a.args b.args) := by cases a; cases b; rw [qdi]; rfl
theorem qi5 : ∀ {l l' : List Ty}, l.length ≠ l'.length → qba l l' = false
 | [], [], h => absurd rfl h
 | [], y :: r', _ => by rw [qba] <;> simp
 | x :: r, [], _ => by rw [qba] <;> simp
 | x :: r, y :: r', h => by rw [qba, qi5 (l := r) (l' := r') (by simpa using h)]; simp
theorem qdd {l l' : List Ty} {i : Nat} (h : i < l.length) (h' : i < l'.length) : qba (l.drop i) (l'.drop i) = (qdi (l.getD i Y0) (l'.getD i Y0) && qba (l.drop (i + 1)) (l'.drop (i + 1))) := by
 rw [qdl h, qdl h', qba]
theorem qjl {l l' : List Ty} {i : Nat} (h : l.length ≤ i) (h' : l'.length ≤ i) : qba (l.drop i) (l'.drop i) = true := by
 rw [List.drop_of_length_le h, List.drop_of_length_le h', qba]
theorem qk7 {y : Ty} {r : List Ty} : qba [] (y :: r) = false := by rw [qba] <;> simp
theorem qk6 {y : Ty} {r : List Ty} : qba (y :: r) [] = false := by rw [qba] <;> simp
theorem qth {l : List Ty} (h : ∀ x ∈ l, ∀ b, qdi x b = true ↔ x = b) : ∀ l', qba l l' = true ↔ l = l' := by
 induction l with
 | nil => intro l'; cases l' with
   | nil => simp [qba]
   | cons y r => rw [qk7]; simp
 | cons x r ih => intro l'; cases l' with
   | nil => rw [qk6]; simp
   | cons y r' =>
     rw [qba, Bool.and_eq_true, h x (by simp), ih (fun z hz => h z (by simp [hz]))]
     simp
theorem qbj7 {a b : Ty} : a = b ↔ (a.con = b.con ∧ a.var = b.var) ∧ a.args = b.args := by
 cases a; cases b; simp [Ty.con, Ty.var, Ty.args, and_assoc]
theorem qpi : ∀ a b, qdi a b = true ↔ a = b := Ty.ind fun a ih b => by
 rw [qed, Bool.and_eq_true, Bool.and_eq_true, qth ih, qbj7, decide_eq_true_eq, decide_eq_true_eq]
mutual
theorem qxv : ∀ t, (varY t).length ≤ szY t
 | .mk c v l => by
   rw [varY, szY, List.length_append]
   have := qmm l
   split <;> simp <;> omega
theorem qmm : ∀ l, (qto l).length ≤ szYs l
 | [] => by simp [qto]
 | x :: r => by
   rw [qto, szYs, List.length_append]
   have := qxv x
   have := qmm r
   omega
end
theorem qka : ∀ l : List Ty, l.length ≤ szYs l
 | [] => by simp [szYs]
 | x :: r => by rw [szYs, List.length_cons]; have := qvh x; have := qka r; omega
theorem qlz : ∀ (l : List Ty) (i : Nat), szYs (l.take i) ≤ szYs l
 | [], i => by simp
 | x :: r, 0 => by simp [szYs]
 | x :: r, i + 1 => by rw [List.take_succ_cons, szYs, szYs]; have := qlz r i; omega
theorem qd1 {l : List Ty} {x : Ty} (h : x ∈ l) : szY x ≤ szYs l := by
 induction l with
 | nil => cases h
 | cons y r ih =>
   rw [szYs]
   rcases List.mem_cons.1 h with rfl | h
   ·omega
   ·have := ih h; omega
theorem qkl {l : List Ty} {x : Ty} (h : x ∈ l) : dpY x ≤ dpYs l := by
 induction l with
 | nil => cases h
 | cons y r ih =>
   rw [dpYs]
   rcases List.mem_cons.1 h with rfl | h
   ·omega
   ·have := ih h; omega

def digN (u : Nat) : List UInt8 := if h : u < 10 then [UInt8.ofNat (48 + u)] else digN (u / 10) ++ [UInt8.ofNat (48 + u % 10)]
termination_by u
decreasing_by omega
theorem qes {u : Nat} (h : u < 10) : digN u = [UInt8.ofNat (48 + u)] := by rw [digN, dif_pos h]
theorem qnz {u : Nat} (h : ¬ u < 10) : digN u = digN (u / 10) ++ [UInt8.ofNat (48 + u % 10)] := by rw [digN, dif_neg h]
theorem qot : ∀ (k u : Nat), u < 10 ^ (k + 1) → (digN u).length ≤ k + 1
 | 0, u, h => by rw [qes (by simpa using h)]; simp
 | k + 1, u, h => by
   by_cases h10 : u < 10
   ·rw [qes h10]; simp
   ·rw [qnz h10, List.length_append]
    have := qot k (u / 10) (by rw [Nat.div_lt_iff_lt_mul (by omega)]; rw [Nat.pow_succ] at h; exact h)
    simp; exact this
theorem qws (u : Nat) : 0 < (digN u).length := by
 by_cases h : u < 10
 ·rw [qes h]; simp
 ·rw [qnz h]; simp
def digI (n : Int) : List UInt8 := if n < 0 then 45 :: digN n.natAbs else digN n.natAbs
def ltrI (n : Int) : List UInt8 := if n < 0 then [] else if n < 26 then [UInt8.ofNat (97 + n.toNat)] else UInt8.ofNat (97 + n.toNat % 26) :: digN (n.toNat / 26)
def qf1 (t : Ty) : List UInt8 := if t.con = [] then (if 0 ≤ t.var then ltrI t.var else 63 :: digI (-1 - t.var)) else t.con
def arrW : List UInt8 := [45, 62]
def parW (b : Bool) (s : List UInt8) : List UInt8 := if b = true then 40 :: (s ++ [41]) else s
mutual
def txtY : Ty → List UInt8
 | .mk c v l => if c = arrW then (match l with | [a, b] => parW (decide (a.con = arrW)) (txtY a) ++ ([32, 45, 62, 32] ++ txtY b) | _ => []) else qf1 (.mk c v l) ++ argY l
def argY : List Ty → List UInt8
 | [] => []
 | a :: r => (32 :: parW (decide (a.args ≠ [])) (txtY a)) ++ argY r
end
end Go.V
