/- A text of this proof. -/
import Derived.Test.YtfpobiheiloamaaGai

/-
 Types: how great they are, their variables, whether two are the same; texts of numbers.
-/
namespace Go.V
open Go Go.RowKit
set_option linter.unusedVariables false
set_option linter.unusedSimpArgs false

mutual
def szY : Ty → Nat
 | .mk _ _ l => 1 + szYs l
def szYs : List Ty → Nat
 | [] => 0
 | x :: r => szY x + szYs r
end
mutual
def dpY : Ty → Nat
 | .mk _ _ l => 1 + dpYs l
def dpYs : List Ty → Nat
 | [] => 0
 | x :: r => max (dpY x) (dpYs r)
end
mutual
def varY : Ty → List Int
 | .mk c v l => (if c = [] then [v] else []) ++ qt6 l
def qt6 : List Ty → List Int
 | [] => []
 | x :: r => varY x ++ qt6 r
end
theorem qgh (t : Ty) : szY t = 1 + szYs t.args := by cases t; rw [szY]; rfl
theorem qsg (t : Ty) : dpY t = 1 + dpYs t.args := by cases t; rw [dpY]; rfl
theorem q7a (t : Ty) : 1 ≤ szY t := by rw [qgh]; omega
theorem q9e (t : Ty) : 1 ≤ dpY t := by rw [qsg]; omega

mutual
def qfo : Ty → Ty → Bool
 | .mk c v l, .mk c' v' l' => decide (c = c') && decide (v = v') && qz l l'
def qz : List Ty → List Ty → Bool
 | [], [] => true
 | x :: r, y :: r' => qfo x y && qz r r'
 | _, _ => false
end
theorem qed (a b : Ty) : qfo a b = (decide (a.con = b.con) && decide (a.var = b.var) && qz a.args b.args) := by cases a; cases b; rw [qfo]; rfl
theorem qju : ∀ {l l' : List Ty}, l.length ≠ l'.length → qz l l' = false
 | [], [], h => absurd rfl h
 | [], y :: r', _ => by rw [qz] <;> simp
 | x :: r, [], _ => by rw [qz] <;> simp
 | x :: r, y :: r', h => by rw [qz, qju (l := r) (l' := r') (by simpa using h)]; simp
theorem qdj {l l' : List Ty} {i : Nat} (h : i < l.length) (h' : i < l'.length) : qz (l.drop i) (l'.drop i) = (qfo (l.getD i Y0) (l'.getD i Y0) && qz (l.drop (i + 1)) (l'.drop (i + 1))) := by
 rw [qku h, qku h', qz]
theorem qjl {l l' : List Ty} {i : Nat} (h : l.length ≤ i) (h' : l'.length ≤ i) : qz (l.drop i) (l'.drop i) = true := by
 rw [List.drop_of_length_le h, List.drop_of_length_le h', qz]
theorem qmv {y : Ty} {r : List Ty} : qz [] (y :: r) = false := by rw [qz] <;> simp
theorem qk4 {y : Ty} {r : List Ty} : qz (y :: r) [] = false := by rw [qz] <;> simp
theorem qur {l : List Ty} (h : ∀ x ∈ l, ∀ b, qfo x b = true ↔ x = b) : ∀ l', qz l l' = true ↔ l = l' := by
 induction l with
 | nil => intro l'; cases l' with
   | nil => simp [qz]
   | cons y r => rw [qmv]; simp
 | cons x r ih => intro l'; cases l' with
   | nil => rw [qk4]; simp
   | cons y r' =>
     rw [qz, Bool.and_eq_true, h x (by simp), ih (fun z hz => h z (by simp [hz]))]
     simp
theorem qbjx {a b : Ty} : a = b ↔ (a.con = b.con ∧ a.var = b.var) ∧ a.args = b.args := by
 cases a; cases b; simp [Ty.con, Ty.var, Ty.args, and_assoc]
theorem qvz : ∀ a b, qfo a b = true ↔ a = b := Ty.ind fun a ih b => by
 rw [qed, Bool.and_eq_true, Bool.and_eq_true, qur ih, qbjx, decide_eq_true_eq, decide_eq_true_eq]
mutual
theorem q0a : ∀ t, (varY t).length ≤ szY t
 | .mk c v l => by
   rw [varY, szY, List.length_append]
   have := qlo l
   split <;> simp <;> omega
theorem qlo : ∀ l, (qt6 l).length ≤ szYs l
 | [] => by simp [qt6]
 | x :: r => by
   rw [qt6, szYs, List.length_append]
   have := q0a x
   have := qlo r
   omega
end
theorem qg4 : ∀ l : List Ty, l.length ≤ szYs l
 | [] => by simp [szYs]
 | x :: r => by rw [szYs, List.length_cons]; have := q7a x; have := qg4 r; omega
theorem qmn : ∀ (l : List Ty) (i : Nat), szYs (l.take i) ≤ szYs l
 | [], i => by simp
 | x :: r, 0 => by simp [szYs]
 | x :: r, i + 1 => by rw [List.take_succ_cons, szYs, szYs]; have := qmn r i; omega
theorem qes {l : List Ty} {x : Ty} (h : x ∈ l) : szY x ≤ szYs l := by
 induction l with
 | nil => cases h
 | cons y r ih =>
   rw [szYs]
   rcases List.mem_cons.1 h with rfl | h
   ·omega
   ·have := ih h; omega
theorem qn9 {l : List Ty} {x : Ty} (h : x ∈ l) : dpY x ≤ dpYs l := by
 induction l with
 | nil => cases h
 | cons y r ih =>
   rw [dpYs]
   rcases List.mem_cons.1 h with rfl | h
   ·omega
   ·have := ih h; omega

def digN (u : Nat) : List UInt8 := if h : u < 10 then [UInt8.ofNat (48 + u)] else digN (u / 10) ++ [UInt8.ofNat (48 + u % 10)]
termination_by u
decreasing_by omega
theorem qe1 {u : Nat} (h : u < 10) : digN u = [UInt8.ofNat (48 + u)] := by rw [digN, dif_pos h]
theorem qnd {u : Nat} (h : ¬ u < 10) : digN u = digN (u / 10) ++ [UInt8.ofNat (48 + u % 10)] := by rw [digN, dif_neg h]
theorem qop : ∀ (k u : Nat), u < 10 ^ (k + 1) → (digN u).length ≤ k + 1
 | 0, u, h => by rw [qe1 (by simpa using h)]; simp
 | k + 1, u, h => by
   by_cases h10 : u < 10
   ·rw [qe1 h10]; simp
   ·rw [qnd h10, List.length_append]
    have := qop k (u / 10) (by rw [Nat.div_lt_iff_lt_mul (by omega)]; rw [Nat.pow_succ] at h; exact h)
    simp; exact this
theorem qww (u : Nat) : 0 < (digN u).length := by
 by_cases h : u < 10
 ·rw [qe1 h]; simp
 ·rw [qnd h]; simp
def digI (n : Int) : List UInt8 := if n < 0 then 45 :: digN n.natAbs else digN n.natAbs
def ltrI (n : Int) : List UInt8 := if n < 0 then [] else if n < 26 then [UInt8.ofNat (97 + n.toNat)] else UInt8.ofNat (97 + n.toNat % 26) :: digN (n.toNat / 26)
def qgb (t : Ty) : List UInt8 := if t.con = [] then (if 0 ≤ t.var then ltrI t.var else 63 :: digI (-1 - t.var)) else t.con
def arrW : List UInt8 := [45, 62]
def parW (b : Bool) (s : List UInt8) : List UInt8 := if b = true then 40 :: (s ++ [41]) else s
mutual
def txtY : Ty → List UInt8
 | .mk c v l => if c = arrW then (match l with | [a, b] => parW (decide (a.con = arrW)) (txtY a) ++ ([32, 45, 62, 32] ++ txtY b) | _ => []) else qgb (.mk c v l) ++ argY l
def argY : List Ty → List UInt8
 | [] => []
 | a :: r => (32 :: parW (decide (a.args ≠ [])) (txtY a)) ++ argY r
end
end Go.V
