/- A text of this proof. -/
import Derived.Test.YtfpobiheiloamaaJai

/-
 Types: how great they are, their variables, whether two are the same; texts of numbers.
-/
namespace Go.V
open Go Go.RowKit
set_option linter.unusedVariables false
set_option linter.unusedSimpArgs false

mutual
def szY : Ty → Nat
 | .mk _ _ l => 1 + szYs l
def szYs : List Ty → Nat
 | [] => 0
 | x :: r => szY x + szYs r
end
mutual
def dpY : Ty → Nat
 | .mk _ _ l => 1 + dpYs l
def dpYs : List Ty → Nat
 | [] => 0
 | x :: r => max (dpY x) (dpYs r)
end
mutual
def varY : Ty → List Int
 | .mk c v l => (if c = [] then [v] else []) ++ qc5 l
def qc5 : List Ty → List Int
 | [] => []
 | x :: r => varY x ++ qc5 r
end
theorem qfk (t : Ty) : szY t = 1 + szYs t.args := by cases t; rw [szY]; rfl
theorem qr6 (t : Ty) : dpY t = 1 + dpYs t.args := by cases t; rw [dpY]; rfl
theorem q2z (t : Ty) : varY t = (if t.con = [] then [t.var] else []) ++ qc5 t.args := by cases t; rw [varY]; rfl
theorem qsg (t : Ty) : 1 ≤ szY t := by rw [qfk]; omega
theorem q9e (t : Ty) : 1 ≤ dpY t := by rw [qr6]; omega

mutual
def qef : Ty → Ty → Bool
 | .mk c v l, .mk c' v' l' => decide (c = c') && decide (v = v') && q6 l l'
def q6 : List Ty → List Ty → Bool
 | [], [] => true
 | x :: r, y :: r' => qef x y && q6 r r'
 | _, _ => false
end
theorem qed (a b : Ty) : qef a b = (decide (a.con = b.con) && decide (a.var = b.var) && q6 a.args b.args) := by cases a; cases b; rw [qef]; rfl
theorem qjx : ∀ {l l' : List Ty}, l.length ≠ l'.length → q6 l l' = false
 | [], [], h => absurd rfl h
 | [], y :: r', _ => by rw [q6] <;> simp
 | x :: r, [], _ => by rw [q6] <;> simp
 | x :: r, y :: r', h => by rw [q6, qjx (l := r) (l' := r') (by simpa using h)]; simp
theorem qdf {l l' : List Ty} {i : Nat} (h : i < l.length) (h' : i < l'.length) : q6 (l.drop i) (l'.drop i) = (qef (l.getD i Y0) (l'.getD i Y0) && q6 (l.drop (i + 1)) (l'.drop (i + 1))) := by
 rw [qi4 h, qi4 h', q6]
theorem qjd {l l' : List Ty} {i : Nat} (h : l.length ≤ i) (h' : l'.length ≤ i) : q6 (l.drop i) (l'.drop i) = true := by
 rw [List.drop_of_length_le h, List.drop_of_length_le h', q6]
theorem ql3 {y : Ty} {r : List Ty} : q6 [] (y :: r) = false := by rw [q6] <;> simp
theorem qmz {y : Ty} {r : List Ty} : q6 (y :: r) [] = false := by rw [q6] <;> simp
theorem qvi {l : List Ty} (h : ∀ x ∈ l, ∀ b, qef x b = true ↔ x = b) : ∀ l', q6 l l' = true ↔ l = l' := by
 induction l with
 | nil => intro l'; cases l' with
   | nil => simp [q6]
   | cons y r => rw [ql3]; simp
 | cons x r ih => intro l'; cases l' with
   | nil => rw [qmz]; simp
   | cons y r' =>
     rw [q6, Bool.and_eq_true, h x (by simp), ih (fun z hz => h z (by simp [hz]))]
     simp
theorem ty_eq {a b : Ty} : a = b ↔ (a.con = b.con ∧ a.var = b.var) ∧ a.args = b.args := by
 cases a; cases b; simp [Ty.con, Ty.var, Ty.args, and_assoc]
theorem qpe : ∀ a b, qef a b = true ↔ a = b := Ty.ind fun a ih b => by
 rw [qed, Bool.and_eq_true, Bool.and_eq_true, qvi ih, ty_eq, decide_eq_true_eq, decide_eq_true_eq]
def qdw (acc : List Int) : List Int → List Int
 | [] => acc
 | x :: r => if x ∈ acc then qdw acc r else qdw (acc ++ [x]) r
theorem qtw (l acc : List Int) (x : Int) : x ∈ qdw acc l ↔ x ∈ acc ∨ x ∈ l := by
 induction l generalizing acc with
 | nil => simp [qdw]
 | cons y l ih =>
   rw [qdw]
   split
   ·rename_i h; rw [ih]; constructor
    ·rintro (h1 | h1)
     ·exact .inl h1
     ·exact .inr (by simp [h1])
    ·rintro (h1 | h1)
     ·exact .inl h1
     ·rcases List.mem_cons.1 h1 with rfl | h1
      ·exact .inl h
      ·exact .inr h1
   ·rw [ih]; simp [or_assoc]
theorem qns (l acc : List Int) (h : acc.Nodup) : (qdw acc l).Nodup := by
 induction l generalizing acc with
 | nil => exact h
 | cons y l ih =>
   rw [qdw]
   split
   ·exact ih _ h
   ·rename_i hy
    refine ih _ ?_
    rw [List.nodup_append]
    exact ⟨h, by simp, fun a ha b hb => by simp at hb; subst hb; rintro rfl; exact hy ha⟩
mutual
theorem qp1 : ∀ t, (varY t).length ≤ szY t
 | .mk c v l => by
   rw [varY, szY, List.length_append]
   have := qhf l
   split <;> simp <;> omega
theorem qhf : ∀ l, (qc5 l).length ≤ szYs l
 | [] => by simp [qc5]
 | x :: r => by
   rw [qc5, szYs, List.length_append]
   have := qp1 x
   have := qhf r
   omega
end
theorem qk4 : ∀ l : List Ty, l.length ≤ szYs l
 | [] => by simp [szYs]
 | x :: r => by rw [szYs, List.length_cons]; have := qsg x; have := qk4 r; omega
theorem qmf : ∀ (l : List Ty) (i : Nat), szYs (l.take i) ≤ szYs l
 | [], i => by simp
 | x :: r, 0 => by simp [szYs]
 | x :: r, i + 1 => by rw [List.take_succ_cons, szYs, szYs]; have := qmf r i; omega
theorem qie {l : List Ty} {x : Ty} (h : x ∈ l) : szY x ≤ szYs l := by
 induction l with
 | nil => cases h
 | cons y r ih =>
   rw [szYs]
   rcases List.mem_cons.1 h with rfl | h
   ·omega
   ·have := ih h; omega
theorem qne {l : List Ty} {x : Ty} (h : x ∈ l) : dpY x ≤ dpYs l := by
 induction l with
 | nil => cases h
 | cons y r ih =>
   rw [dpYs]
   rcases List.mem_cons.1 h with rfl | h
   ·omega
   ·have := ih h; omega

def digN (u : Nat) : List UInt8 := if h : u < 10 then [UInt8.ofNat (48 + u)] else digN (u / 10) ++ [UInt8.ofNat (48 + u % 10)]
termination_by u
decreasing_by omega
theorem qem {u : Nat} (h : u < 10) : digN u = [UInt8.ofNat (48 + u)] := by rw [digN, dif_pos h]
theorem qni {u : Nat} (h : ¬ u < 10) : digN u = digN (u / 10) ++ [UInt8.ofNat (48 + u % 10)] := by rw [digN, dif_neg h]
theorem qo9 : ∀ (k u : Nat), u < 10 ^ (k + 1) → (digN u).length ≤ k + 1
 | 0, u, h => by rw [qem (by simpa using h)]; simp
 | k + 1, u, h => by
   by_cases h10 : u < 10
   ·rw [qem h10]; simp
   ·rw [qni h10, List.length_append]
    have := qo9 k (u / 10) (by rw [Nat.div_lt_iff_lt_mul (by omega)]; rw [Nat.pow_succ] at h; exact h)
    simp; exact this
theorem qy6 (u : Nat) : 0 < (digN u).length := by
 by_cases h : u < 10
 ·rw [qem h]; simp
 ·rw [qni h]; simp
def digI (n : Int) : List UInt8 := if n < 0 then 45 :: digN n.natAbs else digN n.natAbs
def ltrI (n : Int) : List UInt8 := if n < 0 then [] else if n < 26 then [UInt8.ofNat (97 + n.toNat)] else UInt8.ofNat (97 + n.toNat % 26) :: digN (n.toNat / 26)
def qgj (t : Ty) : List UInt8 := if t.con = [] then (if 0 ≤ t.var then ltrI t.var else 63 :: digI (-1 - t.var)) else t.con
def arrW : List UInt8 := [45, 62]
def parW (b : Bool) (s : List UInt8) : List UInt8 := if b = true then 40 :: (s ++ [41]) else s
mutual
def txtY : Ty → List UInt8
 | .mk c v l => if c = arrW then (match l with | [a, b] => parW (decide (a.con = arrW)) (txtY a) ++ ([32, 45, 62, 32] ++ txtY b) | _ => []) else qgj (.mk c v l) ++ argY l
def argY : List Ty → List UInt8
 | [] => []
 | a :: r => (32 :: parW (decide (a.args ≠ [])) (txtY a)) ++ argY r
end
end Go.V
