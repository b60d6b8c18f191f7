/- Texts of this proof, joined. -/
import Derived.Test.YtlahgbhhejkgbaaGreatTaj

/- predicates, pairs as data -/
namespace Go.V
open Go Go.RowKit
set_option linter.unusedVariables false


structure Pr where
 v : Int
 ty : Ty
def encR (p : Pr) : AV := .agg [.int .i64 p.v, .str p.ty.con, .int .i64 p.ty.var, .sl 3 (qs p.ty.args)]
def q7 (l : List Pr) : List AV := l.map encR
def R0 : Pr := ⟨0, Y0⟩
abbrev prc (p : Pr) : List AV := [.int .i64 p.v, .str p.ty.con, .int .i64 p.ty.var, .sl 3 (qs p.ty.args)]
theorem qx9 (p : Pr) : AV.agg [.int .i64 p.v, .str p.ty.con, .int .i64 p.ty.var, .sl 3 (qs p.ty.args)] = encR p := rfl
theorem quk (p : Pr) : (encR p).cells = prc p := rfl
theorem qhm (k : Nat) (p : Pr) : (encR p).bd k = true := by simp only [encR, AV.bd, AV.bds, qck, Bool.and_true]
theorem qb1 (k : Nat) (l : List Pr) : AV.bds k (q7 l) = true := by rw [q7, qc8, List.all_map, List.all_eq_true]; exact fun x _ => qhm k x
theorem qmm (σ : Nat → Nat) (p : Pr) : (encR p).ren σ = encR p := ren_same (m := 0) (fun i hi => by omega) _ (qhm 0 p)
theorem qi9 (σ : Nat → Nat) (l : List Pr) : AV.rens σ (q7 l) = q7 l := qp (m := 0) (fun i hi => by omega) _ (qb1 0 l)
theorem q75 (H : List Ent) (p : Pr) : co H (.agg [.id, .id, .id, .sl 3]) (encR p) = encR p := by
 simp only [encR, qs7, qiq, qna, qu3, qio]
theorem qxt (p : Pr) : rdCo (.agg [.id, .id, .id, .sl 3]) (encR p) = [] := by
 simp only [encR, qip, qfd, qgy, ql5, qff, List.append_nil]
theorem q2v (p : Pr) : (encR p).isAgg = true := rfl
theorem qn7 (p : Pr) : (encR p).leaf = false := rfl
theorem qcd (l : List Pr) : (q7 l).length = l.length := by simp [q7]
theorem qbh {l : List Pr} {i : Nat} (h : i < l.length) : (q7 l).getD i .junk = encR (l.getD i R0) := by
 rw [q7, List.getD_eq_getElem?_getD, List.getElem?_map, List.getElem?_eq_getElem h, List.getD_eq_getElem?_getD, List.getElem?_eq_getElem h]; rfl
theorem qfe {l : List Pr} {i : Nat} (h : i < l.length) : l.getD i R0 ∈ l := by
 rw [List.getD_eq_getElem?_getD, List.getElem?_eq_getElem h]; exact List.getElem_mem h
theorem qbqd {l : List Pr} {i : Nat} (h : i < l.length) : l.drop i = l.getD i R0 :: l.drop (i + 1) := by
 rw [List.drop_eq_getElem_cons h, List.getD_eq_getElem?_getD, List.getElem?_eq_getElem h]; rfl
theorem qtm (l : List Pr) (p : Pr) : q7 l ++ [encR p] = q7 (l ++ [p]) := by simp [q7]
theorem qvi : q7 [] = [] := rfl
theorem qup (n : Nat) (l : List Pr) : (q7 l).take n = q7 (l.take n) := by simp [q7]
theorem qtq (n : Nat) (l : List Pr) : (q7 l).drop n = q7 (l.drop n) := by simp [q7]
theorem q00 (b : Bool) (n off : Nat) (p : Pr) : fldv b n off (encR p) = ldc b n off (prc p) := rfl
theorem qsj {l : List Pr} {n : Nat} (h : (AV.sl n (q7 l)).wf) : l.length ≤ maxLen ∧ ∀ p ∈ l, (encR p).wf := by
 refine ⟨by have := h.1; rwa [qcd] at this, fun p hp => (qyq _).1 h.2 _ ?_⟩
 rw [q7]; exact List.mem_map_of_mem hp
attribute [go_sem] prc q00 qxt qhm qb1 qmm qi9 q75 q2v quk qx9 qn7 qcd qup qtq
end Go.V

/-
 Types: how great they are, their variables, whether two are the same; texts of numbers.
-/
namespace Go.V
open Go Go.RowKit
set_option linter.unusedVariables false
set_option linter.unusedSimpArgs false

mutual
def szY : Ty → Nat
 | .mk _ _ l => 1 + szYs l
def szYs : List Ty → Nat
 | [] => 0
 | x :: r => szY x + szYs r
end
mutual
def dpY : Ty → Nat
 | .mk _ _ l => 1 + dpYs l
def dpYs : List Ty → Nat
 | [] => 0
 | x :: r => max (dpY x) (dpYs r)
end
mutual
def varY : Ty → List Int
 | .mk c v l => (if c = [] then [v] else []) ++ qbs l
def qbs : List Ty → List Int
 | [] => []
 | x :: r => varY x ++ qbs r
end
theorem qf5 (t : Ty) : szY t = 1 + szYs t.args := by cases t; rw [szY]; rfl
theorem qra (t : Ty) : dpY t = 1 + dpYs t.args := by cases t; rw [dpY]; rfl
theorem qjr (t : Ty) : 1 ≤ szY t := by rw [qf5]; omega
theorem qbbm (t : Ty) : 1 ≤ dpY t := by rw [qra]; omega

mutual
def qix : Ty → Ty → Bool
 | .mk c v l, .mk c' v' l' => decide (c = c') && decide (v = v') && qbw l l'
def qbw : List Ty → List Ty → Bool
 | [], [] => true
 | x :: r, y :: r' => qix x y && qbw r r'
 | _, _ => false
end
theorem qgl (a b : Ty) : qix a b = (decide (a.con = b.con) && decide (a.var = b.var) && qbw a.args b.args) := by cases a; cases b; rw [qix]; rfl
theorem qk3 : ∀ {l l' : List Ty}, l.length ≠ l'.length → qbw l l' = false
 | [], [], h => absurd rfl h
 | [], y :: r', _ => by rw [qbw] <;> simp
 | x :: r, [], _ => by rw [qbw] <;> simp
 | x :: r, y :: r', h => by rw [qbw, qk3 (l := r) (l' := r') (by simpa using h)]; simp
theorem qjk {l l' : List Ty} {i : Nat} (h : i < l.length) (h' : i < l'.length) : qbw (l.drop i) (l'.drop i) = (qix (l.getD i Y0) (l'.getD i Y0) && qbw (l.drop (i + 1)) (l'.drop (i + 1))) := by
 rw [qhf h, qhf h', qbw]
theorem quh {l l' : List Ty} {i : Nat} (h : l.length ≤ i) (h' : l'.length ≤ i) : qbw (l.drop i) (l'.drop i) = true := by
 rw [List.drop_of_length_le h, List.drop_of_length_le h', qbw]
theorem qns {y : Ty} {r : List Ty} : qbw [] (y :: r) = false := by rw [qbw] <;> simp
theorem qo9 {y : Ty} {r : List Ty} : qbw (y :: r) [] = false := by rw [qbw] <;> simp
theorem qxo {l : List Ty} (h : ∀ x ∈ l, ∀ b, qix x b = true ↔ x = b) : ∀ l', qbw l l' = true ↔ l = l' := by
 induction l with
 | nil => intro l'; cases l' with
   | nil => simp [qbw]
   | cons y r => rw [qns]; simp
 | cons x r ih => intro l'; cases l' with
   | nil => rw [qo9]; simp
   | cons y r' =>
     rw [qbw, Bool.and_eq_true, h x (by simp), ih (fun z hz => h z (by simp [hz]))]
     simp
theorem ty_eq {a b : Ty} : a = b ↔ (a.con = b.con ∧ a.var = b.var) ∧ a.args = b.args := by
 cases a; cases b; simp [Ty.con, Ty.var, Ty.args, and_assoc]
theorem qrr : ∀ a b, qix a b = true ↔ a = b := Ty.ind fun a ih b => by
 rw [qgl, Bool.and_eq_true, Bool.and_eq_true, qxo ih, ty_eq, decide_eq_true_eq, decide_eq_true_eq]
theorem qxb (a : Ty) : qix a a = true := (qrr a a).2 rfl
def qdu (acc : List Int) : List Int → List Int
 | [] => acc
 | x :: r => if x ∈ acc then qdu acc r else qdu (acc ++ [x]) r
theorem qn2 (acc l r : List Int) : qdu acc (l ++ r) = qdu (qdu acc l) r := by
 induction l generalizing acc with
 | nil => rfl
 | cons x l ih => simp only [List.cons_append, qdu]; split <;> exact ih _
mutual
theorem q3p : ∀ t, (varY t).length ≤ szY t
 | .mk c v l => by
   rw [varY, szY, List.length_append]
   have := qot l
   split <;> simp <;> omega
theorem qot : ∀ l, (qbs l).length ≤ szYs l
 | [] => by simp [qbs]
 | x :: r => by
   rw [qbs, szYs, List.length_append]
   have := q3p x
   have := qot r
   omega
end
theorem qgq : ∀ l : List Ty, l.length ≤ szYs l
 | [] => by simp [szYs]
 | x :: r => by rw [szYs, List.length_cons]; have := qjr x; have := qgq r; omega
theorem qi6 {l : List Ty} {x : Ty} (h : x ∈ l) : szY x ≤ szYs l := by
 induction l with
 | nil => cases h
 | cons y r ih =>
   rw [szYs]
   rcases List.mem_cons.1 h with rfl | h
   ·omega
   ·have := ih h; omega
theorem qmz {l : List Ty} {x : Ty} (h : x ∈ l) : dpY x ≤ dpYs l := by
 induction l with
 | nil => cases h
 | cons y r ih =>
   rw [dpYs]
   rcases List.mem_cons.1 h with rfl | h
   ·omega
   ·have := ih h; omega

def digN (u : Nat) : List UInt8 := if h : u < 10 then [UInt8.ofNat (48 + u)] else digN (u / 10) ++ [UInt8.ofNat (48 + u % 10)]
termination_by u
decreasing_by omega
theorem qfs {u : Nat} (h : u < 10) : digN u = [UInt8.ofNat (48 + u)] := by rw [digN, dif_pos h]
theorem qq1 {u : Nat} (h : ¬ u < 10) : digN u = digN (u / 10) ++ [UInt8.ofNat (48 + u % 10)] := by rw [digN, dif_neg h]
theorem qry : ∀ (k u : Nat), u < 10 ^ (k + 1) → (digN u).length ≤ k + 1
 | 0, u, h => by rw [qfs (by simpa using h)]; simp
 | k + 1, u, h => by
   by_cases h10 : u < 10
   ·rw [qfs h10]; simp
   ·rw [qq1 h10, List.length_append]
    have := qry k (u / 10) (by rw [Nat.div_lt_iff_lt_mul (by omega)]; rw [Nat.pow_succ] at h; exact h)
    simp; exact this
theorem q0p (u : Nat) : 0 < (digN u).length := by
 by_cases h : u < 10
 ·rw [qfs h]; simp
 ·rw [qq1 h]; simp
def digI (n : Int) : List UInt8 := if n < 0 then 45 :: digN n.natAbs else digN n.natAbs
def ltrI (n : Int) : List UInt8 := if n < 0 then [] else if n < 26 then [UInt8.ofNat (97 + n.toNat)] else UInt8.ofNat (97 + n.toNat % 26) :: digN (n.toNat / 26)
def qhg (t : Ty) : List UInt8 := if t.con = [] then (if 0 ≤ t.var then ltrI t.var else 63 :: digI (-1 - t.var)) else t.con
def arrW : List UInt8 := [45, 62]
def parW (b : Bool) (s : List UInt8) : List UInt8 := if b = true then 40 :: (s ++ [41]) else s
mutual
def txtY : Ty → List UInt8
 | .mk c v l => if c = arrW then (match l with | [a, b] => parW (decide (a.con = arrW)) (txtY a) ++ ([32, 45, 62, 32] ++ txtY b) | _ => []) else qhg (.mk c v l) ++ argY l
def argY : List Ty → List UInt8
 | [] => []
 | a :: r => (32 :: parW (decide (a.args ≠ [])) (txtY a)) ++ argY r
end
end Go.V
