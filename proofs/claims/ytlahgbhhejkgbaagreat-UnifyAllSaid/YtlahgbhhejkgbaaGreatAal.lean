/- Texts of this proof, joined. -/
import Derived.Test.YtlahgbhhejkgbaaGreatAaj

/- predicates, pairs as data -/
namespace Go.V
open Go Go.RowKit
set_option linter.unusedVariables false


structure Pr where
 v : Int
 ty : Ty
def encR (p : Pr) : AV := .agg [.int .i64 p.v, .str p.ty.con, .int .i64 p.ty.var, .sl 3 (qk p.ty.args)]
def qt (l : List Pr) : List AV := l.map encR
def R0 : Pr := ⟨0, Y0⟩
abbrev prc (p : Pr) : List AV := [.int .i64 p.v, .str p.ty.con, .int .i64 p.ty.var, .sl 3 (qk p.ty.args)]
theorem qy0 (p : Pr) : AV.agg [.int .i64 p.v, .str p.ty.con, .int .i64 p.ty.var, .sl 3 (qk p.ty.args)] = encR p := rfl
theorem qvs (p : Pr) : (encR p).cells = prc p := rfl
theorem qij (k : Nat) (p : Pr) : (encR p).bd k = true := by simp only [encR, AV.bd, AV.bds, qce, Bool.and_true]
theorem qby (k : Nat) (l : List Pr) : AV.bds k (qt l) = true := by rw [qt, qdj, List.all_map, List.all_eq_true]; exact fun x _ => qij k x
theorem qn4 (σ : Nat → Nat) (p : Pr) : (encR p).ren σ = encR p := ren_same (m := 0) (fun i hi => by omega) _ (qij 0 p)
theorem qg9 (σ : Nat → Nat) (l : List Pr) : AV.rens σ (qt l) = qt l := qw (m := 0) (fun i hi => by omega) _ (qby 0 l)
theorem q9z (H : List Ent) (p : Pr) : co H (.agg [.id, .id, .id, .sl 3]) (encR p) = encR p := by
 simp only [encR, qt7, qjd, qmq, qwb, qi6]
theorem qzu (p : Pr) : rdCo (.agg [.id, .id, .id, .sl 3]) (encR p) = [] := by
 simp only [encR, qi4, qf3, qhb, qnj, qf0, List.append_nil]
theorem q6y (p : Pr) : (encR p).isAgg = true := rfl
theorem qqb (p : Pr) : (encR p).leaf = false := rfl
theorem q6 (l : List Pr) : (qt l).length = l.length := by simp [qt]
theorem qn {l : List Pr} {i : Nat} (h : i < l.length) : (qt l).getD i .junk = encR (l.getD i R0) := by
 rw [qt, List.getD_eq_getElem?_getD, List.getElem?_map, List.getElem?_eq_getElem h, List.getD_eq_getElem?_getD, List.getElem?_eq_getElem h]; rfl
theorem qdv {l : List Pr} {i : Nat} (h : i < l.length) : l.getD i R0 ∈ l := by
 rw [List.getD_eq_getElem?_getD, List.getElem?_eq_getElem h]; exact List.getElem_mem h
theorem q0b {l : List Pr} {i : Nat} (h : i < l.length) : l.drop i = l.getD i R0 :: l.drop (i + 1) := by
 rw [List.drop_eq_getElem_cons h, List.getD_eq_getElem?_getD, List.getElem?_eq_getElem h]; rfl
theorem qhv (l : List Pr) (p : Pr) : qt l ++ [encR p] = qt (l ++ [p]) := by simp [qt]
theorem qyt (p : Pr) : [encR p] = qt [p] := rfl
theorem qco : qt [] = [] := rfl
theorem qfs {l : List Pr} (h : l ≠ []) : qt l ≠ [] := by cases l with | nil => exact absurd rfl h | cons _ _ => simp [qt]
theorem qvv (n : Nat) (l : List Pr) : (qt l).take n = qt (l.take n) := by simp [qt]
theorem quw (n : Nat) (l : List Pr) : (qt l).drop n = qt (l.drop n) := by simp [qt]
theorem q5a (b : Bool) (n off : Nat) (p : Pr) : fldv b n off (encR p) = ldc b n off (prc p) := rfl
theorem qg2 {l : List Pr} {n : Nat} (h : (AV.sl n (qt l)).wf) : l.length ≤ maxLen ∧ ∀ p ∈ l, (encR p).wf := by
 refine ⟨by have := h.1; rwa [q6] at this, fun p hp => (qy8 _).1 h.2 _ ?_⟩
 rw [qt]; exact List.mem_map_of_mem hp
attribute [go_sem] prc q5a qzu qij qby qn4 qg9 q9z q6y qvs qy0 qqb q6 qvv quw
end Go.V

/-
 Types: how great they are, their variables, whether two are the same; texts of numbers.
-/
namespace Go.V
open Go Go.RowKit
set_option linter.unusedVariables false
set_option linter.unusedSimpArgs false

mutual
def szY : Ty → Nat
 | .mk _ _ l => 1 + szYs l
def szYs : List Ty → Nat
 | [] => 0
 | x :: r => szY x + szYs r
end
mutual
def dpY : Ty → Nat
 | .mk _ _ l => 1 + dpYs l
def dpYs : List Ty → Nat
 | [] => 0
 | x :: r => max (dpY x) (dpYs r)
end
mutual
def varY : Ty → List Int
 | .mk c v l => (if c = [] then [v] else []) ++ qbp l
def qbp : List Ty → List Int
 | [] => []
 | x :: r => varY x ++ qbp r
end
theorem qd7 (t : Ty) : szY t = 1 + szYs t.args := by cases t; rw [szY]; rfl
theorem qt4 (t : Ty) : dpY t = 1 + dpYs t.args := by cases t; rw [dpY]; rfl
theorem qbd4 (t : Ty) : varY t = (if t.con = [] then [t.var] else []) ++ qbp t.args := by cases t; rw [varY]; rfl
theorem qju (t : Ty) : 1 ≤ szY t := by rw [qd7]; omega
theorem qbcw (t : Ty) : 1 ≤ dpY t := by rw [qt4]; omega

mutual
def qnd : Ty → Ty → Bool
 | .mk c v l, .mk c' v' l' => decide (c = c') && decide (v = v') && qb9 l l'
def qb9 : List Ty → List Ty → Bool
 | [], [] => true
 | x :: r, y :: r' => qnd x y && qb9 r r'
 | _, _ => false
end
theorem qgr (a b : Ty) : qnd a b = (decide (a.con = b.con) && decide (a.var = b.var) && qb9 a.args b.args) := by cases a; cases b; rw [qnd]; rfl
theorem qmh : ∀ {l l' : List Ty}, l.length ≠ l'.length → qb9 l l' = false
 | [], [], h => absurd rfl h
 | [], y :: r', _ => by rw [qb9] <;> simp
 | x :: r, [], _ => by rw [qb9] <;> simp
 | x :: r, y :: r', h => by rw [qb9, qmh (l := r) (l' := r') (by simpa using h)]; simp
theorem qk5 {l l' : List Ty} {i : Nat} (h : i < l.length) (h' : i < l'.length) : qb9 (l.drop i) (l'.drop i) = (qnd (l.getD i Y0) (l'.getD i Y0) && qb9 (l.drop (i + 1)) (l'.drop (i + 1))) := by
 rw [qld h, qld h', qb9]
theorem qvk {l l' : List Ty} {i : Nat} (h : l.length ≤ i) (h' : l'.length ≤ i) : qb9 (l.drop i) (l'.drop i) = true := by
 rw [List.drop_of_length_le h, List.drop_of_length_le h', qb9]
theorem qqc {y : Ty} {r : List Ty} : qb9 [] (y :: r) = false := by rw [qb9] <;> simp
theorem qn9 {y : Ty} {r : List Ty} : qb9 (y :: r) [] = false := by rw [qb9] <;> simp
theorem qx8 {l : List Ty} (h : ∀ x ∈ l, ∀ b, qnd x b = true ↔ x = b) : ∀ l', qb9 l l' = true ↔ l = l' := by
 induction l with
 | nil => intro l'; cases l' with
   | nil => simp [qb9]
   | cons y r => rw [qqc]; simp
 | cons x r ih => intro l'; cases l' with
   | nil => rw [qn9]; simp
   | cons y r' =>
     rw [qb9, Bool.and_eq_true, h x (by simp), ih (fun z hz => h z (by simp [hz]))]
     simp
theorem ty_eq {a b : Ty} : a = b ↔ (a.con = b.con ∧ a.var = b.var) ∧ a.args = b.args := by
 cases a; cases b; simp [Ty.con, Ty.var, Ty.args, and_assoc]
theorem q2s : ∀ a b, qnd a b = true ↔ a = b := Ty.ind fun a ih b => by
 rw [qgr, Bool.and_eq_true, Bool.and_eq_true, qx8 ih, ty_eq, decide_eq_true_eq, decide_eq_true_eq]
def qcs (acc : List Int) : List Int → List Int
 | [] => acc
 | x :: r => if x ∈ acc then qcs acc r else qcs (acc ++ [x]) r
theorem qpe (acc l r : List Int) : qcs acc (l ++ r) = qcs (qcs acc l) r := by
 induction l generalizing acc with
 | nil => rfl
 | cons x l ih => simp only [List.cons_append, qcs]; split <;> exact ih _
mutual
theorem qsf : ∀ t, (varY t).length ≤ szY t
 | .mk c v l => by
   rw [varY, szY, List.length_append]
   have := qjv l
   split <;> simp <;> omega
theorem qjv : ∀ l, (qbp l).length ≤ szYs l
 | [] => by simp [qbp]
 | x :: r => by
   rw [qbp, szYs, List.length_append]
   have := qsf x
   have := qjv r
   omega
end
theorem qdz : ∀ l : List Ty, l.length ≤ szYs l
 | [] => by simp [szYs]
 | x :: r => by rw [szYs, List.length_cons]; have := qju x; have := qdz r; omega
theorem q4u (l r : List Ty) : szYs (l ++ r) = szYs l + szYs r := by
 induction l with
 | nil => simp [szYs]
 | cons x l ih => simp only [List.cons_append, szYs, ih]; omega
theorem qjz : ∀ (l : List Ty) (i : Nat), szYs (l.take i) ≤ szYs l
 | [], i => by simp
 | x :: r, 0 => by simp [szYs]
 | x :: r, i + 1 => by rw [List.take_succ_cons, szYs, szYs]; have := qjz r i; omega
theorem qe6 {l : List Ty} {x : Ty} (h : x ∈ l) : szY x ≤ szYs l := by
 induction l with
 | nil => cases h
 | cons y r ih =>
   rw [szYs]
   rcases List.mem_cons.1 h with rfl | h
   ·omega
   ·have := ih h; omega
theorem qqw {l : List Ty} {x : Ty} (h : x ∈ l) : dpY x ≤ dpYs l := by
 induction l with
 | nil => cases h
 | cons y r ih =>
   rw [dpYs]
   rcases List.mem_cons.1 h with rfl | h
   ·omega
   ·have := ih h; omega

def digN (u : Nat) : List UInt8 := if h : u < 10 then [UInt8.ofNat (48 + u)] else digN (u / 10) ++ [UInt8.ofNat (48 + u % 10)]
termination_by u
decreasing_by omega
theorem qgj {u : Nat} (h : u < 10) : digN u = [UInt8.ofNat (48 + u)] := by rw [digN, dif_pos h]
theorem qr7 {u : Nat} (h : ¬ u < 10) : digN u = digN (u / 10) ++ [UInt8.ofNat (48 + u % 10)] := by rw [digN, dif_neg h]
theorem qti : ∀ (k u : Nat), u < 10 ^ (k + 1) → (digN u).length ≤ k + 1
 | 0, u, h => by rw [qgj (by simpa using h)]; simp
 | k + 1, u, h => by
   by_cases h10 : u < 10
   ·rw [qgj h10]; simp
   ·rw [qr7 h10, List.length_append]
    have := qti k (u / 10) (by rw [Nat.div_lt_iff_lt_mul (by omega)]; rw [Nat.pow_succ] at h; exact h)
    simp; exact this
theorem q1r (u : Nat) : 0 < (digN u).length := by
 by_cases h : u < 10
 ·rw [qgj h]; simp
 ·rw [qr7 h]; simp
def digI (n : Int) : List UInt8 := if n < 0 then 45 :: digN n.natAbs else digN n.natAbs
def ltrI (n : Int) : List UInt8 := if n < 0 then [] else if n < 26 then [UInt8.ofNat (97 + n.toNat)] else UInt8.ofNat (97 + n.toNat % 26) :: digN (n.toNat / 26)
def qh4 (t : Ty) : List UInt8 := if t.con = [] then (if 0 ≤ t.var then ltrI t.var else 63 :: digI (-1 - t.var)) else t.con
def arrW : List UInt8 := [45, 62]
def parW (b : Bool) (s : List UInt8) : List UInt8 := if b = true then 40 :: (s ++ [41]) else s
mutual
def txtY : Ty → List UInt8
 | .mk c v l => if c = arrW then (match l with | [a, b] => parW (decide (a.con = arrW)) (txtY a) ++ ([32, 45, 62, 32] ++ txtY b) | _ => []) else qh4 (.mk c v l) ++ argY l
def argY : List Ty → List UInt8
 | [] => []
 | a :: r => (32 :: parW (decide (a.args ≠ [])) (txtY a)) ++ argY r
end
end Go.V
