/- Texts of this proof, joined. -/
import Derived.Test.YtlahgbhhejkgbaaGreatKaj

/- predicates, pairs as data -/
namespace Go.V
open Go Go.RowKit
set_option linter.unusedVariables false


structure Pr where
 v : Int
 ty : Ty
def encR (p : Pr) : AV := .agg [.int .i64 p.v, .str p.ty.con, .int .i64 p.ty.var, .sl 3 (qt p.ty.args)]
def qs (l : List Pr) : List AV := l.map encR
def R0 : Pr := ⟨0, Y0⟩
abbrev prc (p : Pr) : List AV := [.int .i64 p.v, .str p.ty.con, .int .i64 p.ty.var, .sl 3 (qt p.ty.args)]
theorem qyu (p : Pr) : AV.agg [.int .i64 p.v, .str p.ty.con, .int .i64 p.ty.var, .sl 3 (qt p.ty.args)] = encR p := rfl
theorem qvb (p : Pr) : (encR p).cells = prc p := rfl
theorem qhx (k : Nat) (p : Pr) : (encR p).bd k = true := by simp only [encR, AV.bd, AV.bds, qcl, Bool.and_true]
theorem qbz (k : Nat) (l : List Pr) : AV.bds k (qs l) = true := by rw [qs, qde, List.all_map, List.all_eq_true]; exact fun x _ => qhx k x
theorem qni (σ : Nat → Nat) (p : Pr) : (encR p).ren σ = encR p := ren_same (m := 0) (fun i hi => by omega) _ (qhx 0 p)
theorem qg2 (σ : Nat → Nat) (l : List Pr) : AV.rens σ (qs l) = qs l := qu (m := 0) (fun i hi => by omega) _ (qbz 0 l)
theorem qbdl (H : List Ent) (p : Pr) : co H (.agg [.id, .id, .id, .sl 3]) (encR p) = encR p := by
 simp only [encR, qse, qi3, qmx, qvv, qi5]
theorem qze (p : Pr) : rdCo (.agg [.id, .id, .id, .sl 3]) (encR p) = [] := by
 simp only [encR, qi1, qfr, qhe, qnb, qfn, List.append_nil]
theorem q5y (p : Pr) : (encR p).isAgg = true := rfl
theorem qoh (p : Pr) : (encR p).leaf = false := rfl
theorem qy (l : List Pr) : (qs l).length = l.length := by simp [qs]
theorem ql {l : List Pr} {i : Nat} (h : i < l.length) : (qs l).getD i .junk = encR (l.getD i R0) := by
 rw [qs, List.getD_eq_getElem?_getD, List.getElem?_map, List.getElem?_eq_getElem h, List.getD_eq_getElem?_getD, List.getElem?_eq_getElem h]; rfl
theorem qdv {l : List Pr} {i : Nat} (h : i < l.length) : l.getD i R0 ∈ l := by
 rw [List.getD_eq_getElem?_getD, List.getElem?_eq_getElem h]; exact List.getElem_mem h
theorem qx3 {l : List Pr} {i : Nat} (h : i < l.length) : l.drop i = l.getD i R0 :: l.drop (i + 1) := by
 rw [List.drop_eq_getElem_cons h, List.getD_eq_getElem?_getD, List.getElem?_eq_getElem h]; rfl
theorem qhv (l : List Pr) (p : Pr) : qs l ++ [encR p] = qs (l ++ [p]) := by simp [qs]
theorem q0d (p : Pr) : [encR p] = qs [p] := rfl
theorem qcm : qs [] = [] := rfl
theorem qfq {l : List Pr} (h : l ≠ []) : qs l ≠ [] := by cases l with | nil => exact absurd rfl h | cons _ _ => simp [qs]
theorem qul (n : Nat) (l : List Pr) : (qs l).take n = qs (l.take n) := by simp [qs]
theorem qua (n : Nat) (l : List Pr) : (qs l).drop n = qs (l.drop n) := by simp [qs]
theorem q1v (b : Bool) (n off : Nat) (p : Pr) : fldv b n off (encR p) = ldc b n off (prc p) := rfl
theorem qg6 {l : List Pr} {n : Nat} (h : (AV.sl n (qs l)).wf) : l.length ≤ maxLen ∧ ∀ p ∈ l, (encR p).wf := by
 refine ⟨by have := h.1; rwa [qy] at this, fun p hp => (qxs _).1 h.2 _ ?_⟩
 rw [qs]; exact List.mem_map_of_mem hp
attribute [go_sem] prc q1v qze qhx qbz qni qg2 qbdl q5y qvb qyu qoh qy qul qua
end Go.V

/-
 Types: how great they are, their variables, whether two are the same; texts of numbers.
-/
namespace Go.V
open Go Go.RowKit
set_option linter.unusedVariables false
set_option linter.unusedSimpArgs false

mutual
def szY : Ty → Nat
 | .mk _ _ l => 1 + szYs l
def szYs : List Ty → Nat
 | [] => 0
 | x :: r => szY x + szYs r
end
mutual
def dpY : Ty → Nat
 | .mk _ _ l => 1 + dpYs l
def dpYs : List Ty → Nat
 | [] => 0
 | x :: r => max (dpY x) (dpYs r)
end
mutual
def varY : Ty → List Int
 | .mk c v l => (if c = [] then [v] else []) ++ qby l
def qby : List Ty → List Int
 | [] => []
 | x :: r => varY x ++ qby r
end
theorem qdx (t : Ty) : szY t = 1 + szYs t.args := by cases t; rw [szY]; rfl
theorem qsl (t : Ty) : dpY t = 1 + dpYs t.args := by cases t; rw [dpY]; rfl
theorem qbhy (t : Ty) : varY t = (if t.con = [] then [t.var] else []) ++ qby t.args := by cases t; rw [varY]; rfl
theorem qjr (t : Ty) : 1 ≤ szY t := by rw [qdx]; omega
theorem q7y (t : Ty) : 1 ≤ dpY t := by rw [qsl]; omega

mutual
def qm3 : Ty → Ty → Bool
 | .mk c v l, .mk c' v' l' => decide (c = c') && decide (v = v') && qb7 l l'
def qb7 : List Ty → List Ty → Bool
 | [], [] => true
 | x :: r, y :: r' => qm3 x y && qb7 r r'
 | _, _ => false
end
theorem qhi (a b : Ty) : qm3 a b = (decide (a.con = b.con) && decide (a.var = b.var) && qb7 a.args b.args) := by cases a; cases b; rw [qm3]; rfl
theorem ql3 : ∀ {l l' : List Ty}, l.length ≠ l'.length → qb7 l l' = false
 | [], [], h => absurd rfl h
 | [], y :: r', _ => by rw [qb7] <;> simp
 | x :: r, [], _ => by rw [qb7] <;> simp
 | x :: r, y :: r', h => by rw [qb7, ql3 (l := r) (l' := r') (by simpa using h)]; simp
theorem qjq {l l' : List Ty} {i : Nat} (h : i < l.length) (h' : i < l'.length) : qb7 (l.drop i) (l'.drop i) = (qm3 (l.getD i Y0) (l'.getD i Y0) && qb7 (l.drop (i + 1)) (l'.drop (i + 1))) := by
 rw [qlb h, qlb h', qb7]
theorem qvm {l l' : List Ty} {i : Nat} (h : l.length ≤ i) (h' : l'.length ≤ i) : qb7 (l.drop i) (l'.drop i) = true := by
 rw [List.drop_of_length_le h, List.drop_of_length_le h', qb7]
theorem qox {y : Ty} {r : List Ty} : qb7 [] (y :: r) = false := by rw [qb7] <;> simp
theorem qoi {y : Ty} {r : List Ty} : qb7 (y :: r) [] = false := by rw [qb7] <;> simp
theorem qx2 {l : List Ty} (h : ∀ x ∈ l, ∀ b, qm3 x b = true ↔ x = b) : ∀ l', qb7 l l' = true ↔ l = l' := by
 induction l with
 | nil => intro l'; cases l' with
   | nil => simp [qb7]
   | cons y r => rw [qox]; simp
 | cons x r ih => intro l'; cases l' with
   | nil => rw [qoi]; simp
   | cons y r' =>
     rw [qb7, Bool.and_eq_true, h x (by simp), ih (fun z hz => h z (by simp [hz]))]
     simp
theorem ty_eq {a b : Ty} : a = b ↔ (a.con = b.con ∧ a.var = b.var) ∧ a.args = b.args := by
 cases a; cases b; simp [Ty.con, Ty.var, Ty.args, and_assoc]
theorem q1s : ∀ a b, qm3 a b = true ↔ a = b := Ty.ind fun a ih b => by
 rw [qhi, Bool.and_eq_true, Bool.and_eq_true, qx2 ih, ty_eq, decide_eq_true_eq, decide_eq_true_eq]
def qeb (acc : List Int) : List Int → List Int
 | [] => acc
 | x :: r => if x ∈ acc then qeb acc r else qeb (acc ++ [x]) r
theorem qo4 (acc l r : List Int) : qeb acc (l ++ r) = qeb (qeb acc l) r := by
 induction l generalizing acc with
 | nil => rfl
 | cons x l ih => simp only [List.cons_append, qeb]; split <;> exact ih _
mutual
theorem q1a : ∀ t, (varY t).length ≤ szY t
 | .mk c v l => by
   rw [varY, szY, List.length_append]
   have := qi9 l
   split <;> simp <;> omega
theorem qi9 : ∀ l, (qby l).length ≤ szYs l
 | [] => by simp [qby]
 | x :: r => by
   rw [qby, szYs, List.length_append]
   have := q1a x
   have := qi9 r
   omega
end
theorem qd7 : ∀ l : List Ty, l.length ≤ szYs l
 | [] => by simp [szYs]
 | x :: r => by rw [szYs, List.length_cons]; have := qjr x; have := qd7 r; omega
theorem qka : ∀ (l : List Ty) (i : Nat), szYs (l.take i) ≤ szYs l
 | [], i => by simp
 | x :: r, 0 => by simp [szYs]
 | x :: r, i + 1 => by rw [List.take_succ_cons, szYs, szYs]; have := qka r i; omega
theorem qer {l : List Ty} {x : Ty} (h : x ∈ l) : szY x ≤ szYs l := by
 induction l with
 | nil => cases h
 | cons y r ih =>
   rw [szYs]
   rcases List.mem_cons.1 h with rfl | h
   ·omega
   ·have := ih h; omega
theorem qro {l : List Ty} {x : Ty} (h : x ∈ l) : dpY x ≤ dpYs l := by
 induction l with
 | nil => cases h
 | cons y r ih =>
   rw [dpYs]
   rcases List.mem_cons.1 h with rfl | h
   ·omega
   ·have := ih h; omega

def digN (u : Nat) : List UInt8 := if h : u < 10 then [UInt8.ofNat (48 + u)] else digN (u / 10) ++ [UInt8.ofNat (48 + u % 10)]
termination_by u
decreasing_by omega
theorem qga {u : Nat} (h : u < 10) : digN u = [UInt8.ofNat (48 + u)] := by rw [digN, dif_pos h]
theorem qqw {u : Nat} (h : ¬ u < 10) : digN u = digN (u / 10) ++ [UInt8.ofNat (48 + u % 10)] := by rw [digN, dif_neg h]
theorem qte : ∀ (k u : Nat), u < 10 ^ (k + 1) → (digN u).length ≤ k + 1
 | 0, u, h => by rw [qga (by simpa using h)]; simp
 | k + 1, u, h => by
   by_cases h10 : u < 10
   ·rw [qga h10]; simp
   ·rw [qqw h10, List.length_append]
    have := qte k (u / 10) (by rw [Nat.div_lt_iff_lt_mul (by omega)]; rw [Nat.pow_succ] at h; exact h)
    simp; exact this
theorem q4l (u : Nat) : 0 < (digN u).length := by
 by_cases h : u < 10
 ·rw [qga h]; simp
 ·rw [qqw h]; simp
def digI (n : Int) : List UInt8 := if n < 0 then 45 :: digN n.natAbs else digN n.natAbs
def ltrI (n : Int) : List UInt8 := if n < 0 then [] else if n < 26 then [UInt8.ofNat (97 + n.toNat)] else UInt8.ofNat (97 + n.toNat % 26) :: digN (n.toNat / 26)
def qhl (t : Ty) : List UInt8 := if t.con = [] then (if 0 ≤ t.var then ltrI t.var else 63 :: digI (-1 - t.var)) else t.con
def arrW : List UInt8 := [45, 62]
def parW (b : Bool) (s : List UInt8) : List UInt8 := if b = true then 40 :: (s ++ [41]) else s
mutual
def txtY : Ty → List UInt8
 | .mk c v l => if c = arrW then (match l with | [a, b] => parW (decide (a.con = arrW)) (txtY a) ++ ([32, 45, 62, 32] ++ txtY b) | _ => []) else qhl (.mk c v l) ++ argY l
def argY : List Ty → List UInt8
 | [] => []
 | a :: r => (32 :: parW (decide (a.args ≠ [])) (txtY a)) ++ argY r
end
end Go.V
