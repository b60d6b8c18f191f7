/- Texts of this proof, joined. -/
import Derived.Test.YtlahgbhhejkgbaaRaj

/- predicates, pairs as data -/
namespace Go.V
open Go Go.RowKit
set_option linter.unusedVariables false


structure Pr where
 v : Int
 ty : Ty
def encR (p : Pr) : AV := .agg [.int .i64 p.v, .str p.ty.con, .int .i64 p.ty.var, .sl 3 (qs p.ty.args)]
def qbm (l : List Pr) : List AV := l.map encR
def R0 : Pr := ⟨0, Y0⟩
abbrev prc (p : Pr) : List AV := [.int .i64 p.v, .str p.ty.con, .int .i64 p.ty.var, .sl 3 (qs p.ty.args)]
theorem qyh (p : Pr) : AV.agg [.int .i64 p.v, .str p.ty.con, .int .i64 p.ty.var, .sl 3 (qs p.ty.args)] = encR p := rfl
theorem qtt (p : Pr) : (encR p).cells = prc p := rfl
theorem qhi (k : Nat) (p : Pr) : (encR p).bd k = true := by simp only [encR, AV.bd, AV.bds, qce, Bool.and_true]
theorem qcp (k : Nat) (l : List Pr) : AV.bds k (qbm l) = true := by rw [qbm, qcy, List.all_map, List.all_eq_true]; exact fun x _ => qhi k x
theorem qma (σ : Nat → Nat) (p : Pr) : (encR p).ren σ = encR p := ren_same (m := 0) (fun i hi => by omega) _ (qhi 0 p)
theorem qjf (σ : Nat → Nat) (l : List Pr) : AV.rens σ (qbm l) = qbm l := qm (m := 0) (fun i hi => by omega) _ (qcp 0 l)
theorem q5o (H : List Ent) (p : Pr) : co H (.agg [.id, .id, .id, .sl 3]) (encR p) = encR p := by
 simp only [encR, qqu, qhx, qlr, qtx, qia]
theorem qwg (p : Pr) : rdCo (.agg [.id, .id, .id, .sl 3]) (encR p) = [] := by
 simp only [encR, qhy, qe3, qf9, qls, qe4, List.append_nil]
theorem qz2 (p : Pr) : (encR p).isAgg = true := rfl
theorem qoa (p : Pr) : (encR p).leaf = false := rfl
theorem qdo (l : List Pr) : (qbm l).length = l.length := by simp [qbm]
theorem qb7 {l : List Pr} {i : Nat} (h : i < l.length) : (qbm l).getD i .junk = encR (l.getD i R0) := by
 rw [qbm, List.getD_eq_getElem?_getD, List.getElem?_map, List.getElem?_eq_getElem h, List.getD_eq_getElem?_getD, List.getElem?_eq_getElem h]; rfl
theorem qe0 {l : List Pr} {i : Nat} (h : i < l.length) : l.getD i R0 ∈ l := by
 rw [List.getD_eq_getElem?_getD, List.getElem?_eq_getElem h]; exact List.getElem_mem h
theorem qbpa {l : List Pr} {i : Nat} (h : i < l.length) : l.drop i = l.getD i R0 :: l.drop (i + 1) := by
 rw [List.drop_eq_getElem_cons h, List.getD_eq_getElem?_getD, List.getElem?_eq_getElem h]; rfl
theorem qr8 (l : List Pr) (p : Pr) : qbm l ++ [encR p] = qbm (l ++ [p]) := by simp [qbm]
theorem qxq : qbm [] = [] := rfl
theorem qsa (n : Nat) (l : List Pr) : (qbm l).take n = qbm (l.take n) := by simp [qbm]
theorem qtn (n : Nat) (l : List Pr) : (qbm l).drop n = qbm (l.drop n) := by simp [qbm]
theorem q1c (b : Bool) (n off : Nat) (p : Pr) : fldv b n off (encR p) = ldc b n off (prc p) := rfl
attribute [go_sem] prc q1c qwg qhi qcp qma qjf q5o qz2 qtt qyh qoa qdo qsa qtn
end Go.V

/-
 Types: how great they are, their variables, whether two are the same; texts of numbers.
-/
namespace Go.V
open Go Go.RowKit
set_option linter.unusedVariables false
set_option linter.unusedSimpArgs false

mutual
def szY : Ty → Nat
 | .mk _ _ l => 1 + szYs l
def szYs : List Ty → Nat
 | [] => 0
 | x :: r => szY x + szYs r
end
mutual
def dpY : Ty → Nat
 | .mk _ _ l => 1 + dpYs l
def dpYs : List Ty → Nat
 | [] => 0
 | x :: r => max (dpY x) (dpYs r)
end
mutual
def varY : Ty → List Int
 | .mk c v l => (if c = [] then [v] else []) ++ qb4 l
def qb4 : List Ty → List Int
 | [] => []
 | x :: r => varY x ++ qb4 r
end
theorem qil (t : Ty) : szY t = 1 + szYs t.args := by cases t; rw [szY]; rfl
theorem qv2 (t : Ty) : dpY t = 1 + dpYs t.args := by cases t; rw [dpY]; rfl
theorem qiq (t : Ty) : 1 ≤ szY t := by rw [qil]; omega
theorem q41 (t : Ty) : 1 ≤ dpY t := by rw [qv2]; omega

mutual
def qf7 : Ty → Ty → Bool
 | .mk c v l, .mk c' v' l' => decide (c = c') && decide (v = v') && qbd l l'
def qbd : List Ty → List Ty → Bool
 | [], [] => true
 | x :: r, y :: r' => qf7 x y && qbd r r'
 | _, _ => false
end
theorem qe9 (a b : Ty) : qf7 a b = (decide (a.con = b.con) && decide (a.var = b.var) && qbd a.args b.args) := by cases a; cases b; rw [qf7]; rfl
theorem qk2 : ∀ {l l' : List Ty}, l.length ≠ l'.length → qbd l l' = false
 | [], [], h => absurd rfl h
 | [], y :: r', _ => by rw [qbd] <;> simp
 | x :: r, [], _ => by rw [qbd] <;> simp
 | x :: r, y :: r', h => by rw [qbd, qk2 (l := r) (l' := r') (by simpa using h)]; simp
theorem qdv {l l' : List Ty} {i : Nat} (h : i < l.length) (h' : i < l'.length) : qbd (l.drop i) (l'.drop i) = (qf7 (l.getD i Y0) (l'.getD i Y0) && qbd (l.drop (i + 1)) (l'.drop (i + 1))) := by
 rw [qm0 h, qm0 h', qbd]
theorem qkl {l l' : List Ty} {i : Nat} (h : l.length ≤ i) (h' : l'.length ≤ i) : qbd (l.drop i) (l'.drop i) = true := by
 rw [List.drop_of_length_le h, List.drop_of_length_le h', qbd]
theorem qnn {y : Ty} {r : List Ty} : qbd [] (y :: r) = false := by rw [qbd] <;> simp
theorem qnu {y : Ty} {r : List Ty} : qbd (y :: r) [] = false := by rw [qbd] <;> simp
theorem qxi {l : List Ty} (h : ∀ x ∈ l, ∀ b, qf7 x b = true ↔ x = b) : ∀ l', qbd l l' = true ↔ l = l' := by
 induction l with
 | nil => intro l'; cases l' with
   | nil => simp [qbd]
   | cons y r => rw [qnn]; simp
 | cons x r ih => intro l'; cases l' with
   | nil => rw [qnu]; simp
   | cons y r' =>
     rw [qbd, Bool.and_eq_true, h x (by simp), ih (fun z hz => h z (by simp [hz]))]
     simp
theorem ty_eq {a b : Ty} : a = b ↔ (a.con = b.con ∧ a.var = b.var) ∧ a.args = b.args := by
 cases a; cases b; simp [Ty.con, Ty.var, Ty.args, and_assoc]
theorem q17 : ∀ a b, qf7 a b = true ↔ a = b := Ty.ind fun a ih b => by
 rw [qe9, Bool.and_eq_true, Bool.and_eq_true, qxi ih, ty_eq, decide_eq_true_eq, decide_eq_true_eq]
def qdw (acc : List Int) : List Int → List Int
 | [] => acc
 | x :: r => if x ∈ acc then qdw acc r else qdw (acc ++ [x]) r
theorem qm1 (acc l r : List Int) : qdw acc (l ++ r) = qdw (qdw acc l) r := by
 induction l generalizing acc with
 | nil => rfl
 | cons x l ih => simp only [List.cons_append, qdw]; split <;> exact ih _
mutual
theorem qy1 : ∀ t, (varY t).length ≤ szY t
 | .mk c v l => by
   rw [varY, szY, List.length_append]
   have := qnp l
   split <;> simp <;> omega
theorem qnp : ∀ l, (qb4 l).length ≤ szYs l
 | [] => by simp [qb4]
 | x :: r => by
   rw [qb4, szYs, List.length_append]
   have := qy1 x
   have := qnp r
   omega
end
theorem qgq : ∀ l : List Ty, l.length ≤ szYs l
 | [] => by simp [szYs]
 | x :: r => by rw [szYs, List.length_cons]; have := qiq x; have := qgq r; omega
theorem qmf {l : List Ty} {x : Ty} (h : x ∈ l) : szY x ≤ szYs l := by
 induction l with
 | nil => cases h
 | cons y r ih =>
   rw [szYs]
   rcases List.mem_cons.1 h with rfl | h
   ·omega
   ·have := ih h; omega
theorem qpj {l : List Ty} {x : Ty} (h : x ∈ l) : dpY x ≤ dpYs l := by
 induction l with
 | nil => cases h
 | cons y r ih =>
   rw [dpYs]
   rcases List.mem_cons.1 h with rfl | h
   ·omega
   ·have := ih h; omega

def digN (u : Nat) : List UInt8 := if h : u < 10 then [UInt8.ofNat (48 + u)] else digN (u / 10) ++ [UInt8.ofNat (48 + u % 10)]
termination_by u
decreasing_by omega
theorem qfq {u : Nat} (h : u < 10) : digN u = [UInt8.ofNat (48 + u)] := by rw [digN, dif_pos h]
theorem qpq {u : Nat} (h : ¬ u < 10) : digN u = digN (u / 10) ++ [UInt8.ofNat (48 + u % 10)] := by rw [digN, dif_neg h]
theorem qqm : ∀ (k u : Nat), u < 10 ^ (k + 1) → (digN u).length ≤ k + 1
 | 0, u, h => by rw [qfq (by simpa using h)]; simp
 | k + 1, u, h => by
   by_cases h10 : u < 10
   ·rw [qfq h10]; simp
   ·rw [qpq h10, List.length_append]
    have := qqm k (u / 10) (by rw [Nat.div_lt_iff_lt_mul (by omega)]; rw [Nat.pow_succ] at h; exact h)
    simp; exact this
theorem q10 (u : Nat) : 0 < (digN u).length := by
 by_cases h : u < 10
 ·rw [qfq h]; simp
 ·rw [qpq h]; simp
def digI (n : Int) : List UInt8 := if n < 0 then 45 :: digN n.natAbs else digN n.natAbs
def ltrI (n : Int) : List UInt8 := if n < 0 then [] else if n < 26 then [UInt8.ofNat (97 + n.toNat)] else UInt8.ofNat (97 + n.toNat % 26) :: digN (n.toNat / 26)
def qhe (t : Ty) : List UInt8 := if t.con = [] then (if 0 ≤ t.var then ltrI t.var else 63 :: digI (-1 - t.var)) else t.con
def arrW : List UInt8 := [45, 62]
def parW (b : Bool) (s : List UInt8) : List UInt8 := if b = true then 40 :: (s ++ [41]) else s
mutual
def txtY : Ty → List UInt8
 | .mk c v l => if c = arrW then (match l with | [a, b] => parW (decide (a.con = arrW)) (txtY a) ++ ([32, 45, 62, 32] ++ txtY b) | _ => []) else qhe (.mk c v l) ++ argY l
def argY : List Ty → List UInt8
 | [] => []
 | a :: r => (32 :: parW (decide (a.args ≠ [])) (txtY a)) ++ argY r
end

def risR : List Pr → Prop
 | [] => True
 | p :: r => (∀ q ∈ r, p.v < q.v) ∧ risR r
def ql (v : Int) : List Pr → Option Ty
 | [] => none
 | p :: r => if p.v = v then some p.ty else ql v r
def ahdR (v : Int) : List Pr → Nat
 | [] => 0
 | p :: r => if p.v < v then ahdR v r + 1 else 0
def insR (v : Int) (t : Ty) (l : List Pr) : List Pr := l.take (ahdR v l) ++ ⟨v, t⟩ :: l.drop (ahdR v l)
theorem ql9 (v : Int) : ∀ l, ahdR v l ≤ l.length
 | [] => Nat.le_refl _
 | p :: r => by rw [ahdR]; have := ql9 v r; split <;> simp <;> omega
theorem qw4 (v : Int) : ∀ (l : List Pr) (k : Nat), k < ahdR v l → (l.getD k R0).v < v
 | [], k, h => by simp [ahdR] at h
 | p :: r, k, h => by
   rw [ahdR] at h
   split at h
   ·rename_i hp
    cases k with
    | zero => exact hp
    | succ k => exact qw4 v r k (by omega)
   ·omega
theorem qt3 {v : Int} : ∀ {l : List Pr}, risR l → ∀ (k : Nat), ahdR v l ≤ k → k < l.length → v ≤ (l.getD k R0).v
 | [], _, k, _, h => by simp at h
 | p :: r, hr, k, h, hk => by
   rw [ahdR] at h
   split at h
   ·cases k with
    | zero => omega
    | succ k => exact qt3 hr.2 k (by omega) (by simpa using hk)
   ·rename_i hp
    cases k with
    | zero => show v ≤ p.v; omega
    | succ k => have := hr.1 _ (qe0 (l := r) (i := k) (by simpa using hk)); show v ≤ (r.getD k R0).v; omega
theorem qk8 {v : Int} : ∀ {l : List Pr}, (∀ p ∈ l, p.v ≠ v) → ql v l = none
 | [], _ => rfl
 | p :: r, h => by rw [ql, if_neg (h p (by simp)), qk8 fun q hq => h q (by simp [hq])]
theorem qdk {v : Int} : ∀ {l : List Pr} {t : Ty}, ql v l = some t → ∃ p ∈ l, p.v = v ∧ p.ty = t
 | p :: r, t, h => by
   rw [ql] at h
   split at h
   ·rename_i hp; exact ⟨p, by simp, hp, by simpa using h⟩
   ·obtain ⟨q, h1, h2⟩ := qdk h; exact ⟨q, by simp [h1], h2⟩
theorem qhg {v : Int} : ∀ {l : List Pr}, ql v l = none → ∀ p ∈ l, p.v ≠ v
 | [], _, p, hp => by simp at hp
 | q :: r, h, p, hp => by
   rw [ql] at h
   split at h
   ·cases h
   ·rename_i hq
    rcases List.mem_cons.1 hp with rfl | hp
    ·exact hq
    ·exact qhg h p hp
theorem qh9 {v : Int} : ∀ {l : List Pr}, risR l → ql v l = if ahdR v l < l.length ∧ (l.getD (ahdR v l) R0).v = v then some (l.getD (ahdR v l) R0).ty else none
 | [], _ => by simp [ql, ahdR]
 | p :: r, hr => by
   rw [ql, ahdR]
   by_cases h1 : p.v < v
   ·rw [if_pos h1, if_neg (by omega), qh9 hr.2]
    simp only [List.length_cons, List.getD_cons_succ, Nat.add_lt_add_iff_right]
   ·rw [if_neg h1]
    by_cases h2 : p.v = v
    ·rw [if_pos h2, if_pos ⟨by simp, h2⟩]; rfl
    ·rw [if_neg h2, if_neg (fun h => h2 h.2)]
     exact qk8 fun q hq => by have := hr.1 q hq; omega
theorem qgo (v : Int) (t : Ty) (p : Pr) (r : List Pr) : insR v t (p :: r) = if p.v < v then p :: insR v t r else ⟨v, t⟩ :: p :: r := by
 rw [insR, ahdR]; split <;> rfl
theorem ql2 (v : Int) (t : Ty) : insR v t [] = [⟨v, t⟩] := rfl
theorem insR_mem {v : Int} {t : Ty} {q : Pr} : ∀ {l : List Pr}, q ∈ insR v t l ↔ q = ⟨v, t⟩ ∨ q ∈ l
 | [] => by simp [ql2]
 | p :: r => by
   rw [qgo]
   split
   ·simp only [List.mem_cons, insR_mem (l := r)]
    constructor
    ·rintro (h | h | h) <;> simp [h]
    ·rintro (h | h | h) <;> simp [h]
   ·simp
theorem qp8 {v : Int} {t : Ty} : ∀ {l : List Pr}, risR l → ql v l = none → risR (insR v t l)
 | [], _, _ => ⟨fun q hq => by simp at hq, trivial⟩
 | p :: r, hr, hn => by
   have h1 := qhg hn p (by simp)
   rw [ql, if_neg h1] at hn
   rw [qgo]
   split
   ·rename_i h
    refine ⟨fun q hq => ?_, qp8 hr.2 hn⟩
    rcases insR_mem.1 hq with rfl | hq
    ·exact h
    ·exact hr.1 q hq
   ·rename_i h
    refine ⟨fun q hq => ?_, hr⟩
    rcases List.mem_cons.1 hq with rfl | hq
    ·show v < q.v; omega
    ·have := hr.1 q hq; show v < q.v; omega
theorem qna {v x : Int} {t : Ty} : ∀ {l : List Pr}, ql v l = none → ql x (insR v t l) = if x = v then some t else ql x l
 | [], _ => by
   rw [ql2, ql, ql]
   by_cases h : x = v
   ·rw [if_pos h.symm, if_pos h]
   ·rw [if_neg (fun h' => h h'.symm), if_neg h]; rfl
 | p :: r, hn => by
   have h1 := qhg hn p (by simp)
   have hn' := hn
   rw [ql, if_neg h1] at hn'
   rw [qgo]
   split
   ·rw [ql, ql, qna hn']
    by_cases h : p.v = x
    ·rw [if_pos h, if_pos h, if_neg (fun h' => h1 (h.trans h'))]
    ·rw [if_neg h, if_neg h]
   ·rw [ql]
    by_cases h : x = v
    ·rw [if_pos h.symm, if_pos h]
    ·rw [if_neg (fun h' => h h'.symm), if_neg h]
theorem qlw (v : Int) (t : Ty) (l : List Pr) : (insR v t l).length = l.length + 1 := by
 have := ql9 v l
 rw [insR, List.length_append, List.length_cons, List.length_take, List.length_drop]; omega
theorem qrp {v : Int} {t : Ty} : ∀ {l : List Pr}, (∀ p ∈ l, p.v < v) → insR v t l = l ++ [⟨v, t⟩]
 | [], _ => rfl
 | p :: r, h => by rw [qgo, if_pos (h p (by simp)), qrp fun q hq => h q (by simp [hq])]; rfl

/-! types in the place of variables -/
mutual
def putY (s : List Pr) : Ty → Ty
 | .mk c v l => if c = [] then (match ql v s with | some u => u | none => .mk c v l) else .mk c v (qdp s l)
def qdp (s : List Pr) : List Ty → List Ty
 | [] => []
 | x :: r => putY s x :: qdp s r
end
mutual
def sizR (s : List Pr) : Ty → Nat
 | .mk c v l => if c = [] then (match ql v s with | some u => szY u | none => 1) else 1 + qjz s l
def qjz (s : List Pr) : List Ty → Nat
 | [] => 0
 | x :: r => sizR s x + qjz s r
end
theorem qng (s : List Pr) : ∀ l, qdp s l = l.map (putY s)
 | [] => by rw [qdp]; rfl
 | x :: r => by rw [qdp, qng s r]; rfl
theorem qvb (s : List Pr) (l : List Ty) : (qdp s l).length = l.length := by rw [qng]; simp
mutual
def bare : Ty → Prop
 | .mk c v l => (c = [] → l = []) ∧ qgj l
def qgj : List Ty → Prop
 | [] => True
 | x :: r => bare x ∧ qgj r
end
theorem qbbt (t : Ty) : bare t ↔ (t.con = [] → t.args = []) ∧ qgj t.args := by cases t; rw [bare]; rfl
theorem qmt : ∀ {l : List Ty}, qgj l → ∀ x ∈ l, bare x
 | [], _, x, h => by simp at h
 | y :: r, hb, x, h => by
   rcases List.mem_cons.1 h with rfl | h
   ·exact hb.1
   ·exact qmt hb.2 x h
mutual
theorem qp2 (s : List Pr) : ∀ t, bare t → szY (putY s t) = sizR s t
 | .mk c v l, h => by
   rw [bare] at h
   rw [putY, sizR]
   split
   ·rename_i hc
    cases ql v s with
    | some u => rfl
    | none => rw [h.1 hc, szY, szYs]
   ·rw [szY, qp9 s l h.2]
theorem qp9 (s : List Pr) : ∀ l, qgj l → szYs (qdp s l) = qjz s l
 | [], _ => by rw [qdp, szYs, qjz]
 | x :: r, h => by rw [qdp, szYs, qjz, qp2 s x h.1, qp9 s r h.2]
end
mutual
def bput (s : List Pr) : Ty → Int → Int → Int × Ty
 | .mk c v l, b, k => match (if c = [] then ql v s else none) with
   | some u => (if 101 < k + dpY u then -1 else b - szY u, u)
   | none => ((qcb s l (b - 1) (k + 1)).1, match (qcb s l (b - 1) (k + 1)).2 with | some l' => .mk c v l' | none => .mk c v l)
def qcb (s : List Pr) : List Ty → Int → Int → Int × Option (List Ty)
 | [], b, k => (b, some [])
 | x :: r, b, k => if b < 0 then (b, none) else ((qcb s r (bput s x b k).1 k).1, (qcb s r (bput s x b k).1 k).2.map ((bput s x b k).2 :: ·))
end
theorem qbcy (s : List Pr) (t : Ty) (b k : Int) : bput s t b k = match (if t.con = [] then ql t.var s else none) with
 | some u => (if 101 < k + dpY u then -1 else b - szY u, u)
 | none => ((qcb s t.args (b - 1) (k + 1)).1, match (qcb s t.args (b - 1) (k + 1)).2 with | some l' => .mk t.con t.var l' | none => t) := by cases t; rw [bput]; rfl
theorem qw5 (s : List Pr) {b : Int} (h : b < 0) : ∀ (l : List Ty) (k : Int), (qcb s l b k).1 = b
 | [], k => by rw [qcb]
 | x :: r, k => by rw [qcb, if_pos h]
def okR (s : List Pr) : Prop := ∀ p ∈ s, szY p.ty ≤ 4096 ∧ dpY p.ty ≤ 100
theorem qr0 {s : List Pr} (h : okR s) {v : Int} {u : Ty} (hu : ql v s = some u) : szY u ≤ 4096 ∧ dpY u ≤ 100 := by
 obtain ⟨p, h1, _, rfl⟩ := qdk hu
 exact h p h1
mutual
theorem qrj (s : List Pr) : ∀ (t : Ty) (b k : Int), bare t → 0 ≤ b → k + dpY t ≤ 101 →
 (((sizR s t : Int) ≤ b ∧ k + dpY (putY s t) ≤ 101) → bput s t b k = (b - sizR s t, putY s t)) ∧ (¬ ((sizR s t : Int) ≤ b ∧ k + dpY (putY s t) ≤ 101) → (bput s t b k).1 < 0)
 | .mk c v l, b, k, hb, h0, hk => by
   rw [bare] at hb
   rw [dpY] at hk
   rw [bput, sizR, putY]
   by_cases hc : c = []
   ·simp only [if_pos hc]
    cases hl : ql v s with
    | some u =>
      simp only
      refine ⟨fun h => by rw [if_neg (by omega)], fun h => ?_⟩
      split <;> omega
    | none =>
      have h1 := hb.1 hc
      subst h1
      simp only [qcb, dpY, dpYs]
      refine ⟨fun h => by simp, fun h => ?_⟩
      omega
   ·simp only [if_neg hc]
    rw [dpY]
    have ih := qno s l (b - 1) (k + 1) hb.2 (by omega)
    refine ⟨fun h => ?_, fun h => ?_⟩
    ·rw [ih.1 ⟨by omega, by omega, by omega⟩]
     simp only
     congr 1
     omega
    ·exact ih.2 (by omega)
theorem qno (s : List Pr) : ∀ (l : List Ty) (b k : Int), qgj l → k + dpYs l ≤ 101 →
 ((0 ≤ b ∧ (qjz s l : Int) ≤ b ∧ k + dpYs (qdp s l) ≤ 101) → qcb s l b k = (b - qjz s l, some (qdp s l))) ∧ (¬ (0 ≤ b ∧ (qjz s l : Int) ≤ b ∧ k + dpYs (qdp s l) ≤ 101) → (qcb s l b k).1 < 0)
 | [], b, k, hb, hk => by
   rw [qcb, qjz, qdp, dpYs] at *
   refine ⟨fun h => by simp, fun h => ?_⟩
   simp only
   omega
 | x :: r, b, k, hb, hk => by
   rw [qgj] at hb
   rw [dpYs] at hk
   rw [qcb, qjz, qdp, dpYs]
   by_cases h0 : b < 0
   ·rw [if_pos h0]
    exact ⟨fun h => by omega, fun _ => h0⟩
   ·rw [if_neg h0]
    have ih1 := qrj s x b k hb.1 (by omega) (by omega)
    by_cases h1 : (sizR s x : Int) ≤ b ∧ k + dpY (putY s x) ≤ 101
    ·rw [ih1.1 h1]
     have ih2 := qno s r (b - sizR s x) k hb.2 (by omega)
     refine ⟨fun h => ?_, fun h => ?_⟩
     ·rw [ih2.1 ⟨by omega, by omega, by omega⟩]
      simp only [Option.map_some]
      congr 1
      omega
     ·exact ih2.2 (by omega)
    ·have h2 := ih1.2 h1
     rw [qw5 s h2]
     refine ⟨fun h => ?_, fun h => h2⟩
     exfalso; omega
end
mutual
theorem qqe {s : List Pr} (hs : okR s) : ∀ (t : Ty) (b k : Int), 0 ≤ b → b ≤ 4096 → -4096 ≤ (bput s t b k).1 ∧ (bput s t b k).1 ≤ 4096
 | .mk c v l, b, k, h0, h1 => by
   rw [bput]
   split
   ·rename_i u hu
    have hl : ql v s = some u := by
     by_cases hc : c = []
     ·rwa [if_pos hc] at hu
     ·rw [if_neg hc] at hu; cases hu
    have := qr0 hs hl
    simp only
    split <;> omega
   ·simp only
    exact qmq hs l (b - 1) (k + 1) (by omega) (by omega)
theorem qmq {s : List Pr} (hs : okR s) : ∀ (l : List Ty) (b k : Int), -4096 ≤ b → b ≤ 4096 → -4096 ≤ (qcb s l b k).1 ∧ (qcb s l b k).1 ≤ 4096
 | [], b, k, h0, h1 => by rw [qcb]; exact ⟨h0, h1⟩
 | x :: r, b, k, h0, h1 => by
   rw [qcb]
   split
   ·exact ⟨h0, h1⟩
   ·rename_i h
    have := qqe hs x b k (by omega) h1
    exact qmq hs r _ k this.1 this.2
end

/-! one behind the other -/
end Go.V
