/- Texts of this proof, joined. -/
import Derived.Test.YtbbjelfnocmaoaaGreatAai

/- pairs of a variable and a type, as data -/
namespace Go.V
open Go Go.RowKit
set_option linter.unusedVariables false

structure Pr where
 v : Int
 ty : Ty
def encR (p : Pr) : AV := .agg [.int .i64 p.v, .str p.ty.con, .int .i64 p.ty.var, .sl 3 (ql p.ty.args)]
def qbf (l : List Pr) : List AV := l.map encR
def R0 : Pr := ⟨0, Y0⟩
abbrev prc (p : Pr) : List AV := [.int .i64 p.v, .str p.ty.con, .int .i64 p.ty.var, .sl 3 (ql p.ty.args)]
theorem qu5 (p : Pr) : AV.agg [.int .i64 p.v, .str p.ty.con, .int .i64 p.ty.var, .sl 3 (ql p.ty.args)] = encR p := rfl
theorem qsj (p : Pr) : (encR p).cells = prc p := rfl
theorem qgq (k : Nat) (p : Pr) : (encR p).bd k = true := by simp only [encR, AV.bd, AV.bds, qby, Bool.and_true]
theorem qcu (k : Nat) (l : List Pr) : AV.bds k (qbf l) = true := by rw [qbf, qdc, List.all_map, List.all_eq_true]; exact fun x _ => qgq k x
theorem qlf (σ : Nat → Nat) (p : Pr) : (encR p).ren σ = encR p := ren_same (m := 0) (fun i hi => by omega) _ (qgq 0 p)
theorem qis (σ : Nat → Nat) (l : List Pr) : AV.rens σ (qbf l) = qbf l := qn (m := 0) (fun i hi => by omega) _ (qcu 0 l)
theorem qbdn (H : List Ent) (p : Pr) : co H (.agg [.id, .id, .id, .sl 3]) (encR p) = encR p := by
 simp only [encR, qny, qf9, qi8, qo1, qfu]
theorem qwb (p : Pr) : rdCo (.agg [.id, .id, .id, .sl 3]) (encR p) = [] := by
 simp only [encR, qf1, qdn, qeo, qhx, qdm, List.append_nil]
theorem qzs (p : Pr) : (encR p).isAgg = true := rfl
theorem qn4 (p : Pr) : (encR p).leaf = false := rfl
theorem qc4 (l : List Pr) : (qbf l).length = l.length := by simp [qbf]
theorem qbw {l : List Pr} {i : Nat} (h : i < l.length) : (qbf l).getD i .junk = encR (l.getD i R0) := by
 rw [qbf, List.getD_eq_getElem?_getD, List.getElem?_map, List.getElem?_eq_getElem h, List.getD_eq_getElem?_getD, List.getElem?_eq_getElem h]; rfl
theorem qqe {l : List Pr} {i : Nat} (h : i < l.length) : l.getD i R0 ∈ l := by
 rw [List.getD_eq_getElem?_getD, List.getElem?_eq_getElem h]; exact List.getElem_mem h
theorem qbqc {l : List Pr} {i : Nat} (h : i < l.length) : l.drop i = l.getD i R0 :: l.drop (i + 1) := by
 rw [List.drop_eq_getElem_cons h, List.getD_eq_getElem?_getD, List.getElem?_eq_getElem h]; rfl
theorem qs0 (n : Nat) (l : List Pr) : (qbf l).take n = qbf (l.take n) := by simp [qbf]
theorem qro (n : Nat) (l : List Pr) : (qbf l).drop n = qbf (l.drop n) := by simp [qbf]
theorem q06 (b : Bool) (n off : Nat) (p : Pr) : fldv b n off (encR p) = ldc b n off (prc p) := rfl
theorem qqo {l : List Pr} {n : Nat} (h : (AV.sl n (qbf l)).wf) : l.length ≤ maxLen ∧ ∀ p ∈ l, (encR p).wf := by
 refine ⟨by have := h.1; rwa [qc4] at this, fun p hp => (qk8 _).1 h.2 _ ?_⟩
 rw [qbf]; exact List.mem_map_of_mem hp
attribute [go_sem] prc q06 qwb qgq qcu qlf qis qbdn qzs qsj qu5 qn4 qc4 qs0 qro
end Go.V

/-
 Types: how great they are, their variables, whether two are the same; texts of numbers.
-/
namespace Go.V
open Go Go.RowKit
set_option linter.unusedVariables false
set_option linter.unusedSimpArgs false

mutual
def szY : Ty → Nat
 | .mk _ _ l => 1 + szYs l
def szYs : List Ty → Nat
 | [] => 0
 | x :: r => szY x + szYs r
end
mutual
def dpY : Ty → Nat
 | .mk _ _ l => 1 + dpYs l
def dpYs : List Ty → Nat
 | [] => 0
 | x :: r => max (dpY x) (dpYs r)
end
mutual
def varY : Ty → List Int
 | .mk c v l => (if c = [] then [v] else []) ++ qwe l
def qwe : List Ty → List Int
 | [] => []
 | x :: r => varY x ++ qwe r
end
theorem qd6 (t : Ty) : szY t = 1 + szYs t.args := by cases t; rw [szY]; rfl
theorem qn1 (t : Ty) : dpY t = 1 + dpYs t.args := by cases t; rw [dpY]; rfl
theorem q5q (t : Ty) : 1 ≤ szY t := by rw [qd6]; omega
theorem q5g (t : Ty) : 1 ≤ dpY t := by rw [qn1]; omega

mutual
def qgw : Ty → Ty → Bool
 | .mk c v l, .mk c' v' l' => decide (c = c') && decide (v = v') && qbh l l'
def qbh : List Ty → List Ty → Bool
 | [], [] => true
 | x :: r, y :: r' => qgw x y && qbh r r'
 | _, _ => false
end
theorem qew (a b : Ty) : qgw a b = (decide (a.con = b.con) && decide (a.var = b.var) && qbh a.args b.args) := by cases a; cases b; rw [qgw]; rfl
theorem qkt : ∀ {l l' : List Ty}, l.length ≠ l'.length → qbh l l' = false
 | [], [], h => absurd rfl h
 | [], y :: r', _ => by rw [qbh] <;> simp
 | x :: r, [], _ => by rw [qbh] <;> simp
 | x :: r, y :: r', h => by rw [qbh, qkt (l := r) (l' := r') (by simpa using h)]; simp
theorem qdw {l l' : List Ty} {i : Nat} (h : i < l.length) (h' : i < l'.length) : qbh (l.drop i) (l'.drop i) = (qgw (l.getD i Y0) (l'.getD i Y0) && qbh (l.drop (i + 1)) (l'.drop (i + 1))) := by
 rw [ql2 h, ql2 h', qbh]
theorem qkq {l l' : List Ty} {i : Nat} (h : l.length ≤ i) (h' : l'.length ≤ i) : qbh (l.drop i) (l'.drop i) = true := by
 rw [List.drop_of_length_le h, List.drop_of_length_le h', qbh]
theorem qno {y : Ty} {r : List Ty} : qbh [] (y :: r) = false := by rw [qbh] <;> simp
theorem qms {y : Ty} {r : List Ty} : qbh (y :: r) [] = false := by rw [qbh] <;> simp
theorem qxj {l : List Ty} (h : ∀ x ∈ l, ∀ b, qgw x b = true ↔ x = b) : ∀ l', qbh l l' = true ↔ l = l' := by
 induction l with
 | nil => intro l'; cases l' with
   | nil => simp [qbh]
   | cons y r => rw [qno]; simp
 | cons x r ih => intro l'; cases l' with
   | nil => rw [qms]; simp
   | cons y r' =>
     rw [qbh, Bool.and_eq_true, h x (by simp), ih (fun z hz => h z (by simp [hz]))]
     simp
theorem qbpw {a b : Ty} : a = b ↔ (a.con = b.con ∧ a.var = b.var) ∧ a.args = b.args := by
 cases a; cases b; simp [Ty.con, Ty.var, Ty.args, and_assoc]
theorem qq8 : ∀ a b, qgw a b = true ↔ a = b := Ty.ind fun a ih b => by
 rw [qew, Bool.and_eq_true, Bool.and_eq_true, qxj ih, qbpw, decide_eq_true_eq, decide_eq_true_eq]
mutual
theorem q2b : ∀ t, (varY t).length ≤ szY t
 | .mk c v l => by
   rw [varY, szY, List.length_append]
   have := qn0 l
   split <;> simp <;> omega
theorem qn0 : ∀ l, (qwe l).length ≤ szYs l
 | [] => by simp [qwe]
 | x :: r => by
   rw [qwe, szYs, List.length_append]
   have := q2b x
   have := qn0 r
   omega
end
theorem qex : ∀ l : List Ty, l.length ≤ szYs l
 | [] => by simp [szYs]
 | x :: r => by rw [szYs, List.length_cons]; have := q5q x; have := qex r; omega
theorem q1e (l r : List Ty) : szYs (l ++ r) = szYs l + szYs r := by
 induction l with
 | nil => simp [szYs]
 | cons x l ih => simp only [List.cons_append, szYs, ih]; omega
theorem qng : ∀ (l : List Ty) (i : Nat), szYs (l.take i) ≤ szYs l
 | [], i => by simp
 | x :: r, 0 => by simp [szYs]
 | x :: r, i + 1 => by rw [List.take_succ_cons, szYs, szYs]; have := qng r i; omega
theorem qeh {l : List Ty} {x : Ty} (h : x ∈ l) : szY x ≤ szYs l := by
 induction l with
 | nil => cases h
 | cons y r ih =>
   rw [szYs]
   rcases List.mem_cons.1 h with rfl | h
   ·omega
   ·have := ih h; omega
theorem qk5 {l : List Ty} {x : Ty} (h : x ∈ l) : dpY x ≤ dpYs l := by
 induction l with
 | nil => cases h
 | cons y r ih =>
   rw [dpYs]
   rcases List.mem_cons.1 h with rfl | h
   ·omega
   ·have := ih h; omega

def digN (u : Nat) : List UInt8 := if h : u < 10 then [UInt8.ofNat (48 + u)] else digN (u / 10) ++ [UInt8.ofNat (48 + u % 10)]
termination_by u
decreasing_by omega
theorem qfd {u : Nat} (h : u < 10) : digN u = [UInt8.ofNat (48 + u)] := by rw [digN, dif_pos h]
theorem qo0 {u : Nat} (h : ¬ u < 10) : digN u = digN (u / 10) ++ [UInt8.ofNat (48 + u % 10)] := by rw [digN, dif_neg h]
theorem qqp : ∀ (k u : Nat), u < 10 ^ (k + 1) → (digN u).length ≤ k + 1
 | 0, u, h => by rw [qfd (by simpa using h)]; simp
 | k + 1, u, h => by
   by_cases h10 : u < 10
   ·rw [qfd h10]; simp
   ·rw [qo0 h10, List.length_append]
    have := qqp k (u / 10) (by rw [Nat.div_lt_iff_lt_mul (by omega)]; rw [Nat.pow_succ] at h; exact h)
    simp; exact this
theorem qym (u : Nat) : 0 < (digN u).length := by
 by_cases h : u < 10
 ·rw [qfd h]; simp
 ·rw [qo0 h]; simp
def digI (n : Int) : List UInt8 := if n < 0 then 45 :: digN n.natAbs else digN n.natAbs
def ltrI (n : Int) : List UInt8 := if n < 0 then [] else if n < 26 then [UInt8.ofNat (97 + n.toNat)] else UInt8.ofNat (97 + n.toNat % 26) :: digN (n.toNat / 26)
def qgk (t : Ty) : List UInt8 := if t.con = [] then (if 0 ≤ t.var then ltrI t.var else 63 :: digI (-1 - t.var)) else t.con
def arrW : List UInt8 := [45, 62]
def parW (b : Bool) (s : List UInt8) : List UInt8 := if b = true then 40 :: (s ++ [41]) else s
mutual
def txtY : Ty → List UInt8
 | .mk c v l => if c = arrW then (match l with | [a, b] => parW (decide (a.con = arrW)) (txtY a) ++ ([32, 45, 62, 32] ++ txtY b) | _ => []) else qgk (.mk c v l) ++ argY l
def argY : List Ty → List UInt8
 | [] => []
 | a :: r => (32 :: parW (decide (a.args ≠ [])) (txtY a)) ++ argY r
end

def risR : List Pr → Prop
 | [] => True
 | p :: r => (∀ q ∈ r, p.v < q.v) ∧ risR r
def qbb (v : Int) : List Pr → Option Ty
 | [] => none
 | p :: r => if p.v = v then some p.ty else qbb v r
def ahdR (v : Int) : List Pr → Nat
 | [] => 0
 | p :: r => if p.v < v then ahdR v r + 1 else 0
def insR (v : Int) (t : Ty) (l : List Pr) : List Pr := l.take (ahdR v l) ++ ⟨v, t⟩ :: l.drop (ahdR v l)
theorem qi0 (v : Int) : ∀ l, ahdR v l ≤ l.length
 | [] => Nat.le_refl _
 | p :: r => by rw [ahdR]; have := qi0 v r; split <;> simp <;> omega
theorem qom (v : Int) : ∀ (l : List Pr) (k : Nat), k < ahdR v l → (l.getD k R0).v < v
 | [], k, h => by simp [ahdR] at h
 | p :: r, k, h => by
   rw [ahdR] at h
   split at h
   ·rename_i hp
    cases k with
    | zero => exact hp
    | succ k => exact qom v r k (by omega)
   ·omega
theorem qu0 {v : Int} : ∀ {l : List Pr}, risR l → ∀ (k : Nat), ahdR v l ≤ k → k < l.length → v ≤ (l.getD k R0).v
 | [], _, k, _, h => by simp at h
 | p :: r, hr, k, h, hk => by
   rw [ahdR] at h
   split at h
   ·cases k with
    | zero => omega
    | succ k => exact qu0 hr.2 k (by omega) (by simpa using hk)
   ·rename_i hp
    cases k with
    | zero => show v ≤ p.v; omega
    | succ k => have := hr.1 _ (qqe (l := r) (i := k) (by simpa using hk)); show v ≤ (r.getD k R0).v; omega
theorem qq1 {v : Int} : ∀ {l : List Pr}, (∀ p ∈ l, p.v ≠ v) → qbb v l = none
 | [], _ => rfl
 | p :: r, h => by rw [qbb, if_neg (h p (by simp)), qq1 fun q hq => h q (by simp [hq])]
theorem qjc {v : Int} : ∀ {l : List Pr} {t : Ty}, qbb v l = some t → ∃ p ∈ l, p.v = v ∧ p.ty = t
 | p :: r, t, h => by
   rw [qbb] at h
   split at h
   ·rename_i hp; exact ⟨p, by simp, hp, by simpa using h⟩
   ·obtain ⟨q, h1, h2⟩ := qjc h; exact ⟨q, by simp [h1], h2⟩
theorem qju {v : Int} : ∀ {l : List Pr}, qbb v l = none → ∀ p ∈ l, p.v ≠ v
 | [], _, p, hp => by simp at hp
 | q :: r, h, p, hp => by
   rw [qbb] at h
   split at h
   ·cases h
   ·rename_i hq
    rcases List.mem_cons.1 hp with rfl | hp
    ·exact hq
    ·exact qju h p hp
theorem qhk {v : Int} : ∀ {l : List Pr}, risR l → qbb v l = if ahdR v l < l.length ∧ (l.getD (ahdR v l) R0).v = v then some (l.getD (ahdR v l) R0).ty else none
 | [], _ => by simp [qbb, ahdR]
 | p :: r, hr => by
   rw [qbb, ahdR]
   by_cases h1 : p.v < v
   ·rw [if_pos h1, if_neg (by omega), qhk hr.2]
    simp only [List.length_cons, List.getD_cons_succ, Nat.add_lt_add_iff_right]
   ·rw [if_neg h1]
    by_cases h2 : p.v = v
    ·rw [if_pos h2, if_pos ⟨by simp, h2⟩]; rfl
    ·rw [if_neg h2, if_neg (fun h => h2 h.2)]
     exact qq1 fun q hq => by have := hr.1 q hq; omega
theorem qme (v : Int) (t : Ty) (p : Pr) (r : List Pr) : insR v t (p :: r) = if p.v < v then p :: insR v t r else ⟨v, t⟩ :: p :: r := by
 rw [insR, ahdR]; split <;> rfl
theorem qp7 (v : Int) (t : Ty) : insR v t [] = [⟨v, t⟩] := rfl
theorem insR_mem {v : Int} {t : Ty} {q : Pr} : ∀ {l : List Pr}, q ∈ insR v t l ↔ q = ⟨v, t⟩ ∨ q ∈ l
 | [] => by simp [qp7]
 | p :: r => by
   rw [qme]
   split
   ·simp only [List.mem_cons, insR_mem (l := r)]
    constructor
    ·rintro (h | h | h) <;> simp [h]
    ·rintro (h | h | h) <;> simp [h]
   ·simp
theorem qqc {v : Int} {t : Ty} : ∀ {l : List Pr}, risR l → qbb v l = none → risR (insR v t l)
 | [], _, _ => ⟨fun q hq => by simp at hq, trivial⟩
 | p :: r, hr, hn => by
   have h1 := qju hn p (by simp)
   rw [qbb, if_neg h1] at hn
   rw [qme]
   split
   ·rename_i h
    refine ⟨fun q hq => ?_, qqc hr.2 hn⟩
    rcases insR_mem.1 hq with rfl | hq
    ·exact h
    ·exact hr.1 q hq
   ·rename_i h
    refine ⟨fun q hq => ?_, hr⟩
    rcases List.mem_cons.1 hq with rfl | hq
    ·show v < q.v; omega
    ·have := hr.1 q hq; show v < q.v; omega
theorem qqz (v : Int) (t : Ty) (l : List Pr) : (insR v t l).length = l.length + 1 := by
 have := qi0 v l
 rw [insR, List.length_append, List.length_cons, List.length_take, List.length_drop]; omega
/-! types in the place of variables -/
mutual
def putY (s : List Pr) : Ty → Ty
 | .mk c v l => if c = [] then (match qbb v s with | some u => u | none => .mk c v l) else .mk c v (qbq s l)
def qbq (s : List Pr) : List Ty → List Ty
 | [] => []
 | x :: r => putY s x :: qbq s r
end
mutual
def sizR (s : List Pr) : Ty → Nat
 | .mk c v l => if c = [] then (match qbb v s with | some u => szY u | none => 1) else 1 + qcj s l
def qcj (s : List Pr) : List Ty → Nat
 | [] => 0
 | x :: r => sizR s x + qcj s r
end
theorem qfz (s : List Pr) : ∀ l, qbq s l = l.map (putY s)
 | [] => by rw [qbq]; rfl
 | x :: r => by rw [qbq, qfz s r]; rfl
theorem qfv (s : List Pr) (l : List Ty) : (qbq s l).length = l.length := by rw [qfz]; simp
theorem qlq (s : List Pr) (t : Ty) : putY s t = if t.con = [] then (match qbb t.var s with | some u => u | none => t) else .mk t.con t.var (qbq s t.args) := by cases t; rw [putY]; rfl
theorem qly (s : List Pr) (t : Ty) : sizR s t = if t.con = [] then (match qbb t.var s with | some u => szY u | none => 1) else 1 + qcj s t.args := by cases t; rw [sizR]; rfl
mutual
def bare : Ty → Prop
 | .mk c v l => (c = [] → l = []) ∧ qjo l
def qjo : List Ty → Prop
 | [] => True
 | x :: r => bare x ∧ qjo r
end
theorem qbdg (t : Ty) : bare t ↔ (t.con = [] → t.args = []) ∧ qjo t.args := by cases t; rw [bare]; rfl
theorem qnl : ∀ {l : List Ty}, qjo l → ∀ x ∈ l, bare x
 | [], _, x, h => by simp at h
 | y :: r, hb, x, h => by
   rcases List.mem_cons.1 h with rfl | h
   ·exact hb.1
   ·exact qnl hb.2 x h
mutual
theorem qk0 (s : List Pr) : ∀ t, bare t → szY (putY s t) = sizR s t
 | .mk c v l, h => by
   rw [bare] at h
   rw [putY, sizR]
   split
   ·rename_i hc
    cases qbb v s with
    | some u => rfl
    | none => rw [h.1 hc, szY, szYs]
   ·rw [szY, qra s l h.2]
theorem qra (s : List Pr) : ∀ l, qjo l → szYs (qbq s l) = qcj s l
 | [], _ => by rw [qbq, szYs, qcj]
 | x :: r, h => by rw [qbq, szYs, qcj, qk0 s x h.1, qra s r h.2]
end
mutual
def bput (s : List Pr) : Ty → Int → Int → Int × Ty
 | .mk c v l, b, k => match (if c = [] then qbb v s else none) with
   | some u => (if 101 < k + dpY u then -1 else b - szY u, u)
   | none => ((qch s l (b - 1) (k + 1)).1, match (qch s l (b - 1) (k + 1)).2 with | some l' => .mk c v l' | none => .mk c v l)
def qch (s : List Pr) : List Ty → Int → Int → Int × Option (List Ty)
 | [], b, k => (b, some [])
 | x :: r, b, k => if b < 0 then (b, none) else ((qch s r (bput s x b k).1 k).1, (qch s r (bput s x b k).1 k).2.map ((bput s x b k).2 :: ·))
end
theorem q6z (s : List Pr) (t : Ty) (b k : Int) : bput s t b k = match (if t.con = [] then qbb t.var s else none) with
 | some u => (if 101 < k + dpY u then -1 else b - szY u, u)
 | none => ((qch s t.args (b - 1) (k + 1)).1, match (qch s t.args (b - 1) (k + 1)).2 with | some l' => .mk t.con t.var l' | none => t) := by cases t; rw [bput]; rfl
theorem qxi (s : List Pr) {b : Int} (h : b < 0) : ∀ (l : List Ty) (k : Int), (qch s l b k).1 = b
 | [], k => by rw [qch]
 | x :: r, k => by rw [qch, if_pos h]
def okR (s : List Pr) : Prop := ∀ p ∈ s, szY p.ty ≤ 4096 ∧ dpY p.ty ≤ 100
theorem qf2 {s : List Pr} (h : okR s) {v : Int} {u : Ty} (hu : qbb v s = some u) : szY u ≤ 4096 ∧ dpY u ≤ 100 := by
 obtain ⟨p, h1, _, rfl⟩ := qjc hu
 exact h p h1
mutual
theorem qq4 (s : List Pr) : ∀ (t : Ty) (b k : Int), bare t → 0 ≤ b → k + dpY t ≤ 101 →
 (((sizR s t : Int) ≤ b ∧ k + dpY (putY s t) ≤ 101) → bput s t b k = (b - sizR s t, putY s t)) ∧ (¬ ((sizR s t : Int) ≤ b ∧ k + dpY (putY s t) ≤ 101) → (bput s t b k).1 < 0)
 | .mk c v l, b, k, hb, h0, hk => by
   rw [bare] at hb
   rw [dpY] at hk
   rw [bput, sizR, putY]
   by_cases hc : c = []
   ·simp only [if_pos hc]
    cases hl : qbb v s with
    | some u =>
      simp only
      refine ⟨fun h => by rw [if_neg (by omega)], fun h => ?_⟩
      split <;> omega
    | none =>
      have h1 := hb.1 hc
      subst h1
      simp only [qch, dpY, dpYs]
      refine ⟨fun h => by simp, fun h => ?_⟩
      omega
   ·simp only [if_neg hc]
    rw [dpY]
    have ih := qnr s l (b - 1) (k + 1) hb.2 (by omega)
    refine ⟨fun h => ?_, fun h => ?_⟩
    ·rw [ih.1 ⟨by omega, by omega, by omega⟩]
     simp only
     congr 1
     omega
    ·exact ih.2 (by omega)
theorem qnr (s : List Pr) : ∀ (l : List Ty) (b k : Int), qjo l → k + dpYs l ≤ 101 →
 ((0 ≤ b ∧ (qcj s l : Int) ≤ b ∧ k + dpYs (qbq s l) ≤ 101) → qch s l b k = (b - qcj s l, some (qbq s l))) ∧ (¬ (0 ≤ b ∧ (qcj s l : Int) ≤ b ∧ k + dpYs (qbq s l) ≤ 101) → (qch s l b k).1 < 0)
 | [], b, k, hb, hk => by
   rw [qch, qcj, qbq, dpYs] at *
   refine ⟨fun h => by simp, fun h => ?_⟩
   simp only
   omega
 | x :: r, b, k, hb, hk => by
   rw [qjo] at hb
   rw [dpYs] at hk
   rw [qch, qcj, qbq, dpYs]
   by_cases h0 : b < 0
   ·rw [if_pos h0]
    exact ⟨fun h => by omega, fun _ => h0⟩
   ·rw [if_neg h0]
    have ih1 := qq4 s x b k hb.1 (by omega) (by omega)
    by_cases h1 : (sizR s x : Int) ≤ b ∧ k + dpY (putY s x) ≤ 101
    ·rw [ih1.1 h1]
     have ih2 := qnr s r (b - sizR s x) k hb.2 (by omega)
     refine ⟨fun h => ?_, fun h => ?_⟩
     ·rw [ih2.1 ⟨by omega, by omega, by omega⟩]
      simp only [Option.map_some]
      congr 1
      omega
     ·exact ih2.2 (by omega)
    ·have h2 := ih1.2 h1
     rw [qxi s h2]
     refine ⟨fun h => ?_, fun h => h2⟩
     exfalso; omega
end
mutual
theorem qq7 {s : List Pr} (hs : okR s) : ∀ (t : Ty) (b k : Int), 0 ≤ b → b ≤ 4096 → -4096 ≤ (bput s t b k).1 ∧ (bput s t b k).1 ≤ 4096
 | .mk c v l, b, k, h0, h1 => by
   rw [bput]
   split
   ·rename_i u hu
    have hl : qbb v s = some u := by
     by_cases hc : c = []
     ·rwa [if_pos hc] at hu
     ·rw [if_neg hc] at hu; cases hu
    have := qf2 hs hl
    simp only
    split <;> omega
   ·simp only
    exact qm6 hs l (b - 1) (k + 1) (by omega) (by omega)
theorem qm6 {s : List Pr} (hs : okR s) : ∀ (l : List Ty) (b k : Int), -4096 ≤ b → b ≤ 4096 → -4096 ≤ (qch s l b k).1 ∧ (qch s l b k).1 ≤ 4096
 | [], b, k, h0, h1 => by rw [qch]; exact ⟨h0, h1⟩
 | x :: r, b, k, h0, h1 => by
   rw [qch]
   split
   ·exact ⟨h0, h1⟩
   ·rename_i h
    have := qq7 hs x b k (by omega) h1
    exact qm6 hs r _ k this.1 this.2
end

/-! one behind the other -/
end Go.V
