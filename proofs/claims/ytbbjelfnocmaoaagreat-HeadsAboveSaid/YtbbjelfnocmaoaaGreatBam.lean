/- Texts of this proof, joined. -/
import Derived.Test.YtbbjelfnocmaoaaGreatBai

/- pairs of a variable and a type, as data -/
namespace Go.V
open Go Go.RowKit
set_option linter.unusedVariables false

structure Pr where
 v : Int
 ty : Ty
def encR (p : Pr) : AV := .agg [.int .i64 p.v, .str p.ty.con, .int .i64 p.ty.var, .sl 3 (qi p.ty.args)]
def qbh (l : List Pr) : List AV := l.map encR
def R0 : Pr := ⟨0, Y0⟩
abbrev prc (p : Pr) : List AV := [.int .i64 p.v, .str p.ty.con, .int .i64 p.ty.var, .sl 3 (qi p.ty.args)]
theorem qy0 (p : Pr) : AV.agg [.int .i64 p.v, .str p.ty.con, .int .i64 p.ty.var, .sl 3 (qi p.ty.args)] = encR p := rfl
theorem qtp (p : Pr) : (encR p).cells = prc p := rfl
theorem qg2 (k : Nat) (p : Pr) : (encR p).bd k = true := by simp only [encR, AV.bd, AV.bds, qbs, Bool.and_true]
theorem qcz (k : Nat) (l : List Pr) : AV.bds k (qbh l) = true := by rw [qbh, qdo, List.all_map, List.all_eq_true]; exact fun x _ => qg2 k x
theorem ql6 (σ : Nat → Nat) (p : Pr) : (encR p).ren σ = encR p := ren_same (m := 0) (fun i hi => by omega) _ (qg2 0 p)
theorem qi2 (σ : Nat → Nat) (l : List Pr) : AV.rens σ (qbh l) = qbh l := qr (m := 0) (fun i hi => by omega) _ (qcz 0 l)
theorem qbi3 (H : List Ent) (p : Pr) : co H (.agg [.id, .id, .id, .sl 3]) (encR p) = encR p := by
 simp only [encR, qn3, qgt, qju, qqo, qf0]
theorem qwl (p : Pr) : rdCo (.agg [.id, .id, .id, .sl 3]) (encR p) = [] := by
 simp only [encR, qf7, qd4, qep, qjf, qd1, List.append_nil]
theorem q1o (p : Pr) : (encR p).isAgg = true := rfl
theorem qnk (p : Pr) : (encR p).leaf = false := rfl
theorem qde (l : List Pr) : (qbh l).length = l.length := by simp [qbh]
theorem qb3 {l : List Pr} {i : Nat} (h : i < l.length) : (qbh l).getD i .junk = encR (l.getD i R0) := by
 rw [qbh, List.getD_eq_getElem?_getD, List.getElem?_map, List.getElem?_eq_getElem h, List.getD_eq_getElem?_getD, List.getElem?_eq_getElem h]; rfl
theorem qq4 {l : List Pr} {i : Nat} (h : i < l.length) : l.getD i R0 ∈ l := by
 rw [List.getD_eq_getElem?_getD, List.getElem?_eq_getElem h]; exact List.getElem_mem h
theorem qbtn {l : List Pr} {i : Nat} (h : i < l.length) : l.drop i = l.getD i R0 :: l.drop (i + 1) := by
 rw [List.drop_eq_getElem_cons h, List.getD_eq_getElem?_getD, List.getElem?_eq_getElem h]; rfl
theorem quh (n : Nat) (l : List Pr) : (qbh l).take n = qbh (l.take n) := by simp [qbh]
theorem qur (n : Nat) (l : List Pr) : (qbh l).drop n = qbh (l.drop n) := by simp [qbh]
theorem q2q (b : Bool) (n off : Nat) (p : Pr) : fldv b n off (encR p) = ldc b n off (prc p) := rfl
theorem qrp {l : List Pr} {n : Nat} (h : (AV.sl n (qbh l)).wf) : l.length ≤ maxLen ∧ ∀ p ∈ l, (encR p).wf := by
 refine ⟨by have := h.1; rwa [qde] at this, fun p hp => (qmh _).1 h.2 _ ?_⟩
 rw [qbh]; exact List.mem_map_of_mem hp
attribute [go_sem] prc q2q qwl qg2 qcz ql6 qi2 qbi3 q1o qtp qy0 qnk qde quh qur
end Go.V

/-
 Types: how great they are, their variables, whether two are the same; texts of numbers.
-/
namespace Go.V
open Go Go.RowKit
set_option linter.unusedVariables false
set_option linter.unusedSimpArgs false

mutual
def szY : Ty → Nat
 | .mk _ _ l => 1 + szYs l
def szYs : List Ty → Nat
 | [] => 0
 | x :: r => szY x + szYs r
end
mutual
def dpY : Ty → Nat
 | .mk _ _ l => 1 + dpYs l
def dpYs : List Ty → Nat
 | [] => 0
 | x :: r => max (dpY x) (dpYs r)
end
mutual
def varY : Ty → List Int
 | .mk c v l => (if c = [] then [v] else []) ++ qg6 l
def qg6 : List Ty → List Int
 | [] => []
 | x :: r => varY x ++ qg6 r
end
theorem qcw (t : Ty) : szY t = 1 + szYs t.args := by cases t; rw [szY]; rfl
theorem qji (t : Ty) : dpY t = 1 + dpYs t.args := by cases t; rw [dpY]; rfl
theorem qv4 (t : Ty) : 1 ≤ szY t := by rw [qcw]; omega
theorem qbf5 (t : Ty) : 1 ≤ dpY t := by rw [qji]; omega

mutual
def qfh : Ty → Ty → Bool
 | .mk c v l, .mk c' v' l' => decide (c = c') && decide (v = v') && qbk l l'
def qbk : List Ty → List Ty → Bool
 | [], [] => true
 | x :: r, y :: r' => qfh x y && qbk r r'
 | _, _ => false
end
theorem qfd (a b : Ty) : qfh a b = (decide (a.con = b.con) && decide (a.var = b.var) && qbk a.args b.args) := by cases a; cases b; rw [qfh]; rfl
theorem qko : ∀ {l l' : List Ty}, l.length ≠ l'.length → qbk l l' = false
 | [], [], h => absurd rfl h
 | [], y :: r', _ => by rw [qbk] <;> simp
 | x :: r, [], _ => by rw [qbk] <;> simp
 | x :: r, y :: r', h => by rw [qbk, qko (l := r) (l' := r') (by simpa using h)]; simp
theorem qea {l l' : List Ty} {i : Nat} (h : i < l.length) (h' : i < l'.length) : qbk (l.drop i) (l'.drop i) = (qfh (l.getD i Y0) (l'.getD i Y0) && qbk (l.drop (i + 1)) (l'.drop (i + 1))) := by
 rw [qg5 h, qg5 h', qbk]
theorem qk1 {l l' : List Ty} {i : Nat} (h : l.length ≤ i) (h' : l'.length ≤ i) : qbk (l.drop i) (l'.drop i) = true := by
 rw [List.drop_of_length_le h, List.drop_of_length_le h', qbk]
theorem qo2 {y : Ty} {r : List Ty} : qbk [] (y :: r) = false := by rw [qbk] <;> simp
theorem qm8 {y : Ty} {r : List Ty} : qbk (y :: r) [] = false := by rw [qbk] <;> simp
theorem qyc {l : List Ty} (h : ∀ x ∈ l, ∀ b, qfh x b = true ↔ x = b) : ∀ l', qbk l l' = true ↔ l = l' := by
 induction l with
 | nil => intro l'; cases l' with
   | nil => simp [qbk]
   | cons y r => rw [qo2]; simp
 | cons x r ih => intro l'; cases l' with
   | nil => rw [qm8]; simp
   | cons y r' =>
     rw [qbk, Bool.and_eq_true, h x (by simp), ih (fun z hz => h z (by simp [hz]))]
     simp
theorem ty_eq {a b : Ty} : a = b ↔ (a.con = b.con ∧ a.var = b.var) ∧ a.args = b.args := by
 cases a; cases b; simp [Ty.con, Ty.var, Ty.args, and_assoc]
theorem qh8 : ∀ a b, qfh a b = true ↔ a = b := Ty.ind fun a ih b => by
 rw [qfd, Bool.and_eq_true, Bool.and_eq_true, qyc ih, ty_eq, decide_eq_true_eq, decide_eq_true_eq]
theorem qy5 (a : Ty) : qfh a a = true := (qh8 a a).2 rfl
mutual
theorem q4c : ∀ t, (varY t).length ≤ szY t
 | .mk c v l => by
   rw [varY, szY, List.length_append]
   have := qor l
   split <;> simp <;> omega
theorem qor : ∀ l, (qg6 l).length ≤ szYs l
 | [] => by simp [qg6]
 | x :: r => by
   rw [qg6, szYs, List.length_append]
   have := q4c x
   have := qor r
   omega
end
theorem qfa : ∀ l : List Ty, l.length ≤ szYs l
 | [] => by simp [szYs]
 | x :: r => by rw [szYs, List.length_cons]; have := qv4 x; have := qfa r; omega
theorem q2s (l r : List Ty) : szYs (l ++ r) = szYs l + szYs r := by
 induction l with
 | nil => simp [szYs]
 | cons x l ih => simp only [List.cons_append, szYs, ih]; omega
theorem qoj : ∀ (l : List Ty) (i : Nat), szYs (l.take i) ≤ szYs l
 | [], i => by simp
 | x :: r, 0 => by simp [szYs]
 | x :: r, i + 1 => by rw [List.take_succ_cons, szYs, szYs]; have := qoj r i; omega
theorem qdc {l : List Ty} {x : Ty} (h : x ∈ l) : szY x ≤ szYs l := by
 induction l with
 | nil => cases h
 | cons y r ih =>
   rw [szYs]
   rcases List.mem_cons.1 h with rfl | h
   ·omega
   ·have := ih h; omega
theorem qhm {l : List Ty} {x : Ty} (h : x ∈ l) : dpY x ≤ dpYs l := by
 induction l with
 | nil => cases h
 | cons y r ih =>
   rw [dpYs]
   rcases List.mem_cons.1 h with rfl | h
   ·omega
   ·have := ih h; omega

def digN (u : Nat) : List UInt8 := if h : u < 10 then [UInt8.ofNat (48 + u)] else digN (u / 10) ++ [UInt8.ofNat (48 + u % 10)]
termination_by u
decreasing_by omega
theorem qfu {u : Nat} (h : u < 10) : digN u = [UInt8.ofNat (48 + u)] := by rw [digN, dif_pos h]
theorem qqx {u : Nat} (h : ¬ u < 10) : digN u = digN (u / 10) ++ [UInt8.ofNat (48 + u % 10)] := by rw [digN, dif_neg h]
theorem qrg : ∀ (k u : Nat), u < 10 ^ (k + 1) → (digN u).length ≤ k + 1
 | 0, u, h => by rw [qfu (by simpa using h)]; simp
 | k + 1, u, h => by
   by_cases h10 : u < 10
   ·rw [qfu h10]; simp
   ·rw [qqx h10, List.length_append]
    have := qrg k (u / 10) (by rw [Nat.div_lt_iff_lt_mul (by omega)]; rw [Nat.pow_succ] at h; exact h)
    simp; exact this
theorem q1c (u : Nat) : 0 < (digN u).length := by
 by_cases h : u < 10
 ·rw [qfu h]; simp
 ·rw [qqx h]; simp
def digI (n : Int) : List UInt8 := if n < 0 then 45 :: digN n.natAbs else digN n.natAbs
def ltrI (n : Int) : List UInt8 := if n < 0 then [] else if n < 26 then [UInt8.ofNat (97 + n.toNat)] else UInt8.ofNat (97 + n.toNat % 26) :: digN (n.toNat / 26)
def qg0 (t : Ty) : List UInt8 := if t.con = [] then (if 0 ≤ t.var then ltrI t.var else 63 :: digI (-1 - t.var)) else t.con
def arrW : List UInt8 := [45, 62]
def parW (b : Bool) (s : List UInt8) : List UInt8 := if b = true then 40 :: (s ++ [41]) else s
mutual
def txtY : Ty → List UInt8
 | .mk c v l => if c = arrW then (match l with | [a, b] => parW (decide (a.con = arrW)) (txtY a) ++ ([32, 45, 62, 32] ++ txtY b) | _ => []) else qg0 (.mk c v l) ++ argY l
def argY : List Ty → List UInt8
 | [] => []
 | a :: r => (32 :: parW (decide (a.args ≠ [])) (txtY a)) ++ argY r
end

def risR : List Pr → Prop
 | [] => True
 | p :: r => (∀ q ∈ r, p.v < q.v) ∧ risR r
def qq (v : Int) : List Pr → Option Ty
 | [] => none
 | p :: r => if p.v = v then some p.ty else qq v r
def ahdR (v : Int) : List Pr → Nat
 | [] => 0
 | p :: r => if p.v < v then ahdR v r + 1 else 0
def insR (v : Int) (t : Ty) (l : List Pr) : List Pr := l.take (ahdR v l) ++ ⟨v, t⟩ :: l.drop (ahdR v l)
theorem qjt (v : Int) : ∀ l, ahdR v l ≤ l.length
 | [] => Nat.le_refl _
 | p :: r => by rw [ahdR]; have := qjt v r; split <;> simp <;> omega
theorem qpo (v : Int) : ∀ (l : List Pr) (k : Nat), k < ahdR v l → (l.getD k R0).v < v
 | [], k, h => by simp [ahdR] at h
 | p :: r, k, h => by
   rw [ahdR] at h
   split at h
   ·rename_i hp
    cases k with
    | zero => exact hp
    | succ k => exact qpo v r k (by omega)
   ·omega
theorem qw2 {v : Int} : ∀ {l : List Pr}, risR l → ∀ (k : Nat), ahdR v l ≤ k → k < l.length → v ≤ (l.getD k R0).v
 | [], _, k, _, h => by simp at h
 | p :: r, hr, k, h, hk => by
   rw [ahdR] at h
   split at h
   ·cases k with
    | zero => omega
    | succ k => exact qw2 hr.2 k (by omega) (by simpa using hk)
   ·rename_i hp
    cases k with
    | zero => show v ≤ p.v; omega
    | succ k => have := hr.1 _ (qq4 (l := r) (i := k) (by simpa using hk)); show v ≤ (r.getD k R0).v; omega
theorem qm0 {v : Int} : ∀ {l : List Pr}, (∀ p ∈ l, p.v ≠ v) → qq v l = none
 | [], _ => rfl
 | p :: r, h => by rw [qq, if_neg (h p (by simp)), qm0 fun q hq => h q (by simp [hq])]
theorem qjs {v : Int} : ∀ {l : List Pr} {t : Ty}, qq v l = some t → ∃ p ∈ l, p.v = v ∧ p.ty = t
 | p :: r, t, h => by
   rw [qq] at h
   split at h
   ·rename_i hp; exact ⟨p, by simp, hp, by simpa using h⟩
   ·obtain ⟨q, h1, h2⟩ := qjs h; exact ⟨q, by simp [h1], h2⟩
theorem qg3 {v : Int} : ∀ {l : List Pr}, qq v l = none → ∀ p ∈ l, p.v ≠ v
 | [], _, p, hp => by simp at hp
 | q :: r, h, p, hp => by
   rw [qq] at h
   split at h
   ·cases h
   ·rename_i hq
    rcases List.mem_cons.1 hp with rfl | hp
    ·exact hq
    ·exact qg3 h p hp
theorem qie {v : Int} : ∀ {l : List Pr}, risR l → qq v l = if ahdR v l < l.length ∧ (l.getD (ahdR v l) R0).v = v then some (l.getD (ahdR v l) R0).ty else none
 | [], _ => by simp [qq, ahdR]
 | p :: r, hr => by
   rw [qq, ahdR]
   by_cases h1 : p.v < v
   ·rw [if_pos h1, if_neg (by omega), qie hr.2]
    simp only [List.length_cons, List.getD_cons_succ, Nat.add_lt_add_iff_right]
   ·rw [if_neg h1]
    by_cases h2 : p.v = v
    ·rw [if_pos h2, if_pos ⟨by simp, h2⟩]; rfl
    ·rw [if_neg h2, if_neg (fun h => h2 h.2)]
     exact qm0 fun q hq => by have := hr.1 q hq; omega
theorem qit (v : Int) (t : Ty) (p : Pr) (r : List Pr) : insR v t (p :: r) = if p.v < v then p :: insR v t r else ⟨v, t⟩ :: p :: r := by
 rw [insR, ahdR]; split <;> rfl
theorem qlu (v : Int) (t : Ty) : insR v t [] = [⟨v, t⟩] := rfl
theorem insR_mem {v : Int} {t : Ty} {q : Pr} : ∀ {l : List Pr}, q ∈ insR v t l ↔ q = ⟨v, t⟩ ∨ q ∈ l
 | [] => by simp [qlu]
 | p :: r => by
   rw [qit]
   split
   ·simp only [List.mem_cons, insR_mem (l := r)]
    constructor
    ·rintro (h | h | h) <;> simp [h]
    ·rintro (h | h | h) <;> simp [h]
   ·simp
theorem qrs {v : Int} {t : Ty} : ∀ {l : List Pr}, risR l → qq v l = none → risR (insR v t l)
 | [], _, _ => ⟨fun q hq => by simp at hq, trivial⟩
 | p :: r, hr, hn => by
   have h1 := qg3 hn p (by simp)
   rw [qq, if_neg h1] at hn
   rw [qit]
   split
   ·rename_i h
    refine ⟨fun q hq => ?_, qrs hr.2 hn⟩
    rcases insR_mem.1 hq with rfl | hq
    ·exact h
    ·exact hr.1 q hq
   ·rename_i h
    refine ⟨fun q hq => ?_, hr⟩
    rcases List.mem_cons.1 hq with rfl | hq
    ·show v < q.v; omega
    ·have := hr.1 q hq; show v < q.v; omega
theorem qe1 {v x : Int} {t : Ty} : ∀ {l : List Pr}, qq v l = none → qq x (insR v t l) = if x = v then some t else qq x l
 | [], _ => by
   rw [qlu, qq, qq]
   by_cases h : x = v
   ·rw [if_pos h.symm, if_pos h]
   ·rw [if_neg (fun h' => h h'.symm), if_neg h]; rfl
 | p :: r, hn => by
   have h1 := qg3 hn p (by simp)
   have hn' := hn
   rw [qq, if_neg h1] at hn'
   rw [qit]
   split
   ·rw [qq, qq, qe1 hn']
    by_cases h : p.v = x
    ·rw [if_pos h, if_pos h, if_neg (fun h' => h1 (h.trans h'))]
    ·rw [if_neg h, if_neg h]
   ·rw [qq]
    by_cases h : x = v
    ·rw [if_pos h.symm, if_pos h]
    ·rw [if_neg (fun h' => h h'.symm), if_neg h]
theorem qrk (v : Int) (t : Ty) (l : List Pr) : (insR v t l).length = l.length + 1 := by
 have := qjt v l
 rw [insR, List.length_append, List.length_cons, List.length_take, List.length_drop]; omega
/-! types in the place of variables -/
mutual
def putY (s : List Pr) : Ty → Ty
 | .mk c v l => if c = [] then (match qq v s with | some u => u | none => .mk c v l) else .mk c v (qby s l)
def qby (s : List Pr) : List Ty → List Ty
 | [] => []
 | x :: r => putY s x :: qby s r
end
mutual
def sizR (s : List Pr) : Ty → Nat
 | .mk c v l => if c = [] then (match qq v s with | some u => szY u | none => 1) else 1 + qco s l
def qco (s : List Pr) : List Ty → Nat
 | [] => 0
 | x :: r => sizR s x + qco s r
end
theorem qfz (s : List Pr) : ∀ l, qby s l = l.map (putY s)
 | [] => by rw [qby]; rfl
 | x :: r => by rw [qby, qfz s r]; rfl
theorem qgq (s : List Pr) (l : List Ty) : (qby s l).length = l.length := by rw [qfz]; simp
theorem ql0 (s : List Pr) (t : Ty) : putY s t = if t.con = [] then (match qq t.var s with | some u => u | none => t) else .mk t.con t.var (qby s t.args) := by cases t; rw [putY]; rfl
theorem qmj (s : List Pr) (t : Ty) : sizR s t = if t.con = [] then (match qq t.var s with | some u => szY u | none => 1) else 1 + qco s t.args := by cases t; rw [sizR]; rfl
mutual
def bare : Ty → Prop
 | .mk c v l => (c = [] → l = []) ∧ qf8 l
def qf8 : List Ty → Prop
 | [] => True
 | x :: r => bare x ∧ qf8 r
end
theorem qbcy (t : Ty) : bare t ↔ (t.con = [] → t.args = []) ∧ qf8 t.args := by cases t; rw [bare]; rfl
theorem qoi : ∀ {l : List Ty}, qf8 l → ∀ x ∈ l, bare x
 | [], _, x, h => by simp at h
 | y :: r, hb, x, h => by
   rcases List.mem_cons.1 h with rfl | h
   ·exact hb.1
   ·exact qoi hb.2 x h
mutual
theorem qmf (s : List Pr) : ∀ t, bare t → szY (putY s t) = sizR s t
 | .mk c v l, h => by
   rw [bare] at h
   rw [putY, sizR]
   split
   ·rename_i hc
    cases qq v s with
    | some u => rfl
    | none => rw [h.1 hc, szY, szYs]
   ·rw [szY, qr0 s l h.2]
theorem qr0 (s : List Pr) : ∀ l, qf8 l → szYs (qby s l) = qco s l
 | [], _ => by rw [qby, szYs, qco]
 | x :: r, h => by rw [qby, szYs, qco, qmf s x h.1, qr0 s r h.2]
end
mutual
def bput (s : List Pr) : Ty → Int → Int → Int × Ty
 | .mk c v l, b, k => match (if c = [] then qq v s else none) with
   | some u => (if 101 < k + dpY u then -1 else b - szY u, u)
   | none => ((qcm s l (b - 1) (k + 1)).1, match (qcm s l (b - 1) (k + 1)).2 with | some l' => .mk c v l' | none => .mk c v l)
def qcm (s : List Pr) : List Ty → Int → Int → Int × Option (List Ty)
 | [], b, k => (b, some [])
 | x :: r, b, k => if b < 0 then (b, none) else ((qcm s r (bput s x b k).1 k).1, (qcm s r (bput s x b k).1 k).2.map ((bput s x b k).2 :: ·))
end
theorem qbgy (s : List Pr) (t : Ty) (b k : Int) : bput s t b k = match (if t.con = [] then qq t.var s else none) with
 | some u => (if 101 < k + dpY u then -1 else b - szY u, u)
 | none => ((qcm s t.args (b - 1) (k + 1)).1, match (qcm s t.args (b - 1) (k + 1)).2 with | some l' => .mk t.con t.var l' | none => t) := by cases t; rw [bput]; rfl
theorem qvn (s : List Pr) {b : Int} (h : b < 0) : ∀ (l : List Ty) (k : Int), (qcm s l b k).1 = b
 | [], k => by rw [qcm]
 | x :: r, k => by rw [qcm, if_pos h]
def okR (s : List Pr) : Prop := ∀ p ∈ s, szY p.ty ≤ 4096 ∧ dpY p.ty ≤ 100
theorem qgm {s : List Pr} (h : okR s) {v : Int} {u : Ty} (hu : qq v s = some u) : szY u ≤ 4096 ∧ dpY u ≤ 100 := by
 obtain ⟨p, h1, _, rfl⟩ := qjs hu
 exact h p h1
mutual
theorem qsj (s : List Pr) : ∀ (t : Ty) (b k : Int), bare t → 0 ≤ b → k + dpY t ≤ 101 →
 (((sizR s t : Int) ≤ b ∧ k + dpY (putY s t) ≤ 101) → bput s t b k = (b - sizR s t, putY s t)) ∧ (¬ ((sizR s t : Int) ≤ b ∧ k + dpY (putY s t) ≤ 101) → (bput s t b k).1 < 0)
 | .mk c v l, b, k, hb, h0, hk => by
   rw [bare] at hb
   rw [dpY] at hk
   rw [bput, sizR, putY]
   by_cases hc : c = []
   ·simp only [if_pos hc]
    cases hl : qq v s with
    | some u =>
      simp only
      refine ⟨fun h => by rw [if_neg (by omega)], fun h => ?_⟩
      split <;> omega
    | none =>
      have h1 := hb.1 hc
      subst h1
      simp only [qcm, dpY, dpYs]
      refine ⟨fun h => by simp, fun h => ?_⟩
      omega
   ·simp only [if_neg hc]
    rw [dpY]
    have ih := qnh s l (b - 1) (k + 1) hb.2 (by omega)
    refine ⟨fun h => ?_, fun h => ?_⟩
    ·rw [ih.1 ⟨by omega, by omega, by omega⟩]
     simp only
     congr 1
     omega
    ·exact ih.2 (by omega)
theorem qnh (s : List Pr) : ∀ (l : List Ty) (b k : Int), qf8 l → k + dpYs l ≤ 101 →
 ((0 ≤ b ∧ (qco s l : Int) ≤ b ∧ k + dpYs (qby s l) ≤ 101) → qcm s l b k = (b - qco s l, some (qby s l))) ∧ (¬ (0 ≤ b ∧ (qco s l : Int) ≤ b ∧ k + dpYs (qby s l) ≤ 101) → (qcm s l b k).1 < 0)
 | [], b, k, hb, hk => by
   rw [qcm, qco, qby, dpYs] at *
   refine ⟨fun h => by simp, fun h => ?_⟩
   simp only
   omega
 | x :: r, b, k, hb, hk => by
   rw [qf8] at hb
   rw [dpYs] at hk
   rw [qcm, qco, qby, dpYs]
   by_cases h0 : b < 0
   ·rw [if_pos h0]
    exact ⟨fun h => by omega, fun _ => h0⟩
   ·rw [if_neg h0]
    have ih1 := qsj s x b k hb.1 (by omega) (by omega)
    by_cases h1 : (sizR s x : Int) ≤ b ∧ k + dpY (putY s x) ≤ 101
    ·rw [ih1.1 h1]
     have ih2 := qnh s r (b - sizR s x) k hb.2 (by omega)
     refine ⟨fun h => ?_, fun h => ?_⟩
     ·rw [ih2.1 ⟨by omega, by omega, by omega⟩]
      simp only [Option.map_some]
      congr 1
      omega
     ·exact ih2.2 (by omega)
    ·have h2 := ih1.2 h1
     rw [qvn s h2]
     refine ⟨fun h => ?_, fun h => h2⟩
     exfalso; omega
end
mutual
theorem qso {s : List Pr} (hs : okR s) : ∀ (t : Ty) (b k : Int), 0 ≤ b → b ≤ 4096 → -4096 ≤ (bput s t b k).1 ∧ (bput s t b k).1 ≤ 4096
 | .mk c v l, b, k, h0, h1 => by
   rw [bput]
   split
   ·rename_i u hu
    have hl : qq v s = some u := by
     by_cases hc : c = []
     ·rwa [if_pos hc] at hu
     ·rw [if_neg hc] at hu; cases hu
    have := qgm hs hl
    simp only
    split <;> omega
   ·simp only
    exact qna hs l (b - 1) (k + 1) (by omega) (by omega)
theorem qna {s : List Pr} (hs : okR s) : ∀ (l : List Ty) (b k : Int), -4096 ≤ b → b ≤ 4096 → -4096 ≤ (qcm s l b k).1 ∧ (qcm s l b k).1 ≤ 4096
 | [], b, k, h0, h1 => by rw [qcm]; exact ⟨h0, h1⟩
 | x :: r, b, k, h0, h1 => by
   rw [qcm]
   split
   ·exact ⟨h0, h1⟩
   ·rename_i h
    have := qso hs x b k (by omega) h1
    exact qna hs r _ k this.1 this.2
end

/-! one behind the other -/
end Go.V
