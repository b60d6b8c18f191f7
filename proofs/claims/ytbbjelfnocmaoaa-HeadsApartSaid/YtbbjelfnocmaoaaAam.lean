/- Texts of this proof, joined. -/
import Derived.Test.YtbbjelfnocmaoaaAai

/- pairs of a variable and a type, as data -/
namespace Go.V
open Go Go.RowKit
set_option linter.unusedVariables false

structure Pr where
 v : Int
 ty : Ty
def encR (p : Pr) : AV := .agg [.int .i64 p.v, .str p.ty.con, .int .i64 p.ty.var, .sl 3 (ql p.ty.args)]
def qci (l : List Pr) : List AV := l.map encR
def R0 : Pr := ⟨0, Y0⟩
abbrev prc (p : Pr) : List AV := [.int .i64 p.v, .str p.ty.con, .int .i64 p.ty.var, .sl 3 (ql p.ty.args)]
theorem qtd (p : Pr) : AV.agg [.int .i64 p.v, .str p.ty.con, .int .i64 p.ty.var, .sl 3 (ql p.ty.args)] = encR p := rfl
theorem qrr (p : Pr) : (encR p).cells = prc p := rfl
theorem qga (k : Nat) (p : Pr) : (encR p).bd k = true := by simp only [encR, AV.bd, AV.bds, qbs, Bool.and_true]
theorem qef (k : Nat) (l : List Pr) : AV.bds k (qci l) = true := by rw [qci, qcr, List.all_map, List.all_eq_true]; exact fun x _ => qga k x
theorem qki (σ : Nat → Nat) (p : Pr) : (encR p).ren σ = encR p := ren_same (m := 0) (fun i hi => by omega) _ (qga 0 p)
theorem qin (σ : Nat → Nat) (l : List Pr) : AV.rens σ (qci l) = qci l := qj (m := 0) (fun i hi => by omega) _ (qef 0 l)
theorem q18 (H : List Ent) (p : Pr) : co H (.agg [.id, .id, .id, .sl 3]) (encR p) = encR p := by
 simp only [encR, qlx, qfd, qg4, qmw, qfi]
theorem qvg (p : Pr) : rdCo (.agg [.id, .id, .id, .sl 3]) (encR p) = [] := by
 simp only [encR, qex, qc6, qd0, qim, qc4, List.append_nil]
theorem qx7 (p : Pr) : (encR p).isAgg = true := rfl
theorem qlf (p : Pr) : (encR p).leaf = false := rfl
theorem qfg (l : List Pr) : (qci l).length = l.length := by simp [qci]
theorem qeb {l : List Pr} {i : Nat} (h : i < l.length) : (qci l).getD i .junk = encR (l.getD i R0) := by
 rw [qci, List.getD_eq_getElem?_getD, List.getElem?_map, List.getElem?_eq_getElem h, List.getD_eq_getElem?_getD, List.getElem?_eq_getElem h]; rfl
theorem qoq {l : List Pr} {i : Nat} (h : i < l.length) : l.getD i R0 ∈ l := by
 rw [List.getD_eq_getElem?_getD, List.getElem?_eq_getElem h]; exact List.getElem_mem h
theorem qp2 (n : Nat) (l : List Pr) : (qci l).take n = qci (l.take n) := by simp [qci]
theorem qrd (n : Nat) (l : List Pr) : (qci l).drop n = qci (l.drop n) := by simp [qci]
theorem qxv (b : Bool) (n off : Nat) (p : Pr) : fldv b n off (encR p) = ldc b n off (prc p) := rfl
attribute [go_sem] prc qxv qvg qga qef qki qin q18 qx7 qrr qtd qlf qfg qp2 qrd
end Go.V

/-
 Types: how great they are, their variables, whether two are the same; texts of numbers.
-/
namespace Go.V
open Go Go.RowKit
set_option linter.unusedVariables false
set_option linter.unusedSimpArgs false

mutual
def szY : Ty → Nat
 | .mk _ _ l => 1 + szYs l
def szYs : List Ty → Nat
 | [] => 0
 | x :: r => szY x + szYs r
end
mutual
def dpY : Ty → Nat
 | .mk _ _ l => 1 + dpYs l
def dpYs : List Ty → Nat
 | [] => 0
 | x :: r => max (dpY x) (dpYs r)
end
mutual
def varY : Ty → List Int
 | .mk c v l => (if c = [] then [v] else []) ++ qvn l
def qvn : List Ty → List Int
 | [] => []
 | x :: r => varY x ++ qvn r
end
theorem qhf (t : Ty) : szY t = 1 + szYs t.args := by cases t; rw [szY]; rfl
theorem qvq (t : Ty) : dpY t = 1 + dpYs t.args := by cases t; rw [dpY]; rfl
theorem q5e (t : Ty) : 1 ≤ szY t := by rw [qhf]; omega
theorem q7u (t : Ty) : 1 ≤ dpY t := by rw [qvq]; omega

mutual
def qbhw : Ty → Ty → Bool
 | .mk c v l, .mk c' v' l' => decide (c = c') && decide (v = v') && qz5 l l'
def qz5 : List Ty → List Ty → Bool
 | [], [] => true
 | x :: r, y :: r' => qbhw x y && qz5 r r'
 | _, _ => false
end
mutual
theorem qvx : ∀ t, (varY t).length ≤ szY t
 | .mk c v l => by
   rw [varY, szY, List.length_append]
   have := qk4 l
   split <;> simp <;> omega
theorem qk4 : ∀ l, (qvn l).length ≤ szYs l
 | [] => by simp [qvn]
 | x :: r => by
   rw [qvn, szYs, List.length_append]
   have := qvx x
   have := qk4 r
   omega
end
theorem qgt : ∀ l : List Ty, l.length ≤ szYs l
 | [] => by simp [szYs]
 | x :: r => by rw [szYs, List.length_cons]; have := q5e x; have := qgt r; omega
theorem qyl (l r : List Ty) : szYs (l ++ r) = szYs l + szYs r := by
 induction l with
 | nil => simp [szYs]
 | cons x l ih => simp only [List.cons_append, szYs, ih]; omega
theorem qkq {l : List Ty} {x : Ty} (h : x ∈ l) : szY x ≤ szYs l := by
 induction l with
 | nil => cases h
 | cons y r ih =>
   rw [szYs]
   rcases List.mem_cons.1 h with rfl | h
   ·omega
   ·have := ih h; omega
theorem qmv {l : List Ty} {x : Ty} (h : x ∈ l) : dpY x ≤ dpYs l := by
 induction l with
 | nil => cases h
 | cons y r ih =>
   rw [dpYs]
   rcases List.mem_cons.1 h with rfl | h
   ·omega
   ·have := ih h; omega

def digN (u : Nat) : List UInt8 := if h : u < 10 then [UInt8.ofNat (48 + u)] else digN (u / 10) ++ [UInt8.ofNat (48 + u % 10)]
termination_by u
decreasing_by omega
theorem qhb {u : Nat} (h : u < 10) : digN u = [UInt8.ofNat (48 + u)] := by rw [digN, dif_pos h]
theorem qms {u : Nat} (h : ¬ u < 10) : digN u = digN (u / 10) ++ [UInt8.ofNat (48 + u % 10)] := by rw [digN, dif_neg h]
theorem qpf : ∀ (k u : Nat), u < 10 ^ (k + 1) → (digN u).length ≤ k + 1
 | 0, u, h => by rw [qhb (by simpa using h)]; simp
 | k + 1, u, h => by
   by_cases h10 : u < 10
   ·rw [qhb h10]; simp
   ·rw [qms h10, List.length_append]
    have := qpf k (u / 10) (by rw [Nat.div_lt_iff_lt_mul (by omega)]; rw [Nat.pow_succ] at h; exact h)
    simp; exact this
theorem qws (u : Nat) : 0 < (digN u).length := by
 by_cases h : u < 10
 ·rw [qhb h]; simp
 ·rw [qms h]; simp
def digI (n : Int) : List UInt8 := if n < 0 then 45 :: digN n.natAbs else digN n.natAbs
def ltrI (n : Int) : List UInt8 := if n < 0 then [] else if n < 26 then [UInt8.ofNat (97 + n.toNat)] else UInt8.ofNat (97 + n.toNat % 26) :: digN (n.toNat / 26)
def qf8 (t : Ty) : List UInt8 := if t.con = [] then (if 0 ≤ t.var then ltrI t.var else 63 :: digI (-1 - t.var)) else t.con
def arrW : List UInt8 := [45, 62]
def parW (b : Bool) (s : List UInt8) : List UInt8 := if b = true then 40 :: (s ++ [41]) else s
mutual
def txtY : Ty → List UInt8
 | .mk c v l => if c = arrW then (match l with | [a, b] => parW (decide (a.con = arrW)) (txtY a) ++ ([32, 45, 62, 32] ++ txtY b) | _ => []) else qf8 (.mk c v l) ++ argY l
def argY : List Ty → List UInt8
 | [] => []
 | a :: r => (32 :: parW (decide (a.args ≠ [])) (txtY a)) ++ argY r
end

def risR : List Pr → Prop
 | [] => True
 | p :: r => (∀ q ∈ r, p.v < q.v) ∧ risR r
def qbl (v : Int) : List Pr → Option Ty
 | [] => none
 | p :: r => if p.v = v then some p.ty else qbl v r
def ahdR (v : Int) : List Pr → Nat
 | [] => 0
 | p :: r => if p.v < v then ahdR v r + 1 else 0
def insR (v : Int) (t : Ty) (l : List Pr) : List Pr := l.take (ahdR v l) ++ ⟨v, t⟩ :: l.drop (ahdR v l)
theorem qke (v : Int) : ∀ l, ahdR v l ≤ l.length
 | [] => Nat.le_refl _
 | p :: r => by rw [ahdR]; have := qke v r; split <;> simp <;> omega
theorem qss (v : Int) : ∀ (l : List Pr) (k : Nat), k < ahdR v l → (l.getD k R0).v < v
 | [], k, h => by simp [ahdR] at h
 | p :: r, k, h => by
   rw [ahdR] at h
   split at h
   ·rename_i hp
    cases k with
    | zero => exact hp
    | succ k => exact qss v r k (by omega)
   ·omega
theorem qtk {v : Int} : ∀ {l : List Pr}, risR l → ∀ (k : Nat), ahdR v l ≤ k → k < l.length → v ≤ (l.getD k R0).v
 | [], _, k, _, h => by simp at h
 | p :: r, hr, k, h, hk => by
   rw [ahdR] at h
   split at h
   ·cases k with
    | zero => omega
    | succ k => exact qtk hr.2 k (by omega) (by simpa using hk)
   ·rename_i hp
    cases k with
    | zero => show v ≤ p.v; omega
    | succ k => have := hr.1 _ (qoq (l := r) (i := k) (by simpa using hk)); show v ≤ (r.getD k R0).v; omega
theorem qoc {v : Int} : ∀ {l : List Pr}, (∀ p ∈ l, p.v ≠ v) → qbl v l = none
 | [], _ => rfl
 | p :: r, h => by rw [qbl, if_neg (h p (by simp)), qoc fun q hq => h q (by simp [hq])]
theorem qhq {v : Int} : ∀ {l : List Pr} {t : Ty}, qbl v l = some t → ∃ p ∈ l, p.v = v ∧ p.ty = t
 | p :: r, t, h => by
   rw [qbl] at h
   split at h
   ·rename_i hp; exact ⟨p, by simp, hp, by simpa using h⟩
   ·obtain ⟨q, h1, h2⟩ := qhq h; exact ⟨q, by simp [h1], h2⟩
theorem qje {v : Int} : ∀ {l : List Pr}, qbl v l = none → ∀ p ∈ l, p.v ≠ v
 | [], _, p, hp => by simp at hp
 | q :: r, h, p, hp => by
   rw [qbl] at h
   split at h
   ·cases h
   ·rename_i hq
    rcases List.mem_cons.1 hp with rfl | hp
    ·exact hq
    ·exact qje h p hp
theorem qgr {v : Int} : ∀ {l : List Pr}, risR l → qbl v l = if ahdR v l < l.length ∧ (l.getD (ahdR v l) R0).v = v then some (l.getD (ahdR v l) R0).ty else none
 | [], _ => by simp [qbl, ahdR]
 | p :: r, hr => by
   rw [qbl, ahdR]
   by_cases h1 : p.v < v
   ·rw [if_pos h1, if_neg (by omega), qgr hr.2]
    simp only [List.length_cons, List.getD_cons_succ, Nat.add_lt_add_iff_right]
   ·rw [if_neg h1]
    by_cases h2 : p.v = v
    ·rw [if_pos h2, if_pos ⟨by simp, h2⟩]; rfl
    ·rw [if_neg h2, if_neg (fun h => h2 h.2)]
     exact qoc fun q hq => by have := hr.1 q hq; omega
theorem qk1 (v : Int) (t : Ty) (p : Pr) (r : List Pr) : insR v t (p :: r) = if p.v < v then p :: insR v t r else ⟨v, t⟩ :: p :: r := by
 rw [insR, ahdR]; split <;> rfl
theorem qn7 (v : Int) (t : Ty) : insR v t [] = [⟨v, t⟩] := rfl
theorem insR_mem {v : Int} {t : Ty} {q : Pr} : ∀ {l : List Pr}, q ∈ insR v t l ↔ q = ⟨v, t⟩ ∨ q ∈ l
 | [] => by simp [qn7]
 | p :: r => by
   rw [qk1]
   split
   ·simp only [List.mem_cons, insR_mem (l := r)]
    constructor
    ·rintro (h | h | h) <;> simp [h]
    ·rintro (h | h | h) <;> simp [h]
   ·simp
theorem qpq {v : Int} {t : Ty} : ∀ {l : List Pr}, risR l → qbl v l = none → risR (insR v t l)
 | [], _, _ => ⟨fun q hq => by simp at hq, trivial⟩
 | p :: r, hr, hn => by
   have h1 := qje hn p (by simp)
   rw [qbl, if_neg h1] at hn
   rw [qk1]
   split
   ·rename_i h
    refine ⟨fun q hq => ?_, qpq hr.2 hn⟩
    rcases insR_mem.1 hq with rfl | hq
    ·exact h
    ·exact hr.1 q hq
   ·rename_i h
    refine ⟨fun q hq => ?_, hr⟩
    rcases List.mem_cons.1 hq with rfl | hq
    ·show v < q.v; omega
    ·have := hr.1 q hq; show v < q.v; omega
theorem qo6 (v : Int) (t : Ty) (l : List Pr) : (insR v t l).length = l.length + 1 := by
 have := qke v l
 rw [insR, List.length_append, List.length_cons, List.length_take, List.length_drop]; omega
/-! types in the place of variables -/
mutual
def putY (s : List Pr) : Ty → Ty
 | .mk c v l => if c = [] then (match qbl v s with | some u => u | none => .mk c v l) else .mk c v (qd3 s l)
def qd3 (s : List Pr) : List Ty → List Ty
 | [] => []
 | x :: r => putY s x :: qd3 s r
end
mutual
def sizR (s : List Pr) : Ty → Nat
 | .mk c v l => if c = [] then (match qbl v s with | some u => szY u | none => 1) else 1 + qiw s l
def qiw (s : List Pr) : List Ty → Nat
 | [] => 0
 | x :: r => sizR s x + qiw s r
end
theorem qk3 (s : List Pr) : ∀ l, qd3 s l = l.map (putY s)
 | [] => by rw [qd3]; rfl
 | x :: r => by rw [qd3, qk3 s r]; rfl
theorem qtg (s : List Pr) (l : List Ty) : (qd3 s l).length = l.length := by rw [qk3]; simp
mutual
def bare : Ty → Prop
 | .mk c v l => (c = [] → l = []) ∧ qiz l
def qiz : List Ty → Prop
 | [] => True
 | x :: r => bare x ∧ qiz r
end
theorem q30 (t : Ty) : bare t ↔ (t.con = [] → t.args = []) ∧ qiz t.args := by cases t; rw [bare]; rfl
theorem ql2 : ∀ {l : List Ty}, qiz l → ∀ x ∈ l, bare x
 | [], _, x, h => by simp at h
 | y :: r, hb, x, h => by
   rcases List.mem_cons.1 h with rfl | h
   ·exact hb.1
   ·exact ql2 hb.2 x h
mutual
theorem qmu (s : List Pr) : ∀ t, bare t → szY (putY s t) = sizR s t
 | .mk c v l, h => by
   rw [bare] at h
   rw [putY, sizR]
   split
   ·rename_i hc
    cases qbl v s with
    | some u => rfl
    | none => rw [h.1 hc, szY, szYs]
   ·rw [szY, qo1 s l h.2]
theorem qo1 (s : List Pr) : ∀ l, qiz l → szYs (qd3 s l) = qiw s l
 | [], _ => by rw [qd3, szYs, qiw]
 | x :: r, h => by rw [qd3, szYs, qiw, qmu s x h.1, qo1 s r h.2]
end
mutual
def bput (s : List Pr) : Ty → Int → Int → Int × Ty
 | .mk c v l, b, k => match (if c = [] then qbl v s else none) with
   | some u => (if 101 < k + dpY u then -1 else b - szY u, u)
   | none => ((qb0 s l (b - 1) (k + 1)).1, match (qb0 s l (b - 1) (k + 1)).2 with | some l' => .mk c v l' | none => .mk c v l)
def qb0 (s : List Pr) : List Ty → Int → Int → Int × Option (List Ty)
 | [], b, k => (b, some [])
 | x :: r, b, k => if b < 0 then (b, none) else ((qb0 s r (bput s x b k).1 k).1, (qb0 s r (bput s x b k).1 k).2.map ((bput s x b k).2 :: ·))
end
theorem q4m (s : List Pr) (t : Ty) (b k : Int) : bput s t b k = match (if t.con = [] then qbl t.var s else none) with
 | some u => (if 101 < k + dpY u then -1 else b - szY u, u)
 | none => ((qb0 s t.args (b - 1) (k + 1)).1, match (qb0 s t.args (b - 1) (k + 1)).2 with | some l' => .mk t.con t.var l' | none => t) := by cases t; rw [bput]; rfl
theorem qtb (s : List Pr) {b : Int} (h : b < 0) : ∀ (l : List Ty) (k : Int), (qb0 s l b k).1 = b
 | [], k => by rw [qb0]
 | x :: r, k => by rw [qb0, if_pos h]
def okR (s : List Pr) : Prop := ∀ p ∈ s, szY p.ty ≤ 4096 ∧ dpY p.ty ≤ 100
theorem qpu {s : List Pr} (h : okR s) {v : Int} {u : Ty} (hu : qbl v s = some u) : szY u ≤ 4096 ∧ dpY u ≤ 100 := by
 obtain ⟨p, h1, _, rfl⟩ := qhq hu
 exact h p h1
mutual
theorem qpb (s : List Pr) : ∀ (t : Ty) (b k : Int), bare t → 0 ≤ b → k + dpY t ≤ 101 →
 (((sizR s t : Int) ≤ b ∧ k + dpY (putY s t) ≤ 101) → bput s t b k = (b - sizR s t, putY s t)) ∧ (¬ ((sizR s t : Int) ≤ b ∧ k + dpY (putY s t) ≤ 101) → (bput s t b k).1 < 0)
 | .mk c v l, b, k, hb, h0, hk => by
   rw [bare] at hb
   rw [dpY] at hk
   rw [bput, sizR, putY]
   by_cases hc : c = []
   ·simp only [if_pos hc]
    cases hl : qbl v s with
    | some u =>
      simp only
      refine ⟨fun h => by rw [if_neg (by omega)], fun h => ?_⟩
      split <;> omega
    | none =>
      have h1 := hb.1 hc
      subst h1
      simp only [qb0, dpY, dpYs]
      refine ⟨fun h => by simp, fun h => ?_⟩
      omega
   ·simp only [if_neg hc]
    rw [dpY]
    have ih := qmf s l (b - 1) (k + 1) hb.2 (by omega)
    refine ⟨fun h => ?_, fun h => ?_⟩
    ·rw [ih.1 ⟨by omega, by omega, by omega⟩]
     simp only
     congr 1
     omega
    ·exact ih.2 (by omega)
theorem qmf (s : List Pr) : ∀ (l : List Ty) (b k : Int), qiz l → k + dpYs l ≤ 101 →
 ((0 ≤ b ∧ (qiw s l : Int) ≤ b ∧ k + dpYs (qd3 s l) ≤ 101) → qb0 s l b k = (b - qiw s l, some (qd3 s l))) ∧ (¬ (0 ≤ b ∧ (qiw s l : Int) ≤ b ∧ k + dpYs (qd3 s l) ≤ 101) → (qb0 s l b k).1 < 0)
 | [], b, k, hb, hk => by
   rw [qb0, qiw, qd3, dpYs] at *
   refine ⟨fun h => by simp, fun h => ?_⟩
   simp only
   omega
 | x :: r, b, k, hb, hk => by
   rw [qiz] at hb
   rw [dpYs] at hk
   rw [qb0, qiw, qd3, dpYs]
   by_cases h0 : b < 0
   ·rw [if_pos h0]
    exact ⟨fun h => by omega, fun _ => h0⟩
   ·rw [if_neg h0]
    have ih1 := qpb s x b k hb.1 (by omega) (by omega)
    by_cases h1 : (sizR s x : Int) ≤ b ∧ k + dpY (putY s x) ≤ 101
    ·rw [ih1.1 h1]
     have ih2 := qmf s r (b - sizR s x) k hb.2 (by omega)
     refine ⟨fun h => ?_, fun h => ?_⟩
     ·rw [ih2.1 ⟨by omega, by omega, by omega⟩]
      simp only [Option.map_some]
      congr 1
      omega
     ·exact ih2.2 (by omega)
    ·have h2 := ih1.2 h1
     rw [qtb s h2]
     refine ⟨fun h => ?_, fun h => h2⟩
     exfalso; omega
end
mutual
theorem qo9 {s : List Pr} (hs : okR s) : ∀ (t : Ty) (b k : Int), 0 ≤ b → b ≤ 4096 → -4096 ≤ (bput s t b k).1 ∧ (bput s t b k).1 ≤ 4096
 | .mk c v l, b, k, h0, h1 => by
   rw [bput]
   split
   ·rename_i u hu
    have hl : qbl v s = some u := by
     by_cases hc : c = []
     ·rwa [if_pos hc] at hu
     ·rw [if_neg hc] at hu; cases hu
    have := qpu hs hl
    simp only
    split <;> omega
   ·simp only
    exact qmd hs l (b - 1) (k + 1) (by omega) (by omega)
theorem qmd {s : List Pr} (hs : okR s) : ∀ (l : List Ty) (b k : Int), -4096 ≤ b → b ≤ 4096 → -4096 ≤ (qb0 s l b k).1 ∧ (qb0 s l b k).1 ≤ 4096
 | [], b, k, h0, h1 => by rw [qb0]; exact ⟨h0, h1⟩
 | x :: r, b, k, h0, h1 => by
   rw [qb0]
   split
   ·exact ⟨h0, h1⟩
   ·rename_i h
    have := qo9 hs x b k (by omega) h1
    exact qmd hs r _ k this.1 this.2
end

/-! one behind the other -/
end Go.V
