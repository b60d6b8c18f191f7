/- A text of this proof. -/
import Derived.Test.YtfpobiheiloamaaEak
import Derived.Test.YtfpobiheiloamaaEan

/-
 Rows of pairs by rising variables; types put in the place of variables.
-/
namespace Go.V
open Go Go.RowKit
set_option linter.unusedVariables false
set_option linter.unusedSimpArgs false

def risR : List Pr → Prop
 | [] => True
 | p :: r => (∀ q ∈ r, p.v < q.v) ∧ risR r
def qx (v : Int) : List Pr → Option Ty
 | [] => none
 | p :: r => if p.v = v then some p.ty else qx v r
def ahdR (v : Int) : List Pr → Nat
 | [] => 0
 | p :: r => if p.v < v then ahdR v r + 1 else 0
def insR (v : Int) (t : Ty) (l : List Pr) : List Pr := l.take (ahdR v l) ++ ⟨v, t⟩ :: l.drop (ahdR v l)
theorem qg6 (v : Int) : ∀ l, ahdR v l ≤ l.length
 | [] => Nat.le_refl _
 | p :: r => by rw [ahdR]; have := qg6 v r; split <;> simp <;> omega
theorem qnt (v : Int) : ∀ (l : List Pr) (k : Nat), k < ahdR v l → (l.getD k R0).v < v
 | [], k, h => by simp [ahdR] at h
 | p :: r, k, h => by
   rw [ahdR] at h
   split at h
   ·rename_i hp
    cases k with
    | zero => exact hp
    | succ k => exact qnt v r k (by omega)
   ·omega
theorem qop : ∀ {l : List Pr}, risR l → ∀ (a b : Nat), a < b → b < l.length → (l.getD a R0).v < (l.getD b R0).v
 | [], _, a, b, _, h => by simp at h
 | p :: r, hr, a, b, hab, hb => by
   cases b with
   | zero => omega
   | succ b =>
     have hbl : b < r.length := by simpa using hb
     cases a with
     | zero => exact hr.1 _ (qbx hbl)
     | succ a => exact qop hr.2 a b (by omega) hbl
theorem qtw {v : Int} : ∀ {l : List Pr}, risR l → ∀ (k : Nat), ahdR v l ≤ k → k < l.length → v ≤ (l.getD k R0).v
 | [], _, k, _, h => by simp at h
 | p :: r, hr, k, h, hk => by
   rw [ahdR] at h
   split at h
   ·cases k with
    | zero => omega
    | succ k => exact qtw hr.2 k (by omega) (by simpa using hk)
   ·rename_i hp
    cases k with
    | zero => show v ≤ p.v; omega
    | succ k => have := hr.1 _ (qbx (l := r) (i := k) (by simpa using hk)); show v ≤ (r.getD k R0).v; omega
theorem qkm {v : Int} : ∀ {l : List Pr}, (∀ p ∈ l, p.v ≠ v) → qx v l = none
 | [], _ => rfl
 | p :: r, h => by rw [qx, if_neg (h p (by simp)), qkm fun q hq => h q (by simp [hq])]
theorem qij {v : Int} : ∀ {l : List Pr} {t : Ty}, qx v l = some t → ∃ p ∈ l, p.v = v ∧ p.ty = t
 | p :: r, t, h => by
   rw [qx] at h
   split at h
   ·rename_i hp; exact ⟨p, by simp, hp, by simpa using h⟩
   ·obtain ⟨q, h1, h2⟩ := qij h; exact ⟨q, by simp [h1], h2⟩
theorem qjc {v : Int} : ∀ {l : List Pr}, qx v l = none → ∀ p ∈ l, p.v ≠ v
 | [], _, p, hp => by simp at hp
 | q :: r, h, p, hp => by
   rw [qx] at h
   split at h
   ·cases h
   ·rename_i hq
    rcases List.mem_cons.1 hp with rfl | hp
    ·exact hq
    ·exact qjc h p hp
theorem qgu {v : Int} : ∀ {l : List Pr}, risR l → qx v l = if ahdR v l < l.length ∧ (l.getD (ahdR v l) R0).v = v then some (l.getD (ahdR v l) R0).ty else none
 | [], _ => by simp [qx, ahdR]
 | p :: r, hr => by
   rw [qx, ahdR]
   by_cases h1 : p.v < v
   ·rw [if_pos h1, if_neg (by omega), qgu hr.2]
    simp only [List.length_cons, List.getD_cons_succ, Nat.add_lt_add_iff_right]
   ·rw [if_neg h1]
    by_cases h2 : p.v = v
    ·rw [if_pos h2, if_pos ⟨by simp, h2⟩]; rfl
    ·rw [if_neg h2, if_neg (fun h => h2 h.2)]
     exact qkm fun q hq => by have := hr.1 q hq; omega
theorem qg8 (v : Int) (t : Ty) (p : Pr) (r : List Pr) : insR v t (p :: r) = if p.v < v then p :: insR v t r else ⟨v, t⟩ :: p :: r := by
 rw [insR, ahdR]; split <;> rfl
theorem qpz (v : Int) (t : Ty) : insR v t [] = [⟨v, t⟩] := rfl
theorem insR_mem {v : Int} {t : Ty} {q : Pr} : ∀ {l : List Pr}, q ∈ insR v t l ↔ q = ⟨v, t⟩ ∨ q ∈ l
 | [] => by simp [qpz]
 | p :: r => by
   rw [qg8]
   split
   ·simp only [List.mem_cons, insR_mem (l := r)]
    constructor
    ·rintro (h | h | h) <;> simp [h]
    ·rintro (h | h | h) <;> simp [h]
   ·simp
theorem qoz {v : Int} {t : Ty} : ∀ {l : List Pr}, risR l → qx v l = none → risR (insR v t l)
 | [], _, _ => ⟨fun q hq => by simp at hq, trivial⟩
 | p :: r, hr, hn => by
   have h1 := qjc hn p (by simp)
   rw [qx, if_neg h1] at hn
   rw [qg8]
   split
   ·rename_i h
    refine ⟨fun q hq => ?_, qoz hr.2 hn⟩
    rcases insR_mem.1 hq with rfl | hq
    ·exact h
    ·exact hr.1 q hq
   ·rename_i h
    refine ⟨fun q hq => ?_, hr⟩
    rcases List.mem_cons.1 hq with rfl | hq
    ·show v < q.v; omega
    ·have := hr.1 q hq; show v < q.v; omega
theorem qpw (v : Int) (t : Ty) (l : List Pr) : (insR v t l).length = l.length + 1 := by
 have := qg6 v l
 rw [insR, List.length_append, List.length_cons, List.length_take, List.length_drop]; omega
theorem qpu {v : Int} {t : Ty} : ∀ {l : List Pr}, (∀ p ∈ l, p.v < v) → insR v t l = l ++ [⟨v, t⟩]
 | [], _ => rfl
 | p :: r, h => by rw [qg8, if_pos (h p (by simp)), qpu fun q hq => h q (by simp [hq])]; rfl

/-! types in the place of variables -/
mutual
def putY (s : List Pr) : Ty → Ty
 | .mk c v l => if c = [] then (match qx v s with | some u => u | none => .mk c v l) else .mk c v (qbp s l)
def qbp (s : List Pr) : List Ty → List Ty
 | [] => []
 | x :: r => putY s x :: qbp s r
end
mutual
def sizR (s : List Pr) : Ty → Nat
 | .mk c v l => if c = [] then (match qx v s with | some u => szY u | none => 1) else 1 + qca s l
def qca (s : List Pr) : List Ty → Nat
 | [] => 0
 | x :: r => sizR s x + qca s r
end
theorem qfq (s : List Pr) : ∀ l, qbp s l = l.map (putY s)
 | [] => by rw [qbp]; rfl
 | x :: r => by rw [qbp, qfq s r]; rfl
theorem qe8 (s : List Pr) (l : List Ty) : (qbp s l).length = l.length := by rw [qfq]; simp
theorem qke (s : List Pr) (t : Ty) : putY s t = if t.con = [] then (match qx t.var s with | some u => u | none => t) else .mk t.con t.var (qbp s t.args) := by cases t; rw [putY]; rfl
theorem qj4 (s : List Pr) (t : Ty) : sizR s t = if t.con = [] then (match qx t.var s with | some u => szY u | none => 1) else 1 + qca s t.args := by cases t; rw [sizR]; rfl
mutual
def bare : Ty → Prop
 | .mk c v l => (c = [] → l = []) ∧ qim l
def qim : List Ty → Prop
 | [] => True
 | x :: r => bare x ∧ qim r
end
theorem q3y (t : Ty) : bare t ↔ (t.con = [] → t.args = []) ∧ qim t.args := by cases t; rw [bare]; rfl
theorem ql1 : ∀ {l : List Ty}, qim l → ∀ x ∈ l, bare x
 | [], _, x, h => by simp at h
 | y :: r, hb, x, h => by
   rcases List.mem_cons.1 h with rfl | h
   ·exact hb.1
   ·exact ql1 hb.2 x h
mutual
theorem qks (s : List Pr) : ∀ t, bare t → szY (putY s t) = sizR s t
 | .mk c v l, h => by
   rw [bare] at h
   rw [putY, sizR]
   split
   ·rename_i hc
    cases qx v s with
    | some u => rfl
    | none => rw [h.1 hc, szY, szYs]
   ·rw [szY, qpl s l h.2]
theorem qpl (s : List Pr) : ∀ l, qim l → szYs (qbp s l) = qca s l
 | [], _ => by rw [qbp, szYs, qca]
 | x :: r, h => by rw [qbp, szYs, qca, qks s x h.1, qpl s r h.2]
end
mutual
def bput (s : List Pr) : Ty → Int → Int → Int × Ty
 | .mk c v l, b, k => match (if c = [] then qx v s else none) with
   | some u => (if 101 < k + dpY u then -1 else b - szY u, u)
   | none => ((qb8 s l (b - 1) (k + 1)).1, match (qb8 s l (b - 1) (k + 1)).2 with | some l' => .mk c v l' | none => .mk c v l)
def qb8 (s : List Pr) : List Ty → Int → Int → Int × Option (List Ty)
 | [], b, k => (b, some [])
 | x :: r, b, k => if b < 0 then (b, none) else ((qb8 s r (bput s x b k).1 k).1, (qb8 s r (bput s x b k).1 k).2.map ((bput s x b k).2 :: ·))
end
theorem q5l (s : List Pr) (t : Ty) (b k : Int) : bput s t b k = match (if t.con = [] then qx t.var s else none) with
 | some u => (if 101 < k + dpY u then -1 else b - szY u, u)
 | none => ((qb8 s t.args (b - 1) (k + 1)).1, match (qb8 s t.args (b - 1) (k + 1)).2 with | some l' => .mk t.con t.var l' | none => t) := by cases t; rw [bput]; rfl
theorem qtb (s : List Pr) {b : Int} (h : b < 0) : ∀ (l : List Ty) (k : Int), (qb8 s l b k).1 = b
 | [], k => by rw [qb8]
 | x :: r, k => by rw [qb8, if_pos h]
def okR (s : List Pr) : Prop := ∀ p ∈ s, szY p.ty ≤ 4096 ∧ dpY p.ty ≤ 100
theorem qfl {s : List Pr} (h : okR s) {v : Int} {u : Ty} (hu : qx v s = some u) : szY u ≤ 4096 ∧ dpY u ≤ 100 := by
 obtain ⟨p, h1, _, rfl⟩ := qij hu
 exact h p h1
mutual
theorem qou (s : List Pr) : ∀ (t : Ty) (b k : Int), bare t → 0 ≤ b → k + dpY t ≤ 101 →
 (((sizR s t : Int) ≤ b ∧ k + dpY (putY s t) ≤ 101) → bput s t b k = (b - sizR s t, putY s t)) ∧ (¬ ((sizR s t : Int) ≤ b ∧ k + dpY (putY s t) ≤ 101) → (bput s t b k).1 < 0)
 | .mk c v l, b, k, hb, h0, hk => by
   rw [bare] at hb
   rw [dpY] at hk
   rw [bput, sizR, putY]
   by_cases hc : c = []
   ·simp only [if_pos hc]
    cases hl : qx v s with
    | some u =>
      simp only
      refine ⟨fun h => by rw [if_neg (by omega)], fun h => ?_⟩
      split <;> omega
    | none =>
      have h1 := hb.1 hc
      subst h1
      simp only [qb8, dpY, dpYs]
      refine ⟨fun h => by simp, fun h => ?_⟩
      omega
   ·simp only [if_neg hc]
    rw [dpY]
    have ih := qm1 s l (b - 1) (k + 1) hb.2 (by omega)
    refine ⟨fun h => ?_, fun h => ?_⟩
    ·rw [ih.1 ⟨by omega, by omega, by omega⟩]
     simp only
     congr 1
     omega
    ·exact ih.2 (by omega)
theorem qm1 (s : List Pr) : ∀ (l : List Ty) (b k : Int), qim l → k + dpYs l ≤ 101 →
 ((0 ≤ b ∧ (qca s l : Int) ≤ b ∧ k + dpYs (qbp s l) ≤ 101) → qb8 s l b k = (b - qca s l, some (qbp s l))) ∧ (¬ (0 ≤ b ∧ (qca s l : Int) ≤ b ∧ k + dpYs (qbp s l) ≤ 101) → (qb8 s l b k).1 < 0)
 | [], b, k, hb, hk => by
   rw [qb8, qca, qbp, dpYs] at *
   refine ⟨fun h => by simp, fun h => ?_⟩
   simp only
   omega
 | x :: r, b, k, hb, hk => by
   rw [qim] at hb
   rw [dpYs] at hk
   rw [qb8, qca, qbp, dpYs]
   by_cases h0 : b < 0
   ·rw [if_pos h0]
    exact ⟨fun h => by omega, fun _ => h0⟩
   ·rw [if_neg h0]
    have ih1 := qou s x b k hb.1 (by omega) (by omega)
    by_cases h1 : (sizR s x : Int) ≤ b ∧ k + dpY (putY s x) ≤ 101
    ·rw [ih1.1 h1]
     have ih2 := qm1 s r (b - sizR s x) k hb.2 (by omega)
     refine ⟨fun h => ?_, fun h => ?_⟩
     ·rw [ih2.1 ⟨by omega, by omega, by omega⟩]
      simp only [Option.map_some]
      congr 1
      omega
     ·exact ih2.2 (by omega)
    ·have h2 := ih1.2 h1
     rw [qtb s h2]
     refine ⟨fun h => ?_, fun h => h2⟩
     exfalso; omega
end
mutual
theorem qo9 {s : List Pr} (hs : okR s) : ∀ (t : Ty) (b k : Int), 0 ≤ b → b ≤ 4096 → -4096 ≤ (bput s t b k).1 ∧ (bput s t b k).1 ≤ 4096
 | .mk c v l, b, k, h0, h1 => by
   rw [bput]
   split
   ·rename_i u hu
    have hl : qx v s = some u := by
     by_cases hc : c = []
     ·rwa [if_pos hc] at hu
     ·rw [if_neg hc] at hu; cases hu
    have := qfl hs hl
    simp only
    split <;> omega
   ·simp only
    exact qmg hs l (b - 1) (k + 1) (by omega) (by omega)
theorem qmg {s : List Pr} (hs : okR s) : ∀ (l : List Ty) (b k : Int), -4096 ≤ b → b ≤ 4096 → -4096 ≤ (qb8 s l b k).1 ∧ (qb8 s l b k).1 ≤ 4096
 | [], b, k, h0, h1 => by rw [qb8]; exact ⟨h0, h1⟩
 | x :: r, b, k, h0, h1 => by
   rw [qb8]
   split
   ·exact ⟨h0, h1⟩
   ·rename_i h
    have := qo9 hs x b k (by omega) h1
    exact qmg hs r _ k this.1 this.2
end

/-! one behind the other -/
end Go.V
