/- A text of this proof. -/
import Derived.Test.YtfpobiheiloamaaTak
import Derived.Test.YtfpobiheiloamaaTan

/-
 Rows of pairs by rising variables; types put in the place of variables.
-/
namespace Go.V
open Go Go.RowKit
set_option linter.unusedVariables false
set_option linter.unusedSimpArgs false

def risR : List Pr → Prop
 | [] => True
 | p :: r => (∀ q ∈ r, p.v < q.v) ∧ risR r
def ql (v : Int) : List Pr → Option Ty
 | [] => none
 | p :: r => if p.v = v then some p.ty else ql v r
def ahdR (v : Int) : List Pr → Nat
 | [] => 0
 | p :: r => if p.v < v then ahdR v r + 1 else 0
def insR (v : Int) (t : Ty) (l : List Pr) : List Pr := l.take (ahdR v l) ++ ⟨v, t⟩ :: l.drop (ahdR v l)
theorem qjf (v : Int) : ∀ l, ahdR v l ≤ l.length
 | [] => Nat.le_refl _
 | p :: r => by rw [ahdR]; have := qjf v r; split <;> simp <;> omega
theorem qt3 (v : Int) : ∀ (l : List Pr) (k : Nat), k < ahdR v l → (l.getD k R0).v < v
 | [], k, h => by simp [ahdR] at h
 | p :: r, k, h => by
   rw [ahdR] at h
   split at h
   ·rename_i hp
    cases k with
    | zero => exact hp
    | succ k => exact qt3 v r k (by omega)
   ·omega
theorem qos : ∀ {l : List Pr}, risR l → ∀ (a b : Nat), a < b → b < l.length → (l.getD a R0).v < (l.getD b R0).v
 | [], _, a, b, _, h => by simp at h
 | p :: r, hr, a, b, hab, hb => by
   cases b with
   | zero => omega
   | succ b =>
     have hbl : b < r.length := by simpa using hb
     cases a with
     | zero => exact hr.1 _ (qb8 hbl)
     | succ a => exact qos hr.2 a b (by omega) hbl
theorem qs2 {v : Int} : ∀ {l : List Pr}, risR l → ∀ (k : Nat), ahdR v l ≤ k → k < l.length → v ≤ (l.getD k R0).v
 | [], _, k, _, h => by simp at h
 | p :: r, hr, k, h, hk => by
   rw [ahdR] at h
   split at h
   ·cases k with
    | zero => omega
    | succ k => exact qs2 hr.2 k (by omega) (by simpa using hk)
   ·rename_i hp
    cases k with
    | zero => show v ≤ p.v; omega
    | succ k => have := hr.1 _ (qb8 (l := r) (i := k) (by simpa using hk)); show v ≤ (r.getD k R0).v; omega
theorem qiy {v : Int} : ∀ {l : List Pr}, (∀ p ∈ l, p.v ≠ v) → ql v l = none
 | [], _ => rfl
 | p :: r, h => by rw [ql, if_neg (h p (by simp)), qiy fun q hq => h q (by simp [hq])]
theorem qgj {v : Int} : ∀ {l : List Pr} {t : Ty}, ql v l = some t → ∃ p ∈ l, p.v = v ∧ p.ty = t
 | p :: r, t, h => by
   rw [ql] at h
   split at h
   ·rename_i hp; exact ⟨p, by simp, hp, by simpa using h⟩
   ·obtain ⟨q, h1, h2⟩ := qgj h; exact ⟨q, by simp [h1], h2⟩
theorem qfj {v : Int} : ∀ {l : List Pr}, ql v l = none → ∀ p ∈ l, p.v ≠ v
 | [], _, p, hp => by simp at hp
 | q :: r, h, p, hp => by
   rw [ql] at h
   split at h
   ·cases h
   ·rename_i hq
    rcases List.mem_cons.1 hp with rfl | hp
    ·exact hq
    ·exact qfj h p hp
theorem qf8 {v : Int} : ∀ {l : List Pr}, risR l → ql v l = if ahdR v l < l.length ∧ (l.getD (ahdR v l) R0).v = v then some (l.getD (ahdR v l) R0).ty else none
 | [], _ => by simp [ql, ahdR]
 | p :: r, hr => by
   rw [ql, ahdR]
   by_cases h1 : p.v < v
   ·rw [if_pos h1, if_neg (by omega), qf8 hr.2]
    simp only [List.length_cons, List.getD_cons_succ, Nat.add_lt_add_iff_right]
   ·rw [if_neg h1]
    by_cases h2 : p.v = v
    ·rw [if_pos h2, if_pos ⟨by simp, h2⟩]; rfl
    ·rw [if_neg h2, if_neg (fun h => h2 h.2)]
     exact qiy fun q hq => by have := hr.1 q hq; omega
theorem qe4 (v : Int) (t : Ty) (p : Pr) (r : List Pr) : insR v t (p :: r) = if p.v < v then p :: insR v t r else ⟨v, t⟩ :: p :: r := by
 rw [insR, ahdR]; split <;> rfl
theorem qjg (v : Int) (t : Ty) : insR v t [] = [⟨v, t⟩] := rfl
theorem insR_mem {v : Int} {t : Ty} {q : Pr} : ∀ {l : List Pr}, q ∈ insR v t l ↔ q = ⟨v, t⟩ ∨ q ∈ l
 | [] => by simp [qjg]
 | p :: r => by
   rw [qe4]
   split
   ·simp only [List.mem_cons, insR_mem (l := r)]
    constructor
    ·rintro (h | h | h) <;> simp [h]
    ·rintro (h | h | h) <;> simp [h]
   ·simp
theorem qns {v : Int} {t : Ty} : ∀ {l : List Pr}, risR l → ql v l = none → risR (insR v t l)
 | [], _, _ => ⟨fun q hq => by simp at hq, trivial⟩
 | p :: r, hr, hn => by
   have h1 := qfj hn p (by simp)
   rw [ql, if_neg h1] at hn
   rw [qe4]
   split
   ·rename_i h
    refine ⟨fun q hq => ?_, qns hr.2 hn⟩
    rcases insR_mem.1 hq with rfl | hq
    ·exact h
    ·exact hr.1 q hq
   ·rename_i h
    refine ⟨fun q hq => ?_, hr⟩
    rcases List.mem_cons.1 hq with rfl | hq
    ·show v < q.v; omega
    ·have := hr.1 q hq; show v < q.v; omega
theorem qk7 {v x : Int} {t : Ty} : ∀ {l : List Pr}, ql v l = none → ql x (insR v t l) = if x = v then some t else ql x l
 | [], _ => by
   rw [qjg, ql, ql]
   by_cases h : x = v
   ·rw [if_pos h.symm, if_pos h]
   ·rw [if_neg (fun h' => h h'.symm), if_neg h]; rfl
 | p :: r, hn => by
   have h1 := qfj hn p (by simp)
   have hn' := hn
   rw [ql, if_neg h1] at hn'
   rw [qe4]
   split
   ·rw [ql, ql, qk7 hn']
    by_cases h : p.v = x
    ·rw [if_pos h, if_pos h, if_neg (fun h' => h1 (h.trans h'))]
    ·rw [if_neg h, if_neg h]
   ·rw [ql]
    by_cases h : x = v
    ·rw [if_pos h.symm, if_pos h]
    ·rw [if_neg (fun h' => h h'.symm), if_neg h]
theorem qn5 (v : Int) (t : Ty) (l : List Pr) : (insR v t l).length = l.length + 1 := by
 have := qjf v l
 rw [insR, List.length_append, List.length_cons, List.length_take, List.length_drop]; omega
theorem qnk {v : Int} {t : Ty} : ∀ {l : List Pr}, (∀ p ∈ l, p.v < v) → insR v t l = l ++ [⟨v, t⟩]
 | [], _ => rfl
 | p :: r, h => by rw [qe4, if_pos (h p (by simp)), qnk fun q hq => h q (by simp [hq])]; rfl

/-! types in the place of variables -/
mutual
def putY (s : List Pr) : Ty → Ty
 | .mk c v l => if c = [] then (match ql v s with | some u => u | none => .mk c v l) else .mk c v (qb1 s l)
def qb1 (s : List Pr) : List Ty → List Ty
 | [] => []
 | x :: r => putY s x :: qb1 s r
end
mutual
def sizR (s : List Pr) : Ty → Nat
 | .mk c v l => if c = [] then (match ql v s with | some u => szY u | none => 1) else 1 + qh2 s l
def qh2 (s : List Pr) : List Ty → Nat
 | [] => 0
 | x :: r => sizR s x + qh2 s r
end
theorem qle (s : List Pr) : ∀ l, qb1 s l = l.map (putY s)
 | [] => by rw [qb1]; rfl
 | x :: r => by rw [qb1, qle s r]; rfl
theorem qqv (s : List Pr) (l : List Ty) : (qb1 s l).length = l.length := by rw [qle]; simp
mutual
def bare : Ty → Prop
 | .mk c v l => (c = [] → l = []) ∧ qg8 l
def qg8 : List Ty → Prop
 | [] => True
 | x :: r => bare x ∧ qg8 r
end
theorem qyt (t : Ty) : bare t ↔ (t.con = [] → t.args = []) ∧ qg8 t.args := by cases t; rw [bare]; rfl
theorem qkq : ∀ {l : List Ty}, qg8 l → ∀ x ∈ l, bare x
 | [], _, x, h => by simp at h
 | y :: r, hb, x, h => by
   rcases List.mem_cons.1 h with rfl | h
   ·exact hb.1
   ·exact qkq hb.2 x h
mutual
theorem qmo (s : List Pr) : ∀ t, bare t → szY (putY s t) = sizR s t
 | .mk c v l, h => by
   rw [bare] at h
   rw [putY, sizR]
   split
   ·rename_i hc
    cases ql v s with
    | some u => rfl
    | none => rw [h.1 hc, szY, szYs]
   ·rw [szY, qnm s l h.2]
theorem qnm (s : List Pr) : ∀ l, qg8 l → szYs (qb1 s l) = qh2 s l
 | [], _ => by rw [qb1, szYs, qh2]
 | x :: r, h => by rw [qb1, szYs, qh2, qmo s x h.1, qnm s r h.2]
end
mutual
def bput (s : List Pr) : Ty → Int → Int → Int × Ty
 | .mk c v l, b, k => match (if c = [] then ql v s else none) with
   | some u => (if 101 < k + dpY u then -1 else b - szY u, u)
   | none => ((qbv s l (b - 1) (k + 1)).1, match (qbv s l (b - 1) (k + 1)).2 with | some l' => .mk c v l' | none => .mk c v l)
def qbv (s : List Pr) : List Ty → Int → Int → Int × Option (List Ty)
 | [], b, k => (b, some [])
 | x :: r, b, k => if b < 0 then (b, none) else ((qbv s r (bput s x b k).1 k).1, (qbv s r (bput s x b k).1 k).2.map ((bput s x b k).2 :: ·))
end
theorem q0t (s : List Pr) (t : Ty) (b k : Int) : bput s t b k = match (if t.con = [] then ql t.var s else none) with
 | some u => (if 101 < k + dpY u then -1 else b - szY u, u)
 | none => ((qbv s t.args (b - 1) (k + 1)).1, match (qbv s t.args (b - 1) (k + 1)).2 with | some l' => .mk t.con t.var l' | none => t) := by cases t; rw [bput]; rfl
theorem qs9 (s : List Pr) {b : Int} (h : b < 0) : ∀ (l : List Ty) (k : Int), (qbv s l b k).1 = b
 | [], k => by rw [qbv]
 | x :: r, k => by rw [qbv, if_pos h]
def okR (s : List Pr) : Prop := ∀ p ∈ s, szY p.ty ≤ 4096 ∧ dpY p.ty ≤ 100
theorem qob {s : List Pr} (h : okR s) {v : Int} {u : Ty} (hu : ql v s = some u) : szY u ≤ 4096 ∧ dpY u ≤ 100 := by
 obtain ⟨p, h1, _, rfl⟩ := qgj hu
 exact h p h1
mutual
theorem qol (s : List Pr) : ∀ (t : Ty) (b k : Int), bare t → 0 ≤ b → k + dpY t ≤ 101 →
 (((sizR s t : Int) ≤ b ∧ k + dpY (putY s t) ≤ 101) → bput s t b k = (b - sizR s t, putY s t)) ∧ (¬ ((sizR s t : Int) ≤ b ∧ k + dpY (putY s t) ≤ 101) → (bput s t b k).1 < 0)
 | .mk c v l, b, k, hb, h0, hk => by
   rw [bare] at hb
   rw [dpY] at hk
   rw [bput, sizR, putY]
   by_cases hc : c = []
   ·simp only [if_pos hc]
    cases hl : ql v s with
    | some u =>
      simp only
      refine ⟨fun h => by rw [if_neg (by omega)], fun h => ?_⟩
      split <;> omega
    | none =>
      have h1 := hb.1 hc
      subst h1
      simp only [qbv, dpY, dpYs]
      refine ⟨fun h => by simp, fun h => ?_⟩
      omega
   ·simp only [if_neg hc]
    rw [dpY]
    have ih := qlr s l (b - 1) (k + 1) hb.2 (by omega)
    refine ⟨fun h => ?_, fun h => ?_⟩
    ·rw [ih.1 ⟨by omega, by omega, by omega⟩]
     simp only
     congr 1
     omega
    ·exact ih.2 (by omega)
theorem qlr (s : List Pr) : ∀ (l : List Ty) (b k : Int), qg8 l → k + dpYs l ≤ 101 →
 ((0 ≤ b ∧ (qh2 s l : Int) ≤ b ∧ k + dpYs (qb1 s l) ≤ 101) → qbv s l b k = (b - qh2 s l, some (qb1 s l))) ∧ (¬ (0 ≤ b ∧ (qh2 s l : Int) ≤ b ∧ k + dpYs (qb1 s l) ≤ 101) → (qbv s l b k).1 < 0)
 | [], b, k, hb, hk => by
   rw [qbv, qh2, qb1, dpYs] at *
   refine ⟨fun h => by simp, fun h => ?_⟩
   simp only
   omega
 | x :: r, b, k, hb, hk => by
   rw [qg8] at hb
   rw [dpYs] at hk
   rw [qbv, qh2, qb1, dpYs]
   by_cases h0 : b < 0
   ·rw [if_pos h0]
    exact ⟨fun h => by omega, fun _ => h0⟩
   ·rw [if_neg h0]
    have ih1 := qol s x b k hb.1 (by omega) (by omega)
    by_cases h1 : (sizR s x : Int) ≤ b ∧ k + dpY (putY s x) ≤ 101
    ·rw [ih1.1 h1]
     have ih2 := qlr s r (b - sizR s x) k hb.2 (by omega)
     refine ⟨fun h => ?_, fun h => ?_⟩
     ·rw [ih2.1 ⟨by omega, by omega, by omega⟩]
      simp only [Option.map_some]
      congr 1
      omega
     ·exact ih2.2 (by omega)
    ·have h2 := ih1.2 h1
     rw [qs9 s h2]
     refine ⟨fun h => ?_, fun h => h2⟩
     exfalso; omega
end
mutual
theorem qoi {s : List Pr} (hs : okR s) : ∀ (t : Ty) (b k : Int), 0 ≤ b → b ≤ 4096 → -4096 ≤ (bput s t b k).1 ∧ (bput s t b k).1 ≤ 4096
 | .mk c v l, b, k, h0, h1 => by
   rw [bput]
   split
   ·rename_i u hu
    have hl : ql v s = some u := by
     by_cases hc : c = []
     ·rwa [if_pos hc] at hu
     ·rw [if_neg hc] at hu; cases hu
    have := qob hs hl
    simp only
    split <;> omega
   ·simp only
    exact qkp hs l (b - 1) (k + 1) (by omega) (by omega)
theorem qkp {s : List Pr} (hs : okR s) : ∀ (l : List Ty) (b k : Int), -4096 ≤ b → b ≤ 4096 → -4096 ≤ (qbv s l b k).1 ∧ (qbv s l b k).1 ≤ 4096
 | [], b, k, h0, h1 => by rw [qbv]; exact ⟨h0, h1⟩
 | x :: r, b, k, h0, h1 => by
   rw [qbv]
   split
   ·exact ⟨h0, h1⟩
   ·rename_i h
    have := qoi hs x b k (by omega) h1
    exact qkp hs r _ k this.1 this.2
end

/-! one behind the other -/
mutual
theorem qn1 {s u w : List Pr} (h : ∀ v, ql v w = match ql v s with | some t => some (putY u t) | none => ql v u) : ∀ t, bare t → putY u (putY s t) = putY w t
 | .mk c v l, hb => by
   rw [bare] at hb
   rw [putY, putY]
   by_cases hc : c = []
   ·rw [if_pos hc, if_pos hc, h v]
    cases hl : ql v s with
    | some t => rfl
    | none =>
      simp only
      rw [putY, if_pos hc]
   ·rw [if_neg hc, if_neg hc, putY, if_neg hc, qk4 h l hb.2]
theorem qk4 {s u w : List Pr} (h : ∀ v, ql v w = match ql v s with | some t => some (putY u t) | none => ql v u) : ∀ l, qg8 l → qb1 u (qb1 s l) = qb1 w l
 | [], _ => by rw [qb1, qb1, qb1]
 | x :: r, hb => by rw [qb1, qb1, qb1, qn1 h x hb.1, qk4 h r hb.2]
end
end Go.V
