/- Texts of this proof, joined. -/
import Derived.Test.YtbbjelfnocmaoaaGreatDai
import Derived.Test.YtbbjelfnocmaoaaGreatDam

/- pairs of a variable and a type, as data -/
namespace Go.V
open Go Go.RowKit
set_option linter.unusedVariables false

structure Pr where
 v : Int
 ty : Ty
def encR (p : Pr) : AV := .agg [.int .i64 p.v, .str p.ty.con, .int .i64 p.ty.var, .sl 3 (qj p.ty.args)]
def qbt (l : List Pr) : List AV := l.map encR
def R0 : Pr := ⟨0, Y0⟩
abbrev prc (p : Pr) : List AV := [.int .i64 p.v, .str p.ty.con, .int .i64 p.ty.var, .sl 3 (qj p.ty.args)]
theorem qvn (p : Pr) : AV.agg [.int .i64 p.v, .str p.ty.con, .int .i64 p.ty.var, .sl 3 (qj p.ty.args)] = encR p := rfl
theorem qsq (p : Pr) : (encR p).cells = prc p := rfl
theorem qhc (k : Nat) (p : Pr) : (encR p).bd k = true := by simp only [encR, AV.bd, AV.bds, qbr, Bool.and_true]
theorem qd7 (k : Nat) (l : List Pr) : AV.bds k (qbt l) = true := by rw [qbt, qdk, List.all_map, List.all_eq_true]; exact fun x _ => qhc k x
theorem qlp (σ : Nat → Nat) (p : Pr) : (encR p).ren σ = encR p := ren_same (m := 0) (fun i hi => by omega) _ (qhc 0 p)
theorem qi2 (σ : Nat → Nat) (l : List Pr) : AV.rens σ (qbt l) = qbt l := qp (m := 0) (fun i hi => by omega) _ (qd7 0 l)
theorem q90 (H : List Ent) (p : Pr) : co H (.agg [.id, .id, .id, .sl 3]) (encR p) = encR p := by
 simp only [encR, qn6, qf9, qip, qpv, qgo]
theorem qu5 (p : Pr) : rdCo (.agg [.id, .id, .id, .sl 3]) (encR p) = [] := by
 simp only [encR, qf7, qdu, qew, qji, qdw, List.append_nil]
theorem q36 (p : Pr) : (encR p).isAgg = true := rfl
theorem qm4 (p : Pr) : (encR p).leaf = false := rfl
theorem qeq (l : List Pr) : (qbt l).length = l.length := by simp [qbt]
theorem qds {l : List Pr} {i : Nat} (h : i < l.length) : (qbt l).getD i .junk = encR (l.getD i R0) := by
 rw [qbt, List.getD_eq_getElem?_getD, List.getElem?_map, List.getElem?_eq_getElem h, List.getD_eq_getElem?_getD, List.getElem?_eq_getElem h]; rfl
theorem qq0 {l : List Pr} {i : Nat} (h : i < l.length) : l.getD i R0 ∈ l := by
 rw [List.getD_eq_getElem?_getD, List.getElem?_eq_getElem h]; exact List.getElem_mem h
theorem qbs3 {l : List Pr} {i : Nat} (h : i < l.length) : l.drop i = l.getD i R0 :: l.drop (i + 1) := by
 rw [List.drop_eq_getElem_cons h, List.getD_eq_getElem?_getD, List.getElem?_eq_getElem h]; rfl
theorem qtv (n : Nat) (l : List Pr) : (qbt l).take n = qbt (l.take n) := by simp [qbt]
theorem qtt (n : Nat) (l : List Pr) : (qbt l).drop n = qbt (l.drop n) := by simp [qbt]
theorem q0n (b : Bool) (n off : Nat) (p : Pr) : fldv b n off (encR p) = ldc b n off (prc p) := rfl
theorem q3j {l : List Pr} {n : Nat} (h : (AV.sl n (qbt l)).wf) : l.length ≤ maxLen ∧ ∀ p ∈ l, (encR p).wf := by
 refine ⟨by have := h.1; rwa [qeq] at this, fun p hp => (qi5 _).1 h.2 _ ?_⟩
 rw [qbt]; exact List.mem_map_of_mem hp
attribute [go_sem] prc q0n qu5 qhc qd7 qlp qi2 q90 q36 qsq qvn qm4 qeq qtv qtt
end Go.V

/-
 Rows of pairs by rising variables; types put in the place of variables.
-/
namespace Go.V
open Go Go.RowKit
set_option linter.unusedVariables false
set_option linter.unusedSimpArgs false

def risR : List Pr → Prop
 | [] => True
 | p :: r => (∀ q ∈ r, p.v < q.v) ∧ risR r
def qbd (v : Int) : List Pr → Option Ty
 | [] => none
 | p :: r => if p.v = v then some p.ty else qbd v r
def ahdR (v : Int) : List Pr → Nat
 | [] => 0
 | p :: r => if p.v < v then ahdR v r + 1 else 0
def insR (v : Int) (t : Ty) (l : List Pr) : List Pr := l.take (ahdR v l) ++ ⟨v, t⟩ :: l.drop (ahdR v l)
theorem qlo (v : Int) : ∀ l, ahdR v l ≤ l.length
 | [] => Nat.le_refl _
 | p :: r => by rw [ahdR]; have := qlo v r; split <;> simp <;> omega
theorem qw7 (v : Int) : ∀ (l : List Pr) (k : Nat), k < ahdR v l → (l.getD k R0).v < v
 | [], k, h => by simp [ahdR] at h
 | p :: r, k, h => by
   rw [ahdR] at h
   split at h
   ·rename_i hp
    cases k with
    | zero => exact hp
    | succ k => exact qw7 v r k (by omega)
   ·omega
theorem qwl {v : Int} : ∀ {l : List Pr}, risR l → ∀ (k : Nat), ahdR v l ≤ k → k < l.length → v ≤ (l.getD k R0).v
 | [], _, k, _, h => by simp at h
 | p :: r, hr, k, h, hk => by
   rw [ahdR] at h
   split at h
   ·cases k with
    | zero => omega
    | succ k => exact qwl hr.2 k (by omega) (by simpa using hk)
   ·rename_i hp
    cases k with
    | zero => show v ≤ p.v; omega
    | succ k => have := hr.1 _ (qq0 (l := r) (i := k) (by simpa using hk)); show v ≤ (r.getD k R0).v; omega
theorem qrm {v : Int} : ∀ {l : List Pr}, (∀ p ∈ l, p.v ≠ v) → qbd v l = none
 | [], _ => rfl
 | p :: r, h => by rw [qbd, if_neg (h p (by simp)), qrm fun q hq => h q (by simp [hq])]
theorem qja {v : Int} : ∀ {l : List Pr} {t : Ty}, qbd v l = some t → ∃ p ∈ l, p.v = v ∧ p.ty = t
 | p :: r, t, h => by
   rw [qbd] at h
   split at h
   ·rename_i hp; exact ⟨p, by simp, hp, by simpa using h⟩
   ·obtain ⟨q, h1, h2⟩ := qja h; exact ⟨q, by simp [h1], h2⟩
theorem qla {v : Int} : ∀ {l : List Pr}, qbd v l = none → ∀ p ∈ l, p.v ≠ v
 | [], _, p, hp => by simp at hp
 | q :: r, h, p, hp => by
   rw [qbd] at h
   split at h
   ·cases h
   ·rename_i hq
    rcases List.mem_cons.1 hp with rfl | hp
    ·exact hq
    ·exact qla h p hp
theorem qid {v : Int} : ∀ {l : List Pr}, risR l → qbd v l = if ahdR v l < l.length ∧ (l.getD (ahdR v l) R0).v = v then some (l.getD (ahdR v l) R0).ty else none
 | [], _ => by simp [qbd, ahdR]
 | p :: r, hr => by
   rw [qbd, ahdR]
   by_cases h1 : p.v < v
   ·rw [if_pos h1, if_neg (by omega), qid hr.2]
    simp only [List.length_cons, List.getD_cons_succ, Nat.add_lt_add_iff_right]
   ·rw [if_neg h1]
    by_cases h2 : p.v = v
    ·rw [if_pos h2, if_pos ⟨by simp, h2⟩]; rfl
    ·rw [if_neg h2, if_neg (fun h => h2 h.2)]
     exact qrm fun q hq => by have := hr.1 q hq; omega
theorem qna (v : Int) (t : Ty) (p : Pr) (r : List Pr) : insR v t (p :: r) = if p.v < v then p :: insR v t r else ⟨v, t⟩ :: p :: r := by
 rw [insR, ahdR]; split <;> rfl
theorem qrz (v : Int) (t : Ty) : insR v t [] = [⟨v, t⟩] := rfl
theorem insR_mem {v : Int} {t : Ty} {q : Pr} : ∀ {l : List Pr}, q ∈ insR v t l ↔ q = ⟨v, t⟩ ∨ q ∈ l
 | [] => by simp [qrz]
 | p :: r => by
   rw [qna]
   split
   ·simp only [List.mem_cons, insR_mem (l := r)]
    constructor
    ·rintro (h | h | h) <;> simp [h]
    ·rintro (h | h | h) <;> simp [h]
   ·simp
theorem qrl {v : Int} {t : Ty} : ∀ {l : List Pr}, risR l → qbd v l = none → risR (insR v t l)
 | [], _, _ => ⟨fun q hq => by simp at hq, trivial⟩
 | p :: r, hr, hn => by
   have h1 := qla hn p (by simp)
   rw [qbd, if_neg h1] at hn
   rw [qna]
   split
   ·rename_i h
    refine ⟨fun q hq => ?_, qrl hr.2 hn⟩
    rcases insR_mem.1 hq with rfl | hq
    ·exact h
    ·exact hr.1 q hq
   ·rename_i h
    refine ⟨fun q hq => ?_, hr⟩
    rcases List.mem_cons.1 hq with rfl | hq
    ·show v < q.v; omega
    ·have := hr.1 q hq; show v < q.v; omega
theorem qqw (v : Int) (t : Ty) (l : List Pr) : (insR v t l).length = l.length + 1 := by
 have := qlo v l
 rw [insR, List.length_append, List.length_cons, List.length_take, List.length_drop]; omega
/-! types in the place of variables -/
mutual
def putY (s : List Pr) : Ty → Ty
 | .mk c v l => if c = [] then (match qbd v s with | some u => u | none => .mk c v l) else .mk c v (qbu s l)
def qbu (s : List Pr) : List Ty → List Ty
 | [] => []
 | x :: r => putY s x :: qbu s r
end
mutual
def sizR (s : List Pr) : Ty → Nat
 | .mk c v l => if c = [] then (match qbd v s with | some u => szY u | none => 1) else 1 + qck s l
def qck (s : List Pr) : List Ty → Nat
 | [] => 0
 | x :: r => sizR s x + qck s r
end
theorem qfy (s : List Pr) : ∀ l, qbu s l = l.map (putY s)
 | [] => by rw [qbu]; rfl
 | x :: r => by rw [qbu, qfy s r]; rfl
theorem qgs (s : List Pr) (l : List Ty) : (qbu s l).length = l.length := by rw [qfy]; simp
theorem qmb (s : List Pr) (t : Ty) : putY s t = if t.con = [] then (match qbd t.var s with | some u => u | none => t) else .mk t.con t.var (qbu s t.args) := by cases t; rw [putY]; rfl
theorem ql3 (s : List Pr) (t : Ty) : sizR s t = if t.con = [] then (match qbd t.var s with | some u => szY u | none => 1) else 1 + qck s t.args := by cases t; rw [sizR]; rfl
mutual
def bare : Ty → Prop
 | .mk c v l => (c = [] → l = []) ∧ qj5 l
def qj5 : List Ty → Prop
 | [] => True
 | x :: r => bare x ∧ qj5 r
end
theorem qbjo (t : Ty) : bare t ↔ (t.con = [] → t.args = []) ∧ qj5 t.args := by cases t; rw [bare]; rfl
theorem qox : ∀ {l : List Ty}, qj5 l → ∀ x ∈ l, bare x
 | [], _, x, h => by simp at h
 | y :: r, hb, x, h => by
   rcases List.mem_cons.1 h with rfl | h
   ·exact hb.1
   ·exact qox hb.2 x h
mutual
theorem qlt (s : List Pr) : ∀ t, bare t → szY (putY s t) = sizR s t
 | .mk c v l, h => by
   rw [bare] at h
   rw [putY, sizR]
   split
   ·rename_i hc
    cases qbd v s with
    | some u => rfl
    | none => rw [h.1 hc, szY, szYs]
   ·rw [szY, qri s l h.2]
theorem qri (s : List Pr) : ∀ l, qj5 l → szYs (qbu s l) = qck s l
 | [], _ => by rw [qbu, szYs, qck]
 | x :: r, h => by rw [qbu, szYs, qck, qlt s x h.1, qri s r h.2]
end
mutual
def bput (s : List Pr) : Ty → Int → Int → Int × Ty
 | .mk c v l, b, k => match (if c = [] then qbd v s else none) with
   | some u => (if 101 < k + dpY u then -1 else b - szY u, u)
   | none => ((qch s l (b - 1) (k + 1)).1, match (qch s l (b - 1) (k + 1)).2 with | some l' => .mk c v l' | none => .mk c v l)
def qch (s : List Pr) : List Ty → Int → Int → Int × Option (List Ty)
 | [], b, k => (b, some [])
 | x :: r, b, k => if b < 0 then (b, none) else ((qch s r (bput s x b k).1 k).1, (qch s r (bput s x b k).1 k).2.map ((bput s x b k).2 :: ·))
end
theorem qbg9 (s : List Pr) (t : Ty) (b k : Int) : bput s t b k = match (if t.con = [] then qbd t.var s else none) with
 | some u => (if 101 < k + dpY u then -1 else b - szY u, u)
 | none => ((qch s t.args (b - 1) (k + 1)).1, match (qch s t.args (b - 1) (k + 1)).2 with | some l' => .mk t.con t.var l' | none => t) := by cases t; rw [bput]; rfl
theorem qvs (s : List Pr) {b : Int} (h : b < 0) : ∀ (l : List Ty) (k : Int), (qch s l b k).1 = b
 | [], k => by rw [qch]
 | x :: r, k => by rw [qch, if_pos h]
def okR (s : List Pr) : Prop := ∀ p ∈ s, szY p.ty ≤ 4096 ∧ dpY p.ty ≤ 100
theorem qgb {s : List Pr} (h : okR s) {v : Int} {u : Ty} (hu : qbd v s = some u) : szY u ≤ 4096 ∧ dpY u ≤ 100 := by
 obtain ⟨p, h1, _, rfl⟩ := qja hu
 exact h p h1
mutual
theorem qql (s : List Pr) : ∀ (t : Ty) (b k : Int), bare t → 0 ≤ b → k + dpY t ≤ 101 →
 (((sizR s t : Int) ≤ b ∧ k + dpY (putY s t) ≤ 101) → bput s t b k = (b - sizR s t, putY s t)) ∧ (¬ ((sizR s t : Int) ≤ b ∧ k + dpY (putY s t) ≤ 101) → (bput s t b k).1 < 0)
 | .mk c v l, b, k, hb, h0, hk => by
   rw [bare] at hb
   rw [dpY] at hk
   rw [bput, sizR, putY]
   by_cases hc : c = []
   ·simp only [if_pos hc]
    cases hl : qbd v s with
    | some u =>
      simp only
      refine ⟨fun h => by rw [if_neg (by omega)], fun h => ?_⟩
      split <;> omega
    | none =>
      have h1 := hb.1 hc
      subst h1
      simp only [qch, dpY, dpYs]
      refine ⟨fun h => by simp, fun h => ?_⟩
      omega
   ·simp only [if_neg hc]
    rw [dpY]
    have ih := qoe s l (b - 1) (k + 1) hb.2 (by omega)
    refine ⟨fun h => ?_, fun h => ?_⟩
    ·rw [ih.1 ⟨by omega, by omega, by omega⟩]
     simp only
     congr 1
     omega
    ·exact ih.2 (by omega)
theorem qoe (s : List Pr) : ∀ (l : List Ty) (b k : Int), qj5 l → k + dpYs l ≤ 101 →
 ((0 ≤ b ∧ (qck s l : Int) ≤ b ∧ k + dpYs (qbu s l) ≤ 101) → qch s l b k = (b - qck s l, some (qbu s l))) ∧ (¬ (0 ≤ b ∧ (qck s l : Int) ≤ b ∧ k + dpYs (qbu s l) ≤ 101) → (qch s l b k).1 < 0)
 | [], b, k, hb, hk => by
   rw [qch, qck, qbu, dpYs] at *
   refine ⟨fun h => by simp, fun h => ?_⟩
   simp only
   omega
 | x :: r, b, k, hb, hk => by
   rw [qj5] at hb
   rw [dpYs] at hk
   rw [qch, qck, qbu, dpYs]
   by_cases h0 : b < 0
   ·rw [if_pos h0]
    exact ⟨fun h => by omega, fun _ => h0⟩
   ·rw [if_neg h0]
    have ih1 := qql s x b k hb.1 (by omega) (by omega)
    by_cases h1 : (sizR s x : Int) ≤ b ∧ k + dpY (putY s x) ≤ 101
    ·rw [ih1.1 h1]
     have ih2 := qoe s r (b - sizR s x) k hb.2 (by omega)
     refine ⟨fun h => ?_, fun h => ?_⟩
     ·rw [ih2.1 ⟨by omega, by omega, by omega⟩]
      simp only [Option.map_some]
      congr 1
      omega
     ·exact ih2.2 (by omega)
    ·have h2 := ih1.2 h1
     rw [qvs s h2]
     refine ⟨fun h => ?_, fun h => h2⟩
     exfalso; omega
end
mutual
theorem qqr {s : List Pr} (hs : okR s) : ∀ (t : Ty) (b k : Int), 0 ≤ b → b ≤ 4096 → -4096 ≤ (bput s t b k).1 ∧ (bput s t b k).1 ≤ 4096
 | .mk c v l, b, k, h0, h1 => by
   rw [bput]
   split
   ·rename_i u hu
    have hl : qbd v s = some u := by
     by_cases hc : c = []
     ·rwa [if_pos hc] at hu
     ·rw [if_neg hc] at hu; cases hu
    have := qgb hs hl
    simp only
    split <;> omega
   ·simp only
    exact qmy hs l (b - 1) (k + 1) (by omega) (by omega)
theorem qmy {s : List Pr} (hs : okR s) : ∀ (l : List Ty) (b k : Int), -4096 ≤ b → b ≤ 4096 → -4096 ≤ (qch s l b k).1 ∧ (qch s l b k).1 ≤ 4096
 | [], b, k, h0, h1 => by rw [qch]; exact ⟨h0, h1⟩
 | x :: r, b, k, h0, h1 => by
   rw [qch]
   split
   ·exact ⟨h0, h1⟩
   ·rename_i h
    have := qqr hs x b k (by omega) h1
    exact qmy hs r _ k this.1 this.2
end

/-! one behind the other -/
end Go.V
