/- Texts of this proof, joined. -/
import Derived.Test.YtlahgbhhejkgbaaGreatLaj
import Derived.Test.YtlahgbhhejkgbaaGreatLal

/-
 Types: how great they are, their variables, whether two are the same; texts of numbers.
-/
namespace Go.V
open Go Go.RowKit
set_option linter.unusedVariables false
set_option linter.unusedSimpArgs false

mutual
def szY : Ty → Nat
 | .mk _ _ l => 1 + szYs l
def szYs : List Ty → Nat
 | [] => 0
 | x :: r => szY x + szYs r
end
mutual
def dpY : Ty → Nat
 | .mk _ _ l => 1 + dpYs l
def dpYs : List Ty → Nat
 | [] => 0
 | x :: r => max (dpY x) (dpYs r)
end
mutual
def varY : Ty → List Int
 | .mk c v l => (if c = [] then [v] else []) ++ qbu l
def qbu : List Ty → List Int
 | [] => []
 | x :: r => varY x ++ qbu r
end
theorem qge (t : Ty) : szY t = 1 + szYs t.args := by cases t; rw [szY]; rfl
theorem qsf (t : Ty) : dpY t = 1 + dpYs t.args := by cases t; rw [dpY]; rfl
theorem qjb (t : Ty) : 1 ≤ szY t := by rw [qge]; omega
theorem qbgl (t : Ty) : 1 ≤ dpY t := by rw [qsf]; omega

mutual
def qhd : Ty → Ty → Bool
 | .mk c v l, .mk c' v' l' => decide (c = c') && decide (v = v') && qby l l'
def qby : List Ty → List Ty → Bool
 | [], [] => true
 | x :: r, y :: r' => qhd x y && qby r r'
 | _, _ => false
end
theorem qgx (a b : Ty) : qhd a b = (decide (a.con = b.con) && decide (a.var = b.var) && qby a.args b.args) := by cases a; cases b; rw [qhd]; rfl
theorem qk9 : ∀ {l l' : List Ty}, l.length ≠ l'.length → qby l l' = false
 | [], [], h => absurd rfl h
 | [], y :: r', _ => by rw [qby] <;> simp
 | x :: r, [], _ => by rw [qby] <;> simp
 | x :: r, y :: r', h => by rw [qby, qk9 (l := r) (l' := r') (by simpa using h)]; simp
theorem qkf {l l' : List Ty} {i : Nat} (h : i < l.length) (h' : i < l'.length) : qby (l.drop i) (l'.drop i) = (qhd (l.getD i Y0) (l'.getD i Y0) && qby (l.drop (i + 1)) (l'.drop (i + 1))) := by
 rw [qhn h, qhn h', qby]
theorem qve {l l' : List Ty} {i : Nat} (h : l.length ≤ i) (h' : l'.length ≤ i) : qby (l.drop i) (l'.drop i) = true := by
 rw [List.drop_of_length_le h, List.drop_of_length_le h', qby]
theorem qpr {y : Ty} {r : List Ty} : qby [] (y :: r) = false := by rw [qby] <;> simp
theorem qo0 {y : Ty} {r : List Ty} : qby (y :: r) [] = false := by rw [qby] <;> simp
theorem qyx {l : List Ty} (h : ∀ x ∈ l, ∀ b, qhd x b = true ↔ x = b) : ∀ l', qby l l' = true ↔ l = l' := by
 induction l with
 | nil => intro l'; cases l' with
   | nil => simp [qby]
   | cons y r => rw [qpr]; simp
 | cons x r ih => intro l'; cases l' with
   | nil => rw [qo0]; simp
   | cons y r' =>
     rw [qby, Bool.and_eq_true, h x (by simp), ih (fun z hz => h z (by simp [hz]))]
     simp
theorem ty_eq {a b : Ty} : a = b ↔ (a.con = b.con ∧ a.var = b.var) ∧ a.args = b.args := by
 cases a; cases b; simp [Ty.con, Ty.var, Ty.args, and_assoc]
theorem qim : ∀ a b, qhd a b = true ↔ a = b := Ty.ind fun a ih b => by
 rw [qgx, Bool.and_eq_true, Bool.and_eq_true, qyx ih, ty_eq, decide_eq_true_eq, decide_eq_true_eq]
theorem qwc (a : Ty) : qhd a a = true := (qim a a).2 rfl
def qd2 (acc : List Int) : List Int → List Int
 | [] => acc
 | x :: r => if x ∈ acc then qd2 acc r else qd2 (acc ++ [x]) r
theorem qoo (acc l r : List Int) : qd2 acc (l ++ r) = qd2 (qd2 acc l) r := by
 induction l generalizing acc with
 | nil => rfl
 | cons x l ih => simp only [List.cons_append, qd2]; split <;> exact ih _
mutual
theorem q04 : ∀ t, (varY t).length ≤ szY t
 | .mk c v l => by
   rw [varY, szY, List.length_append]
   have := qnr l
   split <;> simp <;> omega
theorem qnr : ∀ l, (qbu l).length ≤ szYs l
 | [] => by simp [qbu]
 | x :: r => by
   rw [qbu, szYs, List.length_append]
   have := q04 x
   have := qnr r
   omega
end
theorem qg1 : ∀ l : List Ty, l.length ≤ szYs l
 | [] => by simp [szYs]
 | x :: r => by rw [szYs, List.length_cons]; have := qjb x; have := qg1 r; omega
theorem qhu {l : List Ty} {x : Ty} (h : x ∈ l) : szY x ≤ szYs l := by
 induction l with
 | nil => cases h
 | cons y r ih =>
   rw [szYs]
   rcases List.mem_cons.1 h with rfl | h
   ·omega
   ·have := ih h; omega
theorem qki {l : List Ty} {x : Ty} (h : x ∈ l) : dpY x ≤ dpYs l := by
 induction l with
 | nil => cases h
 | cons y r ih =>
   rw [dpYs]
   rcases List.mem_cons.1 h with rfl | h
   ·omega
   ·have := ih h; omega

def digN (u : Nat) : List UInt8 := if h : u < 10 then [UInt8.ofNat (48 + u)] else digN (u / 10) ++ [UInt8.ofNat (48 + u % 10)]
termination_by u
decreasing_by omega
theorem qf2 {u : Nat} (h : u < 10) : digN u = [UInt8.ofNat (48 + u)] := by rw [digN, dif_pos h]
theorem qqu {u : Nat} (h : ¬ u < 10) : digN u = digN (u / 10) ++ [UInt8.ofNat (48 + u % 10)] := by rw [digN, dif_neg h]
theorem qr3 : ∀ (k u : Nat), u < 10 ^ (k + 1) → (digN u).length ≤ k + 1
 | 0, u, h => by rw [qf2 (by simpa using h)]; simp
 | k + 1, u, h => by
   by_cases h10 : u < 10
   ·rw [qf2 h10]; simp
   ·rw [qqu h10, List.length_append]
    have := qr3 k (u / 10) (by rw [Nat.div_lt_iff_lt_mul (by omega)]; rw [Nat.pow_succ] at h; exact h)
    simp; exact this
theorem q29 (u : Nat) : 0 < (digN u).length := by
 by_cases h : u < 10
 ·rw [qf2 h]; simp
 ·rw [qqu h]; simp
def digI (n : Int) : List UInt8 := if n < 0 then 45 :: digN n.natAbs else digN n.natAbs
def ltrI (n : Int) : List UInt8 := if n < 0 then [] else if n < 26 then [UInt8.ofNat (97 + n.toNat)] else UInt8.ofNat (97 + n.toNat % 26) :: digN (n.toNat / 26)
def qhe (t : Ty) : List UInt8 := if t.con = [] then (if 0 ≤ t.var then ltrI t.var else 63 :: digI (-1 - t.var)) else t.con
def arrW : List UInt8 := [45, 62]
def parW (b : Bool) (s : List UInt8) : List UInt8 := if b = true then 40 :: (s ++ [41]) else s
mutual
def txtY : Ty → List UInt8
 | .mk c v l => if c = arrW then (match l with | [a, b] => parW (decide (a.con = arrW)) (txtY a) ++ ([32, 45, 62, 32] ++ txtY b) | _ => []) else qhe (.mk c v l) ++ argY l
def argY : List Ty → List UInt8
 | [] => []
 | a :: r => (32 :: parW (decide (a.args ≠ [])) (txtY a)) ++ argY r
end

def risR : List Pr → Prop
 | [] => True
 | p :: r => (∀ q ∈ r, p.v < q.v) ∧ risR r
def qi (v : Int) : List Pr → Option Ty
 | [] => none
 | p :: r => if p.v = v then some p.ty else qi v r
def ahdR (v : Int) : List Pr → Nat
 | [] => 0
 | p :: r => if p.v < v then ahdR v r + 1 else 0
def insR (v : Int) (t : Ty) (l : List Pr) : List Pr := l.take (ahdR v l) ++ ⟨v, t⟩ :: l.drop (ahdR v l)
theorem qkm (v : Int) : ∀ l, ahdR v l ≤ l.length
 | [] => Nat.le_refl _
 | p :: r => by rw [ahdR]; have := qkm v r; split <;> simp <;> omega
theorem qqw (v : Int) : ∀ (l : List Pr) (k : Nat), k < ahdR v l → (l.getD k R0).v < v
 | [], k, h => by simp [ahdR] at h
 | p :: r, k, h => by
   rw [ahdR] at h
   split at h
   ·rename_i hp
    cases k with
    | zero => exact hp
    | succ k => exact qqw v r k (by omega)
   ·omega
theorem qwr {v : Int} : ∀ {l : List Pr}, risR l → ∀ (k : Nat), ahdR v l ≤ k → k < l.length → v ≤ (l.getD k R0).v
 | [], _, k, _, h => by simp at h
 | p :: r, hr, k, h, hk => by
   rw [ahdR] at h
   split at h
   ·cases k with
    | zero => omega
    | succ k => exact qwr hr.2 k (by omega) (by simpa using hk)
   ·rename_i hp
    cases k with
    | zero => show v ≤ p.v; omega
    | succ k => have := hr.1 _ (qfa (l := r) (i := k) (by simpa using hk)); show v ≤ (r.getD k R0).v; omega
theorem qm0 {v : Int} : ∀ {l : List Pr}, (∀ p ∈ l, p.v ≠ v) → qi v l = none
 | [], _ => rfl
 | p :: r, h => by rw [qi, if_neg (h p (by simp)), qm0 fun q hq => h q (by simp [hq])]
theorem qdt {v : Int} : ∀ {l : List Pr} {t : Ty}, qi v l = some t → ∃ p ∈ l, p.v = v ∧ p.ty = t
 | p :: r, t, h => by
   rw [qi] at h
   split at h
   ·rename_i hp; exact ⟨p, by simp, hp, by simpa using h⟩
   ·obtain ⟨q, h1, h2⟩ := qdt h; exact ⟨q, by simp [h1], h2⟩
theorem qhx {v : Int} : ∀ {l : List Pr}, qi v l = none → ∀ p ∈ l, p.v ≠ v
 | [], _, p, hp => by simp at hp
 | q :: r, h, p, hp => by
   rw [qi] at h
   split at h
   ·cases h
   ·rename_i hq
    rcases List.mem_cons.1 hp with rfl | hp
    ·exact hq
    ·exact qhx h p hp
theorem qiw {v : Int} : ∀ {l : List Pr}, risR l → qi v l = if ahdR v l < l.length ∧ (l.getD (ahdR v l) R0).v = v then some (l.getD (ahdR v l) R0).ty else none
 | [], _ => by simp [qi, ahdR]
 | p :: r, hr => by
   rw [qi, ahdR]
   by_cases h1 : p.v < v
   ·rw [if_pos h1, if_neg (by omega), qiw hr.2]
    simp only [List.length_cons, List.getD_cons_succ, Nat.add_lt_add_iff_right]
   ·rw [if_neg h1]
    by_cases h2 : p.v = v
    ·rw [if_pos h2, if_pos ⟨by simp, h2⟩]; rfl
    ·rw [if_neg h2, if_neg (fun h => h2 h.2)]
     exact qm0 fun q hq => by have := hr.1 q hq; omega
theorem qgo (v : Int) (t : Ty) (p : Pr) (r : List Pr) : insR v t (p :: r) = if p.v < v then p :: insR v t r else ⟨v, t⟩ :: p :: r := by
 rw [insR, ahdR]; split <;> rfl
theorem qmz (v : Int) (t : Ty) : insR v t [] = [⟨v, t⟩] := rfl
theorem insR_mem {v : Int} {t : Ty} {q : Pr} : ∀ {l : List Pr}, q ∈ insR v t l ↔ q = ⟨v, t⟩ ∨ q ∈ l
 | [] => by simp [qmz]
 | p :: r => by
   rw [qgo]
   split
   ·simp only [List.mem_cons, insR_mem (l := r)]
    constructor
    ·rintro (h | h | h) <;> simp [h]
    ·rintro (h | h | h) <;> simp [h]
   ·simp
theorem qrm {v : Int} {t : Ty} : ∀ {l : List Pr}, risR l → qi v l = none → risR (insR v t l)
 | [], _, _ => ⟨fun q hq => by simp at hq, trivial⟩
 | p :: r, hr, hn => by
   have h1 := qhx hn p (by simp)
   rw [qi, if_neg h1] at hn
   rw [qgo]
   split
   ·rename_i h
    refine ⟨fun q hq => ?_, qrm hr.2 hn⟩
    rcases insR_mem.1 hq with rfl | hq
    ·exact h
    ·exact hr.1 q hq
   ·rename_i h
    refine ⟨fun q hq => ?_, hr⟩
    rcases List.mem_cons.1 hq with rfl | hq
    ·show v < q.v; omega
    ·have := hr.1 q hq; show v < q.v; omega
theorem qet {v x : Int} {t : Ty} : ∀ {l : List Pr}, qi v l = none → qi x (insR v t l) = if x = v then some t else qi x l
 | [], _ => by
   rw [qmz, qi, qi]
   by_cases h : x = v
   ·rw [if_pos h.symm, if_pos h]
   ·rw [if_neg (fun h' => h h'.symm), if_neg h]; rfl
 | p :: r, hn => by
   have h1 := qhx hn p (by simp)
   have hn' := hn
   rw [qi, if_neg h1] at hn'
   rw [qgo]
   split
   ·rw [qi, qi, qet hn']
    by_cases h : p.v = x
    ·rw [if_pos h, if_pos h, if_neg (fun h' => h1 (h.trans h'))]
    ·rw [if_neg h, if_neg h]
   ·rw [qi]
    by_cases h : x = v
    ·rw [if_pos h.symm, if_pos h]
    ·rw [if_neg (fun h' => h h'.symm), if_neg h]
theorem qmf (v : Int) (t : Ty) (l : List Pr) : (insR v t l).length = l.length + 1 := by
 have := qkm v l
 rw [insR, List.length_append, List.length_cons, List.length_take, List.length_drop]; omega
theorem qsi {v : Int} {t : Ty} : ∀ {l : List Pr}, (∀ p ∈ l, p.v < v) → insR v t l = l ++ [⟨v, t⟩]
 | [], _ => rfl
 | p :: r, h => by rw [qgo, if_pos (h p (by simp)), qsi fun q hq => h q (by simp [hq])]; rfl

/-! types in the place of variables -/
mutual
def putY (s : List Pr) : Ty → Ty
 | .mk c v l => if c = [] then (match qi v s with | some u => u | none => .mk c v l) else .mk c v (qds s l)
def qds (s : List Pr) : List Ty → List Ty
 | [] => []
 | x :: r => putY s x :: qds s r
end
mutual
def sizR (s : List Pr) : Ty → Nat
 | .mk c v l => if c = [] then (match qi v s with | some u => szY u | none => 1) else 1 + qkz s l
def qkz (s : List Pr) : List Ty → Nat
 | [] => 0
 | x :: r => sizR s x + qkz s r
end
theorem qo1 (s : List Pr) : ∀ l, qds s l = l.map (putY s)
 | [] => by rw [qds]; rfl
 | x :: r => by rw [qds, qo1 s r]; rfl
theorem qy2 (s : List Pr) (l : List Ty) : (qds s l).length = l.length := by rw [qo1]; simp
mutual
def bare : Ty → Prop
 | .mk c v l => (c = [] → l = []) ∧ qec l
def qec : List Ty → Prop
 | [] => True
 | x :: r => bare x ∧ qec r
end
theorem qwi (t : Ty) : bare t ↔ (t.con = [] → t.args = []) ∧ qec t.args := by cases t; rw [bare]; rfl
theorem qpt : ∀ {l : List Ty}, qec l → ∀ x ∈ l, bare x
 | [], _, x, h => by simp at h
 | y :: r, hb, x, h => by
   rcases List.mem_cons.1 h with rfl | h
   ·exact hb.1
   ·exact qpt hb.2 x h
mutual
theorem qqa (s : List Pr) : ∀ t, bare t → szY (putY s t) = sizR s t
 | .mk c v l, h => by
   rw [bare] at h
   rw [putY, sizR]
   split
   ·rename_i hc
    cases qi v s with
    | some u => rfl
    | none => rw [h.1 hc, szY, szYs]
   ·rw [szY, qrv s l h.2]
theorem qrv (s : List Pr) : ∀ l, qec l → szYs (qds s l) = qkz s l
 | [], _ => by rw [qds, szYs, qkz]
 | x :: r, h => by rw [qds, szYs, qkz, qqa s x h.1, qrv s r h.2]
end
mutual
def bput (s : List Pr) : Ty → Int → Int → Int × Ty
 | .mk c v l, b, k => match (if c = [] then qi v s else none) with
   | some u => (if 101 < k + dpY u then -1 else b - szY u, u)
   | none => ((qcg s l (b - 1) (k + 1)).1, match (qcg s l (b - 1) (k + 1)).2 with | some l' => .mk c v l' | none => .mk c v l)
def qcg (s : List Pr) : List Ty → Int → Int → Int × Option (List Ty)
 | [], b, k => (b, some [])
 | x :: r, b, k => if b < 0 then (b, none) else ((qcg s r (bput s x b k).1 k).1, (qcg s r (bput s x b k).1 k).2.map ((bput s x b k).2 :: ·))
end
theorem qbbw (s : List Pr) (t : Ty) (b k : Int) : bput s t b k = match (if t.con = [] then qi t.var s else none) with
 | some u => (if 101 < k + dpY u then -1 else b - szY u, u)
 | none => ((qcg s t.args (b - 1) (k + 1)).1, match (qcg s t.args (b - 1) (k + 1)).2 with | some l' => .mk t.con t.var l' | none => t) := by cases t; rw [bput]; rfl
theorem qwt (s : List Pr) {b : Int} (h : b < 0) : ∀ (l : List Ty) (k : Int), (qcg s l b k).1 = b
 | [], k => by rw [qcg]
 | x :: r, k => by rw [qcg, if_pos h]
def okR (s : List Pr) : Prop := ∀ p ∈ s, szY p.ty ≤ 4096 ∧ dpY p.ty ≤ 100
theorem qrz {s : List Pr} (h : okR s) {v : Int} {u : Ty} (hu : qi v s = some u) : szY u ≤ 4096 ∧ dpY u ≤ 100 := by
 obtain ⟨p, h1, _, rfl⟩ := qdt hu
 exact h p h1
mutual
theorem qs5 (s : List Pr) : ∀ (t : Ty) (b k : Int), bare t → 0 ≤ b → k + dpY t ≤ 101 →
 (((sizR s t : Int) ≤ b ∧ k + dpY (putY s t) ≤ 101) → bput s t b k = (b - sizR s t, putY s t)) ∧ (¬ ((sizR s t : Int) ≤ b ∧ k + dpY (putY s t) ≤ 101) → (bput s t b k).1 < 0)
 | .mk c v l, b, k, hb, h0, hk => by
   rw [bare] at hb
   rw [dpY] at hk
   rw [bput, sizR, putY]
   by_cases hc : c = []
   ·simp only [if_pos hc]
    cases hl : qi v s with
    | some u =>
      simp only
      refine ⟨fun h => by rw [if_neg (by omega)], fun h => ?_⟩
      split <;> omega
    | none =>
      have h1 := hb.1 hc
      subst h1
      simp only [qcg, dpY, dpYs]
      refine ⟨fun h => by simp, fun h => ?_⟩
      omega
   ·simp only [if_neg hc]
    rw [dpY]
    have ih := qnt s l (b - 1) (k + 1) hb.2 (by omega)
    refine ⟨fun h => ?_, fun h => ?_⟩
    ·rw [ih.1 ⟨by omega, by omega, by omega⟩]
     simp only
     congr 1
     omega
    ·exact ih.2 (by omega)
theorem qnt (s : List Pr) : ∀ (l : List Ty) (b k : Int), qec l → k + dpYs l ≤ 101 →
 ((0 ≤ b ∧ (qkz s l : Int) ≤ b ∧ k + dpYs (qds s l) ≤ 101) → qcg s l b k = (b - qkz s l, some (qds s l))) ∧ (¬ (0 ≤ b ∧ (qkz s l : Int) ≤ b ∧ k + dpYs (qds s l) ≤ 101) → (qcg s l b k).1 < 0)
 | [], b, k, hb, hk => by
   rw [qcg, qkz, qds, dpYs] at *
   refine ⟨fun h => by simp, fun h => ?_⟩
   simp only
   omega
 | x :: r, b, k, hb, hk => by
   rw [qec] at hb
   rw [dpYs] at hk
   rw [qcg, qkz, qds, dpYs]
   by_cases h0 : b < 0
   ·rw [if_pos h0]
    exact ⟨fun h => by omega, fun _ => h0⟩
   ·rw [if_neg h0]
    have ih1 := qs5 s x b k hb.1 (by omega) (by omega)
    by_cases h1 : (sizR s x : Int) ≤ b ∧ k + dpY (putY s x) ≤ 101
    ·rw [ih1.1 h1]
     have ih2 := qnt s r (b - sizR s x) k hb.2 (by omega)
     refine ⟨fun h => ?_, fun h => ?_⟩
     ·rw [ih2.1 ⟨by omega, by omega, by omega⟩]
      simp only [Option.map_some]
      congr 1
      omega
     ·exact ih2.2 (by omega)
    ·have h2 := ih1.2 h1
     rw [qwt s h2]
     refine ⟨fun h => ?_, fun h => h2⟩
     exfalso; omega
end
mutual
theorem qsu {s : List Pr} (hs : okR s) : ∀ (t : Ty) (b k : Int), 0 ≤ b → b ≤ 4096 → -4096 ≤ (bput s t b k).1 ∧ (bput s t b k).1 ≤ 4096
 | .mk c v l, b, k, h0, h1 => by
   rw [bput]
   split
   ·rename_i u hu
    have hl : qi v s = some u := by
     by_cases hc : c = []
     ·rwa [if_pos hc] at hu
     ·rw [if_neg hc] at hu; cases hu
    have := qrz hs hl
    simp only
    split <;> omega
   ·simp only
    exact qph hs l (b - 1) (k + 1) (by omega) (by omega)
theorem qph {s : List Pr} (hs : okR s) : ∀ (l : List Ty) (b k : Int), -4096 ≤ b → b ≤ 4096 → -4096 ≤ (qcg s l b k).1 ∧ (qcg s l b k).1 ≤ 4096
 | [], b, k, h0, h1 => by rw [qcg]; exact ⟨h0, h1⟩
 | x :: r, b, k, h0, h1 => by
   rw [qcg]
   split
   ·exact ⟨h0, h1⟩
   ·rename_i h
    have := qsu hs x b k (by omega) h1
    exact qph hs r _ k this.1 this.2
end

/-! one behind the other -/
end Go.V
