/- Texts of this proof, joined. -/
import Derived.Test.YtlahgbhhejkgbaaRal
import Derived.Test.YtlahgbhhejkgbaaRat

/- substitutions: what they do, program and reference alike -/
namespace Go.Proofs.Ytlahgbhhejkgbaa
open Go Go.RowKit Go.V
set_option linter.unusedVariables false
set_option linter.unusedSimpArgs false

theorem qq (t : Ty) : qd t = true ↔ szY t ≤ 4096 ∧ dpY t ≤ 100 ∧ qbx t = true := by
 rw [qd, Bool.and_eq_true, Bool.and_eq_true, decide_eq_true_eq, decide_eq_true_eq]
theorem qoq {t : Ty} (h : qbx t = true) (hc : t.con = []) : t.args = [] := by
 rw [qeg, Bool.and_eq_true] at h
 have h2 := h.2
 rw [mayY, mayW, if_pos hc, decide_eq_true_eq] at h2
 exact List.length_eq_zero_iff.1 (by omega)
mutual
theorem qcx : ∀ t, qbx t = true → bare t
 | .mk c v l, h => by
   rw [bare]
   refine ⟨fun hc => qoq h hc, qhk l ?_⟩
   rw [qbx, Bool.and_eq_true] at h
   exact h.1
theorem qhk : ∀ l, qbt l = true → qgj l
 | [], _ => by rw [qgj]; trivial
 | x :: r, h => by
   rw [qbt, Bool.and_eq_true] at h
   rw [qgj]
   exact ⟨qcx x h.1, qhk r h.2⟩
end
def okS (s : List Pr) : Prop := risR s ∧ ∀ p ∈ s, qd p.ty = true
theorem qc1 : okS [] := ⟨trivial, fun p hp => by simp at hp⟩
theorem q40 {s : List Pr} (h : okS s) : okR s := fun p hp => by
 have := (qq _).1 (h.2 p hp)
 exact ⟨this.1, this.2.1⟩
theorem qqf {s : List Pr} (h : okS s) {v : Int} {u : Ty} (hu : ql v s = some u) : qd u = true := by
 obtain ⟨p, h1, _, rfl⟩ := qdk hu
 exact h.2 p h1
mutual
theorem qn5 {s : List Pr} (h : okS s) : ∀ t, qbx t = true → qbx (putY s t) = true
 | .mk c v l, ht => by
   rw [putY]
   split
   ·cases hl : ql v s with
    | some u => exact ((qq u).1 (qqf h hl)).2.2
    | none => exact ht
   ·rw [qbx, Bool.and_eq_true] at ht ⊢
    exact ⟨qkx h l ht.1, by rw [qvb]; exact ht.2⟩
theorem qkx {s : List Pr} (h : okS s) : ∀ l, qbt l = true → qbt (qdp s l) = true
 | [], _ => by rw [qdp, qbt]
 | x :: r, hl => by
   rw [qbt, Bool.and_eq_true] at hl
   rw [qdp, qbt, Bool.and_eq_true]
   exact ⟨qn5 h x hl.1, qkx h r hl.2⟩
end
def setR (l : List Pr) (v : Int) (t : Ty) : List Pr × Int := if qd t = true then (match ql v l with | some _ => (l, 6) | none => (insR v t l, 0)) else (l, 1)
theorem qlx {s : List Pr} (h : okS s) (v : Int) (t : Ty) : okS (setR s v t).1 := by
 rw [setR]
 split
 ·rename_i ht
  cases hl : ql v s with
  | some u => exact h
  | none =>
    refine ⟨qp8 h.1 hl, fun p hp => ?_⟩
    rcases insR_mem.1 hp with rfl | hp
    ·exact ht
    ·exact h.2 p hp
 ·exact h
theorem qlt (s : List Pr) (v : Int) (t : Ty) : (setR s v t).1.length ≤ s.length + 1 := by
 rw [setR]
 split
 ·cases ql v s with
  | some u => simp
  | none => simp only [qlw]; omega
 ·simp
def addR (s : List Pr) : List Pr → List Pr
 | [] => s
 | p :: r => addR (setR s p.v p.ty).1 r
theorem qme : ∀ (l : List Pr) {s : List Pr}, okS s → okS (addR s l)
 | [], s, h => h
 | p :: r, s, h => qme r (qlx h p.v p.ty)
theorem qla : ∀ (l s : List Pr), (addR s l).length ≤ s.length + l.length
 | [], s => by simp [addR]
 | p :: r, s => by
   have h1 := qla r (setR s p.v p.ty).1
   have h2 := qlt s p.v p.ty
   rw [addR, List.length_cons]; omega
def newR (l : List Pr) : List Pr := addR [] l
theorem qo2 (l : List Pr) : okS (newR l) := qme l qc1
theorem q1k (l : List Pr) : (newR l).length ≤ l.length := by have := qla l []; rw [newR]; simpa using this
def appR (s : List Pr) (t : Ty) : Ty × Int := if qd t = true then (if 4096 < sizR s t then (Y0, 2) else if qd (putY s t) = true then (putY s t, 0) else (Y0, 2)) else (Y0, 1)
theorem qdx {s : List Pr} (h : okS s) (t : Ty) : appR s t = if qd t = true then (if qd (putY s t) = true then (putY s t, 0) else (Y0, 2)) else (Y0, 1) := by
 rw [appR]
 split
 ·rename_i ht
  have hs := qfm ht
  have hz := qp2 s t (qcx t hs)
  split
  ·rename_i hb
   rw [if_neg]
   intro hl
   have := ((qq _).1 hl).1
   omega
  ·rfl
 ·rfl
def appP (s : List Pr) (t : Ty) : Ty × Int := if qd t = true then (if (bput s t 4096 1).1 < 0 then (Y0, 2) else ((bput s t 4096 1).2, 0)) else (Y0, 1)
theorem qbdy {s : List Pr} (h : okS s) (t : Ty) : appP s t = appR s t := by
 rw [appP, qdx h]
 split
 ·rename_i ht
  obtain ⟨h1, h2, h3⟩ := (qq t).1 ht
  have hz := qp2 s t (qcx t h3)
  have hp := qn5 h t h3
  have key := qrj s t 4096 1 (qcx t h3) (by omega) (by omega)
  by_cases hk : (sizR s t : Int) ≤ 4096 ∧ 1 + dpY (putY s t) ≤ 101
  ·have hk' : (sizR s t : Int) ≤ 4096 ∧ (1 : Int) + dpY (putY s t) ≤ 101 := by omega
   rw [key.1 hk', if_neg (by simp only; omega), if_pos ((qq _).2 ⟨by omega, by omega, hp⟩)]
  ·rw [if_pos (key.2 (by omega)), if_neg]
   intro hl
   have := (qq _).1 hl
   omega
 ·rfl
theorem qbo {s : List Pr} (h : okS s) {t : Ty} (he : (appR s t).2 = 0) : qd t = true ∧ qd (putY s t) = true ∧ (appR s t).1 = putY s t := by
 rw [qdx h] at he ⊢
 split at he
 ·rename_i h1
  split at he
  ·rename_i h2
   rw [if_pos h1, if_pos h2]
   exact ⟨h1, h2, rfl⟩
  ·exact absurd he (by simp)
 ·exact absurd he (by simp)
theorem q3n {s : List Pr} (h : okS s) {t : Ty} (he : (appR s t).2 ≠ 0) : (appR s t).1 = Y0 := by
 rw [qdx h] at he ⊢
 split at he
 ·rename_i h1
  split at he
  ·exact absurd rfl he
  ·rename_i h2
   rw [if_pos h1, if_neg h2]
 ·rename_i h1
  rw [if_neg h1]
def qg1 (t : List Pr) : List Pr → List Pr → List Pr × Int
 | acc, [] => (acc, 0)
 | acc, p :: r => if (appR t p.ty).2 = 0 then qg1 t (acc ++ [⟨p.v, (appR t p.ty).1⟩]) r else ([], (appR t p.ty).2)
def qbk (t : List Pr) : List Pr → List Pr → List Pr × Int
 | acc, [] => (acc, 0)
 | acc, p :: r => if (appR t p.ty).2 = 0 then qbk t (setR acc p.v (appR t p.ty).1).1 r else ([], (appR t p.ty).2)
theorem q18 {s : List Pr} {v : Int} {t : Ty} (ht : qd t = true) (h : ∀ p ∈ s, p.v < v) : setR s v t = (s ++ [⟨v, t⟩], 0) := by
 have hn : ql v s = none := qk8 fun p hp => by have := h p hp; omega
 rw [setR, if_pos ht, hn]
 simp only
 rw [qrp h]
theorem qrv {t : List Pr} (ht : okS t) : ∀ (s acc : List Pr), risR s → (∀ p ∈ acc, ∀ q ∈ s, p.v < q.v) → qbk t acc s = qg1 t acc s
 | [], acc, _, _ => rfl
 | p :: r, acc, hs, hlt => by
   rw [qbk, qg1]
   split
   ·rename_i he
    obtain ⟨h1, h2, h3⟩ := qbo ht he
    rw [q18 (by rw [h3]; exact h2) fun q hq => hlt q hq p (by simp)]
    refine qrv ht r _ hs.2 fun a ha q hq => ?_
    rcases List.mem_append.1 ha with ha | ha
    ·exact hlt a ha q (by simp [hq])
    ·simp at ha
     subst ha
     exact hs.1 q hq
   ·rfl
def behR (s t : List Pr) : List Pr × Int := if (qg1 t [] s).2 = 0 then (addR (qg1 t [] s).1 t, 0) else ([], (qg1 t [] s).2)
theorem qfu {t : List Pr} (ht : okS t) : ∀ (s acc : List Pr), (qg1 t acc s).2 = 0 → (qg1 t acc s).1 = acc ++ s.map (fun p => ⟨p.v, putY t p.ty⟩) ∧ ∀ p ∈ s, qd (putY t p.ty) = true
 | [], acc, _ => ⟨by simp [qg1], fun p hp => by simp at hp⟩
 | p :: r, acc, he => by
   rw [qg1] at he ⊢
   split at he
   ·rename_i h0
    obtain ⟨h1, h2, h3⟩ := qbo ht h0
    obtain ⟨q1, q2⟩ := qfu ht r _ he
    rw [if_pos h0]
    refine ⟨by rw [q1, h3]; simp, fun q hq => ?_⟩
    rcases List.mem_cons.1 hq with rfl | hq
    ·exact h2
    ·exact q2 q hq
   ·rename_i h0
    exact absurd he h0
theorem qw2 {t : List Pr} : ∀ {s : List Pr}, risR s → risR (s.map fun p => (⟨p.v, putY t p.ty⟩ : Pr))
 | [], _ => trivial
 | p :: r, h => ⟨fun q hq => by
     obtain ⟨x, hx, rfl⟩ := List.mem_map.1 hq
     exact h.1 x hx, qw2 h.2⟩
theorem qlo {t : List Pr} (v : Int) : ∀ s : List Pr, ql v (s.map fun p => (⟨p.v, putY t p.ty⟩ : Pr)) = (ql v s).map (putY t)
 | [] => rfl
 | p :: r => by
   rw [List.map_cons, ql, ql]
   split
   ·rfl
   ·exact qlo v r
theorem qup {s : List Pr} {v x : Int} {t : Ty} (ht : qd t = true) : ql x (setR s v t).1 = match ql x s with | some u => some u | none => if x = v then some t else none := by
 rw [setR, if_pos ht]
 cases hl : ql v s with
 | some u =>
   simp only
   cases hx : ql x s with
   | some w => rfl
   | none =>
     simp only
     rw [if_neg]
     rintro rfl
     rw [hl] at hx
     cases hx
 | none =>
   simp only
   rw [qna hl]
   split
   ·rename_i h; subst h; rw [hl]
   ·cases ql x s <;> rfl
theorem qmv (x : Int) : ∀ (l s : List Pr), (∀ p ∈ l, qd p.ty = true) → ql x (addR s l) = match ql x s with | some u => some u | none => ql x l
 | [], s, _ => by
   rw [addR, ql]
   cases ql x s <;> rfl
 | p :: r, s, h => by
   rw [addR, qmv x r _ fun q hq => h q (by simp [hq]), qup (h p (by simp)), ql]
   cases hx : ql x s with
   | some u => rfl
   | none =>
     simp only
     by_cases hv : x = p.v
     ·rw [if_pos hv, if_pos hv.symm]
     ·rw [if_neg hv, if_neg (fun h => hv h.symm)]
theorem qp1 {s t : List Pr} (hs : okS s) (ht : okS t) : okS (behR s t).1 := by
 rw [behR]
 split
 ·rename_i he
  obtain ⟨q1, q2⟩ := qfu ht s [] he
  refine qme t ?_
  rw [q1, List.nil_append]
  refine ⟨qw2 hs.1, fun p hp => ?_⟩
  obtain ⟨x, hx, rfl⟩ := List.mem_map.1 hp
  exact q2 x hx
 ·exact qc1
theorem qmu {s t : List Pr} (hs : okS s) (ht : okS t) (he : (behR s t).2 = 0) (v : Int) : ql v (behR s t).1 = match ql v s with | some u => some (putY t u) | none => ql v t := by
 rw [behR] at he ⊢
 split at he
 ·rename_i h0
  rw [if_pos h0]
  obtain ⟨q1, q2⟩ := qfu ht s [] h0
  simp only
  rw [qmv v t _ ht.2, q1, List.nil_append, qlo]
  cases ql v s <;> rfl
 ·rename_i h0
  exact absurd he h0
def qbm7 (vars : List Int) (s : List Pr) : List Pr := s.filter fun p => decide (p.v ∈ vars)
theorem qhb (f : Pr → Bool) : ∀ {s : List Pr}, risR s → risR (s.filter f)
 | [], _ => trivial
 | p :: r, h => by
   rw [List.filter_cons]
   split
   ·exact ⟨fun q hq => h.1 q (List.mem_filter.1 hq).1, qhb f h.2⟩
   ·exact qhb f h.2
theorem q2j {s : List Pr} (h : okS s) (vars : List Int) : okS (qbm7 vars s) := ⟨qhb _ h.1, fun p hp => h.2 p (List.mem_filter.1 hp).1⟩


theorem qke (t : Ty) : [encY t] = qs [t] := by rw [qs, qs]

/-! the reference's -/


def typA (p : Ty × Int) : AV := .tup [encY p.1, .int .i64 p.2]
theorem qo8 (k : Nat) (p : Ty × Int) : (typA p).bd k = true := by simp only [typA, AV.bd, AV.bds, qx, Bool.and_true]
end Go.Proofs.Ytlahgbhhejkgbaa
