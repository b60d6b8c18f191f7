/- A text of this proof. -/
import Derived.Test.YtlahgbhhejkgbaaGreatKam
import Derived.Test.YtlahgbhhejkgbaaGreatKau

/- substitutions: what they do, program and reference alike -/
namespace Go.Proofs.YtlahgbhhejkgbaaGreat
open Go Go.RowKit Go.V
set_option linter.unusedVariables false
set_option linter.unusedSimpArgs false

theorem qp (t : Ty) : qd t = true ↔ szY t ≤ 4096 ∧ dpY t ≤ 100 ∧ qb6 t = true := by
 rw [qd, Bool.and_eq_true, Bool.and_eq_true, decide_eq_true_eq, decide_eq_true_eq]
theorem qpz {t : Ty} (h : qb6 t = true) (hc : t.con = []) : t.args = [] := by
 rw [qd0, Bool.and_eq_true] at h
 have h2 := h.2
 rw [mayY, mayW, if_pos hc, decide_eq_true_eq] at h2
 exact List.length_eq_zero_iff.1 (by omega)
mutual
theorem qcs : ∀ t, qb6 t = true → bare t
 | .mk c v l, h => by
   rw [bare]
   refine ⟨fun hc => qpz h hc, qie l ?_⟩
   rw [qb6, Bool.and_eq_true] at h
   exact h.1
theorem qie : ∀ l, qbi l = true → qg1 l
 | [], _ => by rw [qg1]; trivial
 | x :: r, h => by
   rw [qbi, Bool.and_eq_true] at h
   rw [qg1]
   exact ⟨qcs x h.1, qie r h.2⟩
end
def okS (s : List Pr) : Prop := risR s ∧ ∀ p ∈ s, qd p.ty = true
theorem qdf : okS [] := ⟨trivial, fun p hp => by simp at hp⟩
theorem qmy {s : List Pr} (h : okS s) : okR s := fun p hp => by
 have := (qp _).1 (h.2 p hp)
 exact ⟨this.1, this.2.1⟩
theorem qr8 {s : List Pr} (h : okS s) {v : Int} {u : Ty} (hu : qk v s = some u) : qd u = true := by
 obtain ⟨p, h1, _, rfl⟩ := qd1 hu
 exact h.2 p h1
mutual
theorem qpc {s : List Pr} (h : okS s) : ∀ t, qb6 t = true → qb6 (putY s t) = true
 | .mk c v l, ht => by
   rw [putY]
   split
   ·cases hl : qk v s with
    | some u => exact ((qp u).1 (qr8 h hl)).2.2
    | none => exact ht
   ·rw [qb6, Bool.and_eq_true] at ht ⊢
    exact ⟨qlh h l ht.1, by rw [qg7]; exact ht.2⟩
theorem qlh {s : List Pr} (h : okS s) : ∀ l, qbi l = true → qbi (qb0 s l) = true
 | [], _ => by rw [qb0, qbi]
 | x :: r, hl => by
   rw [qbi, Bool.and_eq_true] at hl
   rw [qb0, qbi, Bool.and_eq_true]
   exact ⟨qpc h x hl.1, qlh h r hl.2⟩
end
def setR (l : List Pr) (v : Int) (t : Ty) : List Pr × Int := if qd t = true then (match qk v l with | some _ => (l, 6) | none => (insR v t l, 0)) else (l, 1)
theorem qmp {s : List Pr} (h : okS s) (v : Int) (t : Ty) : okS (setR s v t).1 := by
 rw [setR]
 split
 ·rename_i ht
  cases hl : qk v s with
  | some u => exact h
  | none =>
    refine ⟨qss h.1 hl, fun p hp => ?_⟩
    rcases insR_mem.1 hp with rfl | hp
    ·exact ht
    ·exact h.2 p hp
 ·exact h
theorem qmv (s : List Pr) (v : Int) (t : Ty) : (setR s v t).1.length ≤ s.length + 1 := by
 rw [setR]
 split
 ·cases qk v s with
  | some u => simp
  | none => simp only [qme]; omega
 ·simp
def addR (s : List Pr) : List Pr → List Pr
 | [] => s
 | p :: r => addR (setR s p.v p.ty).1 r
theorem qno : ∀ (l : List Pr) {s : List Pr}, okS s → okS (addR s l)
 | [], s, h => h
 | p :: r, s, h => qno r (qmp h p.v p.ty)
theorem qi7 : ∀ (l s : List Pr), (addR s l).length ≤ s.length + l.length
 | [], s => by simp [addR]
 | p :: r, s => by
   have h1 := qi7 r (setR s p.v p.ty).1
   have h2 := qmv s p.v p.ty
   rw [addR, List.length_cons]; omega
def newR (l : List Pr) : List Pr := addR [] l
theorem qrp (l : List Pr) : okS (newR l) := qno l qdf
theorem q4a (l : List Pr) : (newR l).length ≤ l.length := by have := qi7 l []; rw [newR]; simpa using this
def appR (s : List Pr) (t : Ty) : Ty × Int := if qd t = true then (if 4096 < sizR s t then (Y0, 2) else if qd (putY s t) = true then (putY s t, 0) else (Y0, 2)) else (Y0, 1)
theorem qnn {s : List Pr} (h : okS s) (t : Ty) : appR s t = if qd t = true then (if qd (putY s t) = true then (putY s t, 0) else (Y0, 2)) else (Y0, 1) := by
 rw [appR]
 split
 ·rename_i ht
  have hs := qej ht
  have hz := qmi s t (qcs t hs)
  split
  ·rename_i hb
   rw [if_neg]
   intro hl
   have := ((qp _).1 hl).1
   omega
  ·rfl
 ·rfl
def appP (s : List Pr) (t : Ty) : Ty × Int := if qd t = true then (if (bput s t 4096 1).1 < 0 then (Y0, 2) else ((bput s t 4096 1).2, 0)) else (Y0, 1)
theorem qblh {s : List Pr} (h : okS s) (t : Ty) : appP s t = appR s t := by
 rw [appP, qnn h]
 split
 ·rename_i ht
  obtain ⟨h1, h2, h3⟩ := (qp t).1 ht
  have hz := qmi s t (qcs t h3)
  have hp := qpc h t h3
  have key := qso s t 4096 1 (qcs t h3) (by omega) (by omega)
  by_cases hk : (sizR s t : Int) ≤ 4096 ∧ 1 + dpY (putY s t) ≤ 101
  ·have hk' : (sizR s t : Int) ≤ 4096 ∧ (1 : Int) + dpY (putY s t) ≤ 101 := by omega
   rw [key.1 hk', if_neg (by simp only; omega), if_pos ((qp _).2 ⟨by omega, by omega, hp⟩)]
  ·rw [if_pos (key.2 (by omega)), if_neg]
   intro hl
   have := (qp _).1 hl
   omega
 ·rfl
theorem qbl {s : List Pr} (h : okS s) {t : Ty} (he : (appR s t).2 = 0) : qd t = true ∧ qd (putY s t) = true ∧ (appR s t).1 = putY s t := by
 rw [qnn h] at he ⊢
 split at he
 ·rename_i h1
  split at he
  ·rename_i h2
   rw [if_pos h1, if_pos h2]
   exact ⟨h1, h2, rfl⟩
  ·exact absurd he (by simp)
 ·exact absurd he (by simp)
theorem q2b {s : List Pr} (h : okS s) {t : Ty} (he : (appR s t).2 ≠ 0) : (appR s t).1 = Y0 := by
 rw [qnn h] at he ⊢
 split at he
 ·rename_i h1
  split at he
  ·exact absurd rfl he
  ·rename_i h2
   rw [if_pos h1, if_neg h2]
 ·rename_i h1
  rw [if_neg h1]
def qd4 (t : List Pr) : List Pr → List Pr → List Pr × Int
 | acc, [] => (acc, 0)
 | acc, p :: r => if (appR t p.ty).2 = 0 then qd4 t (acc ++ [⟨p.v, (appR t p.ty).1⟩]) r else ([], (appR t p.ty).2)
def qbs (t : List Pr) : List Pr → List Pr → List Pr × Int
 | acc, [] => (acc, 0)
 | acc, p :: r => if (appR t p.ty).2 = 0 then qbs t (setR acc p.v (appR t p.ty).1).1 r else ([], (appR t p.ty).2)
theorem q01 {s : List Pr} {v : Int} {t : Ty} (ht : qd t = true) (h : ∀ p ∈ s, p.v < v) : setR s v t = (s ++ [⟨v, t⟩], 0) := by
 have hn : qk v s = none := qm9 fun p hp => by have := h p hp; omega
 rw [setR, if_pos ht, hn]
 simp only
 rw [qs8 h]
theorem qtd {t : List Pr} (ht : okS t) : ∀ (s acc : List Pr), risR s → (∀ p ∈ acc, ∀ q ∈ s, p.v < q.v) → qbs t acc s = qd4 t acc s
 | [], acc, _, _ => rfl
 | p :: r, acc, hs, hlt => by
   rw [qbs, qd4]
   split
   ·rename_i he
    obtain ⟨h1, h2, h3⟩ := qbl ht he
    rw [q01 (by rw [h3]; exact h2) fun q hq => hlt q hq p (by simp)]
    refine qtd ht r _ hs.2 fun a ha q hq => ?_
    rcases List.mem_append.1 ha with ha | ha
    ·exact hlt a ha q (by simp [hq])
    ·simp at ha
     subst ha
     exact hs.1 q hq
   ·rfl
def behR (s t : List Pr) : List Pr × Int := if (qd4 t [] s).2 = 0 then (addR (qd4 t [] s).1 t, 0) else ([], (qd4 t [] s).2)
theorem qgi {t : List Pr} (ht : okS t) : ∀ (s acc : List Pr), (qd4 t acc s).2 = 0 → (qd4 t acc s).1 = acc ++ s.map (fun p => ⟨p.v, putY t p.ty⟩) ∧ ∀ p ∈ s, qd (putY t p.ty) = true
 | [], acc, _ => ⟨by simp [qd4], fun p hp => by simp at hp⟩
 | p :: r, acc, he => by
   rw [qd4] at he ⊢
   split at he
   ·rename_i h0
    obtain ⟨h1, h2, h3⟩ := qbl ht h0
    obtain ⟨q1, q2⟩ := qgi ht r _ he
    rw [if_pos h0]
    refine ⟨by rw [q1, h3]; simp, fun q hq => ?_⟩
    rcases List.mem_cons.1 hq with rfl | hq
    ·exact h2
    ·exact q2 q hq
   ·rename_i h0
    exact absurd he h0
theorem qyr {t : List Pr} : ∀ {s : List Pr}, risR s → risR (s.map fun p => (⟨p.v, putY t p.ty⟩ : Pr))
 | [], _ => trivial
 | p :: r, h => ⟨fun q hq => by
     obtain ⟨x, hx, rfl⟩ := List.mem_map.1 hq
     exact h.1 x hx, qyr h.2⟩
theorem qmo {t : List Pr} (v : Int) : ∀ s : List Pr, qk v (s.map fun p => (⟨p.v, putY t p.ty⟩ : Pr)) = (qk v s).map (putY t)
 | [] => rfl
 | p :: r => by
   rw [List.map_cons, qk, qk]
   split
   ·rfl
   ·exact qmo v r
theorem qyl {s : List Pr} {v x : Int} {t : Ty} (ht : qd t = true) : qk x (setR s v t).1 = match qk x s with | some u => some u | none => if x = v then some t else none := by
 rw [setR, if_pos ht]
 cases hl : qk v s with
 | some u =>
   simp only
   cases hx : qk x s with
   | some w => rfl
   | none =>
     simp only
     rw [if_neg]
     rintro rfl
     rw [hl] at hx
     cases hx
 | none =>
   simp only
   rw [qph hl]
   split
   ·rename_i h; subst h; rw [hl]
   ·cases qk x s <;> rfl
theorem qoa (x : Int) : ∀ (l s : List Pr), (∀ p ∈ l, qd p.ty = true) → qk x (addR s l) = match qk x s with | some u => some u | none => qk x l
 | [], s, _ => by
   rw [addR, qk]
   cases qk x s <;> rfl
 | p :: r, s, h => by
   rw [addR, qoa x r _ fun q hq => h q (by simp [hq]), qyl (h p (by simp)), qk]
   cases hx : qk x s with
   | some u => rfl
   | none =>
     simp only
     by_cases hv : x = p.v
     ·rw [if_pos hv, if_pos hv.symm]
     ·rw [if_neg hv, if_neg (fun h => hv h.symm)]
theorem qrj {s t : List Pr} (hs : okS s) (ht : okS t) : okS (behR s t).1 := by
 rw [behR]
 split
 ·rename_i he
  obtain ⟨q1, q2⟩ := qgi ht s [] he
  refine qno t ?_
  rw [q1, List.nil_append]
  refine ⟨qyr hs.1, fun p hp => ?_⟩
  obtain ⟨x, hx, rfl⟩ := List.mem_map.1 hp
  exact q2 x hx
 ·exact qdf
theorem qo2 {s t : List Pr} (hs : okS s) (ht : okS t) (he : (behR s t).2 = 0) (v : Int) : qk v (behR s t).1 = match qk v s with | some u => some (putY t u) | none => qk v t := by
 rw [behR] at he ⊢
 split at he
 ·rename_i h0
  rw [if_pos h0]
  obtain ⟨q1, q2⟩ := qgi ht s [] h0
  simp only
  rw [qoa v t _ ht.2, q1, List.nil_append, qmo]
  cases qk v s <;> rfl
 ·rename_i h0
  exact absurd he h0
def qbqf (vars : List Int) (s : List Pr) : List Pr := s.filter fun p => decide (p.v ∈ vars)
theorem qhp (f : Pr → Bool) : ∀ {s : List Pr}, risR s → risR (s.filter f)
 | [], _ => trivial
 | p :: r, h => by
   rw [List.filter_cons]
   split
   ·exact ⟨fun q hq => h.1 q (List.mem_filter.1 hq).1, qhp f h.2⟩
   ·exact qhp f h.2
theorem q5p {s : List Pr} (h : okS s) (vars : List Int) : okS (qbqf vars s) := ⟨qhp _ h.1, fun p hp => h.2 p (List.mem_filter.1 hp).1⟩
end Go.Proofs.YtlahgbhhejkgbaaGreat
