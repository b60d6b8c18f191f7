/- A text of this proof. -/
import Derived.Test.YtlahgbhhejkgbaaGreatLan
import Derived.Test.YtlahgbhhejkgbaaGreatLav

/- substitutions: what they do, program and reference alike -/
namespace Go.Proofs.YtlahgbhhejkgbaaGreat
open Go Go.RowKit Go.V
set_option linter.unusedVariables false
set_option linter.unusedSimpArgs false

theorem ql (t : Ty) : qc t = true ↔ szY t ≤ 4096 ∧ dpY t ≤ 100 ∧ qbj t = true := by
 rw [qc, Bool.and_eq_true, Bool.and_eq_true, decide_eq_true_eq, decide_eq_true_eq]
theorem qnu {t : Ty} (h : qbj t = true) (hc : t.con = []) : t.args = [] := by
 rw [qdc, Bool.and_eq_true] at h
 have h2 := h.2
 rw [mayY, mayW, if_pos hc, decide_eq_true_eq] at h2
 exact List.length_eq_zero_iff.1 (by omega)
mutual
theorem qc4 : ∀ t, qbj t = true → bare t
 | .mk c v l, h => by
   rw [bare]
   refine ⟨fun hc => qnu h hc, qh8 l ?_⟩
   rw [qbj, Bool.and_eq_true] at h
   exact h.1
theorem qh8 : ∀ l, qx l = true → qec l
 | [], _ => by rw [qec]; trivial
 | x :: r, h => by
   rw [qx, Bool.and_eq_true] at h
   rw [qec]
   exact ⟨qc4 x h.1, qh8 r h.2⟩
end
def okS (s : List Pr) : Prop := risR s ∧ ∀ p ∈ s, qc p.ty = true
theorem qcu : okS [] := ⟨trivial, fun p hp => by simp at hp⟩
theorem qba6 {s : List Pr} (h : okS s) : okR s := fun p hp => by
 have := (ql _).1 (h.2 p hp)
 exact ⟨this.1, this.2.1⟩
theorem qm2 {s : List Pr} (h : okS s) {v : Int} {u : Ty} (hu : qi v s = some u) : qc u = true := by
 obtain ⟨p, h1, _, rfl⟩ := qdt hu
 exact h.2 p h1
mutual
theorem qoa {s : List Pr} (h : okS s) : ∀ t, qbj t = true → qbj (putY s t) = true
 | .mk c v l, ht => by
   rw [putY]
   split
   ·cases hl : qi v s with
    | some u => exact ((ql u).1 (qm2 h hl)).2.2
    | none => exact ht
   ·rw [qbj, Bool.and_eq_true] at ht ⊢
    exact ⟨qlc h l ht.1, by rw [qy2]; exact ht.2⟩
theorem qlc {s : List Pr} (h : okS s) : ∀ l, qx l = true → qx (qds s l) = true
 | [], _ => by rw [qds, qx]
 | x :: r, hl => by
   rw [qx, Bool.and_eq_true] at hl
   rw [qds, qx, Bool.and_eq_true]
   exact ⟨qoa h x hl.1, qlc h r hl.2⟩
end
def setR (l : List Pr) (v : Int) (t : Ty) : List Pr × Int := if qc t = true then (match qi v l with | some _ => (l, 6) | none => (insR v t l, 0)) else (l, 1)
theorem qkn {s : List Pr} (h : okS s) (v : Int) (t : Ty) : okS (setR s v t).1 := by
 rw [setR]
 split
 ·rename_i ht
  cases hl : qi v s with
  | some u => exact h
  | none =>
    refine ⟨qrm h.1 hl, fun p hp => ?_⟩
    rcases insR_mem.1 hp with rfl | hp
    ·exact ht
    ·exact h.2 p hp
 ·exact h
theorem qiy (s : List Pr) (v : Int) (t : Ty) : (setR s v t).1.length ≤ s.length + 1 := by
 rw [setR]
 split
 ·cases qi v s with
  | some u => simp
  | none => simp only [qmf]; omega
 ·simp
def addR (s : List Pr) : List Pr → List Pr
 | [] => s
 | p :: r => addR (setR s p.v p.ty).1 r
theorem qmg : ∀ (l : List Pr) {s : List Pr}, okS s → okS (addR s l)
 | [], s, h => h
 | p :: r, s, h => qmg r (qkn h p.v p.ty)
theorem qm9 : ∀ (l s : List Pr), (addR s l).length ≤ s.length + l.length
 | [], s => by simp [addR]
 | p :: r, s => by
   have h1 := qm9 r (setR s p.v p.ty).1
   have h2 := qiy s p.v p.ty
   rw [addR, List.length_cons]; omega
def newR (l : List Pr) : List Pr := addR [] l
theorem qmm (l : List Pr) : okS (newR l) := qmg l qcu
theorem qr0 (l : List Pr) : (newR l).length ≤ l.length := by have := qm9 l []; rw [newR]; simpa using this
def appR (s : List Pr) (t : Ty) : Ty × Int := if qc t = true then (if 4096 < sizR s t then (Y0, 2) else if qc (putY s t) = true then (putY s t, 0) else (Y0, 2)) else (Y0, 1)
theorem qmu {s : List Pr} (h : okS s) (t : Ty) : appR s t = if qc t = true then (if qc (putY s t) = true then (putY s t, 0) else (Y0, 2)) else (Y0, 1) := by
 rw [appR]
 split
 ·rename_i ht
  have hs := qft ht
  have hz := qqa s t (qc4 t hs)
  split
  ·rename_i hb
   rw [if_neg]
   intro hl
   have := ((ql _).1 hl).1
   omega
  ·rfl
 ·rfl
def appP (s : List Pr) (t : Ty) : Ty × Int := if qc t = true then (if (bput s t 4096 1).1 < 0 then (Y0, 2) else ((bput s t 4096 1).2, 0)) else (Y0, 1)
theorem qbeg {s : List Pr} (h : okS s) (t : Ty) : appP s t = appR s t := by
 rw [appP, qmu h]
 split
 ·rename_i ht
  obtain ⟨h1, h2, h3⟩ := (ql t).1 ht
  have hz := qqa s t (qc4 t h3)
  have hp := qoa h t h3
  have key := qs5 s t 4096 1 (qc4 t h3) (by omega) (by omega)
  by_cases hk : (sizR s t : Int) ≤ 4096 ∧ 1 + dpY (putY s t) ≤ 101
  ·have hk' : (sizR s t : Int) ≤ 4096 ∧ (1 : Int) + dpY (putY s t) ≤ 101 := by omega
   rw [key.1 hk', if_neg (by simp only; omega), if_pos ((ql _).2 ⟨by omega, by omega, hp⟩)]
  ·rw [if_pos (key.2 (by omega)), if_neg]
   intro hl
   have := (ql _).1 hl
   omega
 ·rfl
theorem qbc {s : List Pr} (h : okS s) {t : Ty} (he : (appR s t).2 = 0) : qc t = true ∧ qc (putY s t) = true ∧ (appR s t).1 = putY s t := by
 rw [qmu h] at he ⊢
 split at he
 ·rename_i h1
  split at he
  ·rename_i h2
   rw [if_pos h1, if_pos h2]
   exact ⟨h1, h2, rfl⟩
  ·exact absurd he (by simp)
 ·exact absurd he (by simp)
theorem q3t {s : List Pr} (h : okS s) {t : Ty} (he : (appR s t).2 ≠ 0) : (appR s t).1 = Y0 := by
 rw [qmu h] at he ⊢
 split at he
 ·rename_i h1
  split at he
  ·exact absurd rfl he
  ·rename_i h2
   rw [if_pos h1, if_neg h2]
 ·rename_i h1
  rw [if_neg h1]
def qhh (t : List Pr) : List Pr → List Pr → List Pr × Int
 | acc, [] => (acc, 0)
 | acc, p :: r => if (appR t p.ty).2 = 0 then qhh t (acc ++ [⟨p.v, (appR t p.ty).1⟩]) r else ([], (appR t p.ty).2)
def qbq (t : List Pr) : List Pr → List Pr → List Pr × Int
 | acc, [] => (acc, 0)
 | acc, p :: r => if (appR t p.ty).2 = 0 then qbq t (setR acc p.v (appR t p.ty).1).1 r else ([], (appR t p.ty).2)
theorem q3u {s : List Pr} {v : Int} {t : Ty} (ht : qc t = true) (h : ∀ p ∈ s, p.v < v) : setR s v t = (s ++ [⟨v, t⟩], 0) := by
 have hn : qi v s = none := qm0 fun p hp => by have := h p hp; omega
 rw [setR, if_pos ht, hn]
 simp only
 rw [qsi h]
theorem qr2 {t : List Pr} (ht : okS t) : ∀ (s acc : List Pr), risR s → (∀ p ∈ acc, ∀ q ∈ s, p.v < q.v) → qbq t acc s = qhh t acc s
 | [], acc, _, _ => rfl
 | p :: r, acc, hs, hlt => by
   rw [qbq, qhh]
   split
   ·rename_i he
    obtain ⟨h1, h2, h3⟩ := qbc ht he
    rw [q3u (by rw [h3]; exact h2) fun q hq => hlt q hq p (by simp)]
    refine qr2 ht r _ hs.2 fun a ha q hq => ?_
    rcases List.mem_append.1 ha with ha | ha
    ·exact hlt a ha q (by simp [hq])
    ·simp at ha
     subst ha
     exact hs.1 q hq
   ·rfl
def behR (s t : List Pr) : List Pr × Int := if (qhh t [] s).2 = 0 then (addR (qhh t [] s).1 t, 0) else ([], (qhh t [] s).2)
theorem qgd {t : List Pr} (ht : okS t) : ∀ (s acc : List Pr), (qhh t acc s).2 = 0 → (qhh t acc s).1 = acc ++ s.map (fun p => ⟨p.v, putY t p.ty⟩) ∧ ∀ p ∈ s, qc (putY t p.ty) = true
 | [], acc, _ => ⟨by simp [qhh], fun p hp => by simp at hp⟩
 | p :: r, acc, he => by
   rw [qhh] at he ⊢
   split at he
   ·rename_i h0
    obtain ⟨h1, h2, h3⟩ := qbc ht h0
    obtain ⟨q1, q2⟩ := qgd ht r _ he
    rw [if_pos h0]
    refine ⟨by rw [q1, h3]; simp, fun q hq => ?_⟩
    rcases List.mem_cons.1 hq with rfl | hq
    ·exact h2
    ·exact q2 q hq
   ·rename_i h0
    exact absurd he h0
theorem qw7 {t : List Pr} : ∀ {s : List Pr}, risR s → risR (s.map fun p => (⟨p.v, putY t p.ty⟩ : Pr))
 | [], _ => trivial
 | p :: r, h => ⟨fun q hq => by
     obtain ⟨x, hx, rfl⟩ := List.mem_map.1 hq
     exact h.1 x hx, qw7 h.2⟩
theorem qnc {t : List Pr} (v : Int) : ∀ s : List Pr, qi v (s.map fun p => (⟨p.v, putY t p.ty⟩ : Pr)) = (qi v s).map (putY t)
 | [] => rfl
 | p :: r => by
   rw [List.map_cons, qi, qi]
   split
   ·rfl
   ·exact qnc v r
theorem qyp {s : List Pr} {v x : Int} {t : Ty} (ht : qc t = true) : qi x (setR s v t).1 = match qi x s with | some u => some u | none => if x = v then some t else none := by
 rw [setR, if_pos ht]
 cases hl : qi v s with
 | some u =>
   simp only
   cases hx : qi x s with
   | some w => rfl
   | none =>
     simp only
     rw [if_neg]
     rintro rfl
     rw [hl] at hx
     cases hx
 | none =>
   simp only
   rw [qet hl]
   split
   ·rename_i h; subst h; rw [hl]
   ·cases qi x s <;> rfl
theorem qnz (x : Int) : ∀ (l s : List Pr), (∀ p ∈ l, qc p.ty = true) → qi x (addR s l) = match qi x s with | some u => some u | none => qi x l
 | [], s, _ => by
   rw [addR, qi]
   cases qi x s <;> rfl
 | p :: r, s, h => by
   rw [addR, qnz x r _ fun q hq => h q (by simp [hq]), qyp (h p (by simp)), qi]
   cases hx : qi x s with
   | some u => rfl
   | none =>
     simp only
     by_cases hv : x = p.v
     ·rw [if_pos hv, if_pos hv.symm]
     ·rw [if_neg hv, if_neg (fun h => hv h.symm)]
theorem qrb {s t : List Pr} (hs : okS s) (ht : okS t) : okS (behR s t).1 := by
 rw [behR]
 split
 ·rename_i he
  obtain ⟨q1, q2⟩ := qgd ht s [] he
  refine qmg t ?_
  rw [q1, List.nil_append]
  refine ⟨qw7 hs.1, fun p hp => ?_⟩
  obtain ⟨x, hx, rfl⟩ := List.mem_map.1 hp
  exact q2 x hx
 ·exact qcu
theorem qo4 {s t : List Pr} (hs : okS s) (ht : okS t) (he : (behR s t).2 = 0) (v : Int) : qi v (behR s t).1 = match qi v s with | some u => some (putY t u) | none => qi v t := by
 rw [behR] at he ⊢
 split at he
 ·rename_i h0
  rw [if_pos h0]
  obtain ⟨q1, q2⟩ := qgd ht s [] h0
  simp only
  rw [qnz v t _ ht.2, q1, List.nil_append, qnc]
  cases qi v s <;> rfl
 ·rename_i h0
  exact absurd he h0
def qbpk (vars : List Int) (s : List Pr) : List Pr := s.filter fun p => decide (p.v ∈ vars)
theorem qhc (f : Pr → Bool) : ∀ {s : List Pr}, risR s → risR (s.filter f)
 | [], _ => trivial
 | p :: r, h => by
   rw [List.filter_cons]
   split
   ·exact ⟨fun q hq => h.1 q (List.mem_filter.1 hq).1, qhc f h.2⟩
   ·exact qhc f h.2
theorem q12 {s : List Pr} (h : okS s) (vars : List Int) : okS (qbpk vars s) := ⟨qhc _ h.1, fun p hp => h.2 p (List.mem_filter.1 hp).1⟩
end Go.Proofs.YtlahgbhhejkgbaaGreat
