/- A text of this proof. -/
import Derived.Test.YtlahgbhhejkgbaaGreatTam
import Derived.Test.YtlahgbhhejkgbaaGreatTau

/- substitutions: what they do, program and reference alike -/
namespace Go.Proofs.YtlahgbhhejkgbaaGreat
open Go Go.RowKit Go.V
set_option linter.unusedVariables false
set_option linter.unusedSimpArgs false

theorem ql (t : Ty) : qc t = true ↔ szY t ≤ 4096 ∧ dpY t ≤ 100 ∧ qbi t = true := by
 rw [qc, Bool.and_eq_true, Bool.and_eq_true, decide_eq_true_eq, decide_eq_true_eq]
theorem qph {t : Ty} (h : qbi t = true) (hc : t.con = []) : t.args = [] := by
 rw [qdb, Bool.and_eq_true] at h
 have h2 := h.2
 rw [mayY, mayW, if_pos hc, decide_eq_true_eq] at h2
 exact List.length_eq_zero_iff.1 (by omega)
mutual
theorem qc4 : ∀ t, qbi t = true → bare t
 | .mk c v l, h => by
   rw [bare]
   refine ⟨fun hc => qph h hc, qhz l ?_⟩
   rw [qbi, Bool.and_eq_true] at h
   exact h.1
theorem qhz : ∀ l, qw l = true → qd8 l
 | [], _ => by rw [qd8]; trivial
 | x :: r, h => by
   rw [qw, Bool.and_eq_true] at h
   rw [qd8]
   exact ⟨qc4 x h.1, qhz r h.2⟩
end
def okS (s : List Pr) : Prop := risR s ∧ ∀ p ∈ s, qc p.ty = true
theorem qcu : okS [] := ⟨trivial, fun p hp => by simp at hp⟩
theorem qba7 {s : List Pr} (h : okS s) : okR s := fun p hp => by
 have := (ql _).1 (h.2 p hp)
 exact ⟨this.1, this.2.1⟩
theorem qlx {s : List Pr} (h : okS s) {v : Int} {u : Ty} (hu : qi v s = some u) : qc u = true := by
 obtain ⟨p, h1, _, rfl⟩ := qdr hu
 exact h.2 p h1
mutual
theorem qnq {s : List Pr} (h : okS s) : ∀ t, qbi t = true → qbi (putY s t) = true
 | .mk c v l, ht => by
   rw [putY]
   split
   ·cases hl : qi v s with
    | some u => exact ((ql u).1 (qlx h hl)).2.2
    | none => exact ht
   ·rw [qbi, Bool.and_eq_true] at ht ⊢
    exact ⟨qlq h l ht.1, by rw [qzp]; exact ht.2⟩
theorem qlq {s : List Pr} (h : okS s) : ∀ l, qw l = true → qw (qdo s l) = true
 | [], _ => by rw [qdo, qw]
 | x :: r, hl => by
   rw [qw, Bool.and_eq_true] at hl
   rw [qdo, qw, Bool.and_eq_true]
   exact ⟨qnq h x hl.1, qlq h r hl.2⟩
end
def setR (l : List Pr) (v : Int) (t : Ty) : List Pr × Int := if qc t = true then (match qi v l with | some _ => (l, 6) | none => (insR v t l, 0)) else (l, 1)
theorem qj8 {s : List Pr} (h : okS s) (v : Int) (t : Ty) : okS (setR s v t).1 := by
 rw [setR]
 split
 ·rename_i ht
  cases hl : qi v s with
  | some u => exact h
  | none =>
    refine ⟨qrm h.1 hl, fun p hp => ?_⟩
    rcases insR_mem.1 hp with rfl | hp
    ·exact ht
    ·exact h.2 p hp
 ·exact h
theorem qin (s : List Pr) (v : Int) (t : Ty) : (setR s v t).1.length ≤ s.length + 1 := by
 rw [setR]
 split
 ·cases qi v s with
  | some u => simp
  | none => simp only [qm2]; omega
 ·simp
def addR (s : List Pr) : List Pr → List Pr
 | [] => s
 | p :: r => addR (setR s p.v p.ty).1 r
theorem qmc : ∀ (l : List Pr) {s : List Pr}, okS s → okS (addR s l)
 | [], s, h => h
 | p :: r, s, h => qmc r (qj8 h p.v p.ty)
theorem qmy : ∀ (l s : List Pr), (addR s l).length ≤ s.length + l.length
 | [], s => by simp [addR]
 | p :: r, s => by
   have h1 := qmy r (setR s p.v p.ty).1
   have h2 := qin s p.v p.ty
   rw [addR, List.length_cons]; omega
def newR (l : List Pr) : List Pr := addR [] l
theorem qqt (l : List Pr) : okS (newR l) := qmc l qcu
theorem q44 (l : List Pr) : (newR l).length ≤ l.length := by have := qmy l []; rw [newR]; simpa using this
def appR (s : List Pr) (t : Ty) : Ty × Int := if qc t = true then (if 4096 < sizR s t then (Y0, 2) else if qc (putY s t) = true then (putY s t, 0) else (Y0, 2)) else (Y0, 1)
theorem qm4 {s : List Pr} (h : okS s) (t : Ty) : appR s t = if qc t = true then (if qc (putY s t) = true then (putY s t, 0) else (Y0, 2)) else (Y0, 1) := by
 rw [appR]
 split
 ·rename_i ht
  have hs := qfx ht
  have hz := qp1 s t (qc4 t hs)
  split
  ·rename_i hb
   rw [if_neg]
   intro hl
   have := ((ql _).1 hl).1
   omega
  ·rfl
 ·rfl
def appP (s : List Pr) (t : Ty) : Ty × Int := if qc t = true then (if (bput s t 4096 1).1 < 0 then (Y0, 2) else ((bput s t 4096 1).2, 0)) else (Y0, 1)
theorem q8m {s : List Pr} (h : okS s) (t : Ty) : appP s t = appR s t := by
 rw [appP, qm4 h]
 split
 ·rename_i ht
  obtain ⟨h1, h2, h3⟩ := (ql t).1 ht
  have hz := qp1 s t (qc4 t h3)
  have hp := qnq h t h3
  have key := qsz s t 4096 1 (qc4 t h3) (by omega) (by omega)
  by_cases hk : (sizR s t : Int) ≤ 4096 ∧ 1 + dpY (putY s t) ≤ 101
  ·have hk' : (sizR s t : Int) ≤ 4096 ∧ (1 : Int) + dpY (putY s t) ≤ 101 := by omega
   rw [key.1 hk', if_neg (by simp only; omega), if_pos ((ql _).2 ⟨by omega, by omega, hp⟩)]
  ·rw [if_pos (key.2 (by omega)), if_neg]
   intro hl
   have := (ql _).1 hl
   omega
 ·rfl
theorem qbg {s : List Pr} (h : okS s) {t : Ty} (he : (appR s t).2 = 0) : qc t = true ∧ qc (putY s t) = true ∧ (appR s t).1 = putY s t := by
 rw [qm4 h] at he ⊢
 split at he
 ·rename_i h1
  split at he
  ·rename_i h2
   rw [if_pos h1, if_pos h2]
   exact ⟨h1, h2, rfl⟩
  ·exact absurd he (by simp)
 ·exact absurd he (by simp)
theorem q2i {s : List Pr} (h : okS s) {t : Ty} (he : (appR s t).2 ≠ 0) : (appR s t).1 = Y0 := by
 rw [qm4 h] at he ⊢
 split at he
 ·rename_i h1
  split at he
  ·exact absurd rfl he
  ·rename_i h2
   rw [if_pos h1, if_neg h2]
 ·rename_i h1
  rw [if_neg h1]
def qg5 (t : List Pr) : List Pr → List Pr → List Pr × Int
 | acc, [] => (acc, 0)
 | acc, p :: r => if (appR t p.ty).2 = 0 then qg5 t (acc ++ [⟨p.v, (appR t p.ty).1⟩]) r else ([], (appR t p.ty).2)
def qbp (t : List Pr) : List Pr → List Pr → List Pr × Int
 | acc, [] => (acc, 0)
 | acc, p :: r => if (appR t p.ty).2 = 0 then qbp t (setR acc p.v (appR t p.ty).1).1 r else ([], (appR t p.ty).2)
theorem q1w {s : List Pr} {v : Int} {t : Ty} (ht : qc t = true) (h : ∀ p ∈ s, p.v < v) : setR s v t = (s ++ [⟨v, t⟩], 0) := by
 have hn : qi v s = none := qmo fun p hp => by have := h p hp; omega
 rw [setR, if_pos ht, hn]
 simp only
 rw [qsd h]
theorem qse {t : List Pr} (ht : okS t) : ∀ (s acc : List Pr), risR s → (∀ p ∈ acc, ∀ q ∈ s, p.v < q.v) → qbp t acc s = qg5 t acc s
 | [], acc, _, _ => rfl
 | p :: r, acc, hs, hlt => by
   rw [qbp, qg5]
   split
   ·rename_i he
    obtain ⟨h1, h2, h3⟩ := qbg ht he
    rw [q1w (by rw [h3]; exact h2) fun q hq => hlt q hq p (by simp)]
    refine qse ht r _ hs.2 fun a ha q hq => ?_
    rcases List.mem_append.1 ha with ha | ha
    ·exact hlt a ha q (by simp [hq])
    ·simp at ha
     subst ha
     exact hs.1 q hq
   ·rfl
def behR (s t : List Pr) : List Pr × Int := if (qg5 t [] s).2 = 0 then (addR (qg5 t [] s).1 t, 0) else ([], (qg5 t [] s).2)
theorem qf1 {t : List Pr} (ht : okS t) : ∀ (s acc : List Pr), (qg5 t acc s).2 = 0 → (qg5 t acc s).1 = acc ++ s.map (fun p => ⟨p.v, putY t p.ty⟩) ∧ ∀ p ∈ s, qc (putY t p.ty) = true
 | [], acc, _ => ⟨by simp [qg5], fun p hp => by simp at hp⟩
 | p :: r, acc, he => by
   rw [qg5] at he ⊢
   split at he
   ·rename_i h0
    obtain ⟨h1, h2, h3⟩ := qbg ht h0
    obtain ⟨q1, q2⟩ := qf1 ht r _ he
    rw [if_pos h0]
    refine ⟨by rw [q1, h3]; simp, fun q hq => ?_⟩
    rcases List.mem_cons.1 hq with rfl | hq
    ·exact h2
    ·exact q2 q hq
   ·rename_i h0
    exact absurd he h0
theorem qy0 {t : List Pr} : ∀ {s : List Pr}, risR s → risR (s.map fun p => (⟨p.v, putY t p.ty⟩ : Pr))
 | [], _ => trivial
 | p :: r, h => ⟨fun q hq => by
     obtain ⟨x, hx, rfl⟩ := List.mem_map.1 hq
     exact h.1 x hx, qy0 h.2⟩
theorem qmk {t : List Pr} (v : Int) : ∀ s : List Pr, qi v (s.map fun p => (⟨p.v, putY t p.ty⟩ : Pr)) = (qi v s).map (putY t)
 | [] => rfl
 | p :: r => by
   rw [List.map_cons, qi, qi]
   split
   ·rfl
   ·exact qmk v r
theorem qxw {s : List Pr} {v x : Int} {t : Ty} (ht : qc t = true) : qi x (setR s v t).1 = match qi x s with | some u => some u | none => if x = v then some t else none := by
 rw [setR, if_pos ht]
 cases hl : qi v s with
 | some u =>
   simp only
   cases hx : qi x s with
   | some w => rfl
   | none =>
     simp only
     rw [if_neg]
     rintro rfl
     rw [hl] at hx
     cases hx
 | none =>
   simp only
   rw [qe1 hl]
   split
   ·rename_i h; subst h; rw [hl]
   ·cases qi x s <;> rfl
theorem qnp (x : Int) : ∀ (l s : List Pr), (∀ p ∈ l, qc p.ty = true) → qi x (addR s l) = match qi x s with | some u => some u | none => qi x l
 | [], s, _ => by
   rw [addR, qi]
   cases qi x s <;> rfl
 | p :: r, s, h => by
   rw [addR, qnp x r _ fun q hq => h q (by simp [hq]), qxw (h p (by simp)), qi]
   cases hx : qi x s with
   | some u => rfl
   | none =>
     simp only
     by_cases hv : x = p.v
     ·rw [if_pos hv, if_pos hv.symm]
     ·rw [if_neg hv, if_neg (fun h => hv h.symm)]
theorem qpz {s t : List Pr} (hs : okS s) (ht : okS t) : okS (behR s t).1 := by
 rw [behR]
 split
 ·rename_i he
  obtain ⟨q1, q2⟩ := qf1 ht s [] he
  refine qmc t ?_
  rw [q1, List.nil_append]
  refine ⟨qy0 hs.1, fun p hp => ?_⟩
  obtain ⟨x, hx, rfl⟩ := List.mem_map.1 hp
  exact q2 x hx
 ·exact qcu
theorem qpt {s t : List Pr} (hs : okS s) (ht : okS t) (he : (behR s t).2 = 0) (v : Int) : qi v (behR s t).1 = match qi v s with | some u => some (putY t u) | none => qi v t := by
 rw [behR] at he ⊢
 split at he
 ·rename_i h0
  rw [if_pos h0]
  obtain ⟨q1, q2⟩ := qf1 ht s [] h0
  simp only
  rw [qnp v t _ ht.2, q1, List.nil_append, qmk]
  cases qi v s <;> rfl
 ·rename_i h0
  exact absurd he h0
def qbo1 (vars : List Int) (s : List Pr) : List Pr := s.filter fun p => decide (p.v ∈ vars)
theorem qg2 (f : Pr → Bool) : ∀ {s : List Pr}, risR s → risR (s.filter f)
 | [], _ => trivial
 | p :: r, h => by
   rw [List.filter_cons]
   split
   ·exact ⟨fun q hq => h.1 q (List.mem_filter.1 hq).1, qg2 f h.2⟩
   ·exact qg2 f h.2
theorem q1m {s : List Pr} (h : okS s) (vars : List Int) : okS (qbo1 vars s) := ⟨qg2 _ h.1, fun p hp => h.2 p (List.mem_filter.1 hp).1⟩
end Go.Proofs.YtlahgbhhejkgbaaGreat
