/- Texts of this proof, joined. -/
import Derived.Test.YtfpobiheiloamaaNas
import Derived.Test.YtfpobiheiloamaaNav
import Derived.Test.YtfpobiheiloamaaNai

/- substitutions: what they do, program and reference alike -/
namespace Go.Proofs.Ytfpobiheiloamaa
open Go Go.RowKit Go.V
set_option linter.unusedVariables false
set_option linter.unusedSimpArgs false

theorem qbf (t : Ty) : qr t = true ↔ szY t ≤ 4096 ∧ dpY t ≤ 100 ∧ qbp t = true := by
 rw [qr, Bool.and_eq_true, Bool.and_eq_true, decide_eq_true_eq, decide_eq_true_eq]
theorem qt8 {t : Ty} (h : qbp t = true) (hc : t.con = []) : t.args = [] := by
 rw [qeu, Bool.and_eq_true] at h
 have h2 := h.2
 rw [mayY, mayW, if_pos hc, decide_eq_true_eq] at h2
 exact List.length_eq_zero_iff.1 (by omega)
mutual
theorem qci : ∀ t, qbp t = true → bare t
 | .mk c v l, h => by
   rw [bare]
   refine ⟨fun hc => qt8 h hc, qgg l ?_⟩
   rw [qbp, Bool.and_eq_true] at h
   exact h.1
theorem qgg : ∀ l, q8 l = true → qip l
 | [], _ => by rw [qip]; trivial
 | x :: r, h => by
   rw [q8, Bool.and_eq_true] at h
   rw [qip]
   exact ⟨qci x h.1, qgg r h.2⟩
end
def okS (s : List Pr) : Prop := risR s ∧ ∀ p ∈ s, qr p.ty = true
theorem qdo : okS [] := ⟨trivial, fun p hp => by simp at hp⟩
theorem qnh {s : List Pr} (h : okS s) : okR s := fun p hp => by
 have := (qbf _).1 (h.2 p hp)
 exact ⟨this.1, this.2.1⟩
theorem qxl {s : List Pr} (h : okS s) {v : Int} {u : Ty} (hu : qv v s = some u) : qr u = true := by
 obtain ⟨p, h1, _, rfl⟩ := qg5 hu
 exact h.2 p h1
mutual
theorem qk1 {s : List Pr} (h : okS s) : ∀ t, qbp t = true → qbp (putY s t) = true
 | .mk c v l, ht => by
   rw [putY]
   split
   ·cases hl : qv v s with
    | some u => exact ((qbf u).1 (qxl h hl)).2.2
    | none => exact ht
   ·rw [qbp, Bool.and_eq_true] at ht ⊢
    exact ⟨qjc h l ht.1, by rw [qfc]; exact ht.2⟩
theorem qjc {s : List Pr} (h : okS s) : ∀ l, q8 l = true → q8 (qbg s l) = true
 | [], _ => by rw [qbg, q8]
 | x :: r, hl => by
   rw [q8, Bool.and_eq_true] at hl
   rw [qbg, q8, Bool.and_eq_true]
   exact ⟨qk1 h x hl.1, qjc h r hl.2⟩
end
def setR (l : List Pr) (v : Int) (t : Ty) : List Pr × Int := if qr t = true then (match qv v l with | some _ => (l, 6) | none => (insR v t l, 0)) else (l, 1)
theorem qnm {s : List Pr} (h : okS s) (v : Int) (t : Ty) : okS (setR s v t).1 := by
 rw [setR]
 split
 ·rename_i ht
  cases hl : qv v s with
  | some u => exact h
  | none =>
    refine ⟨qo4 h.1 hl, fun p hp => ?_⟩
    rcases insR_mem.1 hp with rfl | hp
    ·exact ht
    ·exact h.2 p hp
 ·exact h
theorem qo2 (s : List Pr) (v : Int) (t : Ty) : (setR s v t).1.length ≤ s.length + 1 := by
 rw [setR]
 split
 ·cases qv v s with
  | some u => simp
  | none => simp only [qpg]; omega
 ·simp
def addR (s : List Pr) : List Pr → List Pr
 | [] => s
 | p :: r => addR (setR s p.v p.ty).1 r
theorem qhy : ∀ (l : List Pr) {s : List Pr}, okS s → okS (addR s l)
 | [], s, h => h
 | p :: r, s, h => qhy r (qnm h p.v p.ty)
theorem qfk : ∀ (l s : List Pr), (addR s l).length ≤ s.length + l.length
 | [], s => by simp [addR]
 | p :: r, s => by
   have h1 := qfk r (setR s p.v p.ty).1
   have h2 := qo2 s p.v p.ty
   rw [addR, List.length_cons]; omega
def newR (l : List Pr) : List Pr := addR [] l
theorem qka (l : List Pr) : okS (newR l) := qhy l qdo
theorem qpp (l : List Pr) : (newR l).length ≤ l.length := by have := qfk l []; rw [newR]; simpa using this
def appR (s : List Pr) (t : Ty) : Ty × Int := if qr t = true then (if 4096 < sizR s t then (Y0, 2) else if qr (putY s t) = true then (putY s t, 0) else (Y0, 2)) else (Y0, 1)
theorem qnu {s : List Pr} (h : okS s) (t : Ty) : appR s t = if qr t = true then (if qr (putY s t) = true then (putY s t, 0) else (Y0, 2)) else (Y0, 1) := by
 rw [appR]
 split
 ·rename_i ht
  have hs := qer ht
  have hz := qjx s t (qci t hs)
  split
  ·rename_i hb
   rw [if_neg]
   intro hl
   have := ((qbf _).1 hl).1
   omega
  ·rfl
 ·rfl
def appP (s : List Pr) (t : Ty) : Ty × Int := if qr t = true then (if (bput s t 4096 1).1 < 0 then (Y0, 2) else ((bput s t 4096 1).2, 0)) else (Y0, 1)
theorem q7u {s : List Pr} (h : okS s) (t : Ty) : appP s t = appR s t := by
 rw [appP, qnu h]
 split
 ·rename_i ht
  obtain ⟨h1, h2, h3⟩ := (qbf t).1 ht
  have hz := qjx s t (qci t h3)
  have hp := qk1 h t h3
  have key := qpd s t 4096 1 (qci t h3) (by omega) (by omega)
  by_cases hk : (sizR s t : Int) ≤ 4096 ∧ 1 + dpY (putY s t) ≤ 101
  ·have hk' : (sizR s t : Int) ≤ 4096 ∧ (1 : Int) + dpY (putY s t) ≤ 101 := by omega
   rw [key.1 hk', if_neg (by simp only; omega), if_pos ((qbf _).2 ⟨by omega, by omega, hp⟩)]
  ·rw [if_pos (key.2 (by omega)), if_neg]
   intro hl
   have := (qbf _).1 hl
   omega
 ·rfl
theorem qf3 {s : List Pr} (h : okS s) {t : Ty} (he : (appR s t).2 = 0) : qr t = true ∧ qr (putY s t) = true ∧ (appR s t).1 = putY s t := by
 rw [qnu h] at he ⊢
 split at he
 ·rename_i h1
  split at he
  ·rename_i h2
   rw [if_pos h1, if_pos h2]
   exact ⟨h1, h2, rfl⟩
  ·exact absurd he (by simp)
 ·exact absurd he (by simp)
def qil (t : List Pr) : List Pr → List Pr → List Pr × Int
 | acc, [] => (acc, 0)
 | acc, p :: r => if (appR t p.ty).2 = 0 then qil t (acc ++ [⟨p.v, (appR t p.ty).1⟩]) r else ([], (appR t p.ty).2)
def qbd (t : List Pr) : List Pr → List Pr → List Pr × Int
 | acc, [] => (acc, 0)
 | acc, p :: r => if (appR t p.ty).2 = 0 then qbd t (setR acc p.v (appR t p.ty).1).1 r else ([], (appR t p.ty).2)
theorem qkf {s : List Pr} {v : Int} {t : Ty} (ht : qr t = true) (h : ∀ p ∈ s, p.v < v) : setR s v t = (s ++ [⟨v, t⟩], 0) := by
 have hn : qv v s = none := qku fun p hp => by have := h p hp; omega
 rw [setR, if_pos ht, hn]
 simp only
 rw [qov h]
theorem qph {t : List Pr} (ht : okS t) : ∀ (s acc : List Pr), risR s → (∀ p ∈ acc, ∀ q ∈ s, p.v < q.v) → qbd t acc s = qil t acc s
 | [], acc, _, _ => rfl
 | p :: r, acc, hs, hlt => by
   rw [qbd, qil]
   split
   ·rename_i he
    obtain ⟨h1, h2, h3⟩ := qf3 ht he
    rw [qkf (by rw [h3]; exact h2) fun q hq => hlt q hq p (by simp)]
    refine qph ht r _ hs.2 fun a ha q hq => ?_
    rcases List.mem_append.1 ha with ha | ha
    ·exact hlt a ha q (by simp [hq])
    ·simp at ha
     subst ha
     exact hs.1 q hq
   ·rfl
def behR (s t : List Pr) : List Pr × Int := if (qil t [] s).2 = 0 then (addR (qil t [] s).1 t, 0) else ([], (qil t [] s).2)
theorem qmw {t : List Pr} (ht : okS t) : ∀ (s acc : List Pr), (qil t acc s).2 = 0 → (qil t acc s).1 = acc ++ s.map (fun p => ⟨p.v, putY t p.ty⟩) ∧ ∀ p ∈ s, qr (putY t p.ty) = true
 | [], acc, _ => ⟨by simp [qil], fun p hp => by simp at hp⟩
 | p :: r, acc, he => by
   rw [qil] at he ⊢
   split at he
   ·rename_i h0
    obtain ⟨h1, h2, h3⟩ := qf3 ht h0
    obtain ⟨q1, q2⟩ := qmw ht r _ he
    rw [if_pos h0]
    refine ⟨by rw [q1, h3]; simp, fun q hq => ?_⟩
    rcases List.mem_cons.1 hq with rfl | hq
    ·exact h2
    ·exact q2 q hq
   ·rename_i h0
    exact absurd he h0
theorem qsh {t : List Pr} : ∀ {s : List Pr}, risR s → risR (s.map fun p => (⟨p.v, putY t p.ty⟩ : Pr))
 | [], _ => trivial
 | p :: r, h => ⟨fun q hq => by
     obtain ⟨x, hx, rfl⟩ := List.mem_map.1 hq
     exact h.1 x hx, qsh h.2⟩
theorem q0o {s t : List Pr} (hs : okS s) (ht : okS t) : okS (behR s t).1 := by
 rw [behR]
 split
 ·rename_i he
  obtain ⟨q1, q2⟩ := qmw ht s [] he
  refine qhy t ?_
  rw [q1, List.nil_append]
  refine ⟨qsh hs.1, fun p hp => ?_⟩
  obtain ⟨x, hx, rfl⟩ := List.mem_map.1 hp
  exact q2 x hx
 ·exact qdo
def qdj (vars : List Int) (s : List Pr) : List Pr := s.filter fun p => decide (p.v ∈ vars)
theorem qd8 (f : Pr → Bool) : ∀ {s : List Pr}, risR s → risR (s.filter f)
 | [], _ => trivial
 | p :: r, h => by
   rw [List.filter_cons]
   split
   ·exact ⟨fun q hq => h.1 q (List.mem_filter.1 hq).1, qd8 f h.2⟩
   ·exact qd8 f h.2
theorem qx1 {s : List Pr} (h : okS s) (vars : List Int) : okS (qdj vars s) := ⟨qd8 _ h.1, fun p hp => h.2 p (List.mem_filter.1 hp).1⟩
set_option maxRecDepth 4000

set_option maxRecDepth 4000

theorem qgo {l : List Ty} (h : l ≠ []) : qs l ≠ [] := by cases l with | nil => exact absurd rfl h | cons _ _ => simp [qs]
theorem qc4 : qs [] = [] := by rw [qs]
theorem qrh (t : Ty) : [encY t] = qs [t] := by rw [qs, qs]
theorem capY {k : Nat} (h : k ≤ 1000000000) : qdl k 48 := by unfold qdl; omega
set_option maxRecDepth 4000

/-! the reference's -/
set_option maxRecDepth 4000

end Go.Proofs.Ytfpobiheiloamaa
