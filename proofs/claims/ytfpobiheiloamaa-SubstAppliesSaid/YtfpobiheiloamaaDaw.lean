/- Texts of this proof, joined. -/
import Derived.Test.YtfpobiheiloamaaDas
import Derived.Test.YtfpobiheiloamaaDav
import Derived.Test.YtfpobiheiloamaaDai

/- substitutions: what they do, program and reference alike -/
namespace Go.Proofs.Ytfpobiheiloamaa
open Go Go.RowKit Go.V
set_option linter.unusedVariables false
set_option linter.unusedSimpArgs false

theorem qbh (t : Ty) : qs t = true ↔ szY t ≤ 4096 ∧ dpY t ≤ 100 ∧ qbq t = true := by
 rw [qs, Bool.and_eq_true, Bool.and_eq_true, decide_eq_true_eq, decide_eq_true_eq]
theorem quz {t : Ty} (h : qbq t = true) (hc : t.con = []) : t.args = [] := by
 rw [qe4, Bool.and_eq_true] at h
 have h2 := h.2
 rw [mayY, mayW, if_pos hc, decide_eq_true_eq] at h2
 exact List.length_eq_zero_iff.1 (by omega)
mutual
theorem qcj : ∀ t, qbq t = true → bare t
 | .mk c v l, h => by
   rw [bare]
   refine ⟨fun hc => quz h hc, qgl l ?_⟩
   rw [qbq, Bool.and_eq_true] at h
   exact h.1
theorem qgl : ∀ l, q9 l = true → qil l
 | [], _ => by rw [qil]; trivial
 | x :: r, h => by
   rw [q9, Bool.and_eq_true] at h
   rw [qil]
   exact ⟨qcj x h.1, qgl r h.2⟩
end
def okS (s : List Pr) : Prop := risR s ∧ ∀ p ∈ s, qs p.ty = true
theorem qhp : okS [] := ⟨trivial, fun p hp => by simp at hp⟩
theorem qoa {s : List Pr} (h : okS s) : okR s := fun p hp => by
 have := (qbh _).1 (h.2 p hp)
 exact ⟨this.1, this.2.1⟩
theorem qvv {s : List Pr} (h : okS s) {v : Int} {u : Ty} (hu : qu v s = some u) : qs u = true := by
 obtain ⟨p, h1, _, rfl⟩ := qhi hu
 exact h.2 p h1
mutual
theorem qmj {s : List Pr} (h : okS s) : ∀ t, qbq t = true → qbq (putY s t) = true
 | .mk c v l, ht => by
   rw [putY]
   split
   ·cases hl : qu v s with
    | some u => exact ((qbh u).1 (qvv h hl)).2.2
    | none => exact ht
   ·rw [qbq, Bool.and_eq_true] at ht ⊢
    exact ⟨qja h l ht.1, by rw [qfg]; exact ht.2⟩
theorem qja {s : List Pr} (h : okS s) : ∀ l, q9 l = true → q9 (qbn s l) = true
 | [], _ => by rw [qbn, q9]
 | x :: r, hl => by
   rw [q9, Bool.and_eq_true] at hl
   rw [qbn, q9, Bool.and_eq_true]
   exact ⟨qmj h x hl.1, qja h r hl.2⟩
end
def setR (l : List Pr) (v : Int) (t : Ty) : List Pr × Int := if qs t = true then (match qu v l with | some _ => (l, 6) | none => (insR v t l, 0)) else (l, 1)
theorem qnj {s : List Pr} (h : okS s) (v : Int) (t : Ty) : okS (setR s v t).1 := by
 rw [setR]
 split
 ·rename_i ht
  cases hl : qu v s with
  | some u => exact h
  | none =>
    refine ⟨qok h.1 hl, fun p hp => ?_⟩
    rcases insR_mem.1 hp with rfl | hp
    ·exact ht
    ·exact h.2 p hp
 ·exact h
theorem qoy (s : List Pr) (v : Int) (t : Ty) : (setR s v t).1.length ≤ s.length + 1 := by
 rw [setR]
 split
 ·cases qu v s with
  | some u => simp
  | none => simp only [qod]; omega
 ·simp
def addR (s : List Pr) : List Pr → List Pr
 | [] => s
 | p :: r => addR (setR s p.v p.ty).1 r
theorem qjz : ∀ (l : List Pr) {s : List Pr}, okS s → okS (addR s l)
 | [], s, h => h
 | p :: r, s, h => qjz r (qnj h p.v p.ty)
theorem qgy : ∀ (l s : List Pr), (addR s l).length ≤ s.length + l.length
 | [], s => by simp [addR]
 | p :: r, s => by
   have h1 := qgy r (setR s p.v p.ty).1
   have h2 := qoy s p.v p.ty
   rw [addR, List.length_cons]; omega
def newR (l : List Pr) : List Pr := addR [] l
theorem qkt (l : List Pr) : okS (newR l) := qjz l qhp
theorem qop (l : List Pr) : (newR l).length ≤ l.length := by have := qgy l []; rw [newR]; simpa using this
def appR (s : List Pr) (t : Ty) : Ty × Int := if qs t = true then (if 4096 < sizR s t then (Y0, 2) else if qs (putY s t) = true then (putY s t, 0) else (Y0, 2)) else (Y0, 1)
theorem qs6 {s : List Pr} (h : okS s) (t : Ty) : appR s t = if qs t = true then (if qs (putY s t) = true then (putY s t, 0) else (Y0, 2)) else (Y0, 1) := by
 rw [appR]
 split
 ·rename_i ht
  have hs := qek ht
  have hz := qki s t (qcj t hs)
  split
  ·rename_i hb
   rw [if_neg]
   intro hl
   have := ((qbh _).1 hl).1
   omega
  ·rfl
 ·rfl
def appP (s : List Pr) (t : Ty) : Ty × Int := if qs t = true then (if (bput s t 4096 1).1 < 0 then (Y0, 2) else ((bput s t 4096 1).2, 0)) else (Y0, 1)
theorem qba9 {s : List Pr} (h : okS s) (t : Ty) : appP s t = appR s t := by
 rw [appP, qs6 h]
 split
 ·rename_i ht
  obtain ⟨h1, h2, h3⟩ := (qbh t).1 ht
  have hz := qki s t (qcj t h3)
  have hp := qmj h t h3
  have key := qpo s t 4096 1 (qcj t h3) (by omega) (by omega)
  by_cases hk : (sizR s t : Int) ≤ 4096 ∧ 1 + dpY (putY s t) ≤ 101
  ·have hk' : (sizR s t : Int) ≤ 4096 ∧ (1 : Int) + dpY (putY s t) ≤ 101 := by omega
   rw [key.1 hk', if_neg (by simp only; omega), if_pos ((qbh _).2 ⟨by omega, by omega, hp⟩)]
  ·rw [if_pos (key.2 (by omega)), if_neg]
   intro hl
   have := (qbh _).1 hl
   omega
 ·rfl
theorem qft {s : List Pr} (h : okS s) {t : Ty} (he : (appR s t).2 = 0) : qs t = true ∧ qs (putY s t) = true ∧ (appR s t).1 = putY s t := by
 rw [qs6 h] at he ⊢
 split at he
 ·rename_i h1
  split at he
  ·rename_i h2
   rw [if_pos h1, if_pos h2]
   exact ⟨h1, h2, rfl⟩
  ·exact absurd he (by simp)
 ·exact absurd he (by simp)
def qim (t : List Pr) : List Pr → List Pr → List Pr × Int
 | acc, [] => (acc, 0)
 | acc, p :: r => if (appR t p.ty).2 = 0 then qim t (acc ++ [⟨p.v, (appR t p.ty).1⟩]) r else ([], (appR t p.ty).2)
def qbf (t : List Pr) : List Pr → List Pr → List Pr × Int
 | acc, [] => (acc, 0)
 | acc, p :: r => if (appR t p.ty).2 = 0 then qbf t (setR acc p.v (appR t p.ty).1).1 r else ([], (appR t p.ty).2)
theorem qo1 {s : List Pr} {v : Int} {t : Ty} (ht : qs t = true) (h : ∀ p ∈ s, p.v < v) : setR s v t = (s ++ [⟨v, t⟩], 0) := by
 have hn : qu v s = none := qka fun p hp => by have := h p hp; omega
 rw [setR, if_pos ht, hn]
 simp only
 rw [qo8 h]
theorem qo3 {t : List Pr} (ht : okS t) : ∀ (s acc : List Pr), risR s → (∀ p ∈ acc, ∀ q ∈ s, p.v < q.v) → qbf t acc s = qim t acc s
 | [], acc, _, _ => rfl
 | p :: r, acc, hs, hlt => by
   rw [qbf, qim]
   split
   ·rename_i he
    obtain ⟨h1, h2, h3⟩ := qft ht he
    rw [qo1 (by rw [h3]; exact h2) fun q hq => hlt q hq p (by simp)]
    refine qo3 ht r _ hs.2 fun a ha q hq => ?_
    rcases List.mem_append.1 ha with ha | ha
    ·exact hlt a ha q (by simp [hq])
    ·simp at ha
     subst ha
     exact hs.1 q hq
   ·rfl
def behR (s t : List Pr) : List Pr × Int := if (qim t [] s).2 = 0 then (addR (qim t [] s).1 t, 0) else ([], (qim t [] s).2)
theorem ql4 {t : List Pr} (ht : okS t) : ∀ (s acc : List Pr), (qim t acc s).2 = 0 → (qim t acc s).1 = acc ++ s.map (fun p => ⟨p.v, putY t p.ty⟩) ∧ ∀ p ∈ s, qs (putY t p.ty) = true
 | [], acc, _ => ⟨by simp [qim], fun p hp => by simp at hp⟩
 | p :: r, acc, he => by
   rw [qim] at he ⊢
   split at he
   ·rename_i h0
    obtain ⟨h1, h2, h3⟩ := qft ht h0
    obtain ⟨q1, q2⟩ := ql4 ht r _ he
    rw [if_pos h0]
    refine ⟨by rw [q1, h3]; simp, fun q hq => ?_⟩
    rcases List.mem_cons.1 hq with rfl | hq
    ·exact h2
    ·exact q2 q hq
   ·rename_i h0
    exact absurd he h0
theorem qsb {t : List Pr} : ∀ {s : List Pr}, risR s → risR (s.map fun p => (⟨p.v, putY t p.ty⟩ : Pr))
 | [], _ => trivial
 | p :: r, h => ⟨fun q hq => by
     obtain ⟨x, hx, rfl⟩ := List.mem_map.1 hq
     exact h.1 x hx, qsb h.2⟩
theorem q1b {s t : List Pr} (hs : okS s) (ht : okS t) : okS (behR s t).1 := by
 rw [behR]
 split
 ·rename_i he
  obtain ⟨q1, q2⟩ := ql4 ht s [] he
  refine qjz t ?_
  rw [q1, List.nil_append]
  refine ⟨qsb hs.1, fun p hp => ?_⟩
  obtain ⟨x, hx, rfl⟩ := List.mem_map.1 hp
  exact q2 x hx
 ·exact qhp
def qb9 (vars : List Int) (s : List Pr) : List Pr := s.filter fun p => decide (p.v ∈ vars)
theorem qd9 (f : Pr → Bool) : ∀ {s : List Pr}, risR s → risR (s.filter f)
 | [], _ => trivial
 | p :: r, h => by
   rw [List.filter_cons]
   split
   ·exact ⟨fun q hq => h.1 q (List.mem_filter.1 hq).1, qd9 f h.2⟩
   ·exact qd9 f h.2
theorem qpn {s : List Pr} (h : okS s) (vars : List Int) : okS (qb9 vars s) := ⟨qd9 _ h.1, fun p hp => h.2 p (List.mem_filter.1 hp).1⟩
set_option maxRecDepth 4000

set_option maxRecDepth 4000

theorem qg2 {l : List Ty} (h : l ≠ []) : qr l ≠ [] := by cases l with | nil => exact absurd rfl h | cons _ _ => simp [qr]
theorem qc6 : qr [] = [] := by rw [qr]
theorem qp3 (t : Ty) : [encY t] = qr [t] := by rw [qr, qr]
theorem capY {k : Nat} (h : k ≤ 1000000000) : qc8 k 48 := by unfold qc8; omega
set_option maxRecDepth 4000

/-! the reference's -/
set_option maxRecDepth 4000

end Go.Proofs.Ytfpobiheiloamaa
