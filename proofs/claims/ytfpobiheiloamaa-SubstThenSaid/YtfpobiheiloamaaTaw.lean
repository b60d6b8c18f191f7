/- Texts of this proof, joined. -/
import Derived.Test.YtfpobiheiloamaaTas
import Derived.Test.YtfpobiheiloamaaTav
import Derived.Test.YtfpobiheiloamaaTai

/- substitutions: what they do, program and reference alike -/
namespace Go.Proofs.Ytfpobiheiloamaa
open Go Go.RowKit Go.V
set_option linter.unusedVariables false
set_option linter.unusedSimpArgs false

theorem qbb (t : Ty) : qu t = true ↔ szY t ≤ 4096 ∧ dpY t ≤ 100 ∧ qbr t = true := by
 rw [qu, Bool.and_eq_true, Bool.and_eq_true, decide_eq_true_eq, decide_eq_true_eq]
theorem qs8 {t : Ty} (h : qbr t = true) (hc : t.con = []) : t.args = [] := by
 rw [qg1, Bool.and_eq_true] at h
 have h2 := h.2
 rw [mayY, mayW, if_pos hc, decide_eq_true_eq] at h2
 exact List.length_eq_zero_iff.1 (by omega)
mutual
theorem qcc : ∀ t, qbr t = true → bare t
 | .mk c v l, h => by
   rw [bare]
   refine ⟨fun hc => qs8 h hc, qft l ?_⟩
   rw [qbr, Bool.and_eq_true] at h
   exact h.1
theorem qft : ∀ l, qbn l = true → qg8 l
 | [], _ => by rw [qg8]; trivial
 | x :: r, h => by
   rw [qbn, Bool.and_eq_true] at h
   rw [qg8]
   exact ⟨qcc x h.1, qft r h.2⟩
end
def okS (s : List Pr) : Prop := risR s ∧ ∀ p ∈ s, qu p.ty = true
theorem qgp : okS [] := ⟨trivial, fun p hp => by simp at hp⟩
theorem q0w {s : List Pr} (h : okS s) : okR s := fun p hp => by
 have := (qbb _).1 (h.2 p hp)
 exact ⟨this.1, this.2.1⟩
theorem qwq {s : List Pr} (h : okS s) {v : Int} {u : Ty} (hu : ql v s = some u) : qu u = true := by
 obtain ⟨p, h1, _, rfl⟩ := qgj hu
 exact h.2 p h1
mutual
theorem qlw {s : List Pr} (h : okS s) : ∀ t, qbr t = true → qbr (putY s t) = true
 | .mk c v l, ht => by
   rw [putY]
   split
   ·cases hl : ql v s with
    | some u => exact ((qbb u).1 (qwq h hl)).2.2
    | none => exact ht
   ·rw [qbr, Bool.and_eq_true] at ht ⊢
    exact ⟨qh8 h l ht.1, by rw [qqv]; exact ht.2⟩
theorem qh8 {s : List Pr} (h : okS s) : ∀ l, qbn l = true → qbn (qb1 s l) = true
 | [], _ => by rw [qb1, qbn]
 | x :: r, hl => by
   rw [qbn, Bool.and_eq_true] at hl
   rw [qb1, qbn, Bool.and_eq_true]
   exact ⟨qlw h x hl.1, qh8 h r hl.2⟩
end
def setR (l : List Pr) (v : Int) (t : Ty) : List Pr × Int := if qu t = true then (match ql v l with | some _ => (l, 6) | none => (insR v t l, 0)) else (l, 1)
theorem qmb {s : List Pr} (h : okS s) (v : Int) (t : Ty) : okS (setR s v t).1 := by
 rw [setR]
 split
 ·rename_i ht
  cases hl : ql v s with
  | some u => exact h
  | none =>
    refine ⟨qns h.1 hl, fun p hp => ?_⟩
    rcases insR_mem.1 hp with rfl | hp
    ·exact ht
    ·exact h.2 p hp
 ·exact h
theorem qn6 (s : List Pr) (v : Int) (t : Ty) : (setR s v t).1.length ≤ s.length + 1 := by
 rw [setR]
 split
 ·cases ql v s with
  | some u => simp
  | none => simp only [qn5]; omega
 ·simp
def addR (s : List Pr) : List Pr → List Pr
 | [] => s
 | p :: r => addR (setR s p.v p.ty).1 r
theorem qix : ∀ (l : List Pr) {s : List Pr}, okS s → okS (addR s l)
 | [], s, h => h
 | p :: r, s, h => qix r (qmb h p.v p.ty)
theorem qf5 : ∀ (l s : List Pr), (addR s l).length ≤ s.length + l.length
 | [], s => by simp [addR]
 | p :: r, s => by
   have h1 := qf5 r (setR s p.v p.ty).1
   have h2 := qn6 s p.v p.ty
   rw [addR, List.length_cons]; omega
def newR (l : List Pr) : List Pr := addR [] l
theorem qg7 (l : List Pr) : okS (newR l) := qix l qgp
theorem qje (l : List Pr) : (newR l).length ≤ l.length := by have := qf5 l []; rw [newR]; simpa using this
def appR (s : List Pr) (t : Ty) : Ty × Int := if qu t = true then (if 4096 < sizR s t then (Y0, 2) else if qu (putY s t) = true then (putY s t, 0) else (Y0, 2)) else (Y0, 1)
theorem qhh {s : List Pr} (h : okS s) (t : Ty) : appR s t = if qu t = true then (if qu (putY s t) = true then (putY s t, 0) else (Y0, 2)) else (Y0, 1) := by
 rw [appR]
 split
 ·rename_i ht
  have hs := qeh ht
  have hz := qmo s t (qcc t hs)
  split
  ·rename_i hb
   rw [if_neg]
   intro hl
   have := ((qbb _).1 hl).1
   omega
  ·rfl
 ·rfl
def appP (s : List Pr) (t : Ty) : Ty × Int := if qu t = true then (if (bput s t 4096 1).1 < 0 then (Y0, 2) else ((bput s t 4096 1).2, 0)) else (Y0, 1)
theorem q4k {s : List Pr} (h : okS s) (t : Ty) : appP s t = appR s t := by
 rw [appP, qhh h]
 split
 ·rename_i ht
  obtain ⟨h1, h2, h3⟩ := (qbb t).1 ht
  have hz := qmo s t (qcc t h3)
  have hp := qlw h t h3
  have key := qol s t 4096 1 (qcc t h3) (by omega) (by omega)
  by_cases hk : (sizR s t : Int) ≤ 4096 ∧ 1 + dpY (putY s t) ≤ 101
  ·have hk' : (sizR s t : Int) ≤ 4096 ∧ (1 : Int) + dpY (putY s t) ≤ 101 := by omega
   rw [key.1 hk', if_neg (by simp only; omega), if_pos ((qbb _).2 ⟨by omega, by omega, hp⟩)]
  ·rw [if_pos (key.2 (by omega)), if_neg]
   intro hl
   have := (qbb _).1 hl
   omega
 ·rfl
theorem qcz {s : List Pr} (h : okS s) {t : Ty} (he : (appR s t).2 = 0) : qu t = true ∧ qu (putY s t) = true ∧ (appR s t).1 = putY s t := by
 rw [qhh h] at he ⊢
 split at he
 ·rename_i h1
  split at he
  ·rename_i h2
   rw [if_pos h1, if_pos h2]
   exact ⟨h1, h2, rfl⟩
  ·exact absurd he (by simp)
 ·exact absurd he (by simp)
theorem qwg {s : List Pr} (h : okS s) {t : Ty} (he : (appR s t).2 ≠ 0) : (appR s t).1 = Y0 := by
 rw [qhh h] at he ⊢
 split at he
 ·rename_i h1
  split at he
  ·exact absurd rfl he
  ·rename_i h2
   rw [if_pos h1, if_neg h2]
 ·rename_i h1
  rw [if_neg h1]
def qhv (t : List Pr) : List Pr → List Pr → List Pr × Int
 | acc, [] => (acc, 0)
 | acc, p :: r => if (appR t p.ty).2 = 0 then qhv t (acc ++ [⟨p.v, (appR t p.ty).1⟩]) r else ([], (appR t p.ty).2)
def q6 (t : List Pr) : List Pr → List Pr → List Pr × Int
 | acc, [] => (acc, 0)
 | acc, p :: r => if (appR t p.ty).2 = 0 then q6 t (setR acc p.v (appR t p.ty).1).1 r else ([], (appR t p.ty).2)
theorem qod {s : List Pr} {v : Int} {t : Ty} (ht : qu t = true) (h : ∀ p ∈ s, p.v < v) : setR s v t = (s ++ [⟨v, t⟩], 0) := by
 have hn : ql v s = none := qiy fun p hp => by have := h p hp; omega
 rw [setR, if_pos ht, hn]
 simp only
 rw [qnk h]
theorem qoh {t : List Pr} (ht : okS t) : ∀ (s acc : List Pr), risR s → (∀ p ∈ acc, ∀ q ∈ s, p.v < q.v) → q6 t acc s = qhv t acc s
 | [], acc, _, _ => rfl
 | p :: r, acc, hs, hlt => by
   rw [q6, qhv]
   split
   ·rename_i he
    obtain ⟨h1, h2, h3⟩ := qcz ht he
    rw [qod (by rw [h3]; exact h2) fun q hq => hlt q hq p (by simp)]
    refine qoh ht r _ hs.2 fun a ha q hq => ?_
    rcases List.mem_append.1 ha with ha | ha
    ·exact hlt a ha q (by simp [hq])
    ·simp at ha
     subst ha
     exact hs.1 q hq
   ·rfl
def behR (s t : List Pr) : List Pr × Int := if (qhv t [] s).2 = 0 then (addR (qhv t [] s).1 t, 0) else ([], (qhv t [] s).2)
theorem qgv {t : List Pr} (ht : okS t) : ∀ (s acc : List Pr), (qhv t acc s).2 = 0 → (qhv t acc s).1 = acc ++ s.map (fun p => ⟨p.v, putY t p.ty⟩) ∧ ∀ p ∈ s, qu (putY t p.ty) = true
 | [], acc, _ => ⟨by simp [qhv], fun p hp => by simp at hp⟩
 | p :: r, acc, he => by
   rw [qhv] at he ⊢
   split at he
   ·rename_i h0
    obtain ⟨h1, h2, h3⟩ := qcz ht h0
    obtain ⟨q1, q2⟩ := qgv ht r _ he
    rw [if_pos h0]
    refine ⟨by rw [q1, h3]; simp, fun q hq => ?_⟩
    rcases List.mem_cons.1 hq with rfl | hq
    ·exact h2
    ·exact q2 q hq
   ·rename_i h0
    exact absurd he h0
theorem qto {t : List Pr} : ∀ {s : List Pr}, risR s → risR (s.map fun p => (⟨p.v, putY t p.ty⟩ : Pr))
 | [], _ => trivial
 | p :: r, h => ⟨fun q hq => by
     obtain ⟨x, hx, rfl⟩ := List.mem_map.1 hq
     exact h.1 x hx, qto h.2⟩
theorem qoo {t : List Pr} (v : Int) : ∀ s : List Pr, ql v (s.map fun p => (⟨p.v, putY t p.ty⟩ : Pr)) = (ql v s).map (putY t)
 | [] => rfl
 | p :: r => by
   rw [List.map_cons, ql, ql]
   split
   ·rfl
   ·exact qoo v r
theorem qsi {s : List Pr} {v x : Int} {t : Ty} (ht : qu t = true) : ql x (setR s v t).1 = match ql x s with | some u => some u | none => if x = v then some t else none := by
 rw [setR, if_pos ht]
 cases hl : ql v s with
 | some u =>
   simp only
   cases hx : ql x s with
   | some w => rfl
   | none =>
     simp only
     rw [if_neg]
     rintro rfl
     rw [hl] at hx
     cases hx
 | none =>
   simp only
   rw [qk7 hl]
   split
   ·rename_i h; subst h; rw [hl]
   ·cases ql x s <;> rfl
theorem qkw (x : Int) : ∀ (l s : List Pr), (∀ p ∈ l, qu p.ty = true) → ql x (addR s l) = match ql x s with | some u => some u | none => ql x l
 | [], s, _ => by
   rw [addR, ql]
   cases ql x s <;> rfl
 | p :: r, s, h => by
   rw [addR, qkw x r _ fun q hq => h q (by simp [hq]), qsi (h p (by simp)), ql]
   cases hx : ql x s with
   | some u => rfl
   | none =>
     simp only
     by_cases hv : x = p.v
     ·rw [if_pos hv, if_pos hv.symm]
     ·rw [if_neg hv, if_neg (fun h => hv h.symm)]
theorem qmz {s t : List Pr} (hs : okS s) (ht : okS t) : okS (behR s t).1 := by
 rw [behR]
 split
 ·rename_i he
  obtain ⟨q1, q2⟩ := qgv ht s [] he
  refine qix t ?_
  rw [q1, List.nil_append]
  refine ⟨qto hs.1, fun p hp => ?_⟩
  obtain ⟨x, hx, rfl⟩ := List.mem_map.1 hp
  exact q2 x hx
 ·exact qgp
theorem qrb {s t : List Pr} (hs : okS s) (ht : okS t) (he : (behR s t).2 = 0) (v : Int) : ql v (behR s t).1 = match ql v s with | some u => some (putY t u) | none => ql v t := by
 rw [behR] at he ⊢
 split at he
 ·rename_i h0
  rw [if_pos h0]
  obtain ⟨q1, q2⟩ := qgv ht s [] h0
  simp only
  rw [qkw v t _ ht.2, q1, List.nil_append, qoo]
  cases ql v s <;> rfl
 ·rename_i h0
  exact absurd he h0
theorem qwx {s u : List Pr} (hs : okS s) (hu : okS u) {t : Ty} (he : (behR s u).2 = 0) (hf : (appR s t).2 = 0) : appR u (appR s t).1 = appR (behR s u).1 t := by
 obtain ⟨h1, h2, h3⟩ := qcz hs hf
 rw [h3, qhh hu, qhh (qmz hs hu), if_pos h2, if_pos h1, qn1 (qrb hs hu he) t (qcc t (qeh h1))]
def qdf (vars : List Int) (s : List Pr) : List Pr := s.filter fun p => decide (p.v ∈ vars)
theorem qdy (f : Pr → Bool) : ∀ {s : List Pr}, risR s → risR (s.filter f)
 | [], _ => trivial
 | p :: r, h => by
   rw [List.filter_cons]
   split
   ·exact ⟨fun q hq => h.1 q (List.mem_filter.1 hq).1, qdy f h.2⟩
   ·exact qdy f h.2
theorem qv2 {s : List Pr} (h : okS s) (vars : List Int) : okS (qdf vars s) := ⟨qdy _ h.1, fun p hp => h.2 p (List.mem_filter.1 hp).1⟩
set_option maxRecDepth 4000

set_option maxRecDepth 4000

theorem qgd {l : List Ty} (h : l ≠ []) : qs l ≠ [] := by cases l with | nil => exact absurd rfl h | cons _ _ => simp [qs]
theorem qhl : qs [] = [] := by rw [qs]
theorem qoy (t : Ty) : [encY t] = qs [t] := by rw [qs, qs]
theorem capY {k : Nat} (h : k ≤ 1000000000) : qjl k 48 := by unfold qjl; omega
set_option maxRecDepth 4000

/-! the reference's -/
set_option maxRecDepth 4000

set_option maxRecDepth 4000

theorem qf2 (p : Pr) : AV.agg [.str p.ty.con, .int .i64 p.ty.var, .sl 3 (qs p.ty.args)] = encY p.ty := qbl _
def typA (p : Ty × Int) : AV := .tup [encY p.1, .int .i64 p.2]
theorem qi9 (k : Nat) (p : Ty × Int) : (typA p).bd k = true := by simp only [typA, AV.bd, AV.bds, qbw, Bool.and_true]
end Go.Proofs.Ytfpobiheiloamaa
