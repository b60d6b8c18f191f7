/- Texts of this proof, joined. -/
import Derived.Test.YtfpobiheiloamaaEas
import Derived.Test.YtfpobiheiloamaaEav
import Derived.Test.YtfpobiheiloamaaEai

/- substitutions: what they do, program and reference alike -/
namespace Go.Proofs.Ytfpobiheiloamaa
open Go Go.RowKit Go.V
set_option linter.unusedVariables false
set_option linter.unusedSimpArgs false

theorem qbh (t : Ty) : qu t = true ↔ szY t ≤ 4096 ∧ dpY t ≤ 100 ∧ qbt t = true := by
 rw [qu, Bool.and_eq_true, Bool.and_eq_true, decide_eq_true_eq, decide_eq_true_eq]
theorem qs2 {t : Ty} (h : qbt t = true) (hc : t.con = []) : t.args = [] := by
 rw [qe4, Bool.and_eq_true] at h
 have h2 := h.2
 rw [mayY, mayW, if_pos hc, decide_eq_true_eq] at h2
 exact List.length_eq_zero_iff.1 (by omega)
mutual
theorem qco : ∀ t, qbt t = true → bare t
 | .mk c v l, h => by
   rw [bare]
   refine ⟨fun hc => qs2 h hc, qgj l ?_⟩
   rw [qbt, Bool.and_eq_true] at h
   exact h.1
theorem qgj : ∀ l, q8 l = true → qim l
 | [], _ => by rw [qim]; trivial
 | x :: r, h => by
   rw [q8, Bool.and_eq_true] at h
   rw [qim]
   exact ⟨qco x h.1, qgj r h.2⟩
end
def okS (s : List Pr) : Prop := risR s ∧ ∀ p ∈ s, qu p.ty = true
theorem qhy : okS [] := ⟨trivial, fun p hp => by simp at hp⟩
theorem qkq {s : List Pr} (h : okS s) : okR s := fun p hp => by
 have := (qbh _).1 (h.2 p hp)
 exact ⟨this.1, this.2.1⟩
theorem qym {s : List Pr} (h : okS s) {v : Int} {u : Ty} (hu : qx v s = some u) : qu u = true := by
 obtain ⟨p, h1, _, rfl⟩ := qij hu
 exact h.2 p h1
mutual
theorem qmj {s : List Pr} (h : okS s) : ∀ t, qbt t = true → qbt (putY s t) = true
 | .mk c v l, ht => by
   rw [putY]
   split
   ·cases hl : qx v s with
    | some u => exact ((qbh u).1 (qym h hl)).2.2
    | none => exact ht
   ·rw [qbt, Bool.and_eq_true] at ht ⊢
    exact ⟨qjh h l ht.1, by rw [qe8]; exact ht.2⟩
theorem qjh {s : List Pr} (h : okS s) : ∀ l, q8 l = true → q8 (qbp s l) = true
 | [], _ => by rw [qbp, q8]
 | x :: r, hl => by
   rw [q8, Bool.and_eq_true] at hl
   rw [qbp, q8, Bool.and_eq_true]
   exact ⟨qmj h x hl.1, qjh h r hl.2⟩
end
def setR (l : List Pr) (v : Int) (t : Ty) : List Pr × Int := if qu t = true then (match qx v l with | some _ => (l, 6) | none => (insR v t l, 0)) else (l, 1)
theorem qkc {s : List Pr} (h : okS s) (v : Int) (t : Ty) : okS (setR s v t).1 := by
 rw [setR]
 split
 ·rename_i ht
  cases hl : qx v s with
  | some u => exact h
  | none =>
    refine ⟨qoz h.1 hl, fun p hp => ?_⟩
    rcases insR_mem.1 hp with rfl | hp
    ·exact ht
    ·exact h.2 p hp
 ·exact h
theorem qj8 (s : List Pr) (v : Int) (t : Ty) : (setR s v t).1.length ≤ s.length + 1 := by
 rw [setR]
 split
 ·cases qx v s with
  | some u => simp
  | none => simp only [qpw]; omega
 ·simp
def addR (s : List Pr) : List Pr → List Pr
 | [] => s
 | p :: r => addR (setR s p.v p.ty).1 r
theorem qjy : ∀ (l : List Pr) {s : List Pr}, okS s → okS (addR s l)
 | [], s, h => h
 | p :: r, s, h => qjy r (qkc h p.v p.ty)
theorem qec : ∀ (l s : List Pr), (addR s l).length ≤ s.length + l.length
 | [], s => by simp [addR]
 | p :: r, s => by
   have h1 := qec r (setR s p.v p.ty).1
   have h2 := qj8 s p.v p.ty
   rw [addR, List.length_cons]; omega
def newR (l : List Pr) : List Pr := addR [] l
theorem qhk (l : List Pr) : okS (newR l) := qjy l qhy
theorem qj0 (l : List Pr) : (newR l).length ≤ l.length := by have := qec l []; rw [newR]; simpa using this
def appR (s : List Pr) (t : Ty) : Ty × Int := if qu t = true then (if 4096 < sizR s t then (Y0, 2) else if qu (putY s t) = true then (putY s t, 0) else (Y0, 2)) else (Y0, 1)
theorem quc {s : List Pr} (h : okS s) (t : Ty) : appR s t = if qu t = true then (if qu (putY s t) = true then (putY s t, 0) else (Y0, 2)) else (Y0, 1) := by
 rw [appR]
 split
 ·rename_i ht
  have hs := qej ht
  have hz := qks s t (qco t hs)
  split
  ·rename_i hb
   rw [if_neg]
   intro hl
   have := ((qbh _).1 hl).1
   omega
  ·rfl
 ·rfl
def appP (s : List Pr) (t : Ty) : Ty × Int := if qu t = true then (if (bput s t 4096 1).1 < 0 then (Y0, 2) else ((bput s t 4096 1).2, 0)) else (Y0, 1)
theorem q22 {s : List Pr} (h : okS s) (t : Ty) : appP s t = appR s t := by
 rw [appP, quc h]
 split
 ·rename_i ht
  obtain ⟨h1, h2, h3⟩ := (qbh t).1 ht
  have hz := qks s t (qco t h3)
  have hp := qmj h t h3
  have key := qou s t 4096 1 (qco t h3) (by omega) (by omega)
  by_cases hk : (sizR s t : Int) ≤ 4096 ∧ 1 + dpY (putY s t) ≤ 101
  ·have hk' : (sizR s t : Int) ≤ 4096 ∧ (1 : Int) + dpY (putY s t) ≤ 101 := by omega
   rw [key.1 hk', if_neg (by simp only; omega), if_pos ((qbh _).2 ⟨by omega, by omega, hp⟩)]
  ·rw [if_pos (key.2 (by omega)), if_neg]
   intro hl
   have := (qbh _).1 hl
   omega
 ·rfl
theorem qfz {s : List Pr} (h : okS s) {t : Ty} (he : (appR s t).2 = 0) : qu t = true ∧ qu (putY s t) = true ∧ (appR s t).1 = putY s t := by
 rw [quc h] at he ⊢
 split at he
 ·rename_i h1
  split at he
  ·rename_i h2
   rw [if_pos h1, if_pos h2]
   exact ⟨h1, h2, rfl⟩
  ·exact absurd he (by simp)
 ·exact absurd he (by simp)
def qd5 (t : List Pr) : List Pr → List Pr → List Pr × Int
 | acc, [] => (acc, 0)
 | acc, p :: r => if (appR t p.ty).2 = 0 then qd5 t (acc ++ [⟨p.v, (appR t p.ty).1⟩]) r else ([], (appR t p.ty).2)
def qbf (t : List Pr) : List Pr → List Pr → List Pr × Int
 | acc, [] => (acc, 0)
 | acc, p :: r => if (appR t p.ty).2 = 0 then qbf t (setR acc p.v (appR t p.ty).1).1 r else ([], (appR t p.ty).2)
theorem qok {s : List Pr} {v : Int} {t : Ty} (ht : qu t = true) (h : ∀ p ∈ s, p.v < v) : setR s v t = (s ++ [⟨v, t⟩], 0) := by
 have hn : qx v s = none := qkm fun p hp => by have := h p hp; omega
 rw [setR, if_pos ht, hn]
 simp only
 rw [qpu h]
theorem qpf {t : List Pr} (ht : okS t) : ∀ (s acc : List Pr), risR s → (∀ p ∈ acc, ∀ q ∈ s, p.v < q.v) → qbf t acc s = qd5 t acc s
 | [], acc, _, _ => rfl
 | p :: r, acc, hs, hlt => by
   rw [qbf, qd5]
   split
   ·rename_i he
    obtain ⟨h1, h2, h3⟩ := qfz ht he
    rw [qok (by rw [h3]; exact h2) fun q hq => hlt q hq p (by simp)]
    refine qpf ht r _ hs.2 fun a ha q hq => ?_
    rcases List.mem_append.1 ha with ha | ha
    ·exact hlt a ha q (by simp [hq])
    ·simp at ha
     subst ha
     exact hs.1 q hq
   ·rfl
def behR (s t : List Pr) : List Pr × Int := if (qd5 t [] s).2 = 0 then (addR (qd5 t [] s).1 t, 0) else ([], (qd5 t [] s).2)
theorem qmp {t : List Pr} (ht : okS t) : ∀ (s acc : List Pr), (qd5 t acc s).2 = 0 → (qd5 t acc s).1 = acc ++ s.map (fun p => ⟨p.v, putY t p.ty⟩) ∧ ∀ p ∈ s, qu (putY t p.ty) = true
 | [], acc, _ => ⟨by simp [qd5], fun p hp => by simp at hp⟩
 | p :: r, acc, he => by
   rw [qd5] at he ⊢
   split at he
   ·rename_i h0
    obtain ⟨h1, h2, h3⟩ := qfz ht h0
    obtain ⟨q1, q2⟩ := qmp ht r _ he
    rw [if_pos h0]
    refine ⟨by rw [q1, h3]; simp, fun q hq => ?_⟩
    rcases List.mem_cons.1 hq with rfl | hq
    ·exact h2
    ·exact q2 q hq
   ·rename_i h0
    exact absurd he h0
theorem qsb {t : List Pr} : ∀ {s : List Pr}, risR s → risR (s.map fun p => (⟨p.v, putY t p.ty⟩ : Pr))
 | [], _ => trivial
 | p :: r, h => ⟨fun q hq => by
     obtain ⟨x, hx, rfl⟩ := List.mem_map.1 hq
     exact h.1 x hx, qsb h.2⟩
theorem qry {s t : List Pr} (hs : okS s) (ht : okS t) : okS (behR s t).1 := by
 rw [behR]
 split
 ·rename_i he
  obtain ⟨q1, q2⟩ := qmp ht s [] he
  refine qjy t ?_
  rw [q1, List.nil_append]
  refine ⟨qsb hs.1, fun p hp => ?_⟩
  obtain ⟨x, hx, rfl⟩ := List.mem_map.1 hp
  exact q2 x hx
 ·exact qhy
def qdo (vars : List Int) (s : List Pr) : List Pr := s.filter fun p => decide (p.v ∈ vars)
theorem qed (f : Pr → Bool) : ∀ {s : List Pr}, risR s → risR (s.filter f)
 | [], _ => trivial
 | p :: r, h => by
   rw [List.filter_cons]
   split
   ·exact ⟨fun q hq => h.1 q (List.mem_filter.1 hq).1, qed f h.2⟩
   ·exact qed f h.2
theorem qxd {s : List Pr} (h : okS s) (vars : List Int) : okS (qdo vars s) := ⟨qed _ h.1, fun p hp => h.2 p (List.mem_filter.1 hp).1⟩
set_option maxRecDepth 4000

set_option maxRecDepth 4000

theorem qg2 {l : List Ty} (h : l ≠ []) : qs l ≠ [] := by cases l with | nil => exact absurd rfl h | cons _ _ => simp [qs]
theorem qc9 : qs [] = [] := by rw [qs]
theorem qqa (t : Ty) : [encY t] = qs [t] := by rw [qs, qs]
theorem capY {k : Nat} (h : k ≤ 1000000000) : qc8 k 48 := by unfold qc8; omega
set_option maxRecDepth 4000

/-! the reference's -/
set_option maxRecDepth 4000

end Go.Proofs.Ytfpobiheiloamaa
