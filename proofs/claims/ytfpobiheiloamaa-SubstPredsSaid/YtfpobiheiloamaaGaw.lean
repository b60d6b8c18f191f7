/- Texts of this proof, joined. -/
import Derived.Test.YtfpobiheiloamaaGas
import Derived.Test.YtfpobiheiloamaaGav
import Derived.Test.YtfpobiheiloamaaGai

/- substitutions: what they do, program and reference alike -/
namespace Go.Proofs.Ytfpobiheiloamaa
open Go Go.RowKit Go.V
set_option linter.unusedVariables false
set_option linter.unusedSimpArgs false

theorem qbg (t : Ty) : qs t = true ↔ szY t ≤ 4096 ∧ dpY t ≤ 100 ∧ qbt t = true := by
 rw [qs, Bool.and_eq_true, Bool.and_eq_true, decide_eq_true_eq, decide_eq_true_eq]
theorem qtp {t : Ty} (h : qbt t = true) (hc : t.con = []) : t.args = [] := by
 rw [qe9, Bool.and_eq_true] at h
 have h2 := h.2
 rw [mayY, mayW, if_pos hc, decide_eq_true_eq] at h2
 exact List.length_eq_zero_iff.1 (by omega)
mutual
theorem qcl : ∀ t, qbt t = true → bare t
 | .mk c v l, h => by
   rw [bare]
   refine ⟨fun hc => qtp h hc, qgj l ?_⟩
   rw [qbt, Bool.and_eq_true] at h
   exact h.1
theorem qgj : ∀ l, qba l = true → qix l
 | [], _ => by rw [qix]; trivial
 | x :: r, h => by
   rw [qba, Bool.and_eq_true] at h
   rw [qix]
   exact ⟨qcl x h.1, qgj r h.2⟩
end
def okS (s : List Pr) : Prop := risR s ∧ ∀ p ∈ s, qs p.ty = true
theorem qg9 : okS [] := ⟨trivial, fun p hp => by simp at hp⟩
theorem qnj {s : List Pr} (h : okS s) : okR s := fun p hp => by
 have := (qbg _).1 (h.2 p hp)
 exact ⟨this.1, this.2.1⟩
theorem qx6 {s : List Pr} (h : okS s) {v : Int} {u : Ty} (hu : qv v s = some u) : qs u = true := by
 obtain ⟨p, h1, _, rfl⟩ := qh6 hu
 exact h.2 p h1
mutual
theorem qls {s : List Pr} (h : okS s) : ∀ t, qbt t = true → qbt (putY s t) = true
 | .mk c v l, ht => by
   rw [putY]
   split
   ·cases hl : qv v s with
    | some u => exact ((qbg u).1 (qx6 h hl)).2.2
    | none => exact ht
   ·rw [qbt, Bool.and_eq_true] at ht ⊢
    exact ⟨qja h l ht.1, by rw [qfs]; exact ht.2⟩
theorem qja {s : List Pr} (h : okS s) : ∀ l, qba l = true → qba (qbo s l) = true
 | [], _ => by rw [qbo, qba]
 | x :: r, hl => by
   rw [qba, Bool.and_eq_true] at hl
   rw [qbo, qba, Bool.and_eq_true]
   exact ⟨qls h x hl.1, qja h r hl.2⟩
end
def setR (l : List Pr) (v : Int) (t : Ty) : List Pr × Int := if qs t = true then (match qv v l with | some _ => (l, 6) | none => (insR v t l, 0)) else (l, 1)
theorem qng {s : List Pr} (h : okS s) (v : Int) (t : Ty) : okS (setR s v t).1 := by
 rw [setR]
 split
 ·rename_i ht
  cases hl : qv v s with
  | some u => exact h
  | none =>
    refine ⟨qpj h.1 hl, fun p hp => ?_⟩
    rcases insR_mem.1 hp with rfl | hp
    ·exact ht
    ·exact h.2 p hp
 ·exact h
theorem qoy (s : List Pr) (v : Int) (t : Ty) : (setR s v t).1.length ≤ s.length + 1 := by
 rw [setR]
 split
 ·cases qv v s with
  | some u => simp
  | none => simp only [qpl]; omega
 ·simp
def addR (s : List Pr) : List Pr → List Pr
 | [] => s
 | p :: r => addR (setR s p.v p.ty).1 r
theorem qki : ∀ (l : List Pr) {s : List Pr}, okS s → okS (addR s l)
 | [], s, h => h
 | p :: r, s, h => qki r (qng h p.v p.ty)
theorem qg3 : ∀ (l s : List Pr), (addR s l).length ≤ s.length + l.length
 | [], s => by simp [addR]
 | p :: r, s => by
   have h1 := qg3 r (setR s p.v p.ty).1
   have h2 := qoy s p.v p.ty
   rw [addR, List.length_cons]; omega
def newR (l : List Pr) : List Pr := addR [] l
theorem qkc (l : List Pr) : okS (newR l) := qki l qg9
theorem qpk (l : List Pr) : (newR l).length ≤ l.length := by have := qg3 l []; rw [newR]; simpa using this
def appR (s : List Pr) (t : Ty) : Ty × Int := if qs t = true then (if 4096 < sizR s t then (Y0, 2) else if qs (putY s t) = true then (putY s t, 0) else (Y0, 2)) else (Y0, 1)
theorem quj {s : List Pr} (h : okS s) (t : Ty) : appR s t = if qs t = true then (if qs (putY s t) = true then (putY s t, 0) else (Y0, 2)) else (Y0, 1) := by
 rw [appR]
 split
 ·rename_i ht
  have hs := qez ht
  have hz := qjw s t (qcl t hs)
  split
  ·rename_i hb
   rw [if_neg]
   intro hl
   have := ((qbg _).1 hl).1
   omega
  ·rfl
 ·rfl
def appP (s : List Pr) (t : Ty) : Ty × Int := if qs t = true then (if (bput s t 4096 1).1 < 0 then (Y0, 2) else ((bput s t 4096 1).2, 0)) else (Y0, 1)
theorem qbai {s : List Pr} (h : okS s) (t : Ty) : appP s t = appR s t := by
 rw [appP, quj h]
 split
 ·rename_i ht
  obtain ⟨h1, h2, h3⟩ := (qbg t).1 ht
  have hz := qjw s t (qcl t h3)
  have hp := qls h t h3
  have key := qpf s t 4096 1 (qcl t h3) (by omega) (by omega)
  by_cases hk : (sizR s t : Int) ≤ 4096 ∧ 1 + dpY (putY s t) ≤ 101
  ·have hk' : (sizR s t : Int) ≤ 4096 ∧ (1 : Int) + dpY (putY s t) ≤ 101 := by omega
   rw [key.1 hk', if_neg (by simp only; omega), if_pos ((qbg _).2 ⟨by omega, by omega, hp⟩)]
  ·rw [if_pos (key.2 (by omega)), if_neg]
   intro hl
   have := (qbg _).1 hl
   omega
 ·rfl
theorem qf3 {s : List Pr} (h : okS s) {t : Ty} (he : (appR s t).2 = 0) : qs t = true ∧ qs (putY s t) = true ∧ (appR s t).1 = putY s t := by
 rw [quj h] at he ⊢
 split at he
 ·rename_i h1
  split at he
  ·rename_i h2
   rw [if_pos h1, if_pos h2]
   exact ⟨h1, h2, rfl⟩
  ·exact absurd he (by simp)
 ·exact absurd he (by simp)
def qis (t : List Pr) : List Pr → List Pr → List Pr × Int
 | acc, [] => (acc, 0)
 | acc, p :: r => if (appR t p.ty).2 = 0 then qis t (acc ++ [⟨p.v, (appR t p.ty).1⟩]) r else ([], (appR t p.ty).2)
def qbe (t : List Pr) : List Pr → List Pr → List Pr × Int
 | acc, [] => (acc, 0)
 | acc, p :: r => if (appR t p.ty).2 = 0 then qbe t (setR acc p.v (appR t p.ty).1).1 r else ([], (appR t p.ty).2)
theorem qp1 {s : List Pr} {v : Int} {t : Ty} (ht : qs t = true) (h : ∀ p ∈ s, p.v < v) : setR s v t = (s ++ [⟨v, t⟩], 0) := by
 have hn : qv v s = none := qks fun p hp => by have := h p hp; omega
 rw [setR, if_pos ht, hn]
 simp only
 rw [qpu h]
theorem qon {t : List Pr} (ht : okS t) : ∀ (s acc : List Pr), risR s → (∀ p ∈ acc, ∀ q ∈ s, p.v < q.v) → qbe t acc s = qis t acc s
 | [], acc, _, _ => rfl
 | p :: r, acc, hs, hlt => by
   rw [qbe, qis]
   split
   ·rename_i he
    obtain ⟨h1, h2, h3⟩ := qf3 ht he
    rw [qp1 (by rw [h3]; exact h2) fun q hq => hlt q hq p (by simp)]
    refine qon ht r _ hs.2 fun a ha q hq => ?_
    rcases List.mem_append.1 ha with ha | ha
    ·exact hlt a ha q (by simp [hq])
    ·simp at ha
     subst ha
     exact hs.1 q hq
   ·rfl
def behR (s t : List Pr) : List Pr × Int := if (qis t [] s).2 = 0 then (addR (qis t [] s).1 t, 0) else ([], (qis t [] s).2)
theorem qlz {t : List Pr} (ht : okS t) : ∀ (s acc : List Pr), (qis t acc s).2 = 0 → (qis t acc s).1 = acc ++ s.map (fun p => ⟨p.v, putY t p.ty⟩) ∧ ∀ p ∈ s, qs (putY t p.ty) = true
 | [], acc, _ => ⟨by simp [qis], fun p hp => by simp at hp⟩
 | p :: r, acc, he => by
   rw [qis] at he ⊢
   split at he
   ·rename_i h0
    obtain ⟨h1, h2, h3⟩ := qf3 ht h0
    obtain ⟨q1, q2⟩ := qlz ht r _ he
    rw [if_pos h0]
    refine ⟨by rw [q1, h3]; simp, fun q hq => ?_⟩
    rcases List.mem_cons.1 hq with rfl | hq
    ·exact h2
    ·exact q2 q hq
   ·rename_i h0
    exact absurd he h0
theorem qu1 {t : List Pr} : ∀ {s : List Pr}, risR s → risR (s.map fun p => (⟨p.v, putY t p.ty⟩ : Pr))
 | [], _ => trivial
 | p :: r, h => ⟨fun q hq => by
     obtain ⟨x, hx, rfl⟩ := List.mem_map.1 hq
     exact h.1 x hx, qu1 h.2⟩
theorem q4x {s t : List Pr} (hs : okS s) (ht : okS t) : okS (behR s t).1 := by
 rw [behR]
 split
 ·rename_i he
  obtain ⟨q1, q2⟩ := qlz ht s [] he
  refine qki t ?_
  rw [q1, List.nil_append]
  refine ⟨qu1 hs.1, fun p hp => ?_⟩
  obtain ⟨x, hx, rfl⟩ := List.mem_map.1 hp
  exact q2 x hx
 ·exact qg9
def qdr (vars : List Int) (s : List Pr) : List Pr := s.filter fun p => decide (p.v ∈ vars)
theorem qej (f : Pr → Bool) : ∀ {s : List Pr}, risR s → risR (s.filter f)
 | [], _ => trivial
 | p :: r, h => by
   rw [List.filter_cons]
   split
   ·exact ⟨fun q hq => h.1 q (List.mem_filter.1 hq).1, qej f h.2⟩
   ·exact qej f h.2
theorem qw1 {s : List Pr} (h : okS s) (vars : List Int) : okS (qdr vars s) := ⟨qej _ h.1, fun p hp => h.2 p (List.mem_filter.1 hp).1⟩
set_option maxRecDepth 4000

set_option maxRecDepth 4000

theorem qg6 {l : List Ty} (h : l ≠ []) : qq l ≠ [] := by cases l with | nil => exact absurd rfl h | cons _ _ => simp [qq]
theorem qde : qq [] = [] := by rw [qq]
theorem qrb (t : Ty) : [encY t] = qq [t] := by rw [qq, qq]
theorem capY {k : Nat} (h : k ≤ 1000000000) : qce k 48 := by unfold qce; omega
set_option maxRecDepth 4000

/-! the reference's -/
set_option maxRecDepth 4000

end Go.Proofs.Ytfpobiheiloamaa
