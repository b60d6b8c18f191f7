/- Texts of this proof, joined. -/
import Derived.Test.YtbbjelfnocmaoaaAam
import Derived.Test.YtbbjelfnocmaoaaAau
import Derived.Test.YtbbjelfnocmaoaaAai

/- substitutions: what they do, program and reference alike -/
namespace Go.Proofs.Ytbbjelfnocmaoaa
open Go Go.RowKit Go.V
set_option linter.unusedVariables false
set_option linter.unusedSimpArgs false

theorem qbc (t : Ty) : q6 t = true ↔ szY t ≤ 4096 ∧ dpY t ≤ 100 ∧ qbk t = true := by
 rw [q6, Bool.and_eq_true, Bool.and_eq_true, decide_eq_true_eq, decide_eq_true_eq]
theorem qvs {t : Ty} (h : qbk t = true) (hc : t.con = []) : t.args = [] := by
 rw [qhy, Bool.and_eq_true] at h
 have h2 := h.2
 rw [mayY, mayW, if_pos hc, decide_eq_true_eq] at h2
 exact List.length_eq_zero_iff.1 (by omega)
mutual
theorem qdb : ∀ t, qbk t = true → bare t
 | .mk c v l, h => by
   rw [bare]
   refine ⟨fun hc => qvs h hc, qgl l ?_⟩
   rw [qbk, Bool.and_eq_true] at h
   exact h.1
theorem qgl : ∀ l, qy l = true → qiz l
 | [], _ => by rw [qiz]; trivial
 | x :: r, h => by
   rw [qy, Bool.and_eq_true] at h
   rw [qiz]
   exact ⟨qdb x h.1, qgl r h.2⟩
end
def okS (s : List Pr) : Prop := risR s ∧ ∀ p ∈ s, q6 p.ty = true
theorem qnf : okS [] := ⟨trivial, fun p hp => by simp at hp⟩
theorem q7k {s : List Pr} (h : okS s) : okR s := fun p hp => by
 have := (qbc _).1 (h.2 p hp)
 exact ⟨this.1, this.2.1⟩
theorem qyi {s : List Pr} (h : okS s) {v : Int} {u : Ty} (hu : qbl v s = some u) : q6 u = true := by
 obtain ⟨p, h1, _, rfl⟩ := qhq hu
 exact h.2 p h1
mutual
theorem qmi {s : List Pr} (h : okS s) : ∀ t, qbk t = true → qbk (putY s t) = true
 | .mk c v l, ht => by
   rw [putY]
   split
   ·cases hl : qbl v s with
    | some u => exact ((qbc u).1 (qyi h hl)).2.2
    | none => exact ht
   ·rw [qbk, Bool.and_eq_true] at ht ⊢
    exact ⟨qi9 h l ht.1, by rw [qtg]; exact ht.2⟩
theorem qi9 {s : List Pr} (h : okS s) : ∀ l, qy l = true → qy (qd3 s l) = true
 | [], _ => by rw [qd3, qy]
 | x :: r, hl => by
   rw [qy, Bool.and_eq_true] at hl
   rw [qd3, qy, Bool.and_eq_true]
   exact ⟨qmi h x hl.1, qi9 h r hl.2⟩
end
def setR (l : List Pr) (v : Int) (t : Ty) : List Pr × Int := if q6 t = true then (match qbl v l with | some _ => (l, 6) | none => (insR v t l, 0)) else (l, 1)
theorem qm5 {s : List Pr} (h : okS s) (v : Int) (t : Ty) : okS (setR s v t).1 := by
 rw [setR]
 split
 ·rename_i ht
  cases hl : qbl v s with
  | some u => exact h
  | none =>
    refine ⟨qpq h.1 hl, fun p hp => ?_⟩
    rcases insR_mem.1 hp with rfl | hp
    ·exact ht
    ·exact h.2 p hp
 ·exact h
theorem qot (s : List Pr) (v : Int) (t : Ty) : (setR s v t).1.length ≤ s.length + 1 := by
 rw [setR]
 split
 ·cases qbl v s with
  | some u => simp
  | none => simp only [qo6]; omega
 ·simp
def addR (s : List Pr) : List Pr → List Pr
 | [] => s
 | p :: r => addR (setR s p.v p.ty).1 r
theorem qng : ∀ (l : List Pr) {s : List Pr}, okS s → okS (addR s l)
 | [], s, h => h
 | p :: r, s, h => qng r (qm5 h p.v p.ty)
theorem qom : ∀ (l s : List Pr), (addR s l).length ≤ s.length + l.length
 | [], s => by simp [addR]
 | p :: r, s => by
   have h1 := qom r (setR s p.v p.ty).1
   have h2 := qot s p.v p.ty
   rw [addR, List.length_cons]; omega
def newR (l : List Pr) : List Pr := addR [] l
theorem qnl (l : List Pr) : okS (newR l) := qng l qnf
theorem qxr (l : List Pr) : (newR l).length ≤ l.length := by have := qom l []; rw [newR]; simpa using this
def appR (s : List Pr) (t : Ty) : Ty × Int := if q6 t = true then (if 4096 < sizR s t then (Y0, 2) else if q6 (putY s t) = true then (putY s t, 0) else (Y0, 2)) else (Y0, 1)
theorem qtw {s : List Pr} (h : okS s) (t : Ty) : appR s t = if q6 t = true then (if q6 (putY s t) = true then (putY s t, 0) else (Y0, 2)) else (Y0, 1) := by
 rw [appR]
 split
 ·rename_i ht
  have hs := qh5 ht
  have hz := qmu s t (qdb t hs)
  split
  ·rename_i hb
   rw [if_neg]
   intro hl
   have := ((qbc _).1 hl).1
   omega
  ·rfl
 ·rfl
def appP (s : List Pr) (t : Ty) : Ty × Int := if q6 t = true then (if (bput s t 4096 1).1 < 0 then (Y0, 2) else ((bput s t 4096 1).2, 0)) else (Y0, 1)
theorem q2h {s : List Pr} (h : okS s) (t : Ty) : appP s t = appR s t := by
 rw [appP, qtw h]
 split
 ·rename_i ht
  obtain ⟨h1, h2, h3⟩ := (qbc t).1 ht
  have hz := qmu s t (qdb t h3)
  have hp := qmi h t h3
  have key := qpb s t 4096 1 (qdb t h3) (by omega) (by omega)
  by_cases hk : (sizR s t : Int) ≤ 4096 ∧ 1 + dpY (putY s t) ≤ 101
  ·have hk' : (sizR s t : Int) ≤ 4096 ∧ (1 : Int) + dpY (putY s t) ≤ 101 := by omega
   rw [key.1 hk', if_neg (by simp only; omega), if_pos ((qbc _).2 ⟨by omega, by omega, hp⟩)]
  ·rw [if_pos (key.2 (by omega)), if_neg]
   intro hl
   have := (qbc _).1 hl
   omega
 ·rfl
theorem qqj {s : List Pr} (h : okS s) {t : Ty} (he : (appR s t).2 = 0) : q6 t = true ∧ q6 (putY s t) = true ∧ (appR s t).1 = putY s t := by
 rw [qtw h] at he ⊢
 split at he
 ·rename_i h1
  split at he
  ·rename_i h2
   rw [if_pos h1, if_pos h2]
   exact ⟨h1, h2, rfl⟩
  ·exact absurd he (by simp)
 ·exact absurd he (by simp)
def qlj (t : List Pr) : List Pr → List Pr → List Pr × Int
 | acc, [] => (acc, 0)
 | acc, p :: r => if (appR t p.ty).2 = 0 then qlj t (acc ++ [⟨p.v, (appR t p.ty).1⟩]) r else ([], (appR t p.ty).2)
def behR (s t : List Pr) : List Pr × Int := if (qlj t [] s).2 = 0 then (addR (qlj t [] s).1 t, 0) else ([], (qlj t [] s).2)
theorem qmh {t : List Pr} (ht : okS t) : ∀ (s acc : List Pr), (qlj t acc s).2 = 0 → (qlj t acc s).1 = acc ++ s.map (fun p => ⟨p.v, putY t p.ty⟩) ∧ ∀ p ∈ s, q6 (putY t p.ty) = true
 | [], acc, _ => ⟨by simp [qlj], fun p hp => by simp at hp⟩
 | p :: r, acc, he => by
   rw [qlj] at he ⊢
   split at he
   ·rename_i h0
    obtain ⟨h1, h2, h3⟩ := qqj ht h0
    obtain ⟨q1, q2⟩ := qmh ht r _ he
    rw [if_pos h0]
    refine ⟨by rw [q1, h3]; simp, fun q hq => ?_⟩
    rcases List.mem_cons.1 hq with rfl | hq
    ·exact h2
    ·exact q2 q hq
   ·rename_i h0
    exact absurd he h0
theorem qvo {t : List Pr} : ∀ {s : List Pr}, risR s → risR (s.map fun p => (⟨p.v, putY t p.ty⟩ : Pr))
 | [], _ => trivial
 | p :: r, h => ⟨fun q hq => by
     obtain ⟨x, hx, rfl⟩ := List.mem_map.1 hq
     exact h.1 x hx, qvo h.2⟩
theorem q0t {s t : List Pr} (hs : okS s) (ht : okS t) : okS (behR s t).1 := by
 rw [behR]
 split
 ·rename_i he
  obtain ⟨q1, q2⟩ := qmh ht s [] he
  refine qng t ?_
  rw [q1, List.nil_append]
  refine ⟨qvo hs.1, fun p hp => ?_⟩
  obtain ⟨x, hx, rfl⟩ := List.mem_map.1 hp
  exact q2 x hx
 ·exact qnf

theorem qm7 (p : Pd) : AV.agg [.str p.ty.con, .int .i64 p.ty.var, .sl 3 (ql p.ty.args)] = encY p.ty := qbq _
set_option maxRecDepth 4000

def qh4 (p : Pd) : Bool := conW p.cls && q6 p.ty
theorem qnw {p : Pd} (h1 : szY p.ty ≤ 20000) (h2 : dpY p.ty ≤ 300) : qk Try.prog 36 [encP p] (.bool (qh4 p)) := by
 refine qf c0bs (by simp) (by simp only [go_sem]) rfl fun hw => ?_
 repeat' (first | refine vs_ ?_ | ((first | refine vr_ ?_ | refine qa (qfb _) fun _ => ?_ | refine qa (qb3 h1 h2) fun _ => ?_ | (refine cs_ ?_ ?_ <;> intro hc) | refine cj_ ?_ | fail) <;> (try refine ev_ ?_)) | with_reducible exact ti_)
 all_goals simp [qh4, *]
def fewP (l : List Pd) : Bool := decide (l.length ≤ 30) && qel (l.map Pd.ty)
theorem qgv {l : List Ty} (h : l ≠ []) : ql l ≠ [] := by cases l with | nil => exact absurd rfl h | cons _ _ => simp [ql]
theorem qc7 : ql [] = [] := by rw [ql]
theorem qf0 (t : Ty) : [encY t] = ql [t] := by rw [ql, ql]
theorem qkz (l : List Pd) (i : Nat) (h : i < l.length) : (l.map Pd.ty).take (i + 1) = (l.map Pd.ty).take i ++ [(l.getD i P0).ty] := by
 rw [List.take_add_one, List.getElem?_map, List.getElem?_eq_getElem h, List.getD_eq_getElem?_getD, List.getElem?_eq_getElem h]; rfl
theorem capY {k : Nat} (h : k ≤ 1000000000) : qcl k 48 := by unfold qcl; omega
def qtn (l : List Pd) (i : Nat) : AF × List Ent := (⟨[(0, .sl 4 (q7 l)), (3, accV 0 (ql ((l.map Pd.ty).take i))), (4, .int .i64 i)], []⟩, accE 3 (ql ((l.map Pd.ty).take i)))
theorem qbhi (l : List Pd) : qk Try.prog 5 [.sl 4 (q7 l)] (.int .i64 (if fewP l = true then 1 else 0)) := by
 refine qf c0bt (by simp) (by simp only [go_sem]) rfl fun hw => ?_
 have hl := (qfl hw.1).1
 repeat' (first | refine vs_ ?_ | ((first | refine vr_ ?_ | (refine cs_ ?_ ?_ <;> intro hc) | refine cj_ ?_ | simp (disch := omega) only [encs_getN, qb]) <;> (try refine ev_ ?_)) | with_reducible exact ti_)
 ·rw [if_neg (by simp [fewP]; omega)]
 have h30 : l.length ≤ 30 := by omega
 refine qz (S := Nat) (fun i => i ≤ l.length) (qtn l) (fun i => l.length - i) ?_ fun i hi => ?_
 ·refine qp 0 [] (Nat.zero_le _) rfl (by simp) ?_ ?_ ?_ <;> simp only [qtn, List.take_zero, qc7, qbe, qbd] <;> (try refine ev_ ?_) <;> (try with_reducible exact ti_) <;> (try simp (disch := omega) only [qb, and_true, true_and])
 ·have hfin : fewP l = qel (l.map Pd.ty) := by rw [fewP, decide_eq_true h30, Bool.true_and]
  have hlm : ((l.map Pd.ty).take i).length = i := by rw [List.length_take, List.length_map]; omega
  have hcap : qcl (i + 1) 48 = True := eq_true (capY (by omega))
  unfold qtn
  by_cases hlt : i < l.length
  ·have hs := qkz l i hlt
   by_cases h0 : i = 0
   ·subst h0
    simp only [List.take_zero, qc7, qbe, qbd]
    repeat' (first | refine vs_ ?_ | ((first | refine vr_ ?_ | fail) <;> (try simp (disch := first | omega | (simp only [List.length_set, List.length_append, List.length_cons, List.length_nil]; done) | (simp only [List.length_set, List.length_append, List.length_cons, List.length_nil]; omega)) only [qcg, qb, qm7, go_sem, ↓reduceIte])) | ((first | simp (disch := omega) only [(show qcl 1 48 = True from eq_true (capY (by omega)))] | (refine cs_ ?_ ?_ <;> intro hc) | refine cj_ ?_ | simp (disch := omega) only [encs_getN, qb]) <;> (try refine ev_ ?_)) | with_reducible exact ti_)
    ·refine qp 1 [0] ⟨by omega, by omega⟩ rfl (by simp) ?_ ?_ ?_ <;> simp only [qtn, hs, List.take_zero, List.nil_append, ← qf0, qfp, qfk] <;> (try refine ev_ ?_) <;> (try with_reducible exact ti_) <;> (try simp (disch := omega) only [qb, and_true, true_and])
     all_goals (rw [qm4])
    ·omega
   ·have hne : (l.map Pd.ty).take i ≠ [] := fun h => h0 (by rw [← hlm, h]; rfl)
    simp only [qcy (qgv hne), qc0 (qgv hne), qo, hlm]
    repeat' (first | refine vs_ ?_ | ((first | refine vr_ ?_ | fail) <;> (try simp (disch := first | omega | (simp only [List.length_set, List.length_append, List.length_cons, List.length_nil]; done) | (simp only [List.length_set, List.length_append, List.length_cons, List.length_nil]; omega)) only [qcg, qb, qm7, qo, hlm, go_sem, ↓reduceIte])) | ((first | simp (disch := omega) only [hcap] | (refine cs_ ?_ ?_ <;> intro hc) | refine cj_ ?_ | simp (disch := omega) only [encs_getN, qb]) <;> (try refine ev_ ?_)) | with_reducible exact ti_)
    ·have hl2 : ql ((l.map Pd.ty).take (i + 1)) = ql ((l.map Pd.ty).take i) ++ [encY (l.getD i P0).ty] := by rw [hs, qde]
     refine qp (i + 1) [1] ⟨by omega, by omega⟩ rfl (by simp) ?_ ?_ ?_ <;> simp only [qtn, hl2, qdw, qd1, qo, hlm] <;> (try refine ev_ ?_) <;> (try with_reducible exact ti_) <;> (try simp (disch := omega) only [qb, and_true, true_and])
     all_goals (simp only [qde]; exact ⟨qbs _ _, by rw [qdf]⟩)
    ·omega
  ·have hend : (l.map Pd.ty).take i = l.map Pd.ty := List.take_of_length_le (by rw [List.length_map]; omega)
   have hf := q44 (l.map Pd.ty)
   rw [hend, hfin]
   by_cases h0 : l.map Pd.ty = []
   ·rw [h0] at hf ⊢
    simp only [qc7, qbe, qbd]
    repeat' (first | refine vs_ ?_ | ((first | refine vr_ ?_ | fail) <;> (try simp only [qch, go_sem, ↓reduceIte])) | ((first | (refine cs_ ?_ ?_ <;> intro hc) | refine cj_ ?_ | simp (disch := omega) only [encs_getN, qb] | refine qa hf fun _ => ?_) <;> (try refine ev_ ?_)) | with_reducible exact ti_)
    all_goals omega
   ·simp only [qcy (qgv h0), qc0 (qgv h0), qo]
    repeat' (first | refine vs_ ?_ | ((first | refine vr_ ?_ | fail) <;> (try simp only [qo, go_sem, ↓reduceIte])) | ((first | (refine cs_ ?_ ?_ <;> intro hc) | refine cj_ ?_ | simp (disch := omega) only [encs_getN, qb] | refine qa hf fun _ => ?_) <;> (try refine ev_ ?_)) | with_reducible exact ti_)
    all_goals omega

/-! the reference's -/


def typA (p : Ty × Int) : AV := .tup [encY p.1, .int .i64 p.2]
theorem q54 (k : Nat) (p : Ty × Int) : (typA p).bd k = true := by simp only [typA, AV.bd, AV.bds, qbv, Bool.and_true]
end Go.Proofs.Ytbbjelfnocmaoaa
