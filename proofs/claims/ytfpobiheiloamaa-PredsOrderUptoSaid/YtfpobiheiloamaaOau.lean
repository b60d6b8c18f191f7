/- Texts of this proof, joined. -/
import Derived.Test.YtfpobiheiloamaaOas
import Derived.Test.YtfpobiheiloamaaOat
import Derived.Test.YtfpobiheiloamaaOar

/- predicates: their text -/
set_option maxRecDepth 4000
namespace Go.Proofs.Ytfpobiheiloamaa
open Go Go.RowKit Go.V
set_option linter.unusedVariables false
set_option linter.unusedSimpArgs false

theorem strings_Join {ls : List (List UInt8)} {sep : List UInt8} (hn : ls.length ≤ 140737488355328) (hl : (Lib.join ls sep).length ≤ 140737488355328) : ql Try.prog 69 [.sl 1 (ls.map AV.str), .str sep] (.str (Lib.join ls sep)) :=
 qow (by kernel_rfl) Try.strings_Join_none Try.strings_Join hn hl
def okP (p : Pd) : Prop := szY p.ty ≤ 20000 ∧ dpY p.ty ≤ 300 ∧ p.cls.length + (qbi p.ty).length + 5 ≤ Big
def oneP (p : Pd) : List UInt8 := p.cls ++ (32 :: parW (decide (p.ty.args ≠ [])) (qbi p.ty))
theorem qsv {p : Pd} (h : okP p) : ql Try.prog 68 [encP p] (.str (oneP p)) := by
 refine qe c0bf (by simp) (by simp only [go_sem]) rfl fun hw => ?_
 obtain ⟨h1, h2, h3⟩ := h
 have ht := qcy h1 h2 (by omega)
 have m1 : 1 + (qbi p.ty).length ≤ maxLen := qb3 (by omega)
 have m2 : (qbi p.ty).length + 1 + 1 ≤ maxLen := qb3 (by omega)
 have m3 : p.cls.length + 1 ≤ maxLen := qb3 (by omega)
 have m4 : p.cls.length + 1 + (qbi p.ty).length ≤ maxLen := qb3 (by omega)
 have m5 : p.cls.length + 1 + ((qbi p.ty).length + 1 + 1) ≤ maxLen := qb3 (by omega)
 repeat' (first | refine vs_ ?_ | ((first | refine vr_ ?_ | fail) <;> (try simp only [qfm, go_sem, ↓reduceIte])) | ((first | (refine cs_ ?_ ?_ <;> intro hc) | refine cj_ ?_ | simp (disch := omega) only [encs_getN, qb] | refine qa ht fun _ => ?_) <;> (try refine ev_ ?_)) | with_reducible exact ti_)
 ·have hne : p.ty.args ≠ [] := fun h => by rename_i hc; rw [h] at hc; simp at hc
  rw [oneP, parW, if_pos (by simp [hne])]
 ·have hne : p.ty.args = [] := List.length_eq_zero_iff.1 (by omega)
  rw [oneP, parW, if_neg (by simp [hne])]
def sepW : List UInt8 := [44, 32]
def qjr (l : List Pd) : List UInt8 := Lib.join (l.map oneP) sepW
def qlj (l : List Pd) : List UInt8 := if l.all qck = true then (if 1 < l.length then 40 :: (qjr l ++ [41]) else qjr l) else []
theorem qlg (l : List Pd) (i : Nat) (h : i < l.length) : ((l.take (i + 1)).map oneP).map AV.str = ((l.take i).map oneP).map AV.str ++ [.str (oneP (l.getD i P0))] := by
 have h1 : l.take (i + 1) = l.take i ++ [l.getD i P0] := by
  rw [List.take_add_one, List.getD_eq_getElem?_getD, List.getElem?_eq_getElem h]; rfl
 rw [h1]; simp
theorem capS {k : Nat} (h : k ≤ 1000000000) : qc1 k 16 := by unfold qc1; omega
def ones (l : List Pd) : List AV := (l.map oneP).map AV.str
theorem qd8 (l : List Pd) : (ones l).length = l.length := by simp [ones]
theorem ql2 (k : Nat) (l : List Pd) : AV.bds k (ones l) = true := by rw [ones, qhm]; simp [AV.bd]
theorem qng (σ : Nat → Nat) (l : List Pd) : AV.rens σ (ones l) = ones l := qj (m := 0) (fun i hi => by omega) _ (ql2 0 l)
theorem qj1 {l : List Pd} (h : l ≠ []) : ones l ≠ [] := by cases l with | nil => exact absurd rfl h | cons _ _ => simp [ones]
attribute [go_sem] qd8 ql2 qng
theorem qjl : ones [] = [] := rfl
def ptSt (l : List Pd) (i : Nat) : AF × List Ent := (⟨[(0, .sl 4 (qu l)), (3, accV 0 (ones (l.take i))), (7, .sl 4 (qu l)), (8, .int .i64 l.length), (9, .int .i64 i)], []⟩, accE 1 (ones (l.take i)))
theorem qfg (l : List Pd) (h30 : l.length ≤ 30) (hok : ∀ p ∈ l, okP p) (hJ : (qjr l).length + 2 ≤ Big) : ql Try.prog 25 [.sl 4 (qu l)] (.str (qlj l)) := by
 refine qe c0bg (by simp) (by simp only [go_sem]) rfl fun hw => ?_
 have hl := (qc9 hw.1).1
 repeat' (first | refine vs_ ?_ | ((first | refine vr_ ?_ | (refine cs_ ?_ ?_ <;> intro hc) | refine cj_ ?_ | simp (disch := omega) only [encs_getN, qb]) <;> (try refine ev_ ?_)) | with_reducible exact ti_)
 refine qs (S := Nat) (fun i => i ≤ l.length ∧ (l.take i).all qck = true) (ptSt l) (fun i => l.length - i) ?_ fun i hi => ?_
 ·refine qk 0 [] ⟨Nat.zero_le _, rfl⟩ rfl (by simp) ?_ ?_ ?_ <;> simp only [ptSt, List.take_zero, qjl, qo, qn] <;> (try refine ev_ ?_) <;> (try with_reducible exact ti_) <;> (try simp (disch := omega) only [qb, and_true, true_and])
 ·obtain ⟨hi, ha⟩ := hi
  have htl : (l.take i).length = i := by rw [List.length_take]; omega
  have hcap : qc1 (i + 1) 16 = True := eq_true (capS (by omega))
  have hcap0 : qc1 1 16 = True := eq_true (capS (by omega))
  unfold ptSt
  by_cases hlt : i < l.length
  ·have hp := hok _ (qja hlt)
   have hg := qbx hp.1 hp.2.1
   have ho := qsv hp
   have hs : ones (l.take (i + 1)) = ones (l.take i) ++ [.str (oneP (l.getD i P0))] := qlg l i hlt
   have hno : qck (l.getD i P0) = false → qlj l = [] := fun h => by
    rw [qlj, if_neg]
    intro hall
    rw [List.all_eq_true.1 hall _ (qja hlt)] at h
    cases h
   have hyes : qck (l.getD i P0) = true → (l.take (i + 1)).all qck = true := fun h => by
    rw [List.take_add_one, List.all_append, ha, Bool.true_and]
    rw [List.getD_eq_getElem?_getD, List.getElem?_eq_getElem hlt] at h
    rw [List.getElem?_eq_getElem hlt]
    simpa using h
   by_cases h0 : l.take i = []
   ·have hi0 : i = 0 := by rw [← htl, h0]; rfl
    subst hi0
    simp only [List.take_zero, qjl, qo, qn]
    repeat' (first | refine vs_ ?_ | ((first | refine vr_ ?_ | fail) <;> (try simp (disch := first | omega | (simp only [List.length_set, List.length_append, List.length_cons, List.length_nil]; done) | (simp only [List.length_set, List.length_append, List.length_cons, List.length_nil]; omega)) only [qbd, go_sem, ↓reduceIte])) | ((first | simp (disch := omega) only [hcap0] | (refine cs_ ?_ ?_ <;> intro hc) | refine cj_ ?_ | simp (disch := omega) only [encs_getN, qb] | refine qa hg fun _ => ?_ | refine qa ho fun _ => ?_) <;> (try refine ev_ ?_)) | with_reducible exact ti_)
    ·rw [hno (by assumption)]
    ·have hy := hyes (by assumption)
     have hs1 : ones (l.take 1) = [.str (oneP (l.getD 0 P0))] := hs
     refine qk 1 [1] ⟨⟨by omega, hy⟩, by omega⟩ rfl (by simp) ?_ ?_ ?_ <;> simp only [ptSt, hs1, qem, qez] <;> (try refine ev_ ?_) <;> (try with_reducible exact ti_) <;> (try simp (disch := omega) only [qb, and_true, true_and])
     all_goals rfl
    ·omega
   ·simp only [qbb (qj1 h0), qbc (qj1 h0), qd8, htl]
    repeat' (first | refine vs_ ?_ | ((first | refine vr_ ?_ | fail) <;> (try simp (disch := first | omega | (simp only [List.length_set, List.length_append, List.length_cons, List.length_nil]; done) | (simp only [List.length_set, List.length_append, List.length_cons, List.length_nil]; omega)) only [qbd, qb, qd8, htl, go_sem, ↓reduceIte])) | ((first | simp (disch := omega) only [hcap] | (refine cs_ ?_ ?_ <;> intro hc) | refine cj_ ?_ | simp (disch := omega) only [encs_getN, qb] | refine qa hg fun _ => ?_ | refine qa ho fun _ => ?_) <;> (try refine ev_ ?_)) | with_reducible exact ti_)
    ·rw [hno (by assumption)]
    ·have hy := hyes (by assumption)
     refine qk (i + 1) [2] ⟨⟨by omega, hy⟩, by omega⟩ rfl (by simp) ?_ ?_ ?_ <;> simp only [ptSt, hs, qdu, qdr, qd8, htl] <;> (try refine ev_ ?_) <;> (try with_reducible exact ti_) <;> (try simp (disch := omega) only [qb, and_true, true_and])
     all_goals (rw [← hs]; exact ⟨ql2 _ _, by rw [qng]⟩)
    ·omega
  ·have hti : l.take i = l := List.take_of_length_le (by omega)
   rw [hti] at ha ⊢
   have hj := strings_Join (ls := l.map oneP) (sep := [44, 32]) (by simp; omega) (by have : (Lib.join (l.map oneP) [44, 32]).length = (qjr l).length := rfl; unfold Big at hJ; omega)
   have m1 : 1 + (qjr l).length ≤ maxLen := qb3 (by omega)
   have m2 : (qjr l).length + 1 + 1 ≤ maxLen := qb3 (by omega)
   have e : qlj l = if 1 < l.length then 40 :: (qjr l ++ [41]) else qjr l := by rw [qlj, if_pos ha]
   change ql Try.prog _ [.sl 1 (ones l), _] (.str (qjr l)) at hj
   by_cases h0 : l = []
   ·rw [h0] at hj e ⊢
    simp only [qjl, qo, qn] at hj ⊢
    repeat' (first | refine vs_ ?_ | ((first | refine vr_ ?_ | fail) <;> (try simp only [qbs, go_sem, ↓reduceIte])) | ((first | (refine cs_ ?_ ?_ <;> intro hc) | refine cj_ ?_ | simp (disch := omega) only [encs_getN, qb] | refine qa hj fun _ => ?_) <;> (try refine ev_ ?_)) | with_reducible exact ti_)
    ·omega
    ·omega
    ·rw [e, if_neg (by simp)]
   ·simp only [qbb (qj1 h0), qbc (qj1 h0), qd8]
    repeat' (first | refine vs_ ?_ | ((first | refine vr_ ?_ | fail) <;> (try simp only [qd8, go_sem, ↓reduceIte])) | ((first | (refine cs_ ?_ ?_ <;> intro hc) | refine cj_ ?_ | simp (disch := omega) only [encs_getN, qb] | refine qa hj fun _ => ?_) <;> (try refine ev_ ?_)) | with_reducible exact ti_)
    ·omega
    ·rw [e, if_pos (by omega)]
    ·rw [e, if_neg (by omega)]
set_option maxRecDepth 4000

end Go.Proofs.Ytfpobiheiloamaa

/- how long the texts of predicates are -/
namespace Go.Proofs.Ytfpobiheiloamaa
open Go Go.RowKit Go.V
theorem qsb {t : Ty} (hw : (encY t).wf) : (qbi t).length ≤ conY t + 27 * szY t := by
 rw [qbi]
 split
 ·rename_i h
  have := q21 t (qc4 h) hw
  omega
 ·simp
end Go.Proofs.Ytfpobiheiloamaa
