/- Texts of this proof, joined. -/
import Derived.Test.YtbbjelfnocmaoaaGreatDau
import Derived.Test.YtbbjelfnocmaoaaGreatDai

/- predicates: sameness, whether one is there, each once -/
set_option maxRecDepth 4000
namespace Go.Proofs.YtbbjelfnocmaoaaGreat
open Go Go.RowKit Go.V
set_option linter.unusedVariables false
set_option linter.unusedSimpArgs false

def qsu (a b : Pd) : Bool := decide (a.cls = b.cls) && qhm a.ty b.ty
theorem quk (a b : Pd) : qsu a b = true ↔ a = b := by
 rw [qsu, Bool.and_eq_true, decide_eq_true_eq, qrt]
 cases a; cases b; simp
theorem ql7 (p : Pd) : AV.agg [.str p.ty.con, .int .i64 p.ty.var, .sl 3 (qj p.ty.args)] = encY p.ty := qbh _
theorem qlc (a b : Pd) : qg Tryz.prog 37 [encP a, encP b] (.bool (qsu a b)) := by
 refine qd c0ca (by simp) (by simp only [go_sem]) rfl fun hw => ?_
 repeat' (first | refine vs_ ?_ | ((first | refine vr_ ?_ | refine qa (qtl _ _) fun _ => ?_ | (refine cs_ ?_ ?_ <;> intro hc) | refine cj_ ?_ | fail) <;> (try refine ev_ ?_)) | with_reducible exact ti_)
 all_goals simp [qsu, *]
set_option maxRecDepth 4000

def qgj : List Pd → List Pd → Bool
 | [], [] => true
 | x :: r, y :: r' => qsu x y && qgj r r'
 | _, _ => false
theorem qnx : ∀ l m, qgj l m = true ↔ l = m
 | [], [] => by simp [qgj]
 | [], y :: r => by rw [qgj] <;> simp
 | x :: r, [] => by rw [qgj] <;> simp
 | x :: r, y :: r' => by rw [qgj, Bool.and_eq_true, quk, qnx r r']; simp
theorem qv3 {l m : List Pd} (h : l.length ≠ m.length) : qgj l m = false := by
 cases hh : qgj l m with
 | false => rfl
 | true => rw [(qnx l m).1 hh] at h; exact absurd rfl h
theorem qks {l m : List Pd} {i : Nat} (h : i < l.length) (h' : i < m.length) : qgj (l.drop i) (m.drop i) = (qsu (l.getD i P0) (m.getD i P0) && qgj (l.drop (i + 1)) (m.drop (i + 1))) := by
 rw [qxu h, qxu h', qgj]
theorem qbk0 (l m : List Pd) : qg Tryz.prog 19 [.sl 4 (qu l), .sl 4 (qu m)] (.bool (qgj l m)) := by
 refine qd c0bv (by simp) (by simp only [go_sem]) rfl fun hw => ?_
 have hl := (qb7 hw.1).1
 repeat' (first | refine vs_ ?_ | ((first | refine vr_ ?_ | (refine cs_ ?_ ?_ <;> intro hc) | refine cj_ ?_ | simp (disch := omega) only [encs_getN, qb]) <;> (try refine ev_ ?_)) | with_reducible exact ti_)
 ·rw [qv3 (by omega)]
 have hlm : l.length = m.length := by omega
 refine qm (S := Nat) (fun i => i ≤ l.length ∧ qgj (l.drop i) (m.drop i) = qgj l m) (fun i => (⟨[(0, .sl 4 (qu l)), (1, .sl 4 (qu m)), (5, .int .i64 i)], []⟩, [])) (fun i => l.length - i) ?_ fun i hi => ?_
 ·refine qh 0 [] ⟨Nat.zero_le _, rfl⟩ rfl (by simp) ?_ ?_ ?_ <;> (try refine ev_ ?_) <;> (try with_reducible exact ti_) <;> (try simp (disch := omega) only [qb, and_true, true_and])
 ·obtain ⟨hi, ha⟩ := hi
  repeat' (first | refine vs_ ?_ | ((first | refine vr_ ?_ | fail) <;> (try simp (disch := first | omega | (simp only [List.length_set, List.length_append, List.length_cons, List.length_nil]; done) | (simp only [List.length_set, List.length_append, List.length_cons, List.length_nil]; omega)) only [qbf, qb, go_sem, ↓reduceIte])) | ((first | (refine cs_ ?_ ?_ <;> intro hc) | refine cj_ ?_ | simp (disch := omega) only [encs_getN, qb] | refine qa (qlc _ _) fun _ => ?_ | refine qc (qlc _ _) ?_) <;> (try refine ev_ ?_)) | with_reducible exact ti_)
  ·rename_i hc; rw [← ha, qks (by omega) (by omega), hc]; rfl
  ·rename_i hc
   refine qh (i + 1) [] ⟨⟨by omega, ?_⟩, by omega⟩ rfl (by simp) ?_ ?_ ?_ <;> (try refine ev_ ?_) <;> (try with_reducible exact ti_) <;> (try simp (disch := omega) only [qb, and_true, true_and])
   rw [← ha, qks (l := l) (m := m) (i := i) (by omega) (by omega), hc, Bool.true_and]
  ·rw [← ha, List.drop_of_length_le (by omega), List.drop_of_length_le (by omega)]; rfl
def qc9 (p : Pd) : Bool := conW p.cls && qy p.ty
theorem qpz {p : Pd} (h1 : szY p.ty ≤ 20000) (h2 : dpY p.ty ≤ 300) : qg Tryz.prog 49 [encP p] (.bool (qc9 p)) := by
 refine qd c0bw (by simp) (by simp only [go_sem]) rfl fun hw => ?_
 repeat' (first | refine vs_ ?_ | ((first | refine vr_ ?_ | refine qa (qgr _) fun _ => ?_ | refine qa (qcp h1 h2) fun _ => ?_ | (refine cs_ ?_ ?_ <;> intro hc) | refine cj_ ?_ | fail) <;> (try refine ev_ ?_)) | with_reducible exact ti_)
 all_goals simp [qc9, *]
theorem qi4 {p : Pd} (h1 : szY p.ty ≤ 20000) (h2 : dpY p.ty ≤ 300) : qg Tryz.prog 80 [encP p] (.bool (qc9 p)) := by
 refine qd c0bx (by simp) (by simp only [go_sem]) rfl fun hw => ?_
 repeat' (first | refine vs_ ?_ | ((first | refine vr_ ?_ | refine qa (qgf _) fun _ => ?_ | refine qa (qfp h1 h2) fun _ => ?_ | (refine cs_ ?_ ?_ <;> intro hc) | refine cj_ ?_ | fail) <;> (try refine ev_ ?_)) | with_reducible exact ti_)
 all_goals simp [qc9, *]
theorem qvi (l : List Pd) (h : ∀ p ∈ l, szY p.ty ≤ 20000 ∧ dpY p.ty ≤ 300) : qg Tryz.prog 52 [.sl 4 (qu l)] (.bool (l.all qc9)) := by
 refine qd c0by (by simp) (by simp only [go_sem]) rfl fun hw => ?_
 have hl := (qb7 hw.1).1
 repeat' (first | refine vs_ ?_ | ((first | refine vr_ ?_ | (refine cs_ ?_ ?_ <;> intro hc) | refine cj_ ?_ | simp (disch := omega) only [encs_getN, qb]) <;> (try refine ev_ ?_)) | with_reducible exact ti_)
 refine qm (S := Nat) (fun i => i ≤ l.length ∧ (l.drop i).all qc9 = l.all qc9) (fun i => (⟨[(0, .sl 4 (qu l)), (3, .int .i64 i)], []⟩, [])) (fun i => l.length - i) ?_ fun i hi => ?_
 ·refine qh 0 [] ⟨Nat.zero_le _, rfl⟩ rfl (by simp) ?_ ?_ ?_ <;> (try refine ev_ ?_) <;> (try with_reducible exact ti_) <;> (try simp (disch := omega) only [qb, and_true, true_and])
 ·obtain ⟨hi, ha⟩ := hi
  repeat' (first | refine vs_ ?_ | ((first | refine vr_ ?_ | fail) <;> (try simp (disch := first | omega | (simp only [List.length_set, List.length_append, List.length_cons, List.length_nil]; done) | (simp only [List.length_set, List.length_append, List.length_cons, List.length_nil]; omega)) only [qbf, qb, go_sem, ↓reduceIte])) | ((first | (refine cs_ ?_ ?_ <;> intro hc) | refine cj_ ?_ | simp (disch := omega) only [encs_getN, qb] | refine qa (qi4 (h _ (qcd (by omega))).1 (h _ (qcd (by omega))).2) fun _ => ?_ | refine qc (qi4 (h _ (qcd (by omega))).1 (h _ (qcd (by omega))).2) ?_) <;> (try refine ev_ ?_)) | with_reducible exact ti_)
  ·rename_i hc; rw [← ha, qxu (by omega), List.all_cons, hc]; rfl
  ·rename_i hc
   refine qh (i + 1) [] ⟨⟨by omega, ?_⟩, by omega⟩ rfl (by simp) ?_ ?_ ?_ <;> (try refine ev_ ?_) <;> (try with_reducible exact ti_) <;> (try simp (disch := omega) only [qb, and_true, true_and])
   rw [← ha, qxu (l := l) (i := i) (by omega), List.all_cons, hc, Bool.true_and]
  ·rw [← ha, List.drop_of_length_le (by omega)]; rfl
def fewP (l : List Pd) : Bool := decide (l.length ≤ 30) && qke (l.map Pd.ty)
theorem qic {l : List Ty} (h : l ≠ []) : qj l ≠ [] := by cases l with | nil => exact absurd rfl h | cons _ _ => simp [qj]
theorem qbq : qj [] = [] := by rw [qj]
theorem qte (t : Ty) : [encY t] = qj [t] := by rw [qj, qj]
theorem qmm (l : List Pd) (i : Nat) (h : i < l.length) : (l.map Pd.ty).take (i + 1) = (l.map Pd.ty).take i ++ [(l.getD i P0).ty] := by
 rw [List.take_add_one, List.getElem?_map, List.getElem?_eq_getElem h, List.getD_eq_getElem?_getD, List.getElem?_eq_getElem h]; rfl
theorem capY {k : Nat} (h : k ≤ 1000000000) : qcb k 48 := by unfold qcb; omega
def qwo (l : List Pd) (i : Nat) : AF × List Ent := (⟨[(0, .sl 4 (qu l)), (3, accV 0 (qj ((l.map Pd.ty).take i))), (4, .int .i64 i)], []⟩, accE 3 (qj ((l.map Pd.ty).take i)))
theorem qbp2 (l : List Pd) : qg Tryz.prog 16 [.sl 4 (qu l)] (.int .i64 (if fewP l = true then 1 else 0)) := by
 refine qd c0bz (by simp) (by simp only [go_sem]) rfl fun hw => ?_
 have hl := (qb7 hw.1).1
 repeat' (first | refine vs_ ?_ | ((first | refine vr_ ?_ | (refine cs_ ?_ ?_ <;> intro hc) | refine cj_ ?_ | simp (disch := omega) only [encs_getN, qb]) <;> (try refine ev_ ?_)) | with_reducible exact ti_)
 ·rw [if_neg (by simp [fewP]; omega)]
 have h30 : l.length ≤ 30 := by omega
 refine qm (S := Nat) (fun i => i ≤ l.length) (qwo l) (fun i => l.length - i) ?_ fun i hi => ?_
 ·refine qh 0 [] (Nat.zero_le _) rfl (by simp) ?_ ?_ ?_ <;> simp only [qwo, List.take_zero, qbq, qx, qw] <;> (try refine ev_ ?_) <;> (try with_reducible exact ti_) <;> (try simp (disch := omega) only [qb, and_true, true_and])
 ·have hfin : fewP l = qke (l.map Pd.ty) := by rw [fewP, decide_eq_true h30, Bool.true_and]
  have hlm : ((l.map Pd.ty).take i).length = i := by rw [List.length_take, List.length_map]; omega
  have hcap : qcb (i + 1) 48 = True := eq_true (capY (by omega))
  unfold qwo
  by_cases hlt : i < l.length
  ·have hs := qmm l i hlt
   by_cases h0 : i = 0
   ·subst h0
    simp only [List.take_zero, qbq, qx, qw]
    repeat' (first | refine vs_ ?_ | ((first | refine vr_ ?_ | fail) <;> (try simp (disch := first | omega | (simp only [List.length_set, List.length_append, List.length_cons, List.length_nil]; done) | (simp only [List.length_set, List.length_append, List.length_cons, List.length_nil]; omega)) only [qbf, qb, ql7, go_sem, ↓reduceIte])) | ((first | simp (disch := omega) only [(show qcb 1 48 = True from eq_true (capY (by omega)))] | (refine cs_ ?_ ?_ <;> intro hc) | refine cj_ ?_ | simp (disch := omega) only [encs_getN, qb]) <;> (try refine ev_ ?_)) | with_reducible exact ti_)
    ·refine qh 1 [0] ⟨by omega, by omega⟩ rfl (by simp) ?_ ?_ ?_ <;> simp only [qwo, hs, List.take_zero, List.nil_append, ← qte, qdh, qdd] <;> (try refine ev_ ?_) <;> (try with_reducible exact ti_) <;> (try simp (disch := omega) only [qb, and_true, true_and])
     all_goals (rw [qmf])
    ·omega
   ·have hne : (l.map Pd.ty).take i ≠ [] := fun h => h0 (by rw [← hlm, h]; rfl)
    simp only [qbw (qic hne), qbv (qic hne), qo, hlm]
    repeat' (first | refine vs_ ?_ | ((first | refine vr_ ?_ | fail) <;> (try simp (disch := first | omega | (simp only [List.length_set, List.length_append, List.length_cons, List.length_nil]; done) | (simp only [List.length_set, List.length_append, List.length_cons, List.length_nil]; omega)) only [qbf, qb, ql7, qo, hlm, go_sem, ↓reduceIte])) | ((first | simp (disch := omega) only [hcap] | (refine cs_ ?_ ?_ <;> intro hc) | refine cj_ ?_ | simp (disch := omega) only [encs_getN, qb]) <;> (try refine ev_ ?_)) | with_reducible exact ti_)
    ·have hl2 : qj ((l.map Pd.ty).take (i + 1)) = qj ((l.map Pd.ty).take i) ++ [encY (l.getD i P0).ty] := by rw [hs, qc8]
     refine qh (i + 1) [1] ⟨by omega, by omega⟩ rfl (by simp) ?_ ?_ ?_ <;> simp only [qwo, hl2, qco, qcs, qo, hlm] <;> (try refine ev_ ?_) <;> (try with_reducible exact ti_) <;> (try simp (disch := omega) only [qb, and_true, true_and])
     all_goals (simp only [qc8]; exact ⟨qbr _ _, by rw [qcq]⟩)
    ·omega
  ·have hend : (l.map Pd.ty).take i = l.map Pd.ty := List.take_of_length_le (by rw [List.length_map]; omega)
   have hf := qbse (l.map Pd.ty)
   rw [hend, hfin]
   by_cases h0 : l.map Pd.ty = []
   ·rw [h0] at hf ⊢
    simp only [qbq, qx, qw]
    repeat' (first | refine vs_ ?_ | ((first | refine vr_ ?_ | fail) <;> (try simp only [q8, go_sem, ↓reduceIte])) | ((first | (refine cs_ ?_ ?_ <;> intro hc) | refine cj_ ?_ | simp (disch := omega) only [encs_getN, qb] | refine qa hf fun _ => ?_) <;> (try refine ev_ ?_)) | with_reducible exact ti_)
    all_goals omega
   ·simp only [qbw (qic h0), qbv (qic h0), qo]
    repeat' (first | refine vs_ ?_ | ((first | refine vr_ ?_ | fail) <;> (try simp only [qo, go_sem, ↓reduceIte])) | ((first | (refine cs_ ?_ ?_ <;> intro hc) | refine cj_ ?_ | simp (disch := omega) only [encs_getN, qb] | refine qa hf fun _ => ?_) <;> (try refine ev_ ?_)) | with_reducible exact ti_)
    all_goals omega

/-! the reference's -/

end Go.Proofs.YtbbjelfnocmaoaaGreat
