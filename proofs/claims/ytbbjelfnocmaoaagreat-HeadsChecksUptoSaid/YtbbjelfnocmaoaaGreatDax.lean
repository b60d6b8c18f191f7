/- Texts of this proof, joined. -/
import Derived.Test.YtbbjelfnocmaoaaGreatDav
import Derived.Test.YtbbjelfnocmaoaaGreatDaw
import Derived.Test.YtbbjelfnocmaoaaGreatDau

/- predicates: their text -/
set_option maxRecDepth 4000
namespace Go.Proofs.YtbbjelfnocmaoaaGreat
open Go Go.RowKit Go.V
set_option linter.unusedVariables false
set_option linter.unusedSimpArgs false

theorem strings_Join {ls : List (List UInt8)} {sep : List UInt8} (hn : ls.length ≤ 140737488355328) (hl : (Lib.join ls sep).length ≤ 140737488355328) : qg Tryz.prog 51 [.sl 1 (ls.map AV.str), .str sep] (.str (Lib.join ls sep)) :=
 qsh (by kernel_rfl) Tryz.strings_Join_none Tryz.strings_Join hn hl
def okP (p : Pd) : Prop := szY p.ty ≤ 20000 ∧ dpY p.ty ≤ 300 ∧ p.cls.length + (qb4 p.ty).length + 5 ≤ Big
def oneP (p : Pd) : List UInt8 := p.cls ++ (32 :: parW (decide (p.ty.args ≠ [])) (qb4 p.ty))
theorem q35 (p : Pd) : (oneP p).length ≤ p.cls.length + (qb4 p.ty).length + 3 := by
 have := qc1 (decide (p.ty.args ≠ [])) (qb4 p.ty)
 rw [oneP, List.length_append, List.length_cons]; omega
theorem qvy {p : Pd} (h : okP p) : qg Tryz.prog 50 [encP p] (.str (oneP p)) := by
 refine qd c0bt (by simp) (by simp only [go_sem]) rfl fun hw => ?_
 obtain ⟨h1, h2, h3⟩ := h
 have ht := qfe h1 h2 (by omega)
 have m1 : 1 + (qb4 p.ty).length ≤ maxLen := ql (by omega)
 have m2 : (qb4 p.ty).length + 1 + 1 ≤ maxLen := ql (by omega)
 have m3 : p.cls.length + 1 ≤ maxLen := ql (by omega)
 have m4 : p.cls.length + 1 + (qb4 p.ty).length ≤ maxLen := ql (by omega)
 have m5 : p.cls.length + 1 + ((qb4 p.ty).length + 1 + 1) ≤ maxLen := ql (by omega)
 repeat' (first | refine vs_ ?_ | ((first | refine vr_ ?_ | fail) <;> (try simp only [ql7, go_sem, ↓reduceIte])) | ((first | (refine cs_ ?_ ?_ <;> intro hc) | refine cj_ ?_ | simp (disch := omega) only [encs_getN, qb] | refine qa ht fun _ => ?_) <;> (try refine ev_ ?_)) | with_reducible exact ti_)
 ·have hne : p.ty.args ≠ [] := fun h => by rename_i hc; rw [h] at hc; simp at hc
  rw [oneP, parW, if_pos (by simp [hne])]
 ·have hne : p.ty.args = [] := List.length_eq_zero_iff.1 (by omega)
  rw [oneP, parW, if_neg (by simp [hne])]
def sepW : List UInt8 := [44, 32]
def qce (l : List Pd) : List UInt8 := Lib.join (l.map oneP) sepW
def qfg (l : List Pd) : List UInt8 := if l.all qc9 = true then (if 1 < l.length then 40 :: (qce l ++ [41]) else qce l) else []
theorem qn1 (l : List Pd) (i : Nat) (h : i < l.length) : ((l.take (i + 1)).map oneP).map AV.str = ((l.take i).map oneP).map AV.str ++ [.str (oneP (l.getD i P0))] := by
 have h1 : l.take (i + 1) = l.take i ++ [l.getD i P0] := by
  rw [List.take_add_one, List.getD_eq_getElem?_getD, List.getElem?_eq_getElem h]; rfl
 rw [h1]; simp
theorem capS {k : Nat} (h : k ≤ 1000000000) : qcb k 16 := by unfold qcb; omega
def ones (l : List Pd) : List AV := (l.map oneP).map AV.str
theorem qfa (l : List Pd) : (ones l).length = l.length := by simp [ones]
theorem qp2 (k : Nat) (l : List Pd) : AV.bds k (ones l) = true := by rw [ones, qdk]; simp [AV.bd]
theorem qra (σ : Nat → Nat) (l : List Pd) : AV.rens σ (ones l) = ones l := qp (m := 0) (fun i hi => by omega) _ (qp2 0 l)
theorem qmu {l : List Pd} (h : l ≠ []) : ones l ≠ [] := by cases l with | nil => exact absurd rfl h | cons _ _ => simp [ones]
attribute [go_sem] qfa qp2 qra
theorem ql4 : ones [] = [] := rfl
def ptSt (l : List Pd) (i : Nat) : AF × List Ent := (⟨[(0, .sl 4 (qu l)), (3, accV 0 (ones (l.take i))), (7, .sl 4 (qu l)), (8, .int .i64 l.length), (9, .int .i64 i)], []⟩, accE 1 (ones (l.take i)))
theorem qt1 (l : List Pd) (h30 : l.length ≤ 30) (hok : ∀ p ∈ l, okP p) (hJ : (qce l).length + 2 ≤ Big) : qg Tryz.prog 29 [.sl 4 (qu l)] (.str (qfg l)) := by
 refine qd c0bu (by simp) (by simp only [go_sem]) rfl fun hw => ?_
 have hl := (qb7 hw.1).1
 repeat' (first | refine vs_ ?_ | ((first | refine vr_ ?_ | (refine cs_ ?_ ?_ <;> intro hc) | refine cj_ ?_ | simp (disch := omega) only [encs_getN, qb]) <;> (try refine ev_ ?_)) | with_reducible exact ti_)
 refine qm (S := Nat) (fun i => i ≤ l.length ∧ (l.take i).all qc9 = true) (ptSt l) (fun i => l.length - i) ?_ fun i hi => ?_
 ·refine qh 0 [] ⟨Nat.zero_le _, rfl⟩ rfl (by simp) ?_ ?_ ?_ <;> simp only [ptSt, List.take_zero, ql4, qx, qw] <;> (try refine ev_ ?_) <;> (try with_reducible exact ti_) <;> (try simp (disch := omega) only [qb, and_true, true_and])
 ·obtain ⟨hi, ha⟩ := hi
  have htl : (l.take i).length = i := by rw [List.length_take]; omega
  have hcap : qcb (i + 1) 16 = True := eq_true (capS (by omega))
  have hcap0 : qcb 1 16 = True := eq_true (capS (by omega))
  unfold ptSt
  by_cases hlt : i < l.length
  ·have hp := hok _ (qcd hlt)
   have hg := qpz hp.1 hp.2.1
   have ho := qvy hp
   have hs : ones (l.take (i + 1)) = ones (l.take i) ++ [.str (oneP (l.getD i P0))] := qn1 l i hlt
   have hno : qc9 (l.getD i P0) = false → qfg l = [] := fun h => by
    rw [qfg, if_neg]
    intro hall
    rw [List.all_eq_true.1 hall _ (qcd hlt)] at h
    cases h
   have hyes : qc9 (l.getD i P0) = true → (l.take (i + 1)).all qc9 = true := fun h => by
    rw [List.take_add_one, List.all_append, ha, Bool.true_and]
    rw [List.getD_eq_getElem?_getD, List.getElem?_eq_getElem hlt] at h
    rw [List.getElem?_eq_getElem hlt]
    simpa using h
   by_cases h0 : l.take i = []
   ·have hi0 : i = 0 := by rw [← htl, h0]; rfl
    subst hi0
    simp only [List.take_zero, ql4, qx, qw]
    repeat' (first | refine vs_ ?_ | ((first | refine vr_ ?_ | fail) <;> (try simp (disch := first | omega | (simp only [List.length_set, List.length_append, List.length_cons, List.length_nil]; done) | (simp only [List.length_set, List.length_append, List.length_cons, List.length_nil]; omega)) only [qbf, go_sem, ↓reduceIte])) | ((first | simp (disch := omega) only [hcap0] | (refine cs_ ?_ ?_ <;> intro hc) | refine cj_ ?_ | simp (disch := omega) only [encs_getN, qb] | refine qa hg fun _ => ?_ | refine qa ho fun _ => ?_) <;> (try refine ev_ ?_)) | with_reducible exact ti_)
    ·rw [hno (by assumption)]
    ·have hy := hyes (by assumption)
     have hs1 : ones (l.take 1) = [.str (oneP (l.getD 0 P0))] := hs
     refine qh 1 [1] ⟨⟨by omega, hy⟩, by omega⟩ rfl (by simp) ?_ ?_ ?_ <;> simp only [ptSt, hs1, qdh, qdd] <;> (try refine ev_ ?_) <;> (try with_reducible exact ti_) <;> (try simp (disch := omega) only [qb, and_true, true_and])
     all_goals rfl
    ·omega
   ·simp only [qbw (qmu h0), qbv (qmu h0), qfa, htl]
    repeat' (first | refine vs_ ?_ | ((first | refine vr_ ?_ | fail) <;> (try simp (disch := first | omega | (simp only [List.length_set, List.length_append, List.length_cons, List.length_nil]; done) | (simp only [List.length_set, List.length_append, List.length_cons, List.length_nil]; omega)) only [qbf, qb, qfa, htl, go_sem, ↓reduceIte])) | ((first | simp (disch := omega) only [hcap] | (refine cs_ ?_ ?_ <;> intro hc) | refine cj_ ?_ | simp (disch := omega) only [encs_getN, qb] | refine qa hg fun _ => ?_ | refine qa ho fun _ => ?_) <;> (try refine ev_ ?_)) | with_reducible exact ti_)
    ·rw [hno (by assumption)]
    ·have hy := hyes (by assumption)
     refine qh (i + 1) [2] ⟨⟨by omega, hy⟩, by omega⟩ rfl (by simp) ?_ ?_ ?_ <;> simp only [ptSt, hs, qco, qcs, qfa, htl] <;> (try refine ev_ ?_) <;> (try with_reducible exact ti_) <;> (try simp (disch := omega) only [qb, and_true, true_and])
     all_goals (rw [← hs]; exact ⟨qp2 _ _, by rw [qra]⟩)
    ·omega
  ·have hti : l.take i = l := List.take_of_length_le (by omega)
   rw [hti] at ha ⊢
   have hj := strings_Join (ls := l.map oneP) (sep := [44, 32]) (by simp; omega) (by have : (Lib.join (l.map oneP) [44, 32]).length = (qce l).length := rfl; unfold Big at hJ; omega)
   have m1 : 1 + (qce l).length ≤ maxLen := ql (by omega)
   have m2 : (qce l).length + 1 + 1 ≤ maxLen := ql (by omega)
   have e : qfg l = if 1 < l.length then 40 :: (qce l ++ [41]) else qce l := by rw [qfg, if_pos ha]
   change qg Tryz.prog _ [.sl 1 (ones l), _] (.str (qce l)) at hj
   by_cases h0 : l = []
   ·rw [h0] at hj e ⊢
    simp only [ql4, qx, qw] at hj ⊢
    repeat' (first | refine vs_ ?_ | ((first | refine vr_ ?_ | fail) <;> (try simp only [q8, go_sem, ↓reduceIte])) | ((first | (refine cs_ ?_ ?_ <;> intro hc) | refine cj_ ?_ | simp (disch := omega) only [encs_getN, qb] | refine qa hj fun _ => ?_) <;> (try refine ev_ ?_)) | with_reducible exact ti_)
    ·omega
    ·omega
    ·rw [e, if_neg (by simp)]
   ·simp only [qbw (qmu h0), qbv (qmu h0), qfa]
    repeat' (first | refine vs_ ?_ | ((first | refine vr_ ?_ | fail) <;> (try simp only [qfa, go_sem, ↓reduceIte])) | ((first | (refine cs_ ?_ ?_ <;> intro hc) | refine cj_ ?_ | simp (disch := omega) only [encs_getN, qb] | refine qa hj fun _ => ?_) <;> (try refine ev_ ?_)) | with_reducible exact ti_)
    ·omega
    ·rw [e, if_pos (by omega)]
    ·rw [e, if_neg (by omega)]
set_option maxRecDepth 4000

theorem qiq (sep y : List UInt8) : ∀ xs : List (List UInt8), xs ≠ [] → Lib.join (xs ++ [y]) sep = Lib.join xs sep ++ (sep ++ y)
 | [], h => absurd rfl h
 | [x], _ => by simp [Lib.join, List.intercalate, List.intersperse]
 | x :: z :: r, _ => by
   have := qiq sep y (z :: r) (by simp)
   simp only [Lib.join, List.intercalate, List.cons_append, List.intersperse_cons_cons, List.flatten_cons, List.append_assoc] at this ⊢
   rw [this]
theorem qoj (sep : List UInt8) : ∀ (b a : List (List UInt8)), (Lib.join a sep).length ≤ (Lib.join (a ++ b) sep).length
 | [], a => by simp
 | y :: b, a => by
   have h := qoj sep b (a ++ [y])
   rw [List.append_assoc, List.singleton_append] at h
   refine Nat.le_trans ?_ h
   by_cases h0 : a = []
   ·subst h0; simp [Lib.join, List.intercalate]
   ·rw [qiq sep y a h0, List.length_append]; omega
theorem qnm (l : List Pd) (i : Nat) : (qce (l.take i)).length ≤ (qce l).length := by
 have := qoj sepW ((l.drop i).map oneP) ((l.take i).map oneP)
 rw [← List.map_append, List.take_append_drop] at this
 exact this
theorem qui (l : List Pd) {i : Nat} (h : i < l.length) : qce (l.take (i + 1)) = if 0 < i then qce (l.take i) ++ (sepW ++ oneP (l.getD i P0)) else oneP (l.getD i P0) := by
 have h1 : l.take (i + 1) = l.take i ++ [l.getD i P0] := by
  rw [List.take_add_one, List.getD_eq_getElem?_getD, List.getElem?_eq_getElem h]; rfl
 rw [qce, h1, List.map_append]
 split
 ·exact qiq sepW _ _ (by intro e; have := congrArg List.length e; rw [List.length_map, List.length_take, List.length_nil] at this; omega)
 ·have : i = 0 := by omega
  subst this
  simp [Lib.join, List.intercalate]
theorem qny (l : List Pd) : qce (l.take 0) = [] := by simp [qce, Lib.join, List.intercalate]
def rtSt (l : List Pd) (i : Nat) : AF × List Ent := (⟨[(0, .sl 4 (qu l)), (3, .str (qce (l.take i))), (4, .int .i64 i)], []⟩, [])
theorem qio {t : Ty} (h : qy t = true) : qb4 t = txtY t := by rw [qb4, if_pos h]
theorem qtr (l : List Pd) (hok : ∀ p ∈ l, okP p) (hJ : (qce l).length + 2 ≤ Big) : qg Tryz.prog 30 [.sl 4 (qu l)] (.str (qfg l)) := by
 refine qd c0bs (by simp) (by simp only [go_sem]) rfl fun hw => ?_
 have hl := (qb7 hw.1).1
 have hA := qvi l (fun p hp => ⟨(hok p hp).1, (hok p hp).2.1⟩)
 cases ha : l.all qc9 with
 | false =>
   rw [ha] at hA
   repeat' (first | refine vs_ ?_ | ((first | refine vr_ ?_ | refine qa hA fun _ => ?_ | refine qc hA ?_ | (refine cs_ ?_ ?_ <;> intro hc) | refine cj_ ?_ | simp (disch := omega) only [encs_getN, qb]) <;> (try refine ev_ ?_)) | with_reducible exact ti_)
   rw [qfg, if_neg (by rw [ha]; simp)]
 | true =>
   rw [ha] at hA
   have e : qfg l = if 1 < l.length then 40 :: (qce l ++ [41]) else qce l := by rw [qfg, if_pos ha]
   have m1 : 1 + (qce l).length ≤ maxLen := ql (by omega)
   have m2 : (qce l).length + 1 + 1 ≤ maxLen := ql (by omega)
   repeat' (first | refine vs_ ?_ | ((first | refine vr_ ?_ | refine qa hA fun _ => ?_ | refine qc hA ?_ | (refine cs_ ?_ ?_ <;> intro hc) | refine cj_ ?_ | simp (disch := omega) only [encs_getN, qb]) <;> (try refine ev_ ?_)) | with_reducible exact ti_)
   ·have h0 : l = [] := List.length_eq_zero_iff.1 (by omega)
    subst h0; rfl
   refine qm (S := Nat) (fun i => i ≤ l.length) (rtSt l) (fun i => l.length - i) ?_ fun i hi => ?_
   ·refine qh 0 [] (Nat.zero_le _) rfl (by simp) ?_ ?_ ?_ <;> simp only [rtSt, qny] <;> (try refine ev_ ?_) <;> (try with_reducible exact ti_) <;> (try simp (disch := omega) only [qb, and_true, true_and])
   ·unfold rtSt
    by_cases hlt : i < l.length
    ·have hp := hok _ (qcd hlt)
     have hL : qc9 (l.getD i P0) = true := List.all_eq_true.1 ha _ (qcd hlt)
     have hLY : qy (l.getD i P0).ty = true := by rw [qc9, Bool.and_eq_true] at hL; exact hL.2
     have ht := qio hLY
     have hat := qd8 (qk5 _ (qcm hLY) (by rw [← ht]; exact Nat.le_trans (by omega) hp.2.2)) (by rw [← ht]; exact Nat.le_trans (by omega) hp.2.2)
     rw [← ht] at hat
     have hpw := (qc1 (decide ((l.getD i P0).ty.args ≠ [])) (qb4 (l.getD i P0).ty)).2
     have k1 := qnm l (i + 1)
     have k2 := qui l hlt
     have k3 : (oneP (l.getD i P0)).length = (l.getD i P0).cls.length + (1 + (parW (decide ((l.getD i P0).ty.args ≠ [])) (qb4 (l.getD i P0).ty)).length) := by rw [oneP, List.length_append, List.length_cons]; omega
     have k4 := qnm l i
     have hp2 := hp.2.2
     have n1 : (qce (l.take i)).length + 1 + 1 ≤ maxLen := ql (by omega)
     have n2 : (l.getD i P0).cls.length + 1 ≤ maxLen := ql (by omega)
     have n3 : (l.getD i P0).cls.length + 1 + (parW (decide ((l.getD i P0).ty.args ≠ [])) (qb4 (l.getD i P0).ty)).length ≤ maxLen := ql (by omega)
     generalize hY : parW (decide ((l.getD i P0).ty.args ≠ [])) (qb4 (l.getD i P0).ty) = Y at *
     have k5 : oneP (l.getD i P0) = (l.getD i P0).cls ++ 32 :: Y := by rw [oneP, hY]
     repeat' (first | refine vs_ ?_ | ((first | refine vr_ ?_ | fail) <;> (try simp (disch := first | omega | (simp only [List.length_set, List.length_append, List.length_cons, List.length_nil]; done) | (simp only [List.length_set, List.length_append, List.length_cons, List.length_nil]; omega)) only [qbf, ql7, go_sem, ↓reduceIte])) | ((first | simp (disch := omega) only [qbf] | (refine cs_ ?_ ?_ <;> intro hc) | refine cj_ ?_ | simp (disch := omega) only [encs_getN, qb] | refine qa hat fun _ => ?_ | refine qc hat ?_) <;> (try refine ev_ ?_)) | with_reducible exact ti_)
     ·rw [if_pos (by omega)] at k2
      rw [k2, List.length_append, List.length_append, k3, show sepW.length = 2 from rfl] at k1
      refine ⟨ql (by omega), ?_⟩
      repeat' (first | refine vs_ ?_ | ((first | refine vr_ ?_ | (refine cs_ ?_ ?_ <;> intro hc) | refine cj_ ?_ | simp (disch := omega) only [encs_getN, qb]) <;> (try refine ev_ ?_)) | with_reducible exact ti_)
      refine qh (i + 1) [] ⟨by omega, by omega⟩ rfl (by simp) ?_ ?_ ?_ <;> simp only [rtSt, k2, k5, sepW, List.cons_append, List.nil_append] <;> (try refine ev_ ?_) <;> (try with_reducible exact ti_) <;> (try simp (disch := omega) only [qb, and_true, true_and])
     ·rw [if_neg (by omega)] at k2
      have hi0 : i = 0 := by omega
      rw [k2, k3] at k1
      have k6 : qce (l.take i) = [] := by rw [hi0]; exact qny l
      have k7 : (qce (l.take i)).length = 0 := by rw [k6]; rfl
      refine ⟨ql (by omega), ?_⟩
      repeat' (first | refine vs_ ?_ | ((first | refine vr_ ?_ | (refine cs_ ?_ ?_ <;> intro hc) | refine cj_ ?_ | simp (disch := omega) only [encs_getN, qb]) <;> (try refine ev_ ?_)) | with_reducible exact ti_)
      refine qh (i + 1) [] ⟨by omega, by omega⟩ rfl (by simp) ?_ ?_ ?_ <;> simp only [rtSt, k2, k5, k6, List.nil_append] <;> (try refine ev_ ?_) <;> (try with_reducible exact ti_) <;> (try simp (disch := omega) only [qb, and_true, true_and])
     ·omega
     ·omega
    ·have hti : l.take i = l := List.take_of_length_le (by omega)
     rw [hti]
     repeat' (first | refine vs_ ?_ | ((first | refine vr_ ?_ | fail) <;> (try simp (disch := first | omega | (simp only [List.length_set, List.length_append, List.length_cons, List.length_nil]; done) | (simp only [List.length_set, List.length_append, List.length_cons, List.length_nil]; omega)) only [qbf, go_sem, ↓reduceIte])) | ((first | (refine cs_ ?_ ?_ <;> intro hc) | refine cj_ ?_ | simp (disch := omega) only [encs_getN, qb]) <;> (try refine ev_ ?_)) | with_reducible exact ti_)
     ·omega
     ·omega
     ·rw [e, if_pos (by omega)]
     ·rw [e, if_neg (by omega)]
end Go.Proofs.YtbbjelfnocmaoaaGreat

/- how long the texts of predicates are -/
namespace Go.Proofs.YtbbjelfnocmaoaaGreat
open Go Go.RowKit Go.V
def ctsP : List Pd → Nat
 | [] => 0
 | p :: r => p.cls.length + conY p.ty + ctsP r
theorem qjy {t : Ty} (hw : (encY t).wf) : (qb4 t).length ≤ conY t + 27 * szY t := by
 rw [qb4]
 split
 ·rename_i h
  have := q6b t (qcm h) hw
  omega
 ·simp
theorem qbdw {p : Pd} (hw : (encP p).wf) : (oneP p).length ≤ p.cls.length + conY p.ty + 27 * szY p.ty + 3 := by
 have := q35 p
 have := qjy (qo1 hw).2
 omega
theorem qxe (sep : List UInt8) : ∀ xs : List (List UInt8), (Lib.join xs sep).length ≤ (xs.map fun x => x.length + sep.length).sum
 | [] => by simp [Lib.join, List.intercalate]
 | [x] => by simp [Lib.join, List.intercalate]
 | x :: z :: r => by
   have := qxe sep (z :: r)
   simp only [Lib.join, List.intercalate, List.intersperse_cons_cons, List.flatten_cons, List.length_append, List.map_cons, List.sum_cons] at this ⊢
   omega
theorem qrh : ∀ l : List Pd, (∀ p ∈ l, (encP p).wf) → ((l.map oneP).map fun x => x.length + sepW.length).sum ≤ ctsP l + 27 * szYs (l.map Pd.ty) + 5 * l.length
 | [], _ => by simp
 | p :: r, h => by
   have h1 := qbdw (h p (by simp))
   have h2 := qrh r fun x hx => h x (by simp [hx])
   simp only [List.map_cons, List.sum_cons, ctsP, szYs, List.length_cons, show sepW.length = 2 from rfl] at h2 ⊢
   omega
theorem qsx (l : List Pd) (h : ∀ p ∈ l, (encP p).wf) : (qce l).length ≤ ctsP l + 27 * szYs (l.map Pd.ty) + 5 * l.length := Nat.le_trans (qxe _ _) (qrh l h)
end Go.Proofs.YtbbjelfnocmaoaaGreat
