/- Texts of this proof, joined. -/
import Derived.Test.YtfpobiheiloamaaQas
import Derived.Test.YtfpobiheiloamaaQat
import Derived.Test.YtfpobiheiloamaaQar

/- predicates: their text -/
set_option maxRecDepth 4000
namespace Go.Proofs.Ytfpobiheiloamaa
open Go Go.RowKit Go.V
set_option linter.unusedVariables false
set_option linter.unusedSimpArgs false

theorem strings_Join {ls : List (List UInt8)} {sep : List UInt8} (hn : ls.length ≤ 140737488355328) (hl : (Lib.join ls sep).length ≤ 140737488355328) : ql Try.prog 69 [.sl 1 (ls.map AV.str), .str sep] (.str (Lib.join ls sep)) :=
 qom (by kernel_rfl) Try.strings_Join_none Try.strings_Join hn hl
def okP (p : Pd) : Prop := szY p.ty ≤ 20000 ∧ dpY p.ty ≤ 300 ∧ p.cls.length + (qbx p.ty).length + 5 ≤ Big
def oneP (p : Pd) : List UInt8 := p.cls ++ (32 :: parW (decide (p.ty.args ≠ [])) (qbx p.ty))
theorem qvc (p : Pd) : (oneP p).length ≤ p.cls.length + (qbx p.ty).length + 3 := by
 have := qcy (decide (p.ty.args ≠ [])) (qbx p.ty)
 rw [oneP, List.length_append, List.length_cons]; omega
theorem qrr {p : Pd} (h : okP p) : ql Try.prog 68 [encP p] (.str (oneP p)) := by
 refine qc c0by (by simp) (by simp only [go_sem]) rfl fun hw => ?_
 obtain ⟨h1, h2, h3⟩ := h
 have ht := qc2 h1 h2 (by omega)
 have m1 : 1 + (qbx p.ty).length ≤ maxLen := qv (by omega)
 have m2 : (qbx p.ty).length + 1 + 1 ≤ maxLen := qv (by omega)
 have m3 : p.cls.length + 1 ≤ maxLen := qv (by omega)
 have m4 : p.cls.length + 1 + (qbx p.ty).length ≤ maxLen := qv (by omega)
 have m5 : p.cls.length + 1 + ((qbx p.ty).length + 1 + 1) ≤ maxLen := qv (by omega)
 repeat' (first | refine vs_ ?_ | ((first | refine vr_ ?_ | fail) <;> (try simp only [qc1, go_sem, ↓reduceIte])) | ((first | (refine cs_ ?_ ?_ <;> intro hc) | refine cj_ ?_ | simp (disch := omega) only [encs_getN, qb] | refine qa ht fun _ => ?_) <;> (try refine ev_ ?_)) | with_reducible exact ti_)
 ·have hne : p.ty.args ≠ [] := fun h => by rename_i hc; rw [h] at hc; simp at hc
  rw [oneP, parW, if_pos (by simp [hne])]
 ·have hne : p.ty.args = [] := List.length_eq_zero_iff.1 (by omega)
  rw [oneP, parW, if_neg (by simp [hne])]
def sepW : List UInt8 := [44, 32]
def qby (l : List Pd) : List UInt8 := Lib.join (l.map oneP) sepW
def qf9 (l : List Pd) : List UInt8 := if l.all qb7 = true then (if 1 < l.length then 40 :: (qby l ++ [41]) else qby l) else []
theorem qka (l : List Pd) (i : Nat) (h : i < l.length) : ((l.take (i + 1)).map oneP).map AV.str = ((l.take i).map oneP).map AV.str ++ [.str (oneP (l.getD i P0))] := by
 have h1 : l.take (i + 1) = l.take i ++ [l.getD i P0] := by
  rw [List.take_add_one, List.getD_eq_getElem?_getD, List.getElem?_eq_getElem h]; rfl
 rw [h1]; simp
theorem capS {k : Nat} (h : k ≤ 1000000000) : qb3 k 16 := by unfold qb3; omega
def ones (l : List Pd) : List AV := (l.map oneP).map AV.str
theorem qd4 (l : List Pd) : (ones l).length = l.length := by simp [ones]
theorem ql1 (k : Nat) (l : List Pd) : AV.bds k (ones l) = true := by rw [ones, qg8]; simp [AV.bd]
theorem qn0 (σ : Nat → Nat) (l : List Pd) : AV.rens σ (ones l) = ones l := qw (m := 0) (fun i hi => by omega) _ (ql1 0 l)
theorem qjf {l : List Pd} (h : l ≠ []) : ones l ≠ [] := by cases l with | nil => exact absurd rfl h | cons _ _ => simp [ones]
attribute [go_sem] qd4 ql1 qn0
theorem qjj : ones [] = [] := rfl
def ptSt (l : List Pd) (i : Nat) : AF × List Ent := (⟨[(0, .sl 4 (qt l)), (3, accV 0 (ones (l.take i))), (7, .sl 4 (qt l)), (8, .int .i64 l.length), (9, .int .i64 i)], []⟩, accE 1 (ones (l.take i)))
theorem qeb (l : List Pd) (h30 : l.length ≤ 30) (hok : ∀ p ∈ l, okP p) (hJ : (qby l).length + 2 ≤ Big) : ql Try.prog 25 [.sl 4 (qt l)] (.str (qf9 l)) := by
 refine qc c0bz (by simp) (by simp only [go_sem]) rfl fun hw => ?_
 have hl := (qbj hw.1).1
 repeat' (first | refine vs_ ?_ | ((first | refine vr_ ?_ | (refine cs_ ?_ ?_ <;> intro hc) | refine cj_ ?_ | simp (disch := omega) only [encs_getN, qb]) <;> (try refine ev_ ?_)) | with_reducible exact ti_)
 refine qo (S := Nat) (fun i => i ≤ l.length ∧ (l.take i).all qb7 = true) (ptSt l) (fun i => l.length - i) ?_ fun i hi => ?_
 ·refine qi 0 [] ⟨Nat.zero_le _, rfl⟩ rfl (by simp) ?_ ?_ ?_ <;> simp only [ptSt, List.take_zero, qjj, qk, qj] <;> (try refine ev_ ?_) <;> (try with_reducible exact ti_) <;> (try simp (disch := omega) only [qb, and_true, true_and])
 ·obtain ⟨hi, ha⟩ := hi
  have htl : (l.take i).length = i := by rw [List.length_take]; omega
  have hcap : qb3 (i + 1) 16 = True := eq_true (capS (by omega))
  have hcap0 : qb3 1 16 = True := eq_true (capS (by omega))
  unfold ptSt
  by_cases hlt : i < l.length
  ·have hp := hok _ (qb1 hlt)
   have hg := qeo hp.1 hp.2.1
   have ho := qrr hp
   have hs : ones (l.take (i + 1)) = ones (l.take i) ++ [.str (oneP (l.getD i P0))] := qka l i hlt
   have hno : qb7 (l.getD i P0) = false → qf9 l = [] := fun h => by
    rw [qf9, if_neg]
    intro hall
    rw [List.all_eq_true.1 hall _ (qb1 hlt)] at h
    cases h
   have hyes : qb7 (l.getD i P0) = true → (l.take (i + 1)).all qb7 = true := fun h => by
    rw [List.take_add_one, List.all_append, ha, Bool.true_and]
    rw [List.getD_eq_getElem?_getD, List.getElem?_eq_getElem hlt] at h
    rw [List.getElem?_eq_getElem hlt]
    simpa using h
   by_cases h0 : l.take i = []
   ·have hi0 : i = 0 := by rw [← htl, h0]; rfl
    subst hi0
    simp only [List.take_zero, qjj, qk, qj]
    repeat' (first | refine vs_ ?_ | ((first | refine vr_ ?_ | fail) <;> (try simp (disch := first | omega | (simp only [List.length_set, List.length_append, List.length_cons, List.length_nil]; done) | (simp only [List.length_set, List.length_append, List.length_cons, List.length_nil]; omega)) only [qp, go_sem, ↓reduceIte])) | ((first | simp (disch := omega) only [hcap0] | (refine cs_ ?_ ?_ <;> intro hc) | refine cj_ ?_ | simp (disch := omega) only [encs_getN, qb] | refine qa hg fun _ => ?_ | refine qa ho fun _ => ?_) <;> (try refine ev_ ?_)) | with_reducible exact ti_)
    ·rw [hno (by assumption)]
    ·have hy := hyes (by assumption)
     have hs1 : ones (l.take 1) = [.str (oneP (l.getD 0 P0))] := hs
     refine qi 1 [1] ⟨⟨by omega, hy⟩, by omega⟩ rfl (by simp) ?_ ?_ ?_ <;> simp only [ptSt, hs1, qdd, qdh] <;> (try refine ev_ ?_) <;> (try with_reducible exact ti_) <;> (try simp (disch := omega) only [qb, and_true, true_and])
     all_goals rfl
    ·omega
   ·simp only [qr (qjf h0), qq (qjf h0), qd4, htl]
    repeat' (first | refine vs_ ?_ | ((first | refine vr_ ?_ | fail) <;> (try simp (disch := first | omega | (simp only [List.length_set, List.length_append, List.length_cons, List.length_nil]; done) | (simp only [List.length_set, List.length_append, List.length_cons, List.length_nil]; omega)) only [qp, qb, qd4, htl, go_sem, ↓reduceIte])) | ((first | simp (disch := omega) only [hcap] | (refine cs_ ?_ ?_ <;> intro hc) | refine cj_ ?_ | simp (disch := omega) only [encs_getN, qb] | refine qa hg fun _ => ?_ | refine qa ho fun _ => ?_) <;> (try refine ev_ ?_)) | with_reducible exact ti_)
    ·rw [hno (by assumption)]
    ·have hy := hyes (by assumption)
     refine qi (i + 1) [2] ⟨⟨by omega, hy⟩, by omega⟩ rfl (by simp) ?_ ?_ ?_ <;> simp only [ptSt, hs, qct, qcm, qd4, htl] <;> (try refine ev_ ?_) <;> (try with_reducible exact ti_) <;> (try simp (disch := omega) only [qb, and_true, true_and])
     all_goals (rw [← hs]; exact ⟨ql1 _ _, by rw [qn0]⟩)
    ·omega
  ·have hti : l.take i = l := List.take_of_length_le (by omega)
   rw [hti] at ha ⊢
   have hj := strings_Join (ls := l.map oneP) (sep := [44, 32]) (by simp; omega) (by have : (Lib.join (l.map oneP) [44, 32]).length = (qby l).length := rfl; unfold Big at hJ; omega)
   have m1 : 1 + (qby l).length ≤ maxLen := qv (by omega)
   have m2 : (qby l).length + 1 + 1 ≤ maxLen := qv (by omega)
   have e : qf9 l = if 1 < l.length then 40 :: (qby l ++ [41]) else qby l := by rw [qf9, if_pos ha]
   change ql Try.prog _ [.sl 1 (ones l), _] (.str (qby l)) at hj
   by_cases h0 : l = []
   ·rw [h0] at hj e ⊢
    simp only [qjj, qk, qj] at hj ⊢
    repeat' (first | refine vs_ ?_ | ((first | refine vr_ ?_ | fail) <;> (try simp only [qbf, go_sem, ↓reduceIte])) | ((first | (refine cs_ ?_ ?_ <;> intro hc) | refine cj_ ?_ | simp (disch := omega) only [encs_getN, qb] | refine qa hj fun _ => ?_) <;> (try refine ev_ ?_)) | with_reducible exact ti_)
    ·omega
    ·omega
    ·rw [e, if_neg (by simp)]
   ·simp only [qr (qjf h0), qq (qjf h0), qd4]
    repeat' (first | refine vs_ ?_ | ((first | refine vr_ ?_ | fail) <;> (try simp only [qd4, go_sem, ↓reduceIte])) | ((first | (refine cs_ ?_ ?_ <;> intro hc) | refine cj_ ?_ | simp (disch := omega) only [encs_getN, qb] | refine qa hj fun _ => ?_) <;> (try refine ev_ ?_)) | with_reducible exact ti_)
    ·omega
    ·rw [e, if_pos (by omega)]
    ·rw [e, if_neg (by omega)]
set_option maxRecDepth 4000

theorem qhk (sep y : List UInt8) : ∀ xs : List (List UInt8), xs ≠ [] → Lib.join (xs ++ [y]) sep = Lib.join xs sep ++ (sep ++ y)
 | [], h => absurd rfl h
 | [x], _ => by simp [Lib.join, List.intercalate, List.intersperse]
 | x :: z :: r, _ => by
   have := qhk sep y (z :: r) (by simp)
   simp only [Lib.join, List.intercalate, List.cons_append, List.intersperse_cons_cons, List.flatten_cons, List.append_assoc] at this ⊢
   rw [this]
theorem qlk (sep : List UInt8) : ∀ (b a : List (List UInt8)), (Lib.join a sep).length ≤ (Lib.join (a ++ b) sep).length
 | [], a => by simp
 | y :: b, a => by
   have h := qlk sep b (a ++ [y])
   rw [List.append_assoc, List.singleton_append] at h
   refine Nat.le_trans ?_ h
   by_cases h0 : a = []
   ·subst h0; simp [Lib.join, List.intercalate]
   ·rw [qhk sep y a h0, List.length_append]; omega
theorem qlb (l : List Pd) (i : Nat) : (qby (l.take i)).length ≤ (qby l).length := by
 have := qlk sepW ((l.drop i).map oneP) ((l.take i).map oneP)
 rw [← List.map_append, List.take_append_drop] at this
 exact this
theorem qpi (l : List Pd) {i : Nat} (h : i < l.length) : qby (l.take (i + 1)) = if 0 < i then qby (l.take i) ++ (sepW ++ oneP (l.getD i P0)) else oneP (l.getD i P0) := by
 have h1 : l.take (i + 1) = l.take i ++ [l.getD i P0] := by
  rw [List.take_add_one, List.getD_eq_getElem?_getD, List.getElem?_eq_getElem h]; rfl
 rw [qby, h1, List.map_append]
 split
 ·exact qhk sepW _ _ (by intro e; have := congrArg List.length e; rw [List.length_map, List.length_take, List.length_nil] at this; omega)
 ·have : i = 0 := by omega
  subst this
  simp [Lib.join, List.intercalate]
theorem qkz (l : List Pd) : qby (l.take 0) = [] := by simp [qby, Lib.join, List.intercalate]
def rtSt (l : List Pd) (i : Nat) : AF × List Ent := (⟨[(0, .sl 4 (qt l)), (3, .str (qby (l.take i))), (4, .int .i64 i)], []⟩, [])
theorem qp9 {t : Ty} (h : qdm t = true) : qbx t = txtY t := by rw [qbx, if_pos h]
theorem qoe (l : List Pd) (hok : ∀ p ∈ l, okP p) (hJ : (qby l).length + 2 ≤ Big) : ql Try.prog 26 [.sl 4 (qt l)] (.str (qf9 l)) := by
 refine qc c0bx (by simp) (by simp only [go_sem]) rfl fun hw => ?_
 have hl := (qbj hw.1).1
 have hA := qsj l (fun p hp => ⟨(hok p hp).1, (hok p hp).2.1⟩)
 cases ha : l.all qb7 with
 | false =>
   rw [ha] at hA
   repeat' (first | refine vs_ ?_ | ((first | refine vr_ ?_ | refine qa hA fun _ => ?_ | refine qe hA ?_ | (refine cs_ ?_ ?_ <;> intro hc) | refine cj_ ?_ | simp (disch := omega) only [encs_getN, qb]) <;> (try refine ev_ ?_)) | with_reducible exact ti_)
   rw [qf9, if_neg (by rw [ha]; simp)]
 | true =>
   rw [ha] at hA
   have e : qf9 l = if 1 < l.length then 40 :: (qby l ++ [41]) else qby l := by rw [qf9, if_pos ha]
   have m1 : 1 + (qby l).length ≤ maxLen := qv (by omega)
   have m2 : (qby l).length + 1 + 1 ≤ maxLen := qv (by omega)
   repeat' (first | refine vs_ ?_ | ((first | refine vr_ ?_ | refine qa hA fun _ => ?_ | refine qe hA ?_ | (refine cs_ ?_ ?_ <;> intro hc) | refine cj_ ?_ | simp (disch := omega) only [encs_getN, qb]) <;> (try refine ev_ ?_)) | with_reducible exact ti_)
   ·have h0 : l = [] := List.length_eq_zero_iff.1 (by omega)
    subst h0; rfl
   refine qo (S := Nat) (fun i => i ≤ l.length) (rtSt l) (fun i => l.length - i) ?_ fun i hi => ?_
   ·refine qi 0 [] (Nat.zero_le _) rfl (by simp) ?_ ?_ ?_ <;> simp only [rtSt, qkz] <;> (try refine ev_ ?_) <;> (try with_reducible exact ti_) <;> (try simp (disch := omega) only [qb, and_true, true_and])
   ·unfold rtSt
    by_cases hlt : i < l.length
    ·have hp := hok _ (qb1 hlt)
     have hL : qb7 (l.getD i P0) = true := List.all_eq_true.1 ha _ (qb1 hlt)
     have hLY : qdm (l.getD i P0).ty = true := by rw [qb7, Bool.and_eq_true] at hL; exact hL.2
     have ht := qp9 hLY
     have hat := qev (qoz _ (qef hLY) (by rw [← ht]; exact Nat.le_trans (by omega) hp.2.2)) (by rw [← ht]; exact Nat.le_trans (by omega) hp.2.2)
     rw [← ht] at hat
     have hpw := (qcy (decide ((l.getD i P0).ty.args ≠ [])) (qbx (l.getD i P0).ty)).2
     have k1 := qlb l (i + 1)
     have k2 := qpi l hlt
     have k3 : (oneP (l.getD i P0)).length = (l.getD i P0).cls.length + (1 + (parW (decide ((l.getD i P0).ty.args ≠ [])) (qbx (l.getD i P0).ty)).length) := by rw [oneP, List.length_append, List.length_cons]; omega
     have k4 := qlb l i
     have hp2 := hp.2.2
     have n1 : (qby (l.take i)).length + 1 + 1 ≤ maxLen := qv (by omega)
     have n2 : (l.getD i P0).cls.length + 1 ≤ maxLen := qv (by omega)
     have n3 : (l.getD i P0).cls.length + 1 + (parW (decide ((l.getD i P0).ty.args ≠ [])) (qbx (l.getD i P0).ty)).length ≤ maxLen := qv (by omega)
     generalize hY : parW (decide ((l.getD i P0).ty.args ≠ [])) (qbx (l.getD i P0).ty) = Y at *
     have k5 : oneP (l.getD i P0) = (l.getD i P0).cls ++ 32 :: Y := by rw [oneP, hY]
     repeat' (first | refine vs_ ?_ | ((first | refine vr_ ?_ | fail) <;> (try simp (disch := first | omega | (simp only [List.length_set, List.length_append, List.length_cons, List.length_nil]; done) | (simp only [List.length_set, List.length_append, List.length_cons, List.length_nil]; omega)) only [qp, qc1, go_sem, ↓reduceIte])) | ((first | simp (disch := omega) only [qp] | (refine cs_ ?_ ?_ <;> intro hc) | refine cj_ ?_ | simp (disch := omega) only [encs_getN, qb] | refine qa hat fun _ => ?_ | refine qe hat ?_) <;> (try refine ev_ ?_)) | with_reducible exact ti_)
     ·rw [if_pos (by omega)] at k2
      rw [k2, List.length_append, List.length_append, k3, show sepW.length = 2 from rfl] at k1
      refine ⟨qv (by omega), ?_⟩
      repeat' (first | refine vs_ ?_ | ((first | refine vr_ ?_ | (refine cs_ ?_ ?_ <;> intro hc) | refine cj_ ?_ | simp (disch := omega) only [encs_getN, qb]) <;> (try refine ev_ ?_)) | with_reducible exact ti_)
      refine qi (i + 1) [] ⟨by omega, by omega⟩ rfl (by simp) ?_ ?_ ?_ <;> simp only [rtSt, k2, k5, sepW, List.cons_append, List.nil_append] <;> (try refine ev_ ?_) <;> (try with_reducible exact ti_) <;> (try simp (disch := omega) only [qb, and_true, true_and])
     ·rw [if_neg (by omega)] at k2
      have hi0 : i = 0 := by omega
      rw [k2, k3] at k1
      have k6 : qby (l.take i) = [] := by rw [hi0]; exact qkz l
      have k7 : (qby (l.take i)).length = 0 := by rw [k6]; rfl
      refine ⟨qv (by omega), ?_⟩
      repeat' (first | refine vs_ ?_ | ((first | refine vr_ ?_ | (refine cs_ ?_ ?_ <;> intro hc) | refine cj_ ?_ | simp (disch := omega) only [encs_getN, qb]) <;> (try refine ev_ ?_)) | with_reducible exact ti_)
      refine qi (i + 1) [] ⟨by omega, by omega⟩ rfl (by simp) ?_ ?_ ?_ <;> simp only [rtSt, k2, k5, k6, List.nil_append] <;> (try refine ev_ ?_) <;> (try with_reducible exact ti_) <;> (try simp (disch := omega) only [qb, and_true, true_and])
     ·omega
     ·omega
    ·have hti : l.take i = l := List.take_of_length_le (by omega)
     rw [hti]
     repeat' (first | refine vs_ ?_ | ((first | refine vr_ ?_ | fail) <;> (try simp (disch := first | omega | (simp only [List.length_set, List.length_append, List.length_cons, List.length_nil]; done) | (simp only [List.length_set, List.length_append, List.length_cons, List.length_nil]; omega)) only [qp, go_sem, ↓reduceIte])) | ((first | (refine cs_ ?_ ?_ <;> intro hc) | refine cj_ ?_ | simp (disch := omega) only [encs_getN, qb]) <;> (try refine ev_ ?_)) | with_reducible exact ti_)
     ·omega
     ·omega
     ·rw [e, if_pos (by omega)]
     ·rw [e, if_neg (by omega)]
end Go.Proofs.Ytfpobiheiloamaa

/- how long the texts of predicates are -/
namespace Go.Proofs.Ytfpobiheiloamaa
open Go Go.RowKit Go.V
def ctsP : List Pd → Nat
 | [] => 0
 | p :: r => p.cls.length + conY p.ty + ctsP r
theorem qlf {t : Ty} (hw : (encY t).wf) : (qbx t).length ≤ conY t + 27 * szY t := by
 rw [qbx]
 split
 ·rename_i h
  have := q1l t (qef h) hw
  omega
 ·simp
theorem q4h {p : Pd} (hw : (encP p).wf) : (oneP p).length ≤ p.cls.length + conY p.ty + 27 * szY p.ty + 3 := by
 have := qvc p
 have := qlf (qqu hw).2
 omega
theorem qqr (sep : List UInt8) : ∀ xs : List (List UInt8), (Lib.join xs sep).length ≤ (xs.map fun x => x.length + sep.length).sum
 | [] => by simp [Lib.join, List.intercalate]
 | [x] => by simp [Lib.join, List.intercalate]
 | x :: z :: r => by
   have := qqr sep (z :: r)
   simp only [Lib.join, List.intercalate, List.intersperse_cons_cons, List.flatten_cons, List.length_append, List.map_cons, List.sum_cons] at this ⊢
   omega
theorem qn3 : ∀ l : List Pd, (∀ p ∈ l, (encP p).wf) → ((l.map oneP).map fun x => x.length + sepW.length).sum ≤ ctsP l + 27 * szYs (l.map Pd.ty) + 5 * l.length
 | [], _ => by simp
 | p :: r, h => by
   have h1 := q4h (h p (by simp))
   have h2 := qn3 r fun x hx => h x (by simp [hx])
   simp only [List.map_cons, List.sum_cons, ctsP, szYs, List.length_cons, show sepW.length = 2 from rfl] at h2 ⊢
   omega
theorem qor (l : List Pd) (h : ∀ p ∈ l, (encP p).wf) : (qby l).length ≤ ctsP l + 27 * szYs (l.map Pd.ty) + 5 * l.length := Nat.le_trans (qqr _ _) (qn3 l h)
end Go.Proofs.Ytfpobiheiloamaa
