/- Texts of this proof, joined. -/
import Derived.Test.YtfpobiheiloamaaPas
import Derived.Test.YtfpobiheiloamaaPat

/- predicates: their text -/
set_option maxRecDepth 4000
namespace Go.Proofs.Ytfpobiheiloamaa
open Go Go.RowKit Go.V
set_option linter.unusedVariables false
set_option linter.unusedSimpArgs false

theorem strings_Join {ls : List (List UInt8)} {sep : List UInt8} (hn : ls.length ≤ 140737488355328) (hl : (Lib.join ls sep).length ≤ 140737488355328) : qm Try.prog 69 [.sl 1 (ls.map AV.str), .str sep] (.str (Lib.join ls sep)) :=
 qm2 (by kernel_rfl) Try.strings_Join_none Try.strings_Join hn hl
def okP (p : Pd) : Prop := szY p.ty ≤ 20000 ∧ dpY p.ty ≤ 300 ∧ p.cls.length + (qc3 p.ty).length + 5 ≤ Big
def oneP (p : Pd) : List UInt8 := p.cls ++ (32 :: parW (decide (p.ty.args ≠ [])) (qc3 p.ty))
theorem qou {p : Pd} (h : okP p) : qm Try.prog 68 [encP p] (.str (oneP p)) := by
 refine qd c0c (by simp) (by simp only [go_sem]) rfl fun hw => ?_
 obtain ⟨h1, h2, h3⟩ := h
 have ht := qcj h1 h2 (by omega)
 have m1 : 1 + (qc3 p.ty).length ≤ maxLen := qbz (by omega)
 have m2 : (qc3 p.ty).length + 1 + 1 ≤ maxLen := qbz (by omega)
 have m3 : p.cls.length + 1 ≤ maxLen := qbz (by omega)
 have m4 : p.cls.length + 1 + (qc3 p.ty).length ≤ maxLen := qbz (by omega)
 have m5 : p.cls.length + 1 + ((qc3 p.ty).length + 1 + 1) ≤ maxLen := qbz (by omega)
 repeat' (first | refine vs_ ?_ | ((first | refine vr_ ?_ | fail) <;> (try simp only [qet, go_sem, ↓reduceIte])) | ((first | (refine cs_ ?_ ?_ <;> intro hc) | refine cj_ ?_ | simp (disch := omega) only [encs_getN, qb] | refine qa ht fun _ => ?_) <;> (try refine ev_ ?_)) | with_reducible exact ti_)
 ·have hne : p.ty.args ≠ [] := fun h => by rename_i hc; rw [h] at hc; simp at hc
  rw [oneP, parW, if_pos (by simp [hne])]
 ·have hne : p.ty.args = [] := List.length_eq_zero_iff.1 (by omega)
  rw [oneP, parW, if_neg (by simp [hne])]
def sepW : List UInt8 := [44, 32]
def qh4 (l : List Pd) : List UInt8 := Lib.join (l.map oneP) sepW
def qj2 (l : List Pd) : List UInt8 := if l.all qd6 = true then (if 1 < l.length then 40 :: (qh4 l ++ [41]) else qh4 l) else []
theorem qit (l : List Pd) (i : Nat) (h : i < l.length) : ((l.take (i + 1)).map oneP).map AV.str = ((l.take i).map oneP).map AV.str ++ [.str (oneP (l.getD i P0))] := by
 have h1 : l.take (i + 1) = l.take i ++ [l.getD i P0] := by
  rw [List.take_add_one, List.getD_eq_getElem?_getD, List.getElem?_eq_getElem h]; rfl
 rw [h1]; simp
theorem capS {k : Nat} (h : k ≤ 1000000000) : qch k 16 := by unfold qch; omega
def ones (l : List Pd) : List AV := (l.map oneP).map AV.str
theorem qdl (l : List Pd) : (ones l).length = l.length := by simp [ones]
theorem qkk (k : Nat) (l : List Pd) : AV.bds k (ones l) = true := by rw [ones, qgo]; simp [AV.bd]
theorem qlz (σ : Nat → Nat) (l : List Pd) : AV.rens σ (ones l) = ones l := ql (m := 0) (fun i hi => by omega) _ (qkk 0 l)
theorem qis {l : List Pd} (h : l ≠ []) : ones l ≠ [] := by cases l with | nil => exact absurd rfl h | cons _ _ => simp [ones]
attribute [go_sem] qdl qkk qlz
theorem qia : ones [] = [] := rfl
def ptSt (l : List Pd) (i : Nat) : AF × List Ent := (⟨[(0, .sl 4 (qt l)), (3, accV 0 (ones (l.take i))), (7, .sl 4 (qt l)), (8, .int .i64 l.length), (9, .int .i64 i)], []⟩, accE 1 (ones (l.take i)))
theorem qe8 (l : List Pd) (h30 : l.length ≤ 30) (hok : ∀ p ∈ l, okP p) (hJ : (qh4 l).length + 2 ≤ Big) : qm Try.prog 25 [.sl 4 (qt l)] (.str (qj2 l)) := by
 refine qd c0d (by simp) (by simp only [go_sem]) rfl fun hw => ?_
 have hl := (qcb hw.1).1
 repeat' (first | refine vs_ ?_ | ((first | refine vr_ ?_ | (refine cs_ ?_ ?_ <;> intro hc) | refine cj_ ?_ | simp (disch := omega) only [encs_getN, qb]) <;> (try refine ev_ ?_)) | with_reducible exact ti_)
 refine qs (S := Nat) (fun i => i ≤ l.length ∧ (l.take i).all qd6 = true) (ptSt l) (fun i => l.length - i) ?_ fun i hi => ?_
 ·refine qk 0 [] ⟨Nat.zero_le _, rfl⟩ rfl (by simp) ?_ ?_ ?_ <;> simp only [ptSt, List.take_zero, qia, qo, qp] <;> (try refine ev_ ?_) <;> (try with_reducible exact ti_) <;> (try simp (disch := omega) only [qb, and_true, true_and])
 ·obtain ⟨hi, ha⟩ := hi
  have htl : (l.take i).length = i := by rw [List.length_take]; omega
  have hcap : qch (i + 1) 16 = True := eq_true (capS (by omega))
  have hcap0 : qch 1 16 = True := eq_true (capS (by omega))
  unfold ptSt
  by_cases hlt : i < l.length
  ·have hp := hok _ (qd3 hlt)
   have hg := qdw hp.1 hp.2.1
   have ho := qou hp
   have hs : ones (l.take (i + 1)) = ones (l.take i) ++ [.str (oneP (l.getD i P0))] := qit l i hlt
   have hno : qd6 (l.getD i P0) = false → qj2 l = [] := fun h => by
    rw [qj2, if_neg]
    intro hall
    rw [List.all_eq_true.1 hall _ (qd3 hlt)] at h
    cases h
   have hyes : qd6 (l.getD i P0) = true → (l.take (i + 1)).all qd6 = true := fun h => by
    rw [List.take_add_one, List.all_append, ha, Bool.true_and]
    rw [List.getD_eq_getElem?_getD, List.getElem?_eq_getElem hlt] at h
    rw [List.getElem?_eq_getElem hlt]
    simpa using h
   by_cases h0 : l.take i = []
   ·have hi0 : i = 0 := by rw [← htl, h0]; rfl
    subst hi0
    simp only [List.take_zero, qia, qo, qp]
    repeat' (first | refine vs_ ?_ | ((first | refine vr_ ?_ | fail) <;> (try simp (disch := first | omega | (simp only [List.length_set, List.length_append, List.length_cons, List.length_nil]; done) | (simp only [List.length_set, List.length_append, List.length_cons, List.length_nil]; omega)) only [qj, go_sem, ↓reduceIte])) | ((first | simp (disch := omega) only [hcap0] | (refine cs_ ?_ ?_ <;> intro hc) | refine cj_ ?_ | simp (disch := omega) only [encs_getN, qb] | refine qa hg fun _ => ?_ | refine qa ho fun _ => ?_) <;> (try refine ev_ ?_)) | with_reducible exact ti_)
    ·rw [hno (by assumption)]
    ·have hy := hyes (by assumption)
     have hs1 : ones (l.take 1) = [.str (oneP (l.getD 0 P0))] := hs
     refine qk 1 [1] ⟨⟨by omega, hy⟩, by omega⟩ rfl (by simp) ?_ ?_ ?_ <;> simp only [ptSt, hs1, qeb, qed] <;> (try refine ev_ ?_) <;> (try with_reducible exact ti_) <;> (try simp (disch := omega) only [qb, and_true, true_and])
     all_goals rfl
    ·omega
   ·simp only [q9 (qis h0), q8 (qis h0), qdl, htl]
    repeat' (first | refine vs_ ?_ | ((first | refine vr_ ?_ | fail) <;> (try simp (disch := first | omega | (simp only [List.length_set, List.length_append, List.length_cons, List.length_nil]; done) | (simp only [List.length_set, List.length_append, List.length_cons, List.length_nil]; omega)) only [qj, qb, qdl, htl, go_sem, ↓reduceIte])) | ((first | simp (disch := omega) only [hcap] | (refine cs_ ?_ ?_ <;> intro hc) | refine cj_ ?_ | simp (disch := omega) only [encs_getN, qb] | refine qa hg fun _ => ?_ | refine qa ho fun _ => ?_) <;> (try refine ev_ ?_)) | with_reducible exact ti_)
    ·rw [hno (by assumption)]
    ·have hy := hyes (by assumption)
     refine qk (i + 1) [2] ⟨⟨by omega, hy⟩, by omega⟩ rfl (by simp) ?_ ?_ ?_ <;> simp only [ptSt, hs, qc7, qda, qdl, htl] <;> (try refine ev_ ?_) <;> (try with_reducible exact ti_) <;> (try simp (disch := omega) only [qb, and_true, true_and])
     all_goals (rw [← hs]; exact ⟨qkk _ _, by rw [qlz]⟩)
    ·omega
  ·have hti : l.take i = l := List.take_of_length_le (by omega)
   rw [hti] at ha ⊢
   have hj := strings_Join (ls := l.map oneP) (sep := [44, 32]) (by simp; omega) (by have : (Lib.join (l.map oneP) [44, 32]).length = (qh4 l).length := rfl; unfold Big at hJ; omega)
   have m1 : 1 + (qh4 l).length ≤ maxLen := qbz (by omega)
   have m2 : (qh4 l).length + 1 + 1 ≤ maxLen := qbz (by omega)
   have e : qj2 l = if 1 < l.length then 40 :: (qh4 l ++ [41]) else qh4 l := by rw [qj2, if_pos ha]
   change qm Try.prog _ [.sl 1 (ones l), _] (.str (qh4 l)) at hj
   by_cases h0 : l = []
   ·rw [h0] at hj e ⊢
    simp only [qia, qo, qp] at hj ⊢
    repeat' (first | refine vs_ ?_ | ((first | refine vr_ ?_ | fail) <;> (try simp only [qbn, go_sem, ↓reduceIte])) | ((first | (refine cs_ ?_ ?_ <;> intro hc) | refine cj_ ?_ | simp (disch := omega) only [encs_getN, qb] | refine qa hj fun _ => ?_) <;> (try refine ev_ ?_)) | with_reducible exact ti_)
    ·omega
    ·omega
    ·rw [e, if_neg (by simp)]
   ·simp only [q9 (qis h0), q8 (qis h0), qdl]
    repeat' (first | refine vs_ ?_ | ((first | refine vr_ ?_ | fail) <;> (try simp only [qdl, go_sem, ↓reduceIte])) | ((first | (refine cs_ ?_ ?_ <;> intro hc) | refine cj_ ?_ | simp (disch := omega) only [encs_getN, qb] | refine qa hj fun _ => ?_) <;> (try refine ev_ ?_)) | with_reducible exact ti_)
    ·omega
    ·rw [e, if_pos (by omega)]
    ·rw [e, if_neg (by omega)]
set_option maxRecDepth 4000

def Cp : Pd := ⟨[67], Y0⟩
def Dp : Pd := ⟨[68], .mk [84] 0 [.mk [] 1 []]⟩
def Lp : Pd := ⟨[99], Y0⟩
theorem q32 : AV.agg [.str [67], .str [], .int .i64 0, .sl 3 []] = encP Cp := by simp [encP, Cp, Y0, Ty.con, Ty.var, Ty.args, qba]
theorem q6x : AV.agg [.str [99], .str [], .int .i64 0, .sl 3 []] = encP Lp := by simp [encP, Lp, Y0, Ty.con, Ty.var, Ty.args, qba]
theorem q57 : AV.agg [.str [68], .str [84], .int .i64 0, .sl 3 [.agg [.str [], .int .i64 1, .sl 3 []]]] = encP Dp := by simp [encP, Dp, Y0, Ty.con, Ty.var, Ty.args, qba, encY]
theorem okC : okP Cp := ⟨by decide, by decide, by decide⟩
theorem okD : okP Dp := ⟨by decide, by decide, by decide⟩
theorem tCD : qj2 [Cp, Dp] = [40, 67, 32, 97, 44, 32, 68, 32, 40, 84, 32, 98, 41, 41] := by decide
theorem tC : qj2 [Cp] = [67, 32, 97] := by decide
theorem cCD : cmpP Cp Dp = -1 := by decide
theorem cDC : cmpP Dp Cp = 1 := by decide
theorem oCDC : qbu [] [Cp, Dp, Cp] = [Cp, Dp] := by rfl
theorem vDC : qn [] (qcx [Dp, Cp]) = [1, 0] := by decide
theorem lD : qd6 Dp = true := by decide
theorem lL : qd6 Lp = false := by decide
theorem qfv : qm Try.prog 16 [] (.bool true) := by
 refine qd c0b (by simp) (by simp only [go_sem]) rfl fun hw => ?_
 have f1 := qe8 [Cp, Dp] (by decide) (by intro p hp; simp at hp; rcases hp with rfl | rfl; exact okC; exact okD) (by decide)
 have f2 := qe8 [Cp] (by decide) (by intro p hp; simp at hp; subst hp; exact okC) (by decide)
 have f3 := qe8 [] (by decide) (by intro p hp; simp at hp) (by decide)
 have f4 := qj1 (a := Cp) (b := Dp) (by decide) (by decide) (by decide) (by decide) (by decide) (by decide)
 have f5 := qj1 (a := Dp) (b := Cp) (by decide) (by decide) (by decide) (by decide) (by decide) (by decide)
 have f6 := qhl Cp Cp
 have f7 := qbp [Cp] Cp
 have f8 := qbp [Cp] Dp
 have f9 := qeq [Cp, Dp, Cp] (by decide)
 have f10 := qnl [Dp, Cp] (by decide)
 have f11 := qnn [1, 0] [1, 0]
 have f12 := qgz Cp
 have f13 := qgz Dp
 have f14 := qdw (p := Dp) (by decide) (by decide)
 have f15 := qdw (p := Lp) (by decide) (by decide)
 rw [tCD] at f1; rw [tC] at f2; rw [cCD] at f4; rw [cDC] at f5; rw [oCDC] at f9; rw [vDC] at f10; rw [lD] at f14; rw [lL] at f15
 repeat' (first | refine vs_ ?_ | ((first | refine vr_ ?_ | fail) <;> (try simp only [q32, q57, q6x, qbn, go_sem, ↓reduceIte])) | ((first | (refine cs_ ?_ ?_ <;> intro hc) | refine cj_ ?_ | fail | refine qa f1 fun _ => ?_ | refine qa f2 fun _ => ?_ | refine qa f3 fun _ => ?_ | refine qa f4 fun _ => ?_ | refine qa f5 fun _ => ?_ | refine qa f6 fun _ => ?_ | refine qa f7 fun _ => ?_ | refine qa f8 fun _ => ?_ | refine qa f9 fun _ => ?_ | refine qa f10 fun _ => ?_ | refine qa f11 fun _ => ?_ | refine qa f12 fun _ => ?_ | refine qa f13 fun _ => ?_ | refine qa f14 fun _ => ?_ | refine qa f15 fun _ => ?_) <;> (try refine ev_ ?_)) | with_reducible exact ti_)
 ·exact absurd (by assumption) (show ¬ Dp.ty.con = [] by decide)
 ·exact absurd (show Cp.ty.con = [] by decide) (by assumption)
 ·omega
 ·exact absurd (show hasP [Cp] Dp = true by assumption) (by decide)
 ·exact absurd (show hasP [Cp] Cp = false by assumption) (by decide)
 ·exact absurd (show qez Cp Cp = false by assumption) (by decide)
 ·exact absurd (show qj2 [] = [] by decide) (by assumption)
end Go.Proofs.Ytfpobiheiloamaa

/- predicates: the law of Once -/
set_option maxRecDepth 4000
namespace Go.Proofs.Ytfpobiheiloamaa
open Go Go.RowKit Go.V
theorem qdp (l : List Pd) (p : Pd) : hasP l p = true ↔ p ∈ l := by
 simp only [hasP, List.any_eq_true, qd8]
 exact ⟨fun ⟨x, h, e⟩ => e ▸ h, fun h => ⟨p, h, rfl⟩⟩
theorem qf2 (p : Pd) : ∀ (l acc : List Pd), p ∈ qbu acc l ↔ p ∈ acc ∨ p ∈ l
 | [], acc => by simp [qbu]
 | x :: r, acc => by
   rw [qbu]
   split
   ·rename_i h
    rw [qdp] at h
    rw [qf2 p r acc, List.mem_cons]
    constructor
    ·rintro (h | h) <;> simp [h]
    ·rintro (h' | rfl | h') <;> simp [*]
   ·rw [qf2 p r, List.mem_append, List.mem_singleton, List.mem_cons, or_assoc]
def qjp (l : List Pd) : Prop := ∀ i, i < l.length → l.getD i P0 ∉ l.take i
theorem qlj {l : List Pd} {p : Pd} (h : qjp l) (hp : p ∉ l) : qjp (l ++ [p]) := by
 intro i hi
 rw [List.length_append, List.length_singleton] at hi
 by_cases hl : i < l.length
 ·rw [List.take_append_of_le_length (by omega), List.getD_eq_getElem?_getD, List.getElem?_append_left hl, ← List.getD_eq_getElem?_getD]
  exact h i hl
 ·have : i = l.length := by omega
  subst this
  rw [List.take_left, List.getD_eq_getElem?_getD, List.getElem?_append_right (Nat.le_refl _)]
  simpa using hp
theorem qcv : ∀ (l acc : List Pd), qjp acc → qjp (qbu acc l)
 | [], acc, h => h
 | x :: r, acc, h => by
   rw [qbu]
   split
   ·exact qcv r acc h
   ·rename_i hx
    exact qcv r _ (qlj h (by rw [← qdp]; exact hx))
theorem qhe : ∀ (l acc : List Pd), qjp (acc ++ l) → qbu acc l = acc ++ l
 | [], acc, h => by simp [qbu]
 | x :: r, acc, h => by
   have := h acc.length (by simp)
   rw [List.take_left, List.getD_eq_getElem?_getD, List.getElem?_append_right (Nat.le_refl _)] at this
   rw [qbu, if_neg (by rw [qdp]; simpa using this), qhe r (acc ++ [x]) (by simpa using h)]
   simp
theorem qk2 (l : List Pd) : qbu [] (qbu [] l) = qbu [] l := by
 rw [qhe _ [] (by simpa using qcv l [] (by intro i hi; simp at hi))]; rfl
theorem qgu : ∀ (l acc : List Pd), (qbu acc l).length ≤ acc.length + l.length
 | [], acc => by simp [qbu]
 | x :: r, acc => by
   rw [qbu]
   split
   ·have := qgu r acc; simp; omega
   ·have := qgu r (acc ++ [x]); simp at this ⊢; omega
set_option linter.unusedVariables false
set_option linter.unusedSimpArgs false
def poSt (l m : List Pd) (i : Nat) : AF × List Ent := (⟨[(0, .sl 4 (qt l)), (3, .sl 4 (qt m)), (4, .int .i64 i)], []⟩, [])
def qud (l m : List Pd) (i : Nat) : AF × List Ent := (⟨[(0, .sl 4 (qt l)), (3, .sl 4 (qt m)), (5, .int .i64 i)], []⟩, [])
theorem qij (l : List Pd) : qm Try.prog 5 [.sl 4 (qt l)] (.bool true) := by
 refine qd c0a (by simp) (by simp only [go_sem]) rfl fun hw => ?_
 have hl := (qcb hw.1).1
 by_cases hf : fewP l = true
 ·have f1 := q38 l
  rw [if_pos hf] at f1
  have h30 : l.length ≤ 30 := by simp only [fewP, Bool.and_eq_true, decide_eq_true_eq] at hf; exact hf.1
  have f2 := qeq l (by omega)
  have hm := qgu l []
  have f3 := qeq (qbu [] l) (by simp at hm; omega)
  have f4 := qny (qbu [] l) (qbu [] l)
  have f5 := qfv
  rw [qk2] at f3
  rw [(qge _ _).2 rfl] at f4
  have hap := qcv l [] (by intro i hi; simp at hi)
  have hmem := fun p => qf2 p l []
  generalize qbu [] l = m at *
  simp only [List.length_nil, Nat.zero_add] at hm
  repeat' (first | refine vs_ ?_ | ((first | refine vr_ ?_ | fail) <;> (try simp (disch := first | omega | (simp only [List.length_set, List.length_append, List.length_cons, List.length_nil]; done) | (simp only [List.length_set, List.length_append, List.length_cons, List.length_nil]; omega)) only [qj, go_sem, ↓reduceIte])) | ((first | (refine cs_ ?_ ?_ <;> intro hc) | refine cj_ ?_ | simp (disch := omega) only [encs_getN, qb] | refine qa f1 fun _ => ?_ | refine qa f2 fun _ => ?_ | refine qf f1 ?_ | refine qf f2 ?_) <;> (try refine ev_ ?_)) | with_reducible exact ti_)
  ·omega
  refine qs (S := Nat) (fun i => i ≤ m.length) (poSt l m) (fun i => m.length - i) ?_ fun i hi => ?_
  ·refine qk 0 [] (Nat.zero_le _) rfl (by simp) ?_ ?_ ?_ <;> simp only [poSt] <;> (try refine ev_ ?_) <;> (try with_reducible exact ti_) <;> (try simp (disch := omega) only [qb, and_true, true_and])
  ·unfold poSt
   by_cases hlt : i < m.length
   ·have g1 := qbp (m.take i) (m.getD i P0)
    have g2 := qbp l (m.getD i P0)
    rw [show hasP (m.take i) (m.getD i P0) = false from Bool.eq_false_iff.2 (by rw [ne_eq, qdp]; exact hap i hlt)] at g1
    rw [(qdp _ _).2 (by have := (hmem (m.getD i P0)).1 (qd3 hlt); simpa using this)] at g2
    repeat' (first | refine vs_ ?_ | ((first | refine vr_ ?_ | fail) <;> (try simp (disch := first | omega | (simp only [List.length_set, List.length_append, List.length_cons, List.length_nil]; done) | (simp only [List.length_set, List.length_append, List.length_cons, List.length_nil]; omega)) only [qj, go_sem, ↓reduceIte])) | ((first | simp (disch := omega) only [qj] | (refine cs_ ?_ ?_ <;> intro hc) | refine cj_ ?_ | simp (disch := omega) only [encs_getN, qb] | refine qa g1 fun _ => ?_ | refine qa g2 fun _ => ?_ | refine qf g1 ?_ | refine qf g2 ?_) <;> (try refine ev_ ?_)) | with_reducible exact ti_)
    ·refine qk (i + 1) [] ⟨by omega, by omega⟩ rfl (by simp) ?_ ?_ ?_ <;> simp only [poSt] <;> (try refine ev_ ?_) <;> (try with_reducible exact ti_) <;> (try simp (disch := omega) only [qb, and_true, true_and])
    ·omega
   ·repeat' (first | refine vs_ ?_ | ((first | refine vr_ ?_ | fail) <;> (try simp (disch := first | omega | (simp only [List.length_set, List.length_append, List.length_cons, List.length_nil]; done) | (simp only [List.length_set, List.length_append, List.length_cons, List.length_nil]; omega)) only [qj, go_sem, ↓reduceIte])) | ((first | (refine cs_ ?_ ?_ <;> intro hc) | refine cj_ ?_ | simp (disch := omega) only [encs_getN, qb]) <;> (try refine ev_ ?_)) | with_reducible exact ti_)
    ·omega
    refine qs (S := Nat) (fun i => i ≤ l.length) (qud l m) (fun i => l.length - i) ?_ fun i hi => ?_
    ·refine qk 0 [] (Nat.zero_le _) rfl (by simp) ?_ ?_ ?_ <;> simp only [qud] <;> (try refine ev_ ?_) <;> (try with_reducible exact ti_) <;> (try simp (disch := omega) only [qb, and_true, true_and])
    ·unfold qud
     by_cases hlt : i < l.length
     ·have g1 := qbp m (l.getD i P0)
      rw [show hasP m (l.getD i P0) = true from (qdp _ _).2 ((hmem _).2 (Or.inr (qd3 hlt)))] at g1
      repeat' (first | refine vs_ ?_ | ((first | refine vr_ ?_ | fail) <;> (try simp (disch := first | omega | (simp only [List.length_set, List.length_append, List.length_cons, List.length_nil]; done) | (simp only [List.length_set, List.length_append, List.length_cons, List.length_nil]; omega)) only [qj, go_sem, ↓reduceIte])) | ((first | (refine cs_ ?_ ?_ <;> intro hc) | refine cj_ ?_ | simp (disch := omega) only [encs_getN, qb] | refine qa g1 fun _ => ?_ | refine qf g1 ?_) <;> (try refine ev_ ?_)) | with_reducible exact ti_)
      ·refine qk (i + 1) [] ⟨by omega, by omega⟩ rfl (by simp) ?_ ?_ ?_ <;> simp only [qud] <;> (try refine ev_ ?_) <;> (try with_reducible exact ti_) <;> (try simp (disch := omega) only [qb, and_true, true_and])
      ·omega
     ·repeat' (first | refine vs_ ?_ | ((first | refine vr_ ?_ | fail) <;> (try simp (disch := first | omega | (simp only [List.length_set, List.length_append, List.length_cons, List.length_nil]; done) | (simp only [List.length_set, List.length_append, List.length_cons, List.length_nil]; omega)) only [qj, go_sem, ↓reduceIte])) | ((first | (refine cs_ ?_ ?_ <;> intro hc) | refine cj_ ?_ | simp (disch := omega) only [encs_getN, qb] | refine qa f3 fun _ => ?_ | refine qa f4 fun _ => ?_ | refine qa f5 fun _ => ?_ | refine qf f3 ?_ | refine qf f4 ?_ | refine qf f5 ?_) <;> (try refine ev_ ?_)) | with_reducible exact ti_)
      omega
 ·have f1 := q38 l
  rw [if_neg hf] at f1
  have f5 := qfv
  repeat' (first | refine vs_ ?_ | ((first | refine vr_ ?_ | fail) <;> (try simp (disch := first | omega | (simp only [List.length_set, List.length_append, List.length_cons, List.length_nil]; done) | (simp only [List.length_set, List.length_append, List.length_cons, List.length_nil]; omega)) only [qj, go_sem, ↓reduceIte])) | ((first | (refine cs_ ?_ ?_ <;> intro hc) | refine cj_ ?_ | simp (disch := omega) only [encs_getN, qb] | refine qa f1 fun _ => ?_ | refine qa f5 fun _ => ?_ | refine qf f1 ?_ | refine qf f5 ?_) <;> (try refine ev_ ?_)) | with_reducible exact ti_)
end Go.Proofs.Ytfpobiheiloamaa
