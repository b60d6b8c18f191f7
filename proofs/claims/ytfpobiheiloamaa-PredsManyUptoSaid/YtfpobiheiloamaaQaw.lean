/- Texts of this proof, joined. -/
import Derived.Test.YtfpobiheiloamaaQau

/- predicates: the law's own example -/
set_option maxRecDepth 4000
namespace Go.Proofs.Ytfpobiheiloamaa
open Go Go.RowKit Go.V
set_option linter.unusedVariables false
set_option linter.unusedSimpArgs false

def Cp : Pd := ⟨[67], Y0⟩
def Dp : Pd := ⟨[68], .mk [84] 0 [.mk [] 1 []]⟩
def Lp : Pd := ⟨[99], Y0⟩
theorem qbbe : AV.agg [.str [67], .str [], .int .i64 0, .sl 3 []] = encP Cp := by simp [encP, Cp, Y0, Ty.con, Ty.var, Ty.args, q8]
theorem qba5 : AV.agg [.str [99], .str [], .int .i64 0, .sl 3 []] = encP Lp := by simp [encP, Lp, Y0, Ty.con, Ty.var, Ty.args, q8]
theorem qbdd : AV.agg [.str [68], .str [84], .int .i64 0, .sl 3 [.agg [.str [], .int .i64 1, .sl 3 []]]] = encP Dp := by simp [encP, Dp, Y0, Ty.con, Ty.var, Ty.args, q8, encY]
theorem okC : okP Cp := ⟨by decide, by decide, by decide⟩
theorem okD : okP Dp := ⟨by decide, by decide, by decide⟩
theorem tCD : qf9 [Cp, Dp] = [40, 67, 32, 97, 44, 32, 68, 32, 40, 84, 32, 98, 41, 41] := by decide
theorem tC : qf9 [Cp] = [67, 32, 97] := by decide
theorem cCD : cmpP Cp Dp = -1 := by decide
theorem cDC : cmpP Dp Cp = 1 := by decide
theorem oCDC : qej [] [Cp, Dp, Cp] = [Cp, Dp] := by rfl
theorem vDC : qs [] (qch [Dp, Cp]) = [1, 0] := by decide
theorem lD : qb7 Dp = true := by decide
theorem lL : qb7 Lp = false := by decide
theorem qmw : ql Try.prog 16 [] (.bool true) := by
 refine qc c0cw (by simp) (by simp only [go_sem]) rfl fun hw => ?_
 have f1 := qeb [Cp, Dp] (by decide) (by intro p hp; simp at hp; rcases hp with rfl | rfl; exact okC; exact okD) (by decide)
 have f2 := qeb [Cp] (by decide) (by intro p hp; simp at hp; subst hp; exact okC) (by decide)
 have f3 := qeb [] (by decide) (by intro p hp; simp at hp) (by decide)
 have f4 := qk3 (a := Cp) (b := Dp) (by decide) (by decide) (by decide) (by decide) (by decide) (by decide)
 have f5 := qk3 (a := Dp) (b := Cp) (by decide) (by decide) (by decide) (by decide) (by decide) (by decide)
 have f6 := qix Cp Cp
 have f7 := qcp [Cp] Cp
 have f8 := qcp [Cp] Dp
 have f9 := qio [Cp, Dp, Cp] (by decide)
 have f10 := qii [Dp, Cp] (by decide)
 have f11 := qia [1, 0] [1, 0]
 have f12 := qhe Cp
 have f13 := qhe Dp
 have f14 := qeo (p := Dp) (by decide) (by decide)
 have f15 := qeo (p := Lp) (by decide) (by decide)
 rw [tCD] at f1; rw [tC] at f2; rw [cCD] at f4; rw [cDC] at f5; rw [oCDC] at f9; rw [vDC] at f10; rw [lD] at f14; rw [lL] at f15
 repeat' (first | refine vs_ ?_ | ((first | refine vr_ ?_ | fail) <;> (try simp only [qbbe, qbdd, qba5, qbf, go_sem, ↓reduceIte])) | ((first | (refine cs_ ?_ ?_ <;> intro hc) | refine cj_ ?_ | fail | refine qa f1 fun _ => ?_ | refine qa f2 fun _ => ?_ | refine qa f3 fun _ => ?_ | refine qa f4 fun _ => ?_ | refine qa f5 fun _ => ?_ | refine qa f6 fun _ => ?_ | refine qa f7 fun _ => ?_ | refine qa f8 fun _ => ?_ | refine qa f9 fun _ => ?_ | refine qa f10 fun _ => ?_ | refine qa f11 fun _ => ?_ | refine qa f12 fun _ => ?_ | refine qa f13 fun _ => ?_ | refine qa f14 fun _ => ?_ | refine qa f15 fun _ => ?_) <;> (try refine ev_ ?_)) | with_reducible exact ti_)
 ·exact absurd (by assumption) (show ¬ Dp.ty.con = [] by decide)
 ·exact absurd (show Cp.ty.con = [] by decide) (by assumption)
 ·omega
 ·exact absurd (show hasP [Cp] Dp = true by assumption) (by decide)
 ·exact absurd (show hasP [Cp] Cp = false by assumption) (by decide)
 ·exact absurd (show qfj Cp Cp = false by assumption) (by decide)
 ·exact absurd (show qf9 [] = [] by decide) (by assumption)
set_option maxRecDepth 4000
set_option maxRecDepth 4000

theorem qjp (l : List Pd) (p : Pd) (hok : fewP l = true → ∀ q ∈ l, okP q) (hJ : (qby l).length + 2 ≤ Big) : ql Try.prog 3 [.sl 4 (qt l), encP p] (.bool true) := by
 refine qc c0cv (by simp) (by simp only [go_sem]) rfl fun hw => ?_
 have hl := (qbj hw.1).1
 have f1 := qbco l
 have f2 := qbco [p]
 have f5 := qmw
 by_cases hf : fewP l = true
 ·rw [if_pos hf] at f1
  by_cases hg : fewP [p] = true
  ·rw [if_pos hg] at f2
   have h30 : l.length ≤ 30 := by simp only [fewP, Bool.and_eq_true, decide_eq_true_eq] at hf; exact hf.1
   have hsz : szYs (l.map Pd.ty) ≤ 500000 := by
    have h := (Bool.and_eq_true _ _).mp hf
    have := (qqi (by simpa using hl) h.2).1
    omega
   have g1 := qio l (by omega)
   have g2 := qo6 l (by omega)
   have g3 := qoj (qej [] l) (qej [] l)
   rw [(qgz _ _).2 rfl] at g3
   have g4 := qcp l p
   have g5 := qgo l p
   have g6 := qii l hsz
   have g7 := qo2 l hsz
   have g8 := qia (qs [] (qch l)) (qs [] (qch l))
   rw [decide_eq_true rfl] at g8
   have g9 := qeb l h30 (hok hf) hJ
   have g10 := qoe l (hok hf) hJ
   repeat' (first | refine vs_ ?_ | ((first | refine vr_ ?_ | refine qa f1 fun _ => ?_ | refine qa f2 fun _ => ?_ | refine qa g1 fun _ => ?_ | refine qa g2 fun _ => ?_ | refine qa g3 fun _ => ?_ | refine qa g4 fun _ => ?_ | refine qa g5 fun _ => ?_ | refine qa g6 fun _ => ?_ | refine qa g7 fun _ => ?_ | refine qa g8 fun _ => ?_ | refine qa g9 fun _ => ?_ | refine qa g10 fun _ => ?_ | refine qa f5 fun _ => ?_ | refine qe f1 ?_ | refine qe f2 ?_ | refine qe g1 ?_ | refine qe g2 ?_ | refine qe g3 ?_ | refine qe g4 ?_ | refine qe g5 ?_ | refine qe g6 ?_ | refine qe g7 ?_ | refine qe g8 ?_ | refine qe g9 ?_ | refine qe g10 ?_ | refine qe f5 ?_ | (refine cs_ ?_ ?_ <;> intro hc) | refine cj_ ?_ | fail) <;> (try refine ev_ ?_)) | with_reducible exact ti_)
   have hc := ‹(hasP l p == hasP l p) = false›
   simp at hc
  ·rw [if_neg hg] at f2
   repeat' (first | refine vs_ ?_ | ((first | refine vr_ ?_ | refine qa f1 fun _ => ?_ | refine qa f2 fun _ => ?_ | refine qa f5 fun _ => ?_ | refine qe f1 ?_ | refine qe f2 ?_ | refine qe f5 ?_ | (refine cs_ ?_ ?_ <;> intro hc) | refine cj_ ?_ | fail) <;> (try refine ev_ ?_)) | with_reducible exact ti_)
 ·rw [if_neg hf] at f1
  repeat' (first | refine vs_ ?_ | ((first | refine vr_ ?_ | refine qa f1 fun _ => ?_ | refine qa f5 fun _ => ?_ | refine qe f1 ?_ | refine qe f5 ?_ | (refine cs_ ?_ ?_ <;> intro hc) | refine cj_ ?_ | fail) <;> (try refine ev_ ?_)) | with_reducible exact ti_)
end Go.Proofs.Ytfpobiheiloamaa
