/- Texts of this proof, joined. -/
import Derived.Test.YtfpobiheiloamaaOau
import Derived.Test.YtfpobiheiloamaaOaw
import Derived.Test.YtfpobiheiloamaaOas

/- predicates: the law's own example -/
set_option maxRecDepth 4000
namespace Go.Proofs.Ytfpobiheiloamaa
open Go Go.RowKit Go.V
set_option linter.unusedVariables false
set_option linter.unusedSimpArgs false

def Cp : Pd := ⟨[67], Y0⟩
def Dp : Pd := ⟨[68], .mk [84] 0 [.mk [] 1 []]⟩
def Lp : Pd := ⟨[99], Y0⟩
theorem q79 : AV.agg [.str [67], .str [], .int .i64 0, .sl 3 []] = encP Cp := by simp [encP, Cp, Y0, Ty.con, Ty.var, Ty.args, q8]
theorem q7h : AV.agg [.str [99], .str [], .int .i64 0, .sl 3 []] = encP Lp := by simp [encP, Lp, Y0, Ty.con, Ty.var, Ty.args, q8]
theorem q9x : AV.agg [.str [68], .str [84], .int .i64 0, .sl 3 [.agg [.str [], .int .i64 1, .sl 3 []]]] = encP Dp := by simp [encP, Dp, Y0, Ty.con, Ty.var, Ty.args, q8, encY]
theorem okC : okP Cp := ⟨by decide, by decide, by decide⟩
theorem okD : okP Dp := ⟨by decide, by decide, by decide⟩
theorem tCD : qlj [Cp, Dp] = [40, 67, 32, 97, 44, 32, 68, 32, 40, 84, 32, 98, 41, 41] := by decide
theorem tC : qlj [Cp] = [67, 32, 97] := by decide
theorem cCD : cmpP Cp Dp = -1 := by decide
theorem cDC : cmpP Dp Cp = 1 := by decide
theorem oCDC : qh5 [] [Cp, Dp, Cp] = [Cp, Dp] := by rfl
theorem vDC : qm [] (qde [Dp, Cp]) = [1, 0] := by decide
theorem lD : qck Dp = true := by decide
theorem lL : qck Lp = false := by decide
theorem qmk : ql Try.prog 16 [] (.bool true) := by
 refine qe c0bz (by simp) (by simp only [go_sem]) rfl fun hw => ?_
 have f1 := qfg [Cp, Dp] (by decide) (by intro p hp; simp at hp; rcases hp with rfl | rfl; exact okC; exact okD) (by decide)
 have f2 := qfg [Cp] (by decide) (by intro p hp; simp at hp; subst hp; exact okC) (by decide)
 have f3 := qfg [] (by decide) (by intro p hp; simp at hp) (by decide)
 have f4 := qc0 (a := Cp) (b := Dp) (by decide) (by decide) (by decide) (by decide) (by decide) (by decide)
 have f5 := qc0 (a := Dp) (b := Cp) (by decide) (by decide) (by decide) (by decide) (by decide) (by decide)
 have f6 := qfx Cp Cp
 have f7 := qcr [Cp] Cp
 have f8 := qcr [Cp] Dp
 have f9 := qpf [Cp, Dp, Cp] (by decide)
 have f10 := qov [Dp, Cp] (by decide)
 have f11 := qn7 [1, 0] [1, 0]
 have f12 := qhf Cp
 have f13 := qhf Dp
 have f14 := qbx (p := Dp) (by decide) (by decide)
 have f15 := qbx (p := Lp) (by decide) (by decide)
 rw [tCD] at f1; rw [tC] at f2; rw [cCD] at f4; rw [cDC] at f5; rw [oCDC] at f9; rw [vDC] at f10; rw [lD] at f14; rw [lL] at f15
 repeat' (first | refine vs_ ?_ | ((first | refine vr_ ?_ | fail) <;> (try simp only [q79, q9x, q7h, qbs, go_sem, ↓reduceIte])) | ((first | (refine cs_ ?_ ?_ <;> intro hc) | refine cj_ ?_ | fail | refine qa f1 fun _ => ?_ | refine qa f2 fun _ => ?_ | refine qa f3 fun _ => ?_ | refine qa f4 fun _ => ?_ | refine qa f5 fun _ => ?_ | refine qa f6 fun _ => ?_ | refine qa f7 fun _ => ?_ | refine qa f8 fun _ => ?_ | refine qa f9 fun _ => ?_ | refine qa f10 fun _ => ?_ | refine qa f11 fun _ => ?_ | refine qa f12 fun _ => ?_ | refine qa f13 fun _ => ?_ | refine qa f14 fun _ => ?_ | refine qa f15 fun _ => ?_) <;> (try refine ev_ ?_)) | with_reducible exact ti_)
 ·exact absurd (by assumption) (show ¬ Dp.ty.con = [] by decide)
 ·exact absurd (show Cp.ty.con = [] by decide) (by assumption)
 ·omega
 ·exact absurd (show hasP [Cp] Dp = true by assumption) (by decide)
 ·exact absurd (show hasP [Cp] Cp = false by assumption) (by decide)
 ·exact absurd (show qea Cp Cp = false by assumption) (by decide)
 ·exact absurd (show qlj [] = [] by decide) (by assumption)
set_option maxRecDepth 4000

theorem qm3 (x : List UInt8) : Op.bytesLess x [] = false := by cases x <;> rfl
theorem qew (a b : UInt8) (x y : List UInt8) : Op.bytesLess (a :: x) (b :: y) = true ↔ a.toNat < b.toNat ∨ (a = b ∧ Op.bytesLess x y = true) := by
 rw [Op.bytesLess, Bool.or_eq_true, Bool.and_eq_true, decide_eq_true_eq, beq_iff_eq, UInt8.lt_iff_toNat_lt]
theorem qd2 : ∀ x : List UInt8, Op.bytesLess x x = false
 | [] => rfl
 | a :: x => by
   rw [Bool.eq_false_iff, ne_eq, qew, qd2 x]; simp
theorem qd3 : ∀ {x y z : List UInt8}, Op.bytesLess x y = true → Op.bytesLess y z = true → Op.bytesLess x z = true
 | _, [], _, h, _ => by rw [qm3] at h; cases h
 | _, _ :: _, [], _, h => by rw [qm3] at h; cases h
 | [], _ :: _, _ :: _, _, _ => rfl
 | a :: x, b :: y, c :: z, h, h' => by
   rw [qew] at h h' ⊢
   rcases h with h | ⟨rfl, h⟩ <;> rcases h' with h' | ⟨rfl, h'⟩
   ·exact .inl (by omega)
   ·exact .inl h
   ·exact .inl h'
   ·exact .inr ⟨rfl, qd3 h h'⟩
theorem qm9 : ∀ x y : List UInt8, x = y ∨ Op.bytesLess x y = true ∨ Op.bytesLess y x = true
 | [], [] => .inl rfl
 | [], _ :: _ => .inr (.inl rfl)
 | _ :: _, [] => .inr (.inr rfl)
 | a :: x, b :: y => by
   rw [qew, qew]
   by_cases h1 : a.toNat < b.toNat
   ·exact .inr (.inl (.inl h1))
   ·by_cases h2 : b.toNat < a.toNat
    ·exact .inr (.inr (.inl h2))
    ·have hab : a = b := UInt8.toNat_inj.1 (by omega)
     subst hab
     rcases qm9 x y with h | h | h
     ·exact .inl (by rw [h])
     ·exact .inr (.inl (.inr ⟨rfl, h⟩))
     ·exact .inr (.inr (.inr ⟨rfl, h⟩))
theorem qd9 (a b : List UInt8) : (cmpW a b = -1 ∧ Op.bytesLess a b = true ∧ a ≠ b) ∨ (cmpW a b = 0 ∧ a = b) ∨ (cmpW a b = 1 ∧ Op.bytesLess b a = true ∧ a ≠ b) := by
 rcases qm9 a b with h | h | h
 ·subst h
  exact .inr (.inl ⟨by rw [cmpW, if_neg (by rw [qd2]; simp), if_pos rfl], rfl⟩)
 ·exact .inl ⟨by rw [cmpW, if_pos h], h, fun e => by subst e; rw [qd2] at h; cases h⟩
 ·have hn : ¬ Op.bytesLess a b = true := fun h' => by
   have := qd3 h h'
   rw [qd2] at this; cases this
  have hne : a ≠ b := fun e => by subst e; rw [qd2] at h; cases h
  exact .inr (.inr ⟨by rw [cmpW, if_neg hn, if_neg hne], h, hne⟩)
theorem qki (a b : List UInt8) : cmpW b a = - cmpW a b := by
 rcases qd9 a b with ⟨h1, h2, h3⟩ | ⟨h1, h2⟩ | ⟨h1, h2, h3⟩ <;> rcases qd9 b a with ⟨g1, g2, g3⟩ | ⟨g1, g2⟩ | ⟨g1, g2, g3⟩
 all_goals first
  | omega
  | (exfalso; have := qd3 h2 g2; rw [qd2] at this; cases this; done)
  | (exfalso; exact h3 g2.symm)
  | (exfalso; exact g3 h2.symm)
theorem qnq (a b : List UInt8) : -1 ≤ cmpW a b ∧ cmpW a b ≤ 1 := by
 rcases qd9 a b with ⟨h1, _⟩ | ⟨h1, _⟩ | ⟨h1, _⟩ <;> omega
theorem qct (a b : List UInt8) : cmpW a b = 0 ↔ a = b := by
 rcases qd9 a b with ⟨h1, _, h2⟩ | ⟨h1, h2⟩ | ⟨h1, _, h2⟩
 ·exact ⟨fun h => by omega, fun h => absurd h h2⟩
 ·exact ⟨fun _ => h2, fun _ => h1⟩
 ·exact ⟨fun h => by omega, fun h => absurd h h2⟩
theorem qiz (a b c : List UInt8) (h1 : cmpW a b ≤ 0) (h2 : cmpW b c ≤ 0) : cmpW a c ≤ 0 ∧ (cmpW a c = 0 → cmpW a b = 0 ∧ cmpW b c = 0) := by
 rcases qd9 a b with ⟨p1, p2, p3⟩ | ⟨p1, p2⟩ | ⟨p1, p2, p3⟩ <;> rcases qd9 b c with ⟨q1, q2, q3⟩ | ⟨q1, q2⟩ | ⟨q1, q2, q3⟩
 all_goals first
  | omega
  | skip
 ·have := qd3 p2 q2
  have e : cmpW a c = -1 := by rw [cmpW, if_pos this]
  omega
 ·subst q2; omega
 ·subst p2; omega
 ·subst p2 q2; omega
theorem qhv (a b : Pd) : cmpP a b = if cmpW a.cls b.cls = 0 then cmpW (qbi a.ty) (qbi b.ty) else cmpW a.cls b.cls := by
 rw [cmpP, orW, orW, orW]
 split
 ·split
  ·omega
  ·rfl
 ·rfl
theorem qjg (a b : Pd) : -1 ≤ cmpP a b ∧ cmpP a b ≤ 1 := by
 have h1 := qnq a.cls b.cls
 have h2 := qnq (qbi a.ty) (qbi b.ty)
 rw [qhv]; split <;> omega
theorem qe9 (a b : Pd) : cmpP b a = - cmpP a b := by
 have h1 := qki a.cls b.cls
 have h2 := qki (qbi a.ty) (qbi b.ty)
 rw [qhv, qhv]; split <;> split <;> omega
theorem qix {a b c : Pd} (h1 : cmpP a b ≤ 0) (h2 : cmpP b c ≤ 0) : cmpP a c ≤ 0 := by
 have k1 := qiz a.cls b.cls c.cls
 have k2 := qiz (qbi a.ty) (qbi b.ty) (qbi c.ty)
 have z1 := qct a.cls b.cls
 have z2 := qct b.cls c.cls
 have z3 := qct a.cls c.cls
 rw [qhv] at h1 h2 ⊢
 split at h1 <;> split at h2 <;> split
 ·exact (k2 h1 h2).1
 all_goals
  rename_i p q r
  first
  | omega
  | (have := (k1 (by omega) (by omega)); omega)
theorem qr2 {a b : Pd} (ha : qck a = true) (hb : qck b = true) : cmpP a b = 0 ↔ qea a b = true := by
 rw [qex, qhv]
 rw [qck, Bool.and_eq_true] at ha hb
 constructor
 ·intro h
  split at h
  ·rename_i hc
   rw [qct] at h hc
   rw [qbi, if_pos ha.2, qbi, if_pos hb.2] at h
   have := qwa (qc4 ha.2) (qc4 hb.2) h
   cases a; cases b; simp_all
  ·rename_i hc; exact absurd h hc
 ·rintro rfl
  rw [if_pos ((qct _ _).2 rfl)]
  exact (qct _ _).2 rfl
theorem few3 {a b c : Pd} (h : fewP [a, b, c] = true) : (szY a.ty ≤ 20000 ∧ dpY a.ty ≤ 300) ∧ (szY b.ty ≤ 20000 ∧ dpY b.ty ≤ 300) ∧ szY c.ty ≤ 20000 ∧ dpY c.ty ≤ 300 := by
 rw [fewP, Bool.and_eq_true] at h
 have := q20 (l := [a.ty, b.ty, c.ty]) (by simp [maxLen]) h.2
 simp only [szYs, dpYs] at this
 omega
theorem qia (a b c : Pd) (ha : (qbi a.ty).length ≤ Big) (hb : (qbi b.ty).length ≤ Big) (hc : (qbi c.ty).length ≤ Big) : ql Try.prog 4 [encP a, encP b, encP c] (.bool true) := by
 refine qe c0by (by simp) (by simp only [go_sem]) rfl fun hw => ?_
 have f1 := qbbf [a, b, c]
 have f5 := qmk
 simp only [qu] at f1
 by_cases hf : fewP [a, b, c] = true
 ·rw [if_pos hf] at f1
  obtain ⟨⟨a1, a2⟩, ⟨b1, b2⟩, c1, c2⟩ := few3 hf
  have la := qbx a1 a2
  have lb := qbx b1 b2
  have lc := qbx c1 c2
  have x := qc0 a1 a2 b1 b2 ha hb
  have y := qc0 b1 b2 c1 c2 hb hc
  have z := qc0 a1 a2 c1 c2 ha hc
  have x' := qc0 b1 b2 a1 a2 hb ha
  have s := qfx a b
  have rx := qjg a b
  have ry := qjg b c
  have rz := qjg a c
  have sx := qe9 a b
  have t1 : cmpP a b ≤ 0 → cmpP b c ≤ 0 → cmpP a c ≤ 0 := qix
  have t2 : 0 ≤ cmpP a b → 0 ≤ cmpP b c → 0 ≤ cmpP a c := fun h1 h2 => by
   have q1 := qe9 a b
   have q2 := qe9 b c
   have q3 := qe9 a c
   have := qix (a := c) (b := b) (c := a) (by omega) (by omega)
   omega
  have hz : qck a = true → qck b = true → (cmpP a b = 0 ↔ qea a b = true) := qr2
  obtain ⟨X, hX⟩ : ∃ X, cmpP a b = X := ⟨_, rfl⟩
  obtain ⟨Y, hY⟩ : ∃ Y, cmpP b c = Y := ⟨_, rfl⟩
  obtain ⟨Z, hZ⟩ : ∃ Z, cmpP a c = Z := ⟨_, rfl⟩
  obtain ⟨X', hX'⟩ : ∃ X', cmpP b a = X' := ⟨_, rfl⟩
  rw [hX] at x rx sx t1 t2 hz
  rw [hY] at y ry t1 t2
  rw [hZ] at z rz t1 t2
  rw [hX'] at x' sx
  have hwr : IntKind.i64.wrap (0 - X) = X' := by
   obtain ⟨r1, r2⟩ := rx
   rw [qcx (z := 0 - X) (by omega) (by omega)]; omega
  repeat' (first | refine vs_ ?_ | ((first | refine vr_ ?_ | fail) <;> (try simp only [hwr, go_sem, ↓reduceIte])) | ((first | (refine cs_ ?_ ?_ <;> intro hc) | refine cj_ ?_ | fail | refine qa f1 fun _ => ?_ | refine qa la fun _ => ?_ | refine qa lb fun _ => ?_ | refine qa lc fun _ => ?_ | refine qa x fun _ => ?_ | refine qa y fun _ => ?_ | refine qa z fun _ => ?_ | refine qa x' fun _ => ?_ | refine qa s fun _ => ?_ | refine qa f5 fun _ => ?_ | refine qf f1 ?_ | refine qf la ?_ | refine qf lb ?_ | refine qf lc ?_ | refine qf x ?_ | refine qf y ?_ | refine qf z ?_ | refine qf x' ?_ | refine qf s ?_ | refine qf f5 ?_) <;> (try refine ev_ ?_)) | with_reducible exact ti_)
  all_goals first
   | exact absurd hwr.symm (by assumption)
   | (exfalso; have := t2 (by omega) (by omega); omega)
   | (exfalso; have := t1 (by omega) (by omega); omega)
   | skip
  rename_i hc
  exfalso
  have hq := hz (by assumption) (by assumption)
  cases hs : qea a b <;> simp [hs] at hc hq <;> omega
 ·rw [if_neg hf] at f1
  repeat' (first | refine vs_ ?_ | ((first | refine vr_ ?_ | refine qa f1 fun _ => ?_ | refine qa f5 fun _ => ?_ | refine qf f1 ?_ | refine qf f5 ?_ | (refine cs_ ?_ ?_ <;> intro hc) | refine cj_ ?_ | fail) <;> (try refine ev_ ?_)) | with_reducible exact ti_)
end Go.Proofs.Ytfpobiheiloamaa
