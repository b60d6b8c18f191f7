/- A text of this proof. -/
import Derived.Test.YtbbjelfnocmaoaaGreatRows
import Derived.Test.YtbbjelfnocmaoaaGreatDai

/- arguments of the statements: predicates, types, rows of both -/
set_option maxRecDepth 100000
namespace Go.Proofs.YtbbjelfnocmaoaaGreat
open Go Go.RowKit Go.V Go.ChangeShapes Go.WideShapes Go.ChangeAt
set_option linter.unusedVariables false
set_option linter.unusedSimpArgs false

theorem own : ownKnob Tryz.prog.godebug = none := by kernel_rfl
theorem qvh : laidOutB Tryz.prog = true := by kernel_rfl
instance : Inhabited Ty := ⟨Y0⟩
instance : Inhabited Pd := ⟨P0⟩
theorem qbc1 : ∀ (f : Nat) (ds : List AV), TC Tryz.prog f 39 ds → ∃ t : Ty, ds = yc t := by
 intro f
 induction f using Nat.strongRecOn with
 | ind f ih =>
   intro ds h
   obtain ⟨f', rfl, hl, h⟩ := qbf5 Tryz.underlying39 h
   rw [show Tryz.prog.cellsOf 39 = 3 by kernel_rfl] at hl
   match ds, hl with
   | [a, b, c], _ =>
     have h0 := h (9, 0) (by decide)
     have h1 := h (3, 1) (by decide)
     have h2 := h (37, 2) (by decide)
     simp only [show Tryz.prog.cellsOf 3 = 1 by kernel_rfl, show Tryz.prog.cellsOf 9 = 1 by kernel_rfl, show Tryz.prog.cellsOf 37 = 1 by kernel_rfl, List.drop_zero, List.drop_succ_cons, List.take_succ_cons, List.take_zero] at h0 h1 h2
     obtain ⟨n0, e0⟩ := qqt Tryz.underlying9 h0
     obtain ⟨n1, e1⟩ := q4h Tryz.underlying3 h1
     obtain ⟨f'', es, rfl, e2, he⟩ := q6u Tryz.underlying37 h2
     obtain ⟨l, rfl⟩ := qpj (enc := encY) he fun ds hd => by
      obtain ⟨t, rfl⟩ := ih f'' (by omega) ds hd
      exact ⟨t, by rw [qxq Tryz.underlying39]; exact qbh t⟩
     rw [show Tryz.prog.cellsOf 39 = 3 by kernel_rfl, ← qbx] at e2
     cases e0; cases e1; cases e2
     exact ⟨.mk n0 n1 l, rfl⟩
theorem qbg2 {f : Nat} {ds : List AV} (h : TC Tryz.prog f 41 ds) : ∃ p : Pd, elA Tryz.prog 41 ds = encP p := by
 obtain ⟨f', rfl, hl, h⟩ := qbf5 Tryz.underlying41 h
 rw [show Tryz.prog.cellsOf 41 = 4 by kernel_rfl] at hl
 match ds, hl with
 | [a, b, c, e], _ =>
   have h0 := h (9, 0) (by decide)
   have h1 := h (39, 1) (by decide)
   simp only [show Tryz.prog.cellsOf 39 = 3 by kernel_rfl, show Tryz.prog.cellsOf 9 = 1 by kernel_rfl, List.drop_zero, List.drop_succ_cons, List.take_succ_cons, List.take_zero] at h0 h1
   obtain ⟨n0, h0⟩ := qqt Tryz.underlying9 h0
   obtain ⟨t, h1⟩ := qbc1 f' _ h1
   cases h0; cases h1
   exact ⟨⟨n0, t⟩, qxq Tryz.underlying41 _⟩
end Go.Proofs.YtbbjelfnocmaoaaGreat
