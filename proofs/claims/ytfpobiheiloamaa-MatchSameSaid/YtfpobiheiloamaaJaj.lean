/- A text of this proof. -/
import Derived.Test.YtfpobiheiloamaaRows
import Derived.Test.YtfpobiheiloamaaJai

/- arguments of the statements: predicates, types, rows of both -/
set_option maxRecDepth 100000
namespace Go.Proofs.Ytfpobiheiloamaa
open Go Go.RowKit Go.V Go.ChangeShapes Go.WideShapes Go.ChangeAt
set_option linter.unusedVariables false
set_option linter.unusedSimpArgs false

theorem own : ownKnob Try.prog.godebug = none := by kernel_rfl
theorem q14 : laidOutB Try.prog = true := by kernel_rfl
instance : Inhabited Ty := ⟨Y0⟩
instance : Inhabited Pd := ⟨P0⟩
theorem q49 : ∀ (f : Nat) (ds : List AV), TC Try.prog f 25 ds → ∃ t : Ty, ds = yc t := by
 intro f
 induction f using Nat.strongRecOn with
 | ind f ih =>
   intro ds h
   obtain ⟨f', rfl, hl, h⟩ := qbi2 Try.underlying25 h
   rw [show Try.prog.cellsOf 25 = 3 by kernel_rfl] at hl
   match ds, hl with
   | [a, b, c], _ =>
     have h0 := h (9, 0) (by decide)
     have h1 := h (3, 1) (by decide)
     have h2 := h (23, 2) (by decide)
     simp only [show Try.prog.cellsOf 3 = 1 by kernel_rfl, show Try.prog.cellsOf 9 = 1 by kernel_rfl, show Try.prog.cellsOf 23 = 1 by kernel_rfl, List.drop_zero, List.drop_succ_cons, List.take_succ_cons, List.take_zero] at h0 h1 h2
     obtain ⟨n0, e0⟩ := qbe2 Try.underlying9 h0
     obtain ⟨n1, e1⟩ := qbfh Try.underlying3 h1
     obtain ⟨f'', es, rfl, e2, he⟩ := qbi3 Try.underlying23 h2
     obtain ⟨l, rfl⟩ := q56 (enc := encY) he fun ds hd => by
      obtain ⟨t, rfl⟩ := ih f'' (by omega) ds hd
      exact ⟨t, by rw [q0e Try.underlying25]; exact qby t⟩
     rw [show Try.prog.cellsOf 25 = 3 by kernel_rfl, ← qb4] at e2
     cases e0; cases e1; cases e2
     exact ⟨.mk n0 n1 l, rfl⟩
end Go.Proofs.Ytfpobiheiloamaa
