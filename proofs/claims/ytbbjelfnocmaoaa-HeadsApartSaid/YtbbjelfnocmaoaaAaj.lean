/- A text of this proof. -/
import Derived.Test.YtbbjelfnocmaoaaRows
import Derived.Test.YtbbjelfnocmaoaaAai

/- arguments of the statements: predicates, types, rows of both -/
set_option maxRecDepth 100000
namespace Go.Proofs.Ytbbjelfnocmaoaa
open Go Go.RowKit Go.V Go.ChangeShapes Go.WideShapes Go.ChangeAt
set_option linter.unusedVariables false
set_option linter.unusedSimpArgs false

theorem own : ownKnob Try.prog.godebug = none := by kernel_rfl
theorem qny : laidOutB Try.prog = true := by kernel_rfl
def LTp : List TypeId := [9, 3, 25, 23, 27, 30]
theorem hLTp : LTp.all (qh8 Try.prog LTp) = true := by kernel_rfl
instance : Inhabited Ty := ⟨Y0⟩
instance : Inhabited Pd := ⟨P0⟩
theorem q1v : ∀ (f : Nat) (ds : List AV), TC Try.prog f 25 ds → ∃ t : Ty, ds = yc t := by
 intro f
 induction f using Nat.strongRecOn with
 | ind f ih =>
   intro ds h
   obtain ⟨f', rfl, hl, h⟩ := q3h Try.underlying25 h
   rw [show Try.prog.cellsOf 25 = 3 by kernel_rfl] at hl
   match ds, hl with
   | [a, b, c], _ =>
     have h0 := h (9, 0) (by decide)
     have h1 := h (3, 1) (by decide)
     have h2 := h (23, 2) (by decide)
     simp only [show Try.prog.cellsOf 3 = 1 by kernel_rfl, show Try.prog.cellsOf 9 = 1 by kernel_rfl, show Try.prog.cellsOf 23 = 1 by kernel_rfl, List.drop_zero, List.drop_succ_cons, List.take_succ_cons, List.take_zero] at h0 h1 h2
     obtain ⟨n0, e0⟩ := qol Try.underlying9 h0
     obtain ⟨n1, e1⟩ := qvl Try.underlying3 h1
     obtain ⟨f'', es, rfl, e2, he⟩ := q8b Try.underlying23 h2
     obtain ⟨l, rfl⟩ := qm0 (enc := encY) he fun ds hd => by
      obtain ⟨t, rfl⟩ := ih f'' (by omega) ds hd
      exact ⟨t, by rw [qup Try.underlying25]; exact qbq t⟩
     rw [show Try.prog.cellsOf 25 = 3 by kernel_rfl, ← qb6] at e2
     cases e0; cases e1; cases e2
     exact ⟨.mk n0 n1 l, rfl⟩
theorem qst {f : Nat} {ds : List AV} (h : TC Try.prog f 27 ds) : ∃ p : Pd, elA Try.prog 27 ds = encP p := by
 obtain ⟨f', rfl, hl, h⟩ := q3h Try.underlying27 h
 rw [show Try.prog.cellsOf 27 = 4 by kernel_rfl] at hl
 match ds, hl with
 | [a, b, c, e], _ =>
   have h0 := h (9, 0) (by decide)
   have h1 := h (25, 1) (by decide)
   simp only [show Try.prog.cellsOf 25 = 3 by kernel_rfl, show Try.prog.cellsOf 9 = 1 by kernel_rfl, List.drop_zero, List.drop_succ_cons, List.take_succ_cons, List.take_zero] at h0 h1
   obtain ⟨n0, h0⟩ := qol Try.underlying9 h0
   obtain ⟨t, h1⟩ := q1v f' _ h1
   cases h0; cases h1
   exact ⟨⟨n0, t⟩, qup Try.underlying27 _⟩
section
variable {H : Type} {enc' : TypeId × Value → H} {W W' : World} {base : Nat} {v : Value} {d : DataW H} {p : List MemPlace} {sp : Nat → Bool}
theorem qx1 (hok : Value.okWide Try.prog W .any base 27 v) (h : DataW.Trod enc' Try.prog W 0 (fun _ => true) true 27 v d p) : ∃ l, VR W (MM W) [] (encP l) v := by
 obtain ⟨f, cs, h1, h2⟩ := qt8 hLTp (by decide) hok h
 obtain ⟨l, hl⟩ := qst h1
 rw [hl] at h2
 exact ⟨l, h2⟩
theorem qu6 (h : DataW.Trod enc' Try.prog W 0 (fun _ => true) true 27 v d p) (hlt : ∀ x ∈ p, x.block < W.heap.size) (hb : Below W.heap.size W W') (hsp : ∀ x ∈ p, sp x.block = true) : DataW.Trod enc' Try.prog W' 0 sp true 27 v d p :=
 WideElems.Trod_stays qny (show Try.prog.readableRec 27 = true by kernel_rfl) (of_decide_eq_true (by kernel_rfl)) h (fun x hx => hb.same (hlt x hx)) hsp
end
end Go.Proofs.Ytbbjelfnocmaoaa
