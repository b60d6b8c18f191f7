/- A text of this proof. -/
import Derived.Test.YtbbjelfnocmaoaaGreatRows
import Derived.Test.YtbbjelfnocmaoaaGreatBai

/- arguments of the statements: predicates, types, rows of both -/
set_option maxRecDepth 100000
namespace Go.Proofs.YtbbjelfnocmaoaaGreat
open Go Go.RowKit Go.V Go.ChangeShapes Go.WideShapes Go.ChangeAt
set_option linter.unusedVariables false
set_option linter.unusedSimpArgs false

theorem own : ownKnob Tryz.prog.godebug = none := by kernel_rfl
theorem qyw : laidOutB Tryz.prog = true := by kernel_rfl
def LTp : List TypeId := [9, 3, 39, 37, 41, 23]
theorem hLTp : LTp.all (qj1 Tryz.prog LTp) = true := by kernel_rfl
instance : Inhabited Ty := ⟨Y0⟩
instance : Inhabited Pd := ⟨P0⟩
theorem q5i : ∀ (f : Nat) (ds : List AV), TC Tryz.prog f 39 ds → ∃ t : Ty, ds = yc t := by
 intro f
 induction f using Nat.strongRecOn with
 | ind f ih =>
   intro ds h
   obtain ⟨f', rfl, hl, h⟩ := qbbo Tryz.underlying39 h
   rw [show Tryz.prog.cellsOf 39 = 3 by kernel_rfl] at hl
   match ds, hl with
   | [a, b, c], _ =>
     have h0 := h (9, 0) (by decide)
     have h1 := h (3, 1) (by decide)
     have h2 := h (37, 2) (by decide)
     simp only [show Tryz.prog.cellsOf 3 = 1 by kernel_rfl, show Tryz.prog.cellsOf 9 = 1 by kernel_rfl, show Tryz.prog.cellsOf 37 = 1 by kernel_rfl, List.drop_zero, List.drop_succ_cons, List.take_succ_cons, List.take_zero] at h0 h1 h2
     obtain ⟨n0, e0⟩ := qq9 Tryz.underlying9 h0
     obtain ⟨n1, e1⟩ := q4l Tryz.underlying3 h1
     obtain ⟨f'', es, rfl, e2, he⟩ := q8m Tryz.underlying37 h2
     obtain ⟨l, rfl⟩ := qpv (enc := encY) he fun ds hd => by
      obtain ⟨t, rfl⟩ := ih f'' (by omega) ds hd
      exact ⟨t, by rw [qx0 Tryz.underlying39]; exact qbq t⟩
     rw [show Tryz.prog.cellsOf 39 = 3 by kernel_rfl, ← qcb] at e2
     cases e0; cases e1; cases e2
     exact ⟨.mk n0 n1 l, rfl⟩
theorem qxj {f : Nat} {ds : List AV} (h : TC Tryz.prog f 41 ds) : ∃ p : Pd, elA Tryz.prog 41 ds = encP p := by
 obtain ⟨f', rfl, hl, h⟩ := qbbo Tryz.underlying41 h
 rw [show Tryz.prog.cellsOf 41 = 4 by kernel_rfl] at hl
 match ds, hl with
 | [a, b, c, e], _ =>
   have h0 := h (9, 0) (by decide)
   have h1 := h (39, 1) (by decide)
   simp only [show Tryz.prog.cellsOf 39 = 3 by kernel_rfl, show Tryz.prog.cellsOf 9 = 1 by kernel_rfl, List.drop_zero, List.drop_succ_cons, List.take_succ_cons, List.take_zero] at h0 h1
   obtain ⟨n0, h0⟩ := qq9 Tryz.underlying9 h0
   obtain ⟨t, h1⟩ := q5i f' _ h1
   cases h0; cases h1
   exact ⟨⟨n0, t⟩, qx0 Tryz.underlying41 _⟩
section
variable {H : Type} {enc' : TypeId × Value → H} {W W' : World} {base : Nat} {v : Value} {d : DataW H} {p : List MemPlace} {sp : Nat → Bool}
theorem q34 (hok : Value.okWide Tryz.prog W .any base 41 v) (h : DataW.Trod enc' Tryz.prog W 0 (fun _ => true) true 41 v d p) : ∃ l, VR W (MM W) [] (encP l) v := by
 obtain ⟨f, cs, h1, h2⟩ := q4v hLTp (by decide) hok h
 obtain ⟨l, hl⟩ := qxj h1
 rw [hl] at h2
 exact ⟨l, h2⟩
theorem qxv (h : DataW.Trod enc' Tryz.prog W 0 (fun _ => true) true 41 v d p) (hlt : ∀ x ∈ p, x.block < W.heap.size) (hb : Below W.heap.size W W') (hsp : ∀ x ∈ p, sp x.block = true) : DataW.Trod enc' Tryz.prog W' 0 sp true 41 v d p :=
 WideElems.Trod_stays qyw (show Tryz.prog.readableRec 41 = true by kernel_rfl) (of_decide_eq_true (by kernel_rfl)) h (fun x hx => hb.same (hlt x hx)) hsp
end
end Go.Proofs.YtbbjelfnocmaoaaGreat
