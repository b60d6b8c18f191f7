/- A text of this proof. -/
import Derived.Test.YtbbjelfnocmaoaaGreatDaj
import Derived.Test.YtbbjelfnocmaoaaGreatDak

/- arguments of the statements: instances, and rows of them; a predicate; a number -/
set_option maxRecDepth 100000
namespace Go.Proofs.YtbbjelfnocmaoaaGreat
open Go Go.RowKit Go.V Go.ChangeShapes Go.WideShapes Go.ChangeAt
set_option linter.unusedVariables false
set_option linter.unusedSimpArgs false

def LTi : List TypeId := [9, 3, 39, 37, 41, 23, 25, 22]
theorem hLTi : LTi.all (qkv Tryz.prog LTi) = true := by kernel_rfl
instance : Inhabited Ins := ⟨I0⟩
theorem qxc {f : Nat} {ds : List AV} (h : TC Tryz.prog f 25 ds) : ∃ x : Ins, elA Tryz.prog 25 ds = encI x := by
 obtain ⟨f', rfl, hl, h⟩ := qbf5 Tryz.underlying25 h
 rw [show Tryz.prog.cellsOf 25 = 4 by kernel_rfl] at hl
 match ds, hl with
 | [a, b, c, e], _ =>
   have h0 := h (9, 0) (by decide)
   have h1 := h (9, 1) (by decide)
   have h2 := h (3, 2) (by decide)
   have h3 := h (23, 3) (by decide)
   simp only [show Tryz.prog.cellsOf 23 = 1 by kernel_rfl, show Tryz.prog.cellsOf 3 = 1 by kernel_rfl, show Tryz.prog.cellsOf 9 = 1 by kernel_rfl, List.drop_zero, List.drop_succ_cons, List.take_succ_cons, List.take_zero] at h0 h1 h2 h3
   obtain ⟨n0, e0⟩ := qqt Tryz.underlying9 h0
   obtain ⟨n1, e1⟩ := qqt Tryz.underlying9 h1
   obtain ⟨n2, e2⟩ := q4h Tryz.underlying3 h2
   obtain ⟨f'', es, rfl, e3, he⟩ := q6u Tryz.underlying23 h3
   obtain ⟨l, rfl⟩ := qpj he fun ds hd => qbg2 hd
   rw [show Tryz.prog.cellsOf 41 = 4 by kernel_rfl] at e3
   cases e0; cases e1; cases e2; cases e3
   exact ⟨⟨n0, n1, n2, l⟩, qxq Tryz.underlying25 _⟩
section
variable {H : Type} {enc' : TypeId × Value → H} {W W' : World} {base : Nat} {v : Value} {d : DataW H} {p : List MemPlace} {sp : Nat → Bool}
theorem qsm (h : DataW.Trod enc' Tryz.prog W 0 (fun _ => true) true 22 v d p) (hlt : ∀ x ∈ p, x.block < W.heap.size) (hb : Below W.heap.size W W') (hsp : ∀ x ∈ p, sp x.block = true) : DataW.Trod enc' Tryz.prog W' 0 sp true 22 v d p :=
 WideElems.Trod_stays qvh (show Tryz.prog.readableRec 22 = true by kernel_rfl) (of_decide_eq_true (by kernel_rfl)) h (fun x hx => hb.same (hlt x hx)) hsp
end
end Go.Proofs.YtbbjelfnocmaoaaGreat
