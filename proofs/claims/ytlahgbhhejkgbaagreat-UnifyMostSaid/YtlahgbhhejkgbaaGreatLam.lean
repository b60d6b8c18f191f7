/- A text of this proof. -/
import Derived.Test.YtlahgbhhejkgbaaGreatLak
import Derived.Test.YtlahgbhhejkgbaaGreatLal

/- arguments of the statements: pairs, rows of pairs (over types) -/
set_option maxRecDepth 100000
namespace Go.Proofs.YtlahgbhhejkgbaaGreat
open Go Go.RowKit Go.V Go.ChangeShapes Go.WideShapes Go.ChangeAt
set_option linter.unusedVariables false
set_option linter.unusedSimpArgs false

def LTr : List TypeId := [9, 3, 24, 22, 57, 31]
theorem hLTr : LTr.all (qjo Tryz.prog LTr) = true := by kernel_rfl
instance : Inhabited Pr := ⟨R0⟩
theorem qbea {f : Nat} {ds : List AV} (h : TC Tryz.prog f 57 ds) : ∃ p : Pr, elA Tryz.prog 57 ds = encR p := by
 obtain ⟨f', rfl, hl, h⟩ := qbrv Tryz.underlying57 h
 rw [show Tryz.prog.cellsOf 57 = 4 by kernel_rfl] at hl
 match ds, hl with
 | [a, b, c, e], _ =>
   have h0 := h (3, 0) (by decide)
   have h1 := h (24, 1) (by decide)
   simp only [show Tryz.prog.cellsOf 24 = 3 by kernel_rfl, show Tryz.prog.cellsOf 3 = 1 by kernel_rfl, List.drop_zero, List.drop_succ_cons, List.take_succ_cons, List.take_zero] at h0 h1
   obtain ⟨n0, h0⟩ := q5r Tryz.underlying3 h0
   obtain ⟨t, h1⟩ := qw0 f' _ h1
   cases h0; cases h1
   exact ⟨⟨n0, t⟩, qxm Tryz.underlying57 _⟩
section
variable {H : Type} {enc' : TypeId × Value → H} {W W' : World} {base : Nat} {v : Value} {d : DataW H} {p : List MemPlace} {sp : Nat → Bool}
theorem qvs (hok : Value.okWide Tryz.prog W .any base 31 v) (h : DataW.Trod enc' Tryz.prog W 0 (fun _ => true) true 31 v d p) : ∃ l, VR W (MM W) [] (.sl 4 (qw l)) v := by
 obtain ⟨f, cs, h1, h2⟩ := q5p hLTr (by decide) hok h
 obtain ⟨f', es, rfl, rfl, he⟩ := qbp7 Tryz.underlying31 h1
 obtain ⟨l, rfl⟩ := qv2 he fun ds hd => qbea hd
 rw [qbl5 Tryz.underlying31, show Tryz.prog.cellsOf 57 = 4 by kernel_rfl] at h2
 exact ⟨l, h2⟩
theorem quy (h : DataW.Trod enc' Tryz.prog W 0 (fun _ => true) true 31 v d p) (hlt : ∀ x ∈ p, x.block < W.heap.size) (hb : Below W.heap.size W W') (hsp : ∀ x ∈ p, sp x.block = true) : DataW.Trod enc' Tryz.prog W' 0 sp true 31 v d p :=
 WideElems.Trod_stays qyj (show Tryz.prog.readableRec 31 = true by kernel_rfl) (of_decide_eq_true (by kernel_rfl)) h (fun x hx => hb.same (hlt x hx)) hsp
end
end Go.Proofs.YtlahgbhhejkgbaaGreat
