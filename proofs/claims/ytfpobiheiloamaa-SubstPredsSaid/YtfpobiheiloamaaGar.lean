/- A text of this proof. -/
import Derived.Test.YtfpobiheiloamaaGaj
import Derived.Test.YtfpobiheiloamaaGak
import Derived.Test.YtfpobiheiloamaaGaq

/- arguments of the statements: types, pairs, rows of pairs, of integers -/
set_option maxRecDepth 100000
namespace Go.Proofs.Ytfpobiheiloamaa
open Go Go.RowKit Go.V Go.ChangeShapes Go.WideShapes Go.ChangeAt
set_option linter.unusedVariables false
set_option linter.unusedSimpArgs false

def LTr : List TypeId := [9, 3, 25, 23, 63, 42, 34]
theorem hLTr : LTr.all (qhf Try.prog LTr) = true := by kernel_rfl
instance : Inhabited Pr := ⟨R0⟩
theorem qbbw {f : Nat} {ds : List AV} (h : TC Try.prog f 63 ds) : ∃ p : Pr, elA Try.prog 63 ds = encR p := by
 obtain ⟨f', rfl, hl, h⟩ := qbas Try.underlying63 h
 rw [show Try.prog.cellsOf 63 = 4 by kernel_rfl] at hl
 match ds, hl with
 | [a, b, c, e], _ =>
   have h0 := h (3, 0) (by decide)
   have h1 := h (25, 1) (by decide)
   simp only [show Try.prog.cellsOf 25 = 3 by kernel_rfl, show Try.prog.cellsOf 3 = 1 by kernel_rfl, List.drop_zero, List.drop_succ_cons, List.take_succ_cons, List.take_zero] at h0 h1
   obtain ⟨n0, h0⟩ := q0x Try.underlying3 h0
   obtain ⟨t, h1⟩ := qtz f' _ h1
   cases h0; cases h1
   exact ⟨⟨n0, t⟩, qr6 Try.underlying63 _⟩
section
variable {H : Type} {enc' : TypeId × Value → H} {W W' : World} {base : Nat} {v : Value} {d : DataW H} {p : List MemPlace} {sp : Nat → Bool}
theorem qty (hok : Value.okWide Try.prog W .any base 42 v) (h : DataW.Trod enc' Try.prog W 0 (fun _ => true) true 42 v d p) : ∃ l, VR W (MM W) [] (.sl 4 (qo l)) v := by
 obtain ⟨f, cs, h1, h2⟩ := q0u hLTr (by decide) hok h
 obtain ⟨f', es, rfl, rfl, he⟩ := q6d Try.underlying42 h1
 obtain ⟨l, rfl⟩ := qn7 he fun ds hd => qbbw hd
 rw [q0v Try.underlying42, show Try.prog.cellsOf 63 = 4 by kernel_rfl] at h2
 exact ⟨l, h2⟩
theorem qq7 (h : DataW.Trod enc' Try.prog W 0 (fun _ => true) true 42 v d p) (hlt : ∀ x ∈ p, x.block < W.heap.size) (hb : Below W.heap.size W W') (hsp : ∀ x ∈ p, sp x.block = true) : DataW.Trod enc' Try.prog W' 0 sp true 42 v d p :=
 WideElems.Trod_stays qr1 (show Try.prog.readableRec 42 = true by kernel_rfl) (of_decide_eq_true (by kernel_rfl)) h (fun x hx => hb.same (hlt x hx)) hsp
end
end Go.Proofs.Ytfpobiheiloamaa
