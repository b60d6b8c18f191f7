/- Texts of this proof, joined. -/
import Derived.Test.YtfpobiheiloamaaJaj
import Derived.Test.YtfpobiheiloamaaJak
import Derived.Test.YtfpobiheiloamaaJar

/- arguments of the statements: types, pairs, rows of pairs, of integers -/
set_option maxRecDepth 100000
namespace Go.Proofs.Ytfpobiheiloamaa
open Go Go.RowKit Go.V Go.ChangeShapes Go.WideShapes Go.ChangeAt
set_option linter.unusedVariables false
set_option linter.unusedSimpArgs false

def LTr : List TypeId := [9, 3, 25, 23, 63, 42, 34]
theorem hLTr : LTr.all (qjb Try.prog LTr) = true := by kernel_rfl
instance : Inhabited Pr := ⟨R0⟩
section
variable {H : Type} {enc' : TypeId × Value → H} {W W' : World} {base : Nat} {v : Value} {d : DataW H} {p : List MemPlace} {sp : Nat → Bool}
theorem qo1 (hok : Value.okWide Try.prog W .any base 25 v) (h : DataW.Trod enc' Try.prog W 0 (fun _ => true) true 25 v d p) : ∃ l, VR W (MM W) [] (encY l) v := by
 obtain ⟨f, cs, h1, h2⟩ := qbel hLTr (by decide) hok h
 obtain ⟨l, rfl⟩ := q49 f _ h1
 rw [q0e Try.underlying25, qby] at h2
 exact ⟨l, h2⟩
theorem ql2 (h : DataW.Trod enc' Try.prog W 0 (fun _ => true) true 25 v d p) (hlt : ∀ x ∈ p, x.block < W.heap.size) (hb : Below W.heap.size W W') (hsp : ∀ x ∈ p, sp x.block = true) : DataW.Trod enc' Try.prog W' 0 sp true 25 v d p :=
 WideElems.Trod_stays q14 (show Try.prog.readableRec 25 = true by kernel_rfl) (of_decide_eq_true (by kernel_rfl)) h (fun x hx => hb.same (hlt x hx)) hsp
end
set_option maxRecDepth 100000

end Go.Proofs.Ytfpobiheiloamaa
