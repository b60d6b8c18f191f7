/- Texts of this proof, joined. -/
import Derived.Test.YtfpobiheiloamaaKaj
import Derived.Test.YtfpobiheiloamaaKak
import Derived.Test.YtfpobiheiloamaaKaq

/- arguments of the statements: types, pairs, rows of pairs, of integers -/
set_option maxRecDepth 100000
namespace Go.Proofs.Ytfpobiheiloamaa
open Go Go.RowKit Go.V Go.ChangeShapes Go.WideShapes Go.ChangeAt
set_option linter.unusedVariables false
set_option linter.unusedSimpArgs false

instance : Inhabited Pr := ⟨R0⟩
set_option maxRecDepth 100000

def LTt : List TypeId := [9, 3, 25, 23]
theorem hLTt : LTt.all (qi3 Try.prog LTt) = true := by kernel_rfl
section
variable {H : Type} {enc' : TypeId × Value → H} {W W' : World} {base : Nat} {v : Value} {d : DataW H} {p : List MemPlace} {sp : Nat → Bool}
theorem qmh (hok : Value.okWide Try.prog W .any base 23 v) (h : DataW.Trod enc' Try.prog W 0 (fun _ => true) true 23 v d p) : ∃ l, VR W (MM W) [] (.sl 3 (qi l)) v := by
 obtain ⟨f, cs, h1, h2⟩ := qbez hLTt (by decide) hok h
 obtain ⟨f', es, rfl, rfl, he⟩ := qbgx Try.underlying23 h1
 obtain ⟨l, rfl⟩ := qvl (enc := encY) he fun ds hd => by
  obtain ⟨t, rfl⟩ := q1g _ _ hd
  exact ⟨t, by rw [q0d Try.underlying25, qbh]⟩
 rw [qbf6 Try.underlying23, show Try.prog.cellsOf 25 = 3 by kernel_rfl, ← qbl] at h2
 exact ⟨l, h2⟩
theorem qjf (h : DataW.Trod enc' Try.prog W 0 (fun _ => true) true 23 v d p) (hlt : ∀ x ∈ p, x.block < W.heap.size) (hb : Below W.heap.size W W') (hsp : ∀ x ∈ p, sp x.block = true) : DataW.Trod enc' Try.prog W' 0 sp true 23 v d p :=
 WideElems.Trod_stays q64 (show Try.prog.readableRec 23 = true by kernel_rfl) (of_decide_eq_true (by kernel_rfl)) h (fun x hx => hb.same (hlt x hx)) hsp
end
end Go.Proofs.Ytfpobiheiloamaa
