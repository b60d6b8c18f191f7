/- A text of this proof. -/
import Derived.Test.YtmekebfgmjaenaaPam
import Derived.Test.YtmekebfgmjaenaaPan

/- arguments of the statements: rows of words, numbers -/
set_option maxRecDepth 100000
namespace Go.Proofs.Ytmekebfgmjaenaa
open Go Go.RowKit Go.V Go.ChangeShapes Go.WideShapes Go.ChangeAt
set_option linter.unusedVariables false
set_option linter.unusedSimpArgs false

def LTb : List TypeId := [4, 9, 3, 47, 33]
theorem hLTb : LTb.all (qm4 Try.prog LTb) = true := by kernel_rfl
section
variable {H : Type} {enc' : TypeId × Value → H} {W W' : World} {base : Nat} {v : Value} {d : DataW H} {p : List MemPlace} {sp : Nat → Bool}
theorem q9k (hok : Value.okWide Try.prog W .any base 3 v) (h : DataW.Trod enc' Try.prog W 0 (fun _ => true) true 3 v d p) : ∃ n, VR W (MM W) [] (.int .i64 n) v := by
  obtain ⟨f, cs, h1, h2⟩ := q7k hLTb (by decide) hok h
  obtain ⟨l, rfl⟩ := qbme Try.underlying3 h1
  rw [qbej Try.underlying3] at h2
  exact ⟨l, h2⟩
instance : Inhabited T := ⟨T0⟩
theorem q68 (h : DataW.Trod enc' Try.prog W 0 (fun _ => true) true 3 v d p) (hlt : ∀ x ∈ p, x.block < W.heap.size) (hb : Below W.heap.size W W') (hsp : ∀ x ∈ p, sp x.block = true) : DataW.Trod enc' Try.prog W' 0 sp true 3 v d p :=
  WideElems.Trod_stays q23 (show Try.prog.readableRec 3 = true by kernel_rfl) (of_decide_eq_true (by kernel_rfl)) h (fun x hx => hb.same (hlt x hx)) hsp
end
end Go.Proofs.Ytmekebfgmjaenaa
