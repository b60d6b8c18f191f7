/- A text of this proof. -/
import Derived.Test.YtjigahnncojikaaRows
import Derived.Test.YtjigahnncojikaaJai
import Derived.Test.YtjigahnncojikaaJak

/- arguments of the statements: texts, trees -/
set_option maxRecDepth 100000
namespace Go.Proofs.Ytjigahnncojikaa
open Go Go.RowKit Go.V Go.ChangeShapes Go.WideShapes Go.ChangeAt
set_option linter.unusedVariables false
set_option linter.unusedSimpArgs false

theorem own : ownKnob Try.prog.godebug = none := by kernel_rfl
theorem laidOut : laidOutB Try.prog = true := by kernel_rfl
def LT : List TypeId := [9, 3]
theorem hLT : LT.all (plain1 Try.prog LT) = true := by kernel_rfl
section
variable {H : Type} {enc' : TypeId × Value → H} {W W' : World} {base : Nat} {v : Value} {d : DataW H} {p : List MemPlace} {sp : Nat → Bool}
theorem arg_str (hok : Value.okWide Try.prog W .any base 9 v) (h : DataW.Trod enc' Try.prog W 0 (fun _ => true) true 9 v d p) : ∃ s, VR W (MM W) [] (.str s) v := by
  obtain ⟨f, cs, h1, h2⟩ := vr_arg hLT (by decide) hok h
  obtain ⟨l, rfl⟩ := tc_str Try.underlying9 h1
  rw [elA_str Try.underlying9] at h2
  exact ⟨l, h2⟩
theorem stay_str (h : DataW.Trod enc' Try.prog W 0 (fun _ => true) true 9 v d p) (hlt : ∀ x ∈ p, x.block < W.heap.size) (hb : Below W.heap.size W W') (hsp : ∀ x ∈ p, sp x.block = true) : DataW.Trod enc' Try.prog W' 0 sp true 9 v d p :=
  WideElems.Trod_stays laidOut (show Try.prog.readableRec 9 = true by kernel_rfl) (of_decide_eq_true (by kernel_rfl)) h (fun x hx => hb.same (hlt x hx)) hsp
theorem arg_node (hok : Value.okWide Try.prog W .any base 25 v) (h : DataW.Trod enc' Try.prog W 0 (fun _ => true) true 25 v d p) : ∃ n, VR W (MM W) [] (enc n) v := by
  unfold Value.okWide at hok
  rw [Try.underlying25] at hok
  obtain ⟨cs, rfl, _, _⟩ := hok
  obtain ⟨fuel, hf⟩ := h
  obtain ⟨n, hn⟩ := trod_node Try.underlying3 Try.underlying9 Try.underlying23 Try.underlying25 rfl (by kernel_rfl) (by kernel_rfl) (by kernel_rfl) (by kernel_rfl) fuel _ _ hf
  have hm : (MM W : Nat → Nat → Prop) = M0 W := rfl
  rw [hm]
  exact ⟨n, vr_agg (by simpa [Value.cells] using hn)⟩
theorem stay_node (h : DataW.Trod enc' Try.prog W 0 (fun _ => true) true 25 v d p) (hlt : ∀ x ∈ p, x.block < W.heap.size) (hb : Below W.heap.size W W') (hsp : ∀ x ∈ p, sp x.block = true) : DataW.Trod enc' Try.prog W' 0 sp true 25 v d p :=
  WideElems.Trod_stays laidOut (show Try.prog.readableRec 25 = true by kernel_rfl) (of_decide_eq_true (by kernel_rfl)) h (fun x hx => hb.same (hlt x hx)) hsp
end
def nodeZ : Value := .agg #[.int .i64 0, .int .i64 0, .int .i64 0, .string ⟨#[]⟩, .slice none 0 0]
end Go.Proofs.Ytjigahnncojikaa
