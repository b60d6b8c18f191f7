/- A text of this proof. -/
import Derived.Test.YtlahgbhhejkgbaaRows
import Derived.Test.YtlahgbhhejkgbaaRaj

/- arguments of the statements: types, rows of types, integers, texts -/
set_option maxRecDepth 100000
namespace Go.Proofs.Ytlahgbhhejkgbaa
open Go Go.RowKit Go.V Go.ChangeShapes Go.WideShapes Go.ChangeAt
set_option linter.unusedVariables false
set_option linter.unusedSimpArgs false

theorem own : ownKnob Try.prog.godebug = none := by kernel_rfl
theorem q8e : laidOutB Try.prog = true := by kernel_rfl
def LTt : List TypeId := [9, 3, 24, 22]
theorem hLTt : LTt.all (qkc Try.prog LTt) = true := by kernel_rfl
instance : Inhabited Ty := ⟨Y0⟩
theorem qbd1 : ∀ (f : Nat) (ds : List AV), TC Try.prog f 24 ds → ∃ t : Ty, ds = yc t := by
 intro f
 induction f using Nat.strongRecOn with
 | ind f ih =>
   intro ds h
   obtain ⟨f', rfl, hl, h⟩ := qbpe Try.underlying24 h
   rw [show Try.prog.cellsOf 24 = 3 by kernel_rfl] at hl
   match ds, hl with
   | [a, b, c], _ =>
     have h0 := h (9, 0) (by decide)
     have h1 := h (3, 1) (by decide)
     have h2 := h (22, 2) (by decide)
     simp only [show Try.prog.cellsOf 3 = 1 by kernel_rfl, show Try.prog.cellsOf 9 = 1 by kernel_rfl, show Try.prog.cellsOf 22 = 1 by kernel_rfl, List.drop_zero, List.drop_succ_cons, List.take_succ_cons, List.take_zero] at h0 h1 h2
     obtain ⟨n0, e0⟩ := qbfz Try.underlying9 h0
     obtain ⟨n1, e1⟩ := qbj8 Try.underlying3 h1
     obtain ⟨f'', es, rfl, e2, he⟩ := qbow Try.underlying22 h2
     obtain ⟨l, rfl⟩ := q9m (enc := encY) he fun ds hd => by
      obtain ⟨t, rfl⟩ := ih f'' (by omega) ds hd
      exact ⟨t, by rw [q36 Try.underlying24]; exact qca t⟩
     rw [show Try.prog.cellsOf 24 = 3 by kernel_rfl, ← qcj] at e2
     cases e0; cases e1; cases e2
     exact ⟨.mk n0 n1 l, rfl⟩
section
variable {H : Type} {enc' : TypeId × Value → H} {W W' : World} {base : Nat} {v : Value} {d : DataW H} {p : List MemPlace} {sp : Nat → Bool}
theorem qqx (hok : Value.okWide Try.prog W .any base 24 v) (h : DataW.Trod enc' Try.prog W 0 (fun _ => true) true 24 v d p) : ∃ l, VR W (MM W) [] (encY l) v := by
 obtain ⟨f, cs, h1, h2⟩ := qbgw hLTt (by decide) hok h
 obtain ⟨l, rfl⟩ := qbd1 f _ h1
 rw [q36 Try.underlying24, qca] at h2
 exact ⟨l, h2⟩
theorem qn0 (h : DataW.Trod enc' Try.prog W 0 (fun _ => true) true 24 v d p) (hlt : ∀ x ∈ p, x.block < W.heap.size) (hb : Below W.heap.size W W') (hsp : ∀ x ∈ p, sp x.block = true) : DataW.Trod enc' Try.prog W' 0 sp true 24 v d p :=
 WideElems.Trod_stays q8e (show Try.prog.readableRec 24 = true by kernel_rfl) (of_decide_eq_true (by kernel_rfl)) h (fun x hx => hb.same (hlt x hx)) hsp
end
end Go.Proofs.Ytlahgbhhejkgbaa
