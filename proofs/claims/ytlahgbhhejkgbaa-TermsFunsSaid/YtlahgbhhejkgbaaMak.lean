/- A text of this proof. -/
import Derived.Test.YtlahgbhhejkgbaaRows
import Derived.Test.YtlahgbhhejkgbaaMaj

/- arguments of the statements: types, rows of types, integers, texts -/
set_option maxRecDepth 100000
namespace Go.Proofs.Ytlahgbhhejkgbaa
open Go Go.RowKit Go.V Go.ChangeShapes Go.WideShapes Go.ChangeAt
set_option linter.unusedVariables false
set_option linter.unusedSimpArgs false

theorem own : ownKnob Try.prog.godebug = none := by kernel_rfl
theorem qrx : laidOutB Try.prog = true := by kernel_rfl
def LTt : List TypeId := [9, 3, 24, 22]
theorem hLTt : LTt.all (qh7 Try.prog LTt) = true := by kernel_rfl
instance : Inhabited Ty := ⟨Y0⟩
theorem qok : ∀ (f : Nat) (ds : List AV), TC Try.prog f 24 ds → ∃ t : Ty, ds = yc t := by
 intro f
 induction f using Nat.strongRecOn with
 | ind f ih =>
   intro ds h
   obtain ⟨f', rfl, hl, h⟩ := qbbc Try.underlying24 h
   rw [show Try.prog.cellsOf 24 = 3 by kernel_rfl] at hl
   match ds, hl with
   | [a, b, c], _ =>
     have h0 := h (9, 0) (by decide)
     have h1 := h (3, 1) (by decide)
     have h2 := h (22, 2) (by decide)
     simp only [show Try.prog.cellsOf 3 = 1 by kernel_rfl, show Try.prog.cellsOf 9 = 1 by kernel_rfl, show Try.prog.cellsOf 22 = 1 by kernel_rfl, List.drop_zero, List.drop_succ_cons, List.take_succ_cons, List.take_zero] at h0 h1 h2
     obtain ⟨n0, e0⟩ := q90 Try.underlying9 h0
     obtain ⟨n1, e1⟩ := q4w Try.underlying3 h1
     obtain ⟨f'', es, rfl, e2, he⟩ := qbas Try.underlying22 h2
     obtain ⟨l, rfl⟩ := qpe (enc := encY) he fun ds hd => by
      obtain ⟨t, rfl⟩ := ih f'' (by omega) ds hd
      exact ⟨t, by rw [qr1 Try.underlying24]; exact q9 t⟩
     rw [show Try.prog.cellsOf 24 = 3 by kernel_rfl, ← qbs] at e2
     cases e0; cases e1; cases e2
     exact ⟨.mk n0 n1 l, rfl⟩
section
variable {H : Type} {enc' : TypeId × Value → H} {W W' : World} {base : Nat} {v : Value} {d : DataW H} {p : List MemPlace} {sp : Nat → Bool}
theorem qup (hok : Value.okWide Try.prog W .any base 24 v) (h : DataW.Trod enc' Try.prog W 0 (fun _ => true) true 24 v d p) : ∃ l, VR W (MM W) [] (encY l) v := by
 obtain ⟨f, cs, h1, h2⟩ := qwl hLTt (by decide) hok h
 obtain ⟨l, rfl⟩ := qok f _ h1
 rw [qr1 Try.underlying24, q9] at h2
 exact ⟨l, h2⟩
theorem qqr (hok : Value.okWide Try.prog W .any base 22 v) (h : DataW.Trod enc' Try.prog W 0 (fun _ => true) true 22 v d p) : ∃ l, VR W (MM W) [] (.sl 3 (qi l)) v := by
 obtain ⟨f, cs, h1, h2⟩ := qwl hLTt (by decide) hok h
 obtain ⟨f', es, rfl, rfl, he⟩ := qbas Try.underlying22 h1
 obtain ⟨l, rfl⟩ := qpe (enc := encY) he fun ds hd => by
  obtain ⟨t, rfl⟩ := qok _ _ hd
  exact ⟨t, by rw [qr1 Try.underlying24, q9]⟩
 rw [q6j Try.underlying22, show Try.prog.cellsOf 24 = 3 by kernel_rfl, ← qbs] at h2
 exact ⟨l, h2⟩
theorem qrh (h : DataW.Trod enc' Try.prog W 0 (fun _ => true) true 24 v d p) (hlt : ∀ x ∈ p, x.block < W.heap.size) (hb : Below W.heap.size W W') (hsp : ∀ x ∈ p, sp x.block = true) : DataW.Trod enc' Try.prog W' 0 sp true 24 v d p :=
 WideElems.Trod_stays qrx (show Try.prog.readableRec 24 = true by kernel_rfl) (of_decide_eq_true (by kernel_rfl)) h (fun x hx => hb.same (hlt x hx)) hsp
theorem qnw (h : DataW.Trod enc' Try.prog W 0 (fun _ => true) true 22 v d p) (hlt : ∀ x ∈ p, x.block < W.heap.size) (hb : Below W.heap.size W W') (hsp : ∀ x ∈ p, sp x.block = true) : DataW.Trod enc' Try.prog W' 0 sp true 22 v d p :=
 WideElems.Trod_stays qrx (show Try.prog.readableRec 22 = true by kernel_rfl) (of_decide_eq_true (by kernel_rfl)) h (fun x hx => hb.same (hlt x hx)) hsp
end
end Go.Proofs.Ytlahgbhhejkgbaa
