/- A text of this proof. -/
import Derived.Test.YtbbjelfnocmaoaaAaj
import Derived.Test.YtbbjelfnocmaoaaAak

/- arguments of the statements: instances, and rows of them; a predicate; a number -/
set_option maxRecDepth 100000
namespace Go.Proofs.Ytbbjelfnocmaoaa
open Go Go.RowKit Go.V Go.ChangeShapes Go.WideShapes Go.ChangeAt
set_option linter.unusedVariables false
set_option linter.unusedSimpArgs false

def LTi : List TypeId := [9, 3, 25, 23, 27, 30, 39, 22]
theorem hLTi : LTi.all (qh8 Try.prog LTi) = true := by kernel_rfl
instance : Inhabited Ins := ⟨I0⟩
theorem q2k {f : Nat} {ds : List AV} (h : TC Try.prog f 39 ds) : ∃ x : Ins, elA Try.prog 39 ds = encI x := by
 obtain ⟨f', rfl, hl, h⟩ := q3h Try.underlying39 h
 rw [show Try.prog.cellsOf 39 = 4 by kernel_rfl] at hl
 match ds, hl with
 | [a, b, c, e], _ =>
   have h0 := h (9, 0) (by decide)
   have h1 := h (9, 1) (by decide)
   have h2 := h (3, 2) (by decide)
   have h3 := h (30, 3) (by decide)
   simp only [show Try.prog.cellsOf 30 = 1 by kernel_rfl, show Try.prog.cellsOf 3 = 1 by kernel_rfl, show Try.prog.cellsOf 9 = 1 by kernel_rfl, List.drop_zero, List.drop_succ_cons, List.take_succ_cons, List.take_zero] at h0 h1 h2 h3
   obtain ⟨n0, e0⟩ := qol Try.underlying9 h0
   obtain ⟨n1, e1⟩ := qol Try.underlying9 h1
   obtain ⟨n2, e2⟩ := qvl Try.underlying3 h2
   obtain ⟨f'', es, rfl, e3, he⟩ := q8b Try.underlying30 h3
   obtain ⟨l, rfl⟩ := qm0 he fun ds hd => qst hd
   rw [show Try.prog.cellsOf 27 = 4 by kernel_rfl] at e3
   cases e0; cases e1; cases e2; cases e3
   exact ⟨⟨n0, n1, n2, l⟩, qup Try.underlying39 _⟩
section
variable {H : Type} {enc' : TypeId × Value → H} {W W' : World} {base : Nat} {v : Value} {d : DataW H} {p : List MemPlace} {sp : Nat → Bool}
theorem qr8 (hok : Value.okWide Try.prog W .any base 22 v) (h : DataW.Trod enc' Try.prog W 0 (fun _ => true) true 22 v d p) : ∃ l, VR W (MM W) [] (.sl 4 (qbh l)) v := by
 obtain ⟨f, cs, h1, h2⟩ := qt8 hLTi (by decide) hok h
 obtain ⟨f', es, rfl, rfl, he⟩ := q8b Try.underlying22 h1
 obtain ⟨l, rfl⟩ := qm0 he fun ds hd => q2k hd
 rw [qbha Try.underlying22, show Try.prog.cellsOf 39 = 4 by kernel_rfl] at h2
 exact ⟨l, h2⟩
theorem q5a (hok : Value.okWide Try.prog W .any base 3 v) (h : DataW.Trod enc' Try.prog W 0 (fun _ => true) true 3 v d p) : ∃ n, VR W (MM W) [] (.int .i64 n) v := by
 obtain ⟨f, cs, h1, h2⟩ := qt8 hLTi (by decide) hok h
 obtain ⟨l, rfl⟩ := qvl Try.underlying3 h1
 rw [q1j Try.underlying3] at h2
 exact ⟨l, h2⟩
theorem qpy (h : DataW.Trod enc' Try.prog W 0 (fun _ => true) true 22 v d p) (hlt : ∀ x ∈ p, x.block < W.heap.size) (hb : Below W.heap.size W W') (hsp : ∀ x ∈ p, sp x.block = true) : DataW.Trod enc' Try.prog W' 0 sp true 22 v d p :=
 WideElems.Trod_stays qny (show Try.prog.readableRec 22 = true by kernel_rfl) (of_decide_eq_true (by kernel_rfl)) h (fun x hx => hb.same (hlt x hx)) hsp
theorem qzz (h : DataW.Trod enc' Try.prog W 0 (fun _ => true) true 3 v d p) (hlt : ∀ x ∈ p, x.block < W.heap.size) (hb : Below W.heap.size W W') (hsp : ∀ x ∈ p, sp x.block = true) : DataW.Trod enc' Try.prog W' 0 sp true 3 v d p :=
 WideElems.Trod_stays qny (show Try.prog.readableRec 3 = true by kernel_rfl) (of_decide_eq_true (by kernel_rfl)) h (fun x hx => hb.same (hlt x hx)) hsp
end
end Go.Proofs.Ytbbjelfnocmaoaa
