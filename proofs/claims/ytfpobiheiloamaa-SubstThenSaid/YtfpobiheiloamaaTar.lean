/- A text of this proof. -/
import Derived.Test.YtfpobiheiloamaaTaj
import Derived.Test.YtfpobiheiloamaaTak
import Derived.Test.YtfpobiheiloamaaTaq

/- arguments of the statements: types, pairs, rows of pairs, of integers -/
set_option maxRecDepth 100000
namespace Go.Proofs.Ytfpobiheiloamaa
open Go Go.RowKit Go.V Go.ChangeShapes Go.WideShapes Go.ChangeAt
set_option linter.unusedVariables false
set_option linter.unusedSimpArgs false

def LTr : List TypeId := [9, 3, 25, 23, 63, 42, 34]
theorem hLTr : LTr.all (qif Try.prog LTr) = true := by kernel_rfl
instance : Inhabited Pr := ⟨R0⟩
theorem q36 {f : Nat} {ds : List AV} (h : TC Try.prog f 63 ds) : ∃ p : Pr, elA Try.prog 63 ds = encR p := by
 obtain ⟨f', rfl, hl, h⟩ := qbcu Try.underlying63 h
 rw [show Try.prog.cellsOf 63 = 4 by kernel_rfl] at hl
 match ds, hl with
 | [a, b, c, e], _ =>
   have h0 := h (3, 0) (by decide)
   have h1 := h (25, 1) (by decide)
   simp only [show Try.prog.cellsOf 25 = 3 by kernel_rfl, show Try.prog.cellsOf 3 = 1 by kernel_rfl, List.drop_zero, List.drop_succ_cons, List.take_succ_cons, List.take_zero] at h0 h1
   obtain ⟨n0, h0⟩ := qxt Try.underlying3 h0
   obtain ⟨t, h1⟩ := qqm f' _ h1
   cases h0; cases h1
   exact ⟨⟨n0, t⟩, qqx Try.underlying63 _⟩
section
variable {H : Type} {enc' : TypeId × Value → H} {W W' : World} {base : Nat} {v : Value} {d : DataW H} {p : List MemPlace} {sp : Nat → Bool}
theorem qj5 (hok : Value.okWide Try.prog W .any base 42 v) (h : DataW.Trod enc' Try.prog W 0 (fun _ => true) true 42 v d p) : ∃ l, VR W (MM W) [] (.sl 4 (qr l)) v := by
 obtain ⟨f, cs, h1, h2⟩ := qxr hLTr (by decide) hok h
 obtain ⟨f', es, rfl, rfl, he⟩ := q8k Try.underlying42 h1
 obtain ⟨l, rfl⟩ := qrs he fun ds hd => q36 hd
 rw [qbbh Try.underlying42, show Try.prog.cellsOf 63 = 4 by kernel_rfl] at h2
 exact ⟨l, h2⟩
theorem qus (hok : Value.okWide Try.prog W .any base 25 v) (h : DataW.Trod enc' Try.prog W 0 (fun _ => true) true 25 v d p) : ∃ l, VR W (MM W) [] (encY l) v := by
 obtain ⟨f, cs, h1, h2⟩ := qxr hLTr (by decide) hok h
 obtain ⟨l, rfl⟩ := qqm f _ h1
 rw [qqx Try.underlying25, qbl] at h2
 exact ⟨l, h2⟩
theorem qib (h : DataW.Trod enc' Try.prog W 0 (fun _ => true) true 42 v d p) (hlt : ∀ x ∈ p, x.block < W.heap.size) (hb : Below W.heap.size W W') (hsp : ∀ x ∈ p, sp x.block = true) : DataW.Trod enc' Try.prog W' 0 sp true 42 v d p :=
 WideElems.Trod_stays qqt (show Try.prog.readableRec 42 = true by kernel_rfl) (of_decide_eq_true (by kernel_rfl)) h (fun x hx => hb.same (hlt x hx)) hsp
theorem qt6 (h : DataW.Trod enc' Try.prog W 0 (fun _ => true) true 25 v d p) (hlt : ∀ x ∈ p, x.block < W.heap.size) (hb : Below W.heap.size W W') (hsp : ∀ x ∈ p, sp x.block = true) : DataW.Trod enc' Try.prog W' 0 sp true 25 v d p :=
 WideElems.Trod_stays qqt (show Try.prog.readableRec 25 = true by kernel_rfl) (of_decide_eq_true (by kernel_rfl)) h (fun x hx => hb.same (hlt x hx)) hsp
end
end Go.Proofs.Ytfpobiheiloamaa
