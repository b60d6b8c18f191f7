/- A text of this proof. -/
import Derived.Test.YtfpobiheiloamaaDaj
import Derived.Test.YtfpobiheiloamaaDak
import Derived.Test.YtfpobiheiloamaaDaq

/- arguments of the statements: types, pairs, rows of pairs, of integers -/
set_option maxRecDepth 100000
namespace Go.Proofs.Ytfpobiheiloamaa
open Go Go.RowKit Go.V Go.ChangeShapes Go.WideShapes Go.ChangeAt
set_option linter.unusedVariables false
set_option linter.unusedSimpArgs false

def LTr : List TypeId := [9, 3, 25, 23, 63, 42, 34]
theorem hLTr : LTr.all (qjb Try.prog LTr) = true := by kernel_rfl
instance : Inhabited Pr := ⟨R0⟩
theorem q94 {f : Nat} {ds : List AV} (h : TC Try.prog f 63 ds) : ∃ p : Pr, elA Try.prog 63 ds = encR p := by
 obtain ⟨f', rfl, hl, h⟩ := qbdp Try.underlying63 h
 rw [show Try.prog.cellsOf 63 = 4 by kernel_rfl] at hl
 match ds, hl with
 | [a, b, c, e], _ =>
   have h0 := h (3, 0) (by decide)
   have h1 := h (25, 1) (by decide)
   simp only [show Try.prog.cellsOf 25 = 3 by kernel_rfl, show Try.prog.cellsOf 3 = 1 by kernel_rfl, List.drop_zero, List.drop_succ_cons, List.take_succ_cons, List.take_zero] at h0 h1
   obtain ⟨n0, h0⟩ := qvh Try.underlying3 h0
   obtain ⟨t, h1⟩ := qu5 f' _ h1
   cases h0; cases h1
   exact ⟨⟨n0, t⟩, qu1 Try.underlying63 _⟩
section
variable {H : Type} {enc' : TypeId × Value → H} {W W' : World} {base : Nat} {v : Value} {d : DataW H} {p : List MemPlace} {sp : Nat → Bool}
theorem qsv (hok : Value.okWide Try.prog W .any base 42 v) (h : DataW.Trod enc' Try.prog W 0 (fun _ => true) true 42 v d p) : ∃ l, VR W (MM W) [] (.sl 4 (qi l)) v := by
 obtain ⟨f, cs, h1, h2⟩ := qus hLTr (by decide) hok h
 obtain ⟨f', es, rfl, rfl, he⟩ := qbbg Try.underlying42 h1
 obtain ⟨l, rfl⟩ := qng he fun ds hd => q94 hd
 rw [qz5 Try.underlying42, show Try.prog.cellsOf 63 = 4 by kernel_rfl] at h2
 exact ⟨l, h2⟩
theorem qwx (hok : Value.okWide Try.prog W .any base 25 v) (h : DataW.Trod enc' Try.prog W 0 (fun _ => true) true 25 v d p) : ∃ l, VR W (MM W) [] (encY l) v := by
 obtain ⟨f, cs, h1, h2⟩ := qus hLTr (by decide) hok h
 obtain ⟨l, rfl⟩ := qu5 f _ h1
 rw [qu1 Try.underlying25, qbi] at h2
 exact ⟨l, h2⟩
theorem qzs (hok : Value.okWide Try.prog W .any base 34 v) (h : DataW.Trod enc' Try.prog W 0 (fun _ => true) true 34 v d p) : ∃ l, VR W (MM W) [] (.sl 1 (ints l)) v := by
 obtain ⟨f, cs, h1, h2⟩ := qus hLTr (by decide) hok h
 obtain ⟨f', es, rfl, rfl, he⟩ := qbbg Try.underlying34 h1
 obtain ⟨l, rfl⟩ := qng (enc := AV.int .i64) he fun ds hd => by
  obtain ⟨n, rfl⟩ := qvh Try.underlying3 hd
  exact ⟨n, q8b Try.underlying3 _⟩
 rw [qz5 Try.underlying34, show Try.prog.cellsOf 3 = 1 by kernel_rfl] at h2
 exact ⟨l, h2⟩
theorem qrb (h : DataW.Trod enc' Try.prog W 0 (fun _ => true) true 42 v d p) (hlt : ∀ x ∈ p, x.block < W.heap.size) (hb : Below W.heap.size W W') (hsp : ∀ x ∈ p, sp x.block = true) : DataW.Trod enc' Try.prog W' 0 sp true 42 v d p :=
 WideElems.Trod_stays qnf (show Try.prog.readableRec 42 = true by kernel_rfl) (of_decide_eq_true (by kernel_rfl)) h (fun x hx => hb.same (hlt x hx)) hsp
theorem que (h : DataW.Trod enc' Try.prog W 0 (fun _ => true) true 25 v d p) (hlt : ∀ x ∈ p, x.block < W.heap.size) (hb : Below W.heap.size W W') (hsp : ∀ x ∈ p, sp x.block = true) : DataW.Trod enc' Try.prog W' 0 sp true 25 v d p :=
 WideElems.Trod_stays qnf (show Try.prog.readableRec 25 = true by kernel_rfl) (of_decide_eq_true (by kernel_rfl)) h (fun x hx => hb.same (hlt x hx)) hsp
theorem qs4 (h : DataW.Trod enc' Try.prog W 0 (fun _ => true) true 34 v d p) (hlt : ∀ x ∈ p, x.block < W.heap.size) (hb : Below W.heap.size W W') (hsp : ∀ x ∈ p, sp x.block = true) : DataW.Trod enc' Try.prog W' 0 sp true 34 v d p :=
 WideElems.Trod_stays qnf (show Try.prog.readableRec 34 = true by kernel_rfl) (of_decide_eq_true (by kernel_rfl)) h (fun x hx => hb.same (hlt x hx)) hsp
end
end Go.Proofs.Ytfpobiheiloamaa
