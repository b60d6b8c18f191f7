/- A text of this proof. -/
import Derived.Test.YtjigahnncojikaaPal
import Derived.Test.YtjigahnncojikaaPam

/- arguments of the statements: rows of words, numbers -/
set_option maxRecDepth 100000
namespace Go.Proofs.Ytjigahnncojikaa
open Go Go.RowKit Go.V Go.ChangeShapes Go.WideShapes Go.ChangeAt
set_option linter.unusedVariables false
set_option linter.unusedSimpArgs false

def LTb : List TypeId := [9, 3, 37, 33]
theorem hLTb : LTb.all (plain1 Try.prog LTb) = true := by kernel_rfl
section
variable {H : Type} {enc' : TypeId × Value → H} {W W' : World} {base : Nat} {v : Value} {d : DataW H} {p : List MemPlace} {sp : Nat → Bool}
theorem arg_int (hok : Value.okWide Try.prog W .any base 3 v) (h : DataW.Trod enc' Try.prog W 0 (fun _ => true) true 3 v d p) : ∃ n, VR W (MM W) [] (.int .i64 n) v := by
  obtain ⟨f, cs, h1, h2⟩ := vr_arg hLTb (by decide) hok h
  obtain ⟨l, rfl⟩ := tc_int Try.underlying3 h1
  rw [elA_int Try.underlying3] at h2
  exact ⟨l, h2⟩
theorem tc_tok {f : Nat} {ds : List AV} (h : TC Try.prog f 37 ds) : ∃ t : T, elA Try.prog 37 ds = encT t := by
  obtain ⟨f', rfl, hl, h⟩ := tc_st Try.underlying37 h
  rw [show Try.prog.cellsOf 37 = 4 by kernel_rfl] at hl
  match ds, hl with
  | [a, b, c, e], _ =>
    have h0 := h (3, 0) (by decide)
    have h1 := h (3, 1) (by decide)
    have h2 := h (3, 2) (by decide)
    have h3 := h (9, 3) (by decide)
    simp only [show Try.prog.cellsOf 3 = 1 by kernel_rfl, show Try.prog.cellsOf 9 = 1 by kernel_rfl, List.drop_zero, List.drop_succ_cons, List.take_succ_cons, List.take_zero] at h0 h1 h2 h3
    obtain ⟨n0, h0⟩ := tc_int Try.underlying3 h0
    obtain ⟨n1, h1⟩ := tc_int Try.underlying3 h1
    obtain ⟨n2, h2⟩ := tc_int Try.underlying3 h2
    obtain ⟨n3, h3⟩ := tc_str Try.underlying9 h3
    cases h0; cases h1; cases h2; cases h3
    exact ⟨⟨n0, n1, n2, n3⟩, elA_st Try.underlying37 _⟩
instance : Inhabited T := ⟨T0⟩
theorem arg_toks (hok : Value.okWide Try.prog W .any base 33 v) (h : DataW.Trod enc' Try.prog W 0 (fun _ => true) true 33 v d p) : ∃ l, VR W (MM W) [] (.sl 4 (encTs l)) v := by
  obtain ⟨f, cs, h1, h2⟩ := vr_arg hLTb (by decide) hok h
  obtain ⟨f', es, rfl, rfl, he⟩ := tc_sl Try.underlying33 h1
  obtain ⟨l, rfl⟩ := tc_list he fun ds hd => tc_tok hd
  rw [elA_sl Try.underlying33, show Try.prog.cellsOf 37 = 4 by kernel_rfl] at h2
  exact ⟨l, h2⟩
theorem stay_int (h : DataW.Trod enc' Try.prog W 0 (fun _ => true) true 3 v d p) (hlt : ∀ x ∈ p, x.block < W.heap.size) (hb : Below W.heap.size W W') (hsp : ∀ x ∈ p, sp x.block = true) : DataW.Trod enc' Try.prog W' 0 sp true 3 v d p :=
  WideElems.Trod_stays laidOut (show Try.prog.readableRec 3 = true by kernel_rfl) (of_decide_eq_true (by kernel_rfl)) h (fun x hx => hb.same (hlt x hx)) hsp
theorem stay_toks (h : DataW.Trod enc' Try.prog W 0 (fun _ => true) true 33 v d p) (hlt : ∀ x ∈ p, x.block < W.heap.size) (hb : Below W.heap.size W W') (hsp : ∀ x ∈ p, sp x.block = true) : DataW.Trod enc' Try.prog W' 0 sp true 33 v d p :=
  WideElems.Trod_stays laidOut (show Try.prog.readableRec 33 = true by kernel_rfl) (of_decide_eq_true (by kernel_rfl)) h (fun x hx => hb.same (hlt x hx)) hsp
end
end Go.Proofs.Ytjigahnncojikaa
