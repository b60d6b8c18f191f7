/- A text of this proof. -/
import Derived.Test.YtmekebfgmjaenaaGreatAam
import Derived.Test.YtmekebfgmjaenaaGreatAan

/- arguments of the statements: rows of words, numbers -/
set_option maxRecDepth 100000
namespace Go.Proofs.YtmekebfgmjaenaaGreat
open Go Go.RowKit Go.V Go.ChangeShapes Go.WideShapes Go.ChangeAt
set_option linter.unusedVariables false
set_option linter.unusedSimpArgs false

def LTb : List TypeId := [4, 9, 3, 27, 22]
theorem hLTb : LTb.all (qpb Tryz.prog LTb) = true := by kernel_rfl
section
variable {H : Type} {enc' : TypeId × Value → H} {W W' : World} {base : Nat} {v : Value} {d : DataW H} {p : List MemPlace} {sp : Nat → Bool}
theorem q7b (hok : Value.okWide Tryz.prog W .any base 4 v) (h : DataW.Trod enc' Tryz.prog W 0 (fun _ => true) true 4 v d p) : ∃ n, VR W (MM W) [] (.bool n) v := by
  obtain ⟨f, cs, h1, h2⟩ := q9v hLTb (by decide) hok h
  obtain ⟨l, rfl⟩ := qbal Tryz.underlying4 h1
  rw [q4q Tryz.underlying4] at h2
  exact ⟨l, h2⟩
theorem qbu0 {f : Nat} {ds : List AV} (h : TC Tryz.prog f 27 ds) : ∃ t : T, elA Tryz.prog 27 ds = encT t := by
  obtain ⟨f', rfl, hl, h⟩ := qbzw Tryz.underlying27 h
  rw [show Tryz.prog.cellsOf 27 = 4 by kernel_rfl] at hl
  match ds, hl with
  | [a, b, c, e], _ =>
    have h0 := h (3, 0) (by decide)
    have h1 := h (3, 1) (by decide)
    have h2 := h (3, 2) (by decide)
    have h3 := h (9, 3) (by decide)
    simp only [show Tryz.prog.cellsOf 3 = 1 by kernel_rfl, show Tryz.prog.cellsOf 9 = 1 by kernel_rfl, List.drop_zero, List.drop_succ_cons, List.take_succ_cons, List.take_zero] at h0 h1 h2 h3
    obtain ⟨n0, h0⟩ := q2q Tryz.underlying3 h0
    obtain ⟨n1, h1⟩ := q2q Tryz.underlying3 h1
    obtain ⟨n2, h2⟩ := q2q Tryz.underlying3 h2
    obtain ⟨n3, h3⟩ := qbxa Tryz.underlying9 h3
    cases h0; cases h1; cases h2; cases h3
    exact ⟨⟨n0, n1, n2, n3⟩, qbt6 Tryz.underlying27 _⟩
instance : Inhabited T := ⟨T0⟩
theorem q43 (hok : Value.okWide Tryz.prog W .any base 22 v) (h : DataW.Trod enc' Tryz.prog W 0 (fun _ => true) true 22 v d p) : ∃ l, VR W (MM W) [] (.sl 4 (qcy l)) v := by
  obtain ⟨f, cs, h1, h2⟩ := q9v hLTb (by decide) hok h
  obtain ⟨f', es, rfl, rfl, he⟩ := qbzz Tryz.underlying22 h1
  obtain ⟨l, rfl⟩ := qble he fun ds hd => qbu0 hd
  rw [qbvr Tryz.underlying22, show Tryz.prog.cellsOf 27 = 4 by kernel_rfl] at h2
  exact ⟨l, h2⟩
theorem q2y (h : DataW.Trod enc' Tryz.prog W 0 (fun _ => true) true 4 v d p) (hlt : ∀ x ∈ p, x.block < W.heap.size) (hb : Below W.heap.size W W') (hsp : ∀ x ∈ p, sp x.block = true) : DataW.Trod enc' Tryz.prog W' 0 sp true 4 v d p :=
  WideElems.Trod_stays q17 (show Tryz.prog.readableRec 4 = true by kernel_rfl) (of_decide_eq_true (by kernel_rfl)) h (fun x hx => hb.same (hlt x hx)) hsp
theorem qze (h : DataW.Trod enc' Tryz.prog W 0 (fun _ => true) true 22 v d p) (hlt : ∀ x ∈ p, x.block < W.heap.size) (hb : Below W.heap.size W W') (hsp : ∀ x ∈ p, sp x.block = true) : DataW.Trod enc' Tryz.prog W' 0 sp true 22 v d p :=
  WideElems.Trod_stays q17 (show Tryz.prog.readableRec 22 = true by kernel_rfl) (of_decide_eq_true (by kernel_rfl)) h (fun x hx => hb.same (hlt x hx)) hsp
end
end Go.Proofs.YtmekebfgmjaenaaGreat
