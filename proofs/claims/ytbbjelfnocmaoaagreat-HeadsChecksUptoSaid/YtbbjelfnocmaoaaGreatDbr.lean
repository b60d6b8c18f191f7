/- A text of this proof. -/
import Derived.Test.YtbbjelfnocmaoaaGreatDal
import Derived.Test.YtbbjelfnocmaoaaGreatDay
import Derived.Test.YtbbjelfnocmaoaaGreatDbp
import Derived.Test.YtbbjelfnocmaoaaGreatDbq

/- arguments of the statements that are not too great: instances -/
set_option maxRecDepth 100000
namespace Go.Proofs.YtbbjelfnocmaoaaGreat
open Go Go.RowKit Go.V Go.ChangeShapes Go.WideShapes Go.ChangeAt
set_option linter.unusedVariables false
set_option linter.unusedSimpArgs false

theorem qys (x : Ins) : szA (encI x) = x.cls.length + x.con.length + 3 + 1 + szAs (qu x.ps) := by
 simp only [encI, szA, szAs]; omega
section
variable {H : Type} {enc' : TypeId × Value → H} {W W' : World} {base : Nat} {v : Value} {d : DataW H} {p : List MemPlace} {sp : Nat → Bool}
theorem qsr (hok : Value.okWide Tryz.prog W .any base 22 v) (h : DataW.Trod enc' Tryz.prog W 0 (fun _ => true) true 22 v d p) : ∃ l, VR W (MM W) [] (.sl 4 (qbo l)) v ∧ szA (.sl 4 (qbo l)) ≤ Rows.uptoBulk d := by
 obtain ⟨f, cs, h1, h2, h3⟩ := qwr (q4s H) hLTi (by decide) hok h
 obtain ⟨f', es, rfl, rfl, he⟩ := q6u Tryz.underlying22 h1
 obtain ⟨l, rfl⟩ := qpj he fun ds hd => qxc hd
 rw [qbpz Tryz.underlying22, show Tryz.prog.cellsOf 25 = 4 by kernel_rfl] at h2 h3
 exact ⟨l, h2, h3⟩
theorem qwg (hok : Value.okWide Tryz.prog W .any base 25 v) (h : DataW.Trod enc' Tryz.prog W 0 (fun _ => true) true 25 v d p) : ∃ l, VR W (MM W) [] (encI l) v ∧ szA (encI l) ≤ Rows.uptoBulk d := by
 obtain ⟨f, cs, h1, h2, h3⟩ := qwr (q4s H) hLTi (by decide) hok h
 obtain ⟨l, hl⟩ := qxc h1
 rw [hl] at h2 h3
 exact ⟨l, h2, h3⟩
theorem qyg (h : DataW.Trod enc' Tryz.prog W 0 (fun _ => true) true 25 v d p) (hlt : ∀ x ∈ p, x.block < W.heap.size) (hb : Below W.heap.size W W') (hsp : ∀ x ∈ p, sp x.block = true) : DataW.Trod enc' Tryz.prog W' 0 sp true 25 v d p :=
 WideElems.Trod_stays qvh (show Tryz.prog.readableRec 25 = true by kernel_rfl) (of_decide_eq_true (by kernel_rfl)) h (fun x hx => hb.same (hlt x hx)) hsp
end
theorem qbr9 {n : Nat} (h : n ≤ 200) : (AV.sl 3 (qj (vsI n))).wf := by
 refine ⟨by rw [qo, ql1]; unfold maxLen; omega, (qi5 _).2 fun a ha => ?_⟩
 rw [qbx, List.mem_map] at ha
 obtain ⟨t, ht, rfl⟩ := ha
 rw [vsI, List.mem_map] at ht
 obtain ⟨i, hi, rfl⟩ := ht
 rw [List.mem_range] at hi
 rw [encY, qj]
 refine ⟨Nat.zero_le _, ?_, ⟨Nat.zero_le _, trivial⟩, trivial⟩
 show (Lit.int .i64 (i : Int)).wf = true
 simp only [Lit.wf, IntKind.wrap, IntKind.i64]
 rw [Bool.and_eq_true, decide_eq_true_eq, decide_eq_true_eq]
 have e1 : IntKind.i64.min = -9223372036854775808 := rfl
 have e2 : IntKind.i64.max = 9223372036854775807 := rfl
 omega
theorem qbp0 (n : Nat) : qei (vsI n) = 0 ∧ szYs (vsI n) = n := by
 induction n with
 | zero => exact ⟨rfl, rfl⟩
 | succ n ih =>
   have hc : ∀ a b : List Ty, qei (a ++ b) = qei a + qei b := fun a b => by
    induction a with
    | nil => simp [qei]
    | cons y r ih => rw [List.cons_append, qei, qei, ih]; omega
   rw [qln, hc, qq4, ih.1, ih.2]
   exact ⟨rfl, by simp [szYs, szY]⟩
theorem qbck {x : Ins} (hw : (encI x).wf) (hs : szA (encI x) ≤ 1048576) (hf : fewI [x] = true) : okI x := by
 obtain ⟨w1, w2, w3, w4⟩ := qjt hw
 rw [qys] at hs
 rw [fewI, Bool.and_eq_true] at hf
 have hf := List.all_eq_true.1 hf.2 x (by simp)
 simp only [Bool.and_eq_true, decide_eq_true_eq] at hf
 have hps : szA (.sl 4 (qu x.ps)) ≤ 1048576 := by rw [szA]; omega
 have hl30 := (q0k (qb7 w4).1 hf.1).1
 refine ⟨qbgn w4 hps hf.1, hl30, ?_⟩
 have h1 := qsx x.ps (qb7 w4).2
 have h2 := qbp0 x.n.toNat
 have h3 : (encY (qdo x)).wf := by
  rw [qgx, encY]
  exact ⟨w2, rfl, qbr9 (by omega), trivial⟩
 have h4 := qjy h3
 rw [qgx, conY, szY, h2.1, h2.2] at h4
 rw [qgx]
 rw [qhk] at hs
 unfold Big
 omega
end Go.Proofs.YtbbjelfnocmaoaaGreat
