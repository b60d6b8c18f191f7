/- A text of this proof. -/
import Derived.Test.YtfpobiheiloamaaOaj
import Derived.Test.YtfpobiheiloamaaOak
import Derived.Test.YtfpobiheiloamaaOau

/- arguments of the statements that are not too great: predicates -/
set_option maxRecDepth 100000
namespace Go.Proofs.Ytfpobiheiloamaa
open Go Go.RowKit Go.V Go.ChangeShapes Go.WideShapes Go.ChangeAt
set_option linter.unusedVariables false
set_option linter.unusedSimpArgs false

theorem q67 (H : Type) : BulkOK (Rows.uptoBulk (H := H)) Rows.uptoBulkAll where
 one := fun d => by
  cases d with
  | lit l => cases l <;> simp [Rows.uptoBulk]
  | nil => simp [Rows.uptoBulk]
  | ptr d => simp [Rows.uptoBulk]
  | slice elems spare => simp [Rows.uptoBulk]
  | agg parts => simp [Rows.uptoBulk]
  | iface t d => simp [Rows.uptoBulk]
  | map entries => simp [Rows.uptoBulk]
  | held h => simp [Rows.uptoBulk]
 str := fun s => by simp [Rows.uptoBulk]
 slice := fun es sp => by simp only [Rows.uptoBulk]; omega
 agg := fun l => by simp only [Rows.uptoBulk]; omega
 cons := fun d l => by simp only [Rows.uptoBulkAll]
mutual
theorem qmx : ∀ t, szA (encY t) = conY t + 3 * szY t
 | .mk c v l => by
   rw [encY, szA, szAs, szAs, szAs, szAs, szA, szA, szA, qio l, conY, szY]
   omega
theorem qio : ∀ l, szAs (q8 l) = qh1 l + 3 * szYs l
 | [] => by rw [q8, szAs, qh1, szYs]
 | x :: r => by rw [q8, szAs, qh1, szYs, qmx x, qio r]; omega
end
theorem qtx (p : Pd) : szA (encP p) = p.cls.length + 1 + (conY p.ty + 3 * szY p.ty) := by
 have := qmx p.ty
 rw [← qbh] at this
 simp only [encP, szA, szAs] at this ⊢
 omega
section
variable {H : Type} {enc' : TypeId × Value → H} {W W' : World} {base : Nat} {v : Value} {d : DataW H} {p : List MemPlace} {sp : Nat → Bool}
theorem qhh (hok : Value.okWide Try.prog W .any base 27 v) (h : DataW.Trod enc' Try.prog W 0 (fun _ => true) true 27 v d p) : ∃ l, VR W (MM W) [] (encP l) v ∧ szA (encP l) ≤ Rows.uptoBulk d := by
 obtain ⟨f, cs, h1, h2, h3⟩ := qzl (q67 H) hLTp (by decide) hok h
 obtain ⟨l, hl⟩ := qxj h1
 rw [hl] at h2 h3
 exact ⟨l, h2, h3⟩
theorem q05 {l : AV} (h : VR W (MM W) [] l v) : l.wf := qq2 _ _ h
end
theorem qrj {q : Pd} (hw : (encP q).wf) (hs : szA (encP q) ≤ 1048576) : (qbi q.ty).length ≤ Big := by
 have h4 := qsb (qyn hw).2
 rw [qtx] at hs
 unfold Big
 omega
end Go.Proofs.Ytfpobiheiloamaa
