/- A text of this proof. -/
import Derived.Test.YtbbjelfnocmaoaaGreatDaj
import Derived.Test.YtbbjelfnocmaoaaGreatDam
import Derived.Test.YtbbjelfnocmaoaaGreatDax

/- arguments of the statements that are not too great: predicates -/
set_option maxRecDepth 100000
namespace Go.Proofs.YtbbjelfnocmaoaaGreat
open Go Go.RowKit Go.V Go.ChangeShapes Go.WideShapes Go.ChangeAt
set_option linter.unusedVariables false
set_option linter.unusedSimpArgs false

theorem q4s (H : Type) : BulkOK (Rows.uptoBulk (H := H)) Rows.uptoBulkAll where
 one := fun d => by
  cases d with
  | lit l => cases l <;> simp [Rows.uptoBulk]
  | nil => simp [Rows.uptoBulk]
  | ptr d => simp [Rows.uptoBulk]
  | slice elems spare => simp [Rows.uptoBulk]
  | agg parts => simp [Rows.uptoBulk]
  | iface t d => simp [Rows.uptoBulk]
  | map entries => simp [Rows.uptoBulk]
  | held h => simp [Rows.uptoBulk]
 str := fun s => by simp [Rows.uptoBulk]
 slice := fun es sp => by simp only [Rows.uptoBulk]; omega
 agg := fun l => by simp only [Rows.uptoBulk]; omega
 cons := fun d l => by simp only [Rows.uptoBulkAll]
mutual
theorem qrq : ∀ t, szA (encY t) = conY t + 3 * szY t
 | .mk c v l => by
   rw [encY, szA, szAs, szAs, szAs, szAs, szA, szA, szA, qkg l, conY, szY]
   omega
theorem qkg : ∀ l, szAs (qj l) = qei l + 3 * szYs l
 | [] => by rw [qj, szAs, qei, szYs]
 | x :: r => by rw [qj, szAs, qei, szYs, qrq x, qkg r]; omega
end
theorem q3r (p : Pd) : szA (encP p) = p.cls.length + 1 + (conY p.ty + 3 * szY p.ty) := by
 have := qrq p.ty
 rw [← qbh] at this
 simp only [encP, szA, szAs] at this ⊢
 omega
theorem qhk : ∀ l : List Pd, szAs (qu l) = ctsP l + 3 * szYs (l.map Pd.ty) + l.length
 | [] => rfl
 | p :: r => by
   have := qhk r
   have h2 := q3r p
   rw [qu, List.map_cons, szAs, h2, show (r.map encP) = qu r from rfl, this, ctsP, List.map_cons, szYs, List.length_cons]
   omega
section
variable {H : Type} {enc' : TypeId × Value → H} {W W' : World} {base : Nat} {v : Value} {d : DataW H} {p : List MemPlace} {sp : Nat → Bool}
theorem qbsr {l : AV} (h : VR W (MM W) [] l v) : l.wf := qw0 _ _ h
end
theorem qbgn {l : List Pd} (hw : (AV.sl 4 (qu l)).wf) (hs : szA (.sl 4 (qu l)) ≤ 1048576) (hf : fewP l = true) : ∀ q ∈ l, okP q := by
 intro q hq
 have hl := qb7 hw
 rw [fewP, Bool.and_eq_true] at hf
 have h1 := quw (by simpa using hl.1) hf.2
 have hm : q.ty ∈ l.map Pd.ty := List.mem_map_of_mem hq
 have h2 := qez hm
 have h3 := qmg hm
 have h4 := qjy (qo1 (hl.2 q hq)).2
 have h5 : q.cls.length + conY q.ty ≤ ctsP l := by
  clear h2 h3 h4 hm hl hw hs hf h1
  induction l with
  | nil => cases hq
  | cons x r ih =>
    rw [ctsP]
    rcases List.mem_cons.1 hq with rfl | hq
    ·omega
    ·have := ih hq; omega
 rw [szA, qhk] at hs
 refine ⟨by omega, by omega, ?_⟩
 unfold Big
 omega
end Go.Proofs.YtbbjelfnocmaoaaGreat
