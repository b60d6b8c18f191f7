/- A text of this proof. -/
import Derived.Test.YtfpobiheiloamaaQaj
import Derived.Test.YtfpobiheiloamaaQak
import Derived.Test.YtfpobiheiloamaaQau

/- arguments of the statements that are not too great: predicates -/
set_option maxRecDepth 100000
namespace Go.Proofs.Ytfpobiheiloamaa
open Go Go.RowKit Go.V Go.ChangeShapes Go.WideShapes Go.ChangeAt
set_option linter.unusedVariables false
set_option linter.unusedSimpArgs false

theorem qxr (H : Type) : BulkOK (Rows.uptoBulk (H := H)) Rows.uptoBulkAll where
 one := fun d => by
  cases d with
  | lit l => cases l <;> simp [Rows.uptoBulk]
  | nil => simp [Rows.uptoBulk]
  | ptr d => simp [Rows.uptoBulk]
  | slice elems spare => simp [Rows.uptoBulk]
  | agg parts => simp [Rows.uptoBulk]
  | iface t d => simp [Rows.uptoBulk]
  | map entries => simp [Rows.uptoBulk]
  | held h => simp [Rows.uptoBulk]
 str := fun s => by simp [Rows.uptoBulk]
 slice := fun es sp => by simp only [Rows.uptoBulk]; omega
 agg := fun l => by simp only [Rows.uptoBulk]; omega
 cons := fun d l => by simp only [Rows.uptoBulkAll]
mutual
theorem qnv : ∀ t, szA (encY t) = conY t + 3 * szY t
 | .mk c v l => by
   rw [encY, szA, szAs, szAs, szAs, szAs, szA, szA, szA, qi5 l, conY, szY]
   omega
theorem qi5 : ∀ l, szAs (q8 l) = qhi l + 3 * szYs l
 | [] => by rw [q8, szAs, qhi, szYs]
 | x :: r => by rw [q8, szAs, qhi, szYs, qnv x, qi5 r]; omega
end
theorem quc (p : Pd) : szA (encP p) = p.cls.length + 1 + (conY p.ty + 3 * szY p.ty) := by
 have := qnv p.ty
 rw [← qbk] at this
 simp only [encP, szA, szAs] at this ⊢
 omega
theorem qfs : ∀ l : List Pd, szAs (qt l) = ctsP l + 3 * szYs (l.map Pd.ty) + l.length
 | [] => rfl
 | p :: r => by
   have := qfs r
   have h2 := quc p
   rw [qt, List.map_cons, szAs, h2, show (r.map encP) = qt r from rfl, this, ctsP, List.map_cons, szYs, List.length_cons]
   omega
section
variable {H : Type} {enc' : TypeId × Value → H} {W W' : World} {base : Nat} {v : Value} {d : DataW H} {p : List MemPlace} {sp : Nat → Bool}
theorem qow (hok : Value.okWide Try.prog W .any base 22 v) (h : DataW.Trod enc' Try.prog W 0 (fun _ => true) true 22 v d p) : ∃ l, VR W (MM W) [] (.sl 4 (qt l)) v ∧ szA (.sl 4 (qt l)) ≤ Rows.uptoBulk d := by
 obtain ⟨f, cs, h1, h2, h3⟩ := qqq (qxr H) hLTp (by decide) hok h
 obtain ⟨f', es, rfl, rfl, he⟩ := q9t Try.underlying22 h1
 obtain ⟨l, rfl⟩ := qqb he fun ds hd => qsn hd
 rw [q9n Try.underlying22, show Try.prog.cellsOf 27 = 4 by kernel_rfl] at h2 h3
 exact ⟨l, h2, h3⟩
theorem qsp (hok : Value.okWide Try.prog W .any base 27 v) (h : DataW.Trod enc' Try.prog W 0 (fun _ => true) true 27 v d p) : ∃ l, VR W (MM W) [] (encP l) v ∧ szA (encP l) ≤ Rows.uptoBulk d := by
 obtain ⟨f, cs, h1, h2, h3⟩ := qqq (qxr H) hLTp (by decide) hok h
 obtain ⟨l, hl⟩ := qsn h1
 rw [hl] at h2 h3
 exact ⟨l, h2, h3⟩
theorem qbay {l : AV} (h : VR W (MM W) [] l v) : l.wf := qp1 _ _ h
end
theorem q35 {l : List Pd} (hw : (AV.sl 4 (qt l)).wf) (hs : szA (.sl 4 (qt l)) ≤ 1048576) (hf : fewP l = true) : ∀ q ∈ l, okP q := by
 intro q hq
 have hl := qbj hw
 rw [fewP, Bool.and_eq_true] at hf
 have h1 := qqi (by simpa using hl.1) hf.2
 have hm : q.ty ∈ l.map Pd.ty := List.mem_map_of_mem hq
 have h2 := qjn hm
 have h3 := q40 hm
 have h4 := qlf (qqu (hl.2 q hq)).2
 have h5 : q.cls.length + conY q.ty ≤ ctsP l := by
  clear h2 h3 h4 hm hl hw hs hf h1
  induction l with
  | nil => cases hq
  | cons x r ih =>
    rw [ctsP]
    rcases List.mem_cons.1 hq with rfl | hq
    ·omega
    ·have := ih hq; omega
 rw [szA, qfs] at hs
 refine ⟨by omega, by omega, ?_⟩
 unfold Big
 omega
theorem qqp {l : List Pd} (hw : (AV.sl 4 (qt l)).wf) (hs : szA (.sl 4 (qt l)) ≤ 1048576) : (qby l).length + 2 ≤ Big := by
 have h1 := qor l (qbj hw).2
 rw [szA, qfs] at hs
 unfold Big
 omega
end Go.Proofs.Ytfpobiheiloamaa
