/- A text of this proof. -/
import Derived.Test.YtlahgbhhejkgbaaKaj
import Derived.Test.YtlahgbhhejkgbaaKak
import Derived.Test.YtlahgbhhejkgbaaKbd
set_option linter.unusedVariables false
set_option linter.unusedSimpArgs false

/- arguments of the statements that are not too great: types, texts -/
set_option maxRecDepth 100000
namespace Go.Proofs.Ytlahgbhhejkgbaa
open Go Go.RowKit Go.V Go.ChangeShapes Go.WideShapes Go.ChangeAt

theorem qys (H:Type):BulkOK (Rows.uptoBulk (H:=H)) Rows.uptoBulkAll where
 one:=fun d=>by
  cases d with
  | lit l=>cases l<;>simp [Rows.uptoBulk]
  | nil=>simp [Rows.uptoBulk]
  | ptr d=>simp [Rows.uptoBulk]
  | slice elems spare=>simp [Rows.uptoBulk]
  | agg parts=>simp [Rows.uptoBulk]
  | iface t d=>simp [Rows.uptoBulk]
  | map entries=>simp [Rows.uptoBulk]
  | held h=>simp [Rows.uptoBulk]
 str:=fun s=>by simp [Rows.uptoBulk]
 slice:=fun es sp=>by simp only [Rows.uptoBulk];omega
 agg:=fun l=>by simp only [Rows.uptoBulk];omega
 cons:=fun d l=>by simp only [Rows.uptoBulkAll]
mutual
theorem qon:∀ t,szA (encY t) = conY t + 3 * szY t
 | .mk c v l => by
   rw [encY,szA,szAs,szAs,szAs,szAs,szA,szA,szA,qiz l,conY,szY]
   omega
theorem qiz:∀ l,szAs (qk l) = qcs l + 3 * szYs l
 | []=>by rw [qk,szAs,qcs,szYs]
 | x :: r=>by rw [qk,szAs,qcs,szYs,qon x,qiz r];omega
end
section
variable {H:Type} {enc':TypeId×Value->H} {W W':World} {base:Nat} {v:Value} {d:DataW H} {p:List MemPlace} {sp:Nat->Bool}
theorem qlw (hok:Value.okWide Try.prog W .any base 24 v) (h:DataW.Trod enc' Try.prog W 0 (fun _=>true) true 24 v d p):∃ l,VR W (MM W) [] (encY l) v∧szA (encY l)≤Rows.uptoBulk d:=by
 obtain ⟨f,cs,h1,h2,h3⟩:=qtc (qys H) hLTt (by decide) hok h
 obtain ⟨l,rfl⟩:=qy2 f _ h1
 rw [qy1 Try.underlying24,qbk] at h2 h3
 exact ⟨l,h2,h3⟩
theorem qwp (hok:Value.okWide Try.prog W .any base 9 v) (h:DataW.Trod enc' Try.prog W 0 (fun _=>true) true 9 v d p):∃ s,VR W (MM W) [] (.str s) v∧szA (.str s)≤Rows.uptoBulk d:=by
 obtain ⟨f,cs,h1,h2,h3⟩:=qtc (qys H) hLTt (by decide) hok h
 obtain ⟨l,rfl⟩:=qyu Try.underlying9 h1
 rw [q3d Try.underlying9] at h2 h3
 exact ⟨l,h2,h3⟩
theorem qbb9 {l:AV} (h:VR W (MM W) [] l v):l.wf:=que _ _ h
end
theorem q80:∀ t:Ty,(encY t).wf->vrY t:=Ty.ind fun t ih hw=>by
 have h:=(qj2 t).1 hw
 have hv:=qbc8 hw
 refine (qoe t).2 ⟨hv,?_⟩
 have key:∀ l:List Ty,(∀ x∈l,vrY x)->vrYs l:=by
  intro l
  induction l with
  | nil=>intro _;rw [vrYs];trivial
  | cons x r ihl=>intro hx;rw [vrYs];exact ⟨hx x (by simp),ihl fun y hy=>hx y (by simp [hy])⟩
 exact key _ fun x hx=>ih x hx (h.2.2.2 x hx)
theorem qpc {t:Ty} (hw:(encY t).wf) (hs:szA (encY t)≤1048576):(qbn t).length≤29000000:=by
 rw [qon] at hs
 unfold qbn
 split
 ·rename_i h
  have:=qnx t (qbi h) (q80 t hw)
  omega
 ·simp
theorem q4w {n:Nat} (h:n≤29000000):n≤Big:=by unfold Big;omega
end Go.Proofs.Ytlahgbhhejkgbaa
