/- A text of this proof. -/
import Derived.Test.YtlahgbhhejkgbaaTaj
import Derived.Test.YtlahgbhhejkgbaaTak
import Derived.Test.YtlahgbhhejkgbaaTbe
set_option linter.unusedVariables false
set_option linter.unusedSimpArgs false

/- arguments of the statements that are not too great: types, texts -/
set_option maxRecDepth 100000
namespace Go.Proofs.Ytlahgbhhejkgbaa
open Go Go.RowKit Go.V Go.ChangeShapes Go.WideShapes Go.ChangeAt

theorem q0b (H:Type):BulkOK (Rows.uptoBulk (H:=H)) Rows.uptoBulkAll where
 one:=fun d=>by
  cases d with
  | lit l=>cases l<;>simp [Rows.uptoBulk]
  | nil=>simp [Rows.uptoBulk]
  | ptr d=>simp [Rows.uptoBulk]
  | slice elems spare=>simp [Rows.uptoBulk]
  | agg parts=>simp [Rows.uptoBulk]
  | iface t d=>simp [Rows.uptoBulk]
  | map entries=>simp [Rows.uptoBulk]
  | held h=>simp [Rows.uptoBulk]
 str:=fun s=>by simp [Rows.uptoBulk]
 slice:=fun es sp=>by simp only [Rows.uptoBulk];omega
 agg:=fun l=>by simp only [Rows.uptoBulk];omega
 cons:=fun d l=>by simp only [Rows.uptoBulkAll]
mutual
theorem qoa:∀ t,szA (encY t) = conY t + 3 * szY t
 | .mk c v l => by
   rw [encY,szA,szAs,szAs,szAs,szAs,szA,szA,szA,qjc l,conY,szY]
   omega
theorem qjc:∀ l,szAs (qk l) = qcl l + 3 * szYs l
 | []=>by rw [qk,szAs,qcl,szYs]
 | x :: r=>by rw [qk,szAs,qcl,szYs,qoa x,qjc r];omega
end
section
variable {H:Type} {enc':TypeId×Value->H} {W W':World} {base:Nat} {v:Value} {d:DataW H} {p:List MemPlace} {sp:Nat->Bool}
theorem qs8 (hok:Value.okWide Try.prog W .any base 24 v) (h:DataW.Trod enc' Try.prog W 0 (fun _=>true) true 24 v d p):∃ l,VR W (MM W) [] (encY l) v∧szA (encY l)≤Rows.uptoBulk d:=by
 obtain ⟨f,cs,h1,h2,h3⟩:=qsr (q0b H) hLTt (by decide) hok h
 obtain ⟨l,rfl⟩:=q8y f _ h1
 rw [qzo Try.underlying24,qbj] at h2 h3
 exact ⟨l,h2,h3⟩
theorem qyo (hok:Value.okWide Try.prog W .any base 9 v) (h:DataW.Trod enc' Try.prog W 0 (fun _=>true) true 9 v d p):∃ s,VR W (MM W) [] (.str s) v∧szA (.str s)≤Rows.uptoBulk d:=by
 obtain ⟨f,cs,h1,h2,h3⟩:=qsr (q0b H) hLTt (by decide) hok h
 obtain ⟨l,rfl⟩:=qz4 Try.underlying9 h1
 rw [q5p Try.underlying9] at h2 h3
 exact ⟨l,h2,h3⟩
theorem qbi2 {l:AV} (h:VR W (MM W) [] l v):l.wf:=qsx _ _ h
end
theorem qbix:∀ t:Ty,(encY t).wf->vrY t:=Ty.ind fun t ih hw=>by
 have h:=(qie t).1 hw
 have hv:=qbcx hw
 refine (qs6 t).2 ⟨hv,?_⟩
 have key:∀ l:List Ty,(∀ x∈l,vrY x)->vrYs l:=by
  intro l
  induction l with
  | nil=>intro _;rw [vrYs];trivial
  | cons x r ihl=>intro hx;rw [vrYs];exact ⟨hx x (by simp),ihl fun y hy=>hx y (by simp [hy])⟩
 exact key _ fun x hx=>ih x hx (h.2.2.2 x hx)
theorem qvr {t:Ty} (hw:(encY t).wf) (hs:szA (encY t)≤1048576):(qbm t).length≤29000000:=by
 rw [qoa] at hs
 unfold qbm
 split
 ·rename_i h
  have:=qoc t (qbf h) (qbix t hw)
  omega
 ·simp
theorem q69 {n:Nat} (h:n≤29000000):n≤Big:=by unfold Big;omega
end Go.Proofs.Ytlahgbhhejkgbaa
