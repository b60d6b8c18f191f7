/- Texts of this proof, joined. -/
import Derived.Test.YtlahgbhhejkgbaaGreatLah

/-
 The value logic, part s: calls and rounds that drop nothing; states that grow.
-/
namespace Go.V
open Go Go.RowKit
set_option linter.unusedVariables false
set_option linter.unusedSimpArgs false

def qy8 (rs : List (RV × Co)) (Q : List Ent → VO → Prop) (af : AF) (H : List Ent) : Prop :=
 (qda af H rs).bnd fun l => Q H (.val (one l))
def panw (Q : List Ent → VO → Prop) (v : AV) (H : List Ent) : Prop := Q H (.pan v)
def retw (rs : List (RV × Co)) (Q : List Ent → VO → Prop) : VE → AF → List Ent → Prop
 | .nrm, af, H | .ret, af, H => dlq af.dl H (qy8 rs Q af)
 | .pan v, af, H => dlq af.dl H (panw Q v)
 | _, _, _ => False

section
variable {P : Program} {f : FuncId} {n k : Nat} {ic : IC} {rs : List (RV × Co)} {H : List Ent} {args : List AV} {Q : List Ent → VO → Prop}
theorem qpq (hc : cFun P f = some (n, ic, rs)) (hl : args.length ≤ n) (h : VI P none n H.length ic (retw rs Q) ⟨qbw 0 args, []⟩ H) : VCalls P f H args Q := by
 obtain ⟨fn, c, hf, hb, hn, hcode, hres, hok⟩ := qdo hc
 subst hn
 refine ⟨hok, fun w M G vs hst hv => callsIn_of_wp_marks hf hb trivial ?_⟩
 have hvl := qd hv
 have hrel : RelF w M G fn.ntmps ⟨qbw 0 args, []⟩ { tmps := vs.toArray ++ Array.replicate (fn.ntmps - vs.toArray.size) undef, defers := [] } := by
  refine ⟨by simp; omega, rfl, fun t => ?_⟩
  simp only [qb0, Nat.zero_le, if_true, Nat.sub_zero]
  by_cases ht : t < args.length
  ·obtain ⟨x, hx, hr⟩ := qbt hv ht
   have : (vs.toArray ++ Array.replicate (fn.ntmps - vs.toArray.size) undef).getD t undef = x := by
    rw [Array.getD_eq_getD_getElem?, Array.getElem?_append_left (by simp; omega)]
    simp [hx]
   rw [this]; exact hr
  ·have : args.getD t .junk = .junk := by rw [List.getD_eq_getElem?_getD, List.getElem?_eq_none (by omega)]; rfl
   rw [this]; trivial
 have hwp := h c hcode w M G _ hst hrel
 have hfw : fw none = Fence.wide := rfl
 rw [hfw] at hwp
 refine wpIn_mono hwp fun e a' w' hp => ?_
 obtain ⟨ve, af', M', G', H', h1, h2, h3, h4, h5⟩ := hp
 have hlen : G.length = H.length := hst.len
 -- the marks
 have leave : ∀ (l : List AD) (ds : List Deferred) (H₁ : List Ent) (G₁ : List Gh) (w₁ : World) (mode : FrameMode) (K : List Ent → Prop), mode ≠ .run → DR w₁ M' G₁ l ds → ExtM H.length w M G w₁ M' G₁ → St w₁ M' G₁ H₁ → (∀ t, VR w₁ M' G₁ (get af'.tm t) (a'.tmps.getD t undef)) → dlq l H₁ K →
  (∀ (H₂ : List Ent) (G₂ : List Gh) (w₂ : World), K H₂ → ExtM H.length w M G w₂ M' G₂ → Ext w₁ M' G₁ w₂ M' G₂ → St w₂ M' G₂ H₂ → (∀ t, VR w₂ M' G₂ (get af'.tm t) (a'.tmps.getD t undef)) → LeavesIn Fence.wide 0 P fn a'.tmps (Out Q w M G) [] mode w₂) →
  LeavesInM Fence.wide 0 P fn a'.tmps (Out Q w M G) ds mode w₁ := by
  intro l
  induction l with
  | nil =>
    intro ds H₁ G₁ w₁ mode K hmo hd he hs hv hq hK
    simp only [DR] at hd; subst hd
    exact hK H₁ G₁ w₁ hq he (Ext.refl _ _ _) hs hv
  | cons d l ih =>
    intro ds H₁ G₁ w₁ mode K hmo hd he hs hv hq hK
    cases d with
    | dfr f args => exact hq.elim
    | mark i =>
      obtain ⟨g, r, rfl, hg, hd⟩ := hd
      simp only [dlq] at hq
      split at hq
      ·rename_i d as hen
       obtain ⟨G₂, q1, q2, q3⟩ := qq4 hs hg (qxe hen)
       refine ⟨hmo, .inl ⟨g.cap, _, rfl, run_takeDeferred q1, ?_⟩⟩
       exact ih r _ G₂ _ mode K hmo (qfy q3.core q3.le hd) (he.trans q3.toM) q2 (fun t => (hv t).ext q3) hq fun H₂ G₃ w₂ r1 r2 r3 r4 r5 => hK H₂ G₃ w₂ r1 r2 (q3.trans r3) r4 r5
      ·exact hq.elim
 have done : ∀ (hq : dlq af'.dl H' (qy8 rs Q af')), LeavesInM Fence.wide 0 P fn a'.tmps (Out Q w M G) a'.defers .returning w' := fun hq => by
  refine leave af'.dl a'.defers H' G' w' .returning _ (by simp) h5.defers h3 h4 h5.rd hq fun H₂ G₂ w₂ q1 q2 q3 q4 q5 => ?_
  obtain ⟨us, x, s1, s2, s3⟩ := qd0 (n := fn.ntmps) (af := ⟨af'.tm, []⟩) (a := { tmps := a'.tmps, defers := [] }) q4 ⟨h5.size, rfl, q5⟩ hres (by rw [qfg (l' := af'.dl)]; exact q1)
  exact ⟨x, s3, M', G₂, _, _, s1, (hlen ▸ q2).toExt, q4, s2⟩
 cases ve with
 | nrm => have h2 : e = .normal := h2; subst h2; exact done h1
 | ret => have h2 : e = .ret := h2; subst h2; exact done h1
 | pan v =>
   obtain ⟨x, rfl, hx⟩ := h2
   refine leave af'.dl a'.defers H' G' w' _ _ (by simp) h5.defers h3 h4 h5.rd h1 fun H₂ G₂ w₂ q1 q2 q3 q4 q5 => ?_
   exact ⟨M', G₂, _, _, x, q1, (hlen ▸ q2).toExt, q4, hx.ext q3, rfl⟩
 | ext i => exact h1.elim
 | gto l => exact h1.elim

end

def endw (i : Nat) (Q : List Ent → VO → Prop) : VE → AF → List Ent → Prop
 | .nrm, _, H => match ent H i with
   | .lp d as => Q (H.set i (.lp ⟨.ready, none, d.fn, d.ps, d.asn, d.bd⟩ as)) (.val (.bool true))
   | _ => False
 | .ret, _, H => match ent H i with
   | .lp d as => Q (H.set i (.lp ⟨.done, some .ret, d.fn, d.ps, d.asn, d.bd⟩ as)) (.val (.bool false))
   | _ => False
 | .ext id, _, H => match ent H i with
   | .lp d as => Q (H.set i (.lp ⟨.done, some (.exit id), d.fn, d.ps, d.asn, d.bd⟩ as)) (.val (.bool false))
   | _ => False
 | _, _, _ => False
def begw (P : Program) (n m i l : Nat) (b : IC) (Q : List Ent → VO → Prop) : VE → AF → List Ent → Prop
 | .nrm, af, H => match ent H i with
   | .lp ⟨.ready, j, fn, ps, x, y⟩ as => VI P (some l) n m b (endw i Q) af (H.set i (.lp ⟨.busy, j, fn, ps, x, y⟩ as))
   | _ => False
 | _, _, _ => False



/-! ### States that grow -/
def gro (n k : Nat) (i : Nat) : Nat := if i < n then i else i + k
def grow (n : Nat) (L H1 : List Ent) : List Ent := (H1.take n).map (Ent.ren (gro n L.length)) ++ L ++ (H1.drop n).map (Ent.ren (gro n L.length))


theorem q6? {H : List Ent} {i : Nat} : ent H i = (H[i]?).getD .dead := by
 induction H generalizing i with
 | nil => rfl
 | cons e r ih => cases i with
   | zero => rfl
   | succ i => rw [List.getElem?_cons_succ]; exact ih
theorem qtq {H : List Ent} {i j : Nat} {e : Ent} (h : i ≠ j) : ent (H.set i e) j = ent H j := by
 rw [q6?, q6?, List.getElem?_set_ne h]

/-! ### What every state obeys -/
theorem q0s {w : World} {M : Nat → Nat → Prop} {G : List Gh} {g : Gh} {e : Ent} (h : qfl w M G g e) : e.bd G.length = true := by
 cases e with
 | dead => rfl
 | blk cs => obtain ⟨_, ⟨vs, t, _, h3⟩, _⟩ := h; exact qcp _ _ h3
 | app n es => obtain ⟨_, ⟨_, _, _, _, _, _, _, h5, _⟩, _⟩ := h; exact qcp _ _ h5
 | mrow n es => obtain ⟨_, ⟨_, _, _, _, _, _, _, h5, _⟩, _⟩ := h; exact qcp _ _ h5
 | lp d as => obtain ⟨_, ⟨vs, _, h3⟩, _⟩ := h; exact qcp _ _ h3
 | cus R => rfl
section
variable {P : Program} {fr : Option Nat} {n m : Nat} {a : IC} {Q : VE → AF → List Ent → Prop} {af : AF} {H : List Ent} {fv : AV} {f : FuncId} {args : List AV} {R : List Ent → VO → Prop}
theorem qsc {w : World} {M : Nat → Nat → Prop} {G : List Gh} (hst : St w M G H) {c : Co} : ∀ {cs : List AV} {vs : List Value} {k : Nat}, VRs w M G cs vs → VRs w M G (cs.set k (co H c (cs.getD k .junk))) vs
 | [], vs, k, h => h
 | v :: cs, vs, 0, ⟨x, r, h1, h2, h3⟩ => ⟨x, r, h1, qcx hst c v x h2, h3⟩
 | v :: cs, vs, k + 1, ⟨x, r, h1, h2, h3⟩ => ⟨x, r, h1, h2, qsc hst h3⟩
theorem qbhp (j k : Nat) (c : Co) {cs : List AV} (he : ent H j = .blk cs) (h : VI P fr n m a Q af (H.set j (.blk (cs.set k (co H c (cs.getD k .junk)))))) : VI P fr n m a Q af H := by
 intro z hz w M G act hst hr
 have hH := q6 he (by simp)
 obtain ⟨g, hg⟩ := hst.lenH hH
 obtain ⟨h1, ⟨vs, t, h2, h3⟩, h4⟩ := hst.ok j g _ hg hH
 have hv : VRs w M G (cs.set k (co H c (cs.getD k .junk))) vs := qsc hst h3
 have hs := qgv (w' := w) (M' := M) (g' := g) (e := .blk (cs.set k (co H c (cs.getD k .junk)))) hst hg rfl (fun _ h => h) (Nat.le_refl _) (fun _ _ _ => rfl) (Le.refl w M) (fun _ _ h => .inl h) (by rw [qdh _ _ _ hg]; exact ⟨h1, ⟨vs, t, h2, hv⟩, h4⟩)
 rw [qdh _ _ _ hg] at hs
 exact qns (h z hz) hs hr ExtM.refl
end
theorem q4s {rs : List (RV × Co)} {Q : List Ent → VO → Prop} (af : AF) (H : List Ent) : retw rs Q .ret af H = dlq af.dl H (qy8 rs Q af) := Eq.trans rfl rfl
theorem q2q {rs : List (RV × Co)} {Q : List Ent → VO → Prop} (af : AF) (H : List Ent) : retw rs Q .nrm af H = dlq af.dl H (qy8 rs Q af) := Eq.trans rfl rfl
theorem q1r {rs : List (RV × Co)} {Q : List Ent → VO → Prop} (v : AV) (af : AF) (H : List Ent) : retw rs Q (.pan v) af H = dlq af.dl H (panw Q v) := Eq.trans rfl rfl
theorem qws {rs : List (RV × Co)} {Q : List Ent → VO → Prop} (af : AF) (H : List Ent) : qy8 rs Q af H = ((qda af H rs).bnd fun l => Q H (.val (one l))) := Eq.trans rfl rfl
attribute [go_sem] q4s q2q q1r qws panw begw endw
end Go.V

/-
 The value logic, part t: rows that grow from none.
-/
namespace Go.V
open Go Go.RowKit
set_option linter.unusedVariables false

def accV (r : Nat) (es : List AV) : AV :=
 match es with
 | [] => .nils
 | _ :: _ => .row r es.length
def accE (n : Nat) (es : List AV) : List Ent :=
 match es with
 | [] => []
 | _ :: _ => [.app n es]
section
variable {r n : Nat} {es fs : List AV} {x : AV}
theorem qfh : accV r [] = .nils := rfl
theorem qe8 : accE n [] = [] := rfl
theorem qh2 (h : es ≠ []) : accV r es = .row r es.length := by cases es with | nil => exact absurd rfl h | cons _ _ => rfl
theorem qh1 (h : es ≠ []) : accE n es = [.app n es] := by cases es with | nil => exact absurd rfl h | cons _ _ => rfl
theorem qou : accV r (es ++ [x]) = .row r (es.length + 1) := by rw [qh2 (by simp)]; simp
theorem qo6 : accE n (es ++ [x]) = [.app n (es ++ [x])] := qh1 (by simp)
theorem qsg : accV r [x] = .row r 1 := rfl
theorem qsp : accE n [x] = [.app n [x]] := rfl
end
attribute [go_sem] qfh qe8 qou qo6 qsg qsp
end Go.V
