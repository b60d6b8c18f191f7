/- A text of this proof. -/
import Derived.Test.YtfjbmjplnmaclaaGreatQak

/- The value logic, part x: regions whose calls get their arguments as they are. -/
namespace Go.V
open Go Go.RowKit
set_option linter.unusedVariables false
set_option linter.unusedSimpArgs false

def rawO : List (Opd × Co) → List (Opd × Co)
 | [] => []
 | (x, _) :: r => (x, .id) :: rawO r
def rawI : I → I
 | .call f l => .call f (rawO l)
 | i => i
def rawL : List GI → List GI
 | [] => []
 | ⟨g, d, i⟩ :: r => ⟨g, d, rawI i⟩ :: rawL r
attribute [go_sem] rawO rawI rawL
section
variable {P : Program} {fr : Option Nat} {n m : Nat} {Q : VE → AF → List Ent → Prop} {af : AF} {H : List Ent} {ops : Array Oper}
theorem qw6 {w : World} {M : Nat → Nat → Prop} {G : List Gh} {a : Act} (hst : St w M G H) (hr : RelF w M G n af a) : ∀ (xs : List Operand) (ts : List TypeId) (l : List (Opd × Co)), qwk P xs ts = some l → VRs w M G (gco H af (rawO l)) (xs.map a.eval)
 | [], ts, l, h => by simp [qwk] at h; subst h; rfl
 | x :: r, ts, l, h => by
   simp only [qwk] at h
   split at h
   ·rename_i b l' hb hl
    simp only [Option.some.injEq] at h
    subst h
    exact ⟨_, _, rfl, qbh hb hr, qw6 hst hr r _ _ hl⟩
   ·cases h
theorem qbuj {o : Oper} {i : I} {w : World} {M : Nat → Nat → Prop} {G : List Gh} {a : Act} {K : AV → List Ent → Prop} {R : Act → World → Prop} {S : Exit → Act → World → Prop} (hc : cI P o = some i) (hd : o.dst.all (· < n) = true) (hst : St w M G H) (hr : RelF w M G n af a)
 (h : doI P Q af H (rawI i) K) (hR : ∀ v H' x w' M' G', K v H' → Ext w M G w' M' G' → St w' M' G' H' → VR w' M' G' v x → R (a.put o.dst x) w')
 (hS : ∀ v H' x w' M' G', Q (.pan v) af H' → Ext w M G w' M' G' → St w' M' G' H' → VR w' M' G' v x → S (.panic [{ v := x, recovered := false }]) a w') : o.wpIn (fw fr) 0 P a w R S := by
 by_cases hcall : ∃ f l, i = .call f l
 ·refine ⟨fun _ _ => trivial, ?_⟩
  rw [qma _ (qrp hc)]
  obtain ⟨f, l, rfl⟩ := hcall
  obtain ⟨c, g, ho, hcal, hg, hl⟩ := q94 hc
  simp only [doI, rawI] at h
  have hx := qbh hg hr
  have hxs := qw6 hst hr _ _ _ hl
  obtain ⟨d, w₁, h1, h2⟩ := h w M G _ _ hst hx hxs
  have he : (execOp a.eval o).run P w = (invoke d.target d.args).run P w₁ := by
   simp only [execOp, ho, resolve, hcal, Sem.run_bind]
   have : c.args.map a.eval = (c.args.toList.map a.eval).toArray := by
    apply Array.ext'; simp
   rw [this, h1]
   rfl
  have hout : ∀ e w', Out (fun H' o => match o with | .val v => K v H' | .pan v => Q (.pan v) af H') w M G e w' → (match e with
   | .returned v => R (a.put o.dst v) w'
   | .panicked chain => S (.panic chain) a w'
   | .outgrown => LetsOut S) := by
   intro e w' ho
   cases e with
   | returned x => obtain ⟨M', G', H', v, q1, q2, q3, q4⟩ := ho; exact hR _ _ _ _ _ _ q1 q2 q3 q4
   | panicked ch => obtain ⟨M', G', H', v, x, q1, q2, q3, q4, rfl⟩ := ho; exact hS _ _ _ _ _ _ q1 q2 q3 q4
   | outgrown => exact ho.elim
  rw [he]
  split at h2
  ·rename_i v w' hq
   rw [hq]
   exact hout _ _ h2
  ·rename_i f' as w' hq
   rw [hq, Oper.uponIn_enter]
   refine ⟨fun hh => (by cases hh), CallsIn.mono (qou h2) fun e w' he => ?_⟩
   have := hout e w' he
   cases e <;> exact this
  ·rename_i l' f' tmps as bd w' hq
   rw [hq, Oper.uponIn_round]
   refine ⟨fun hh => (by cases hh), RoundIn.mono (qur h2) fun e w' he => ?_⟩
   have := hout e w' he
   cases e <;> exact this
  ·rename_i v w' hq
   rw [hq]
   exact hout _ _ h2
  ·exact h2.elim
 ·have hi : rawI i = i := by
   cases i <;> first | rfl | exact absurd ⟨_, _, rfl⟩ hcall
  rw [hi] at h
  exact qqo hc hd hst hr h hR hS
theorem qvh {S : Exit → Act → World → Prop} {Q : VE → AF → List Ent → Prop} : ∀ (l : List Oper) (gl : List GI) (af : AF) (H : List Ent) (w : World) (M : Nat → Nat → Prop) (G : List Gh) (a : Act), cL P ops n l = some gl → St w M G H → RelF w M G n af a → runL P Q (rawL gl) af H →
 (∀ e a' w', VPost Q n m w M G e a' w' → S e a' w') → wpListIn (fw fr) 0 P ops S l a w
 | [], gl, af, H, w, M, G, a, hc, hst, hr, h, hS => by
   simp [cL] at hc; subst hc
   exact hS _ _ _ ⟨.nrm, af, M, G, H, h, rfl, ExtM.refl, hst, hr⟩
 | o :: r, gl, af, H, w, M, G, a, hc, hst, hr, h, hS => by
   simp only [cL] at hc
   split at hc
   ·rename_i gi l' hgi hl
    simp only [Option.some.injEq] at hc; subst hc
    unfold cGI at hgi
    split at hgi
    ·rename_i g i hg hi
     split at hgi
     ·rename_i hd
      simp only [Option.some.injEq] at hgi; subst hgi
      have hA : ∀ R, (∀ a' w', wpListIn (fw fr) 0 P ops S r a' w' → R a' w') → doI P Q af H (rawI i) (fun v H' => runL P Q (rawL l') (put af o.dst v) H') → o.wpIn (fw fr) 0 P a w R S := by
       intro R hR hdo
       refine qbuj hi hd hst hr hdo (fun v H' x w' M' G' k1 k2 k3 k4 => hR _ _ ?_) (fun v H' x w' M' G' k1 k2 k3 k4 => hS _ _ _ ⟨.pan v, af, M', G', H', k1, ⟨x, rfl, k4⟩, k2.toM, k3, hr.ext k2⟩)
       exact qvh r l' _ H' w' M' G' _ hl k3 ((hr.ext k2).put k4 hd) k1 (fun e a' w'' hp => hS _ _ _ (hp.trans k2.toM))
      have hB : runL P Q (rawL l') (put af o.dst (.tup [])) H → wpListIn (fw fr) 0 P ops S r (a.put o.dst undef) w := fun hh =>
       qvh r l' _ H w M G _ hl hst (hr.put qv8 hd) hh hS
      have hsplit := qso (A := doI P Q af H (rawI i) (fun v H' => runL P Q (rawL l') (put af o.dst v) H')) (B := runL P Q (rawL l') (put af o.dst (.tup [])) H) hg hr (by
       cases g with
       | none => exact h
       | some p => exact h)
      simp only [wpListIn]
      rcases hsplit with ⟨h1, h2⟩ | ⟨h1, h2⟩
      ·rw [if_pos h1]; exact hA _ (fun _ _ h => h) h2
      ·rw [h1]; exact ⟨fun _ _ => trivial, hB h2⟩
     ·cases hgi
    ·cases hgi
   ·cases hc
theorem qbsk {l : List GI} (h : runL P Q (rawL l) af H) : VI P fr n m (.reg false l) Q af H := by
 intro c hc
 cases c <;> simp only [qdl] at hc
 case region id ops draw =>
  split at hc
  ·rename_i l' hl
   cases draw with
   | true =>
     rw [if_pos rfl] at hc
     split at hc
     ·obtain ⟨x, _, hx⟩ := Option.map_eq_some_iff.1 hc
      cases hx
     ·cases hc
   | false =>
     simp only [Bool.false_eq_true, if_false, Option.some.injEq, IC.reg.injEq] at hc
     obtain ⟨_, rfl⟩ := hc
     exact fun w M G a hst hr => wpIn_region_list (qvh ops.toList l' af H w M G a hl hst hr h fun _ _ _ hp => hp)
  ·cases hc
 all_goals (exfalso; (repeat' split at hc) <;> simp at hc)
end
theorem vrr_ {p q : Prop} (h : q) (e : q → p := by first | exact qbsk | exact q1p | exact q2q | exact qbby | exact qbm2 | exact q8i | exact qbch | exact q9t) : p := e h
end Go.V
