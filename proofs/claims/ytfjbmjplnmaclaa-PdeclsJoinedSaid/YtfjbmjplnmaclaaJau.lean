/- A text of this proof. -/
import Derived.Test.YtfjbmjplnmaclaaJak
set_option linter.unusedVariables false
set_option linter.unusedSimpArgs false

/- The value logic, part x: regions whose calls get their arguments as they are. -/
namespace Go.V
open Go Go.RowKit

section
variable {P:Program} {fr:Option Nat} {n m:Nat} {Q:VE->AF->List Ent->Prop} {af:AF} {H:List Ent} {ops:Array Oper}
theorem qs6 {S:Exit->Act->World->Prop} {Q:VE->AF->List Ent->Prop}:∀ (l:List Oper) (gl:List GI) (af:AF) (H:List Ent) (w:World) (M:Nat->Nat->Prop) (G:List Gh) (a:Act),cL P ops n l = some gl->St w M G H->RelF w M G n af a->runL P Q (rawL gl) af H →
 (∀ e a' w',VPost Q n m w M G e a' w'->S e a' w')->wpListIn (fw fr) 0 P ops S l a w
 | [], gl, af, H, w, M, G, a, hc, hst, hr, h, hS => by
   simp [cL] at hc;subst hc
   exact hS _ _ _ ⟨.nrm,af,M,G,H,h,rfl,ExtM.refl,hst,hr⟩
 | o :: r, gl, af, H, w, M, G, a, hc, hst, hr, h, hS => by
   simp only [cL] at hc
   split at hc
   ·rename_i gi l' hgi hl
    simp only [Option.some.injEq] at hc;subst hc
    unfold cGI at hgi
    split at hgi
    ·rename_i g i hg hi
     split at hgi
     ·rename_i hd
      simp only [Option.some.injEq] at hgi;subst hgi
      have hA:∀ R,(∀ a' w',wpListIn (fw fr) 0 P ops S r a' w'->R a' w')->doI P Q af H (rawI i) (fun v H'=>runL P Q (rawL l') (put af o.dst v) H')->o.wpIn (fw fr) 0 P a w R S:=by
       intro R hR hdo
       refine q95 hi hd hst hr hdo (fun v H' x w' M' G' k1 k2 k3 k4=>hR _ _ ?_) (fun v H' x w' M' G' k1 k2 k3 k4=>hS _ _ _ ⟨.pan v,af,M',G',H',k1,⟨x,rfl,k4⟩,k2.toM,k3,hr.ext k2⟩)
       exact qs6 r l' _ H' w' M' G' _ hl k3 ((hr.ext k2).put k4 hd) k1 (fun e a' w'' hp=>hS _ _ _ (hp.trans k2.toM))
      have hB:runL P Q (rawL l') (put af o.dst (.tup [])) H->wpListIn (fw fr) 0 P ops S r (a.put o.dst undef) w:=fun hh =>
       qs6 r l' _ H w M G _ hl hst (hr.put qtp hd) hh hS
      have hsplit:=qov (A:=doI P Q af H (rawI i) (fun v H'=>runL P Q (rawL l') (put af o.dst v) H')) (B:=runL P Q (rawL l') (put af o.dst (.tup [])) H) hg hr (by
       cases g with
       | none=>exact h
       | some p=>exact h)
      simp only [wpListIn]
      rcases hsplit with ⟨h1,h2⟩ | ⟨h1,h2⟩
      ·rw [if_pos h1];exact hA _ (fun _ _ h=>h) h2
      ·rw [h1];exact ⟨fun _ _=>trivial,hB h2⟩
     ·cases hgi
    ·cases hgi
   ·cases hc
theorem qbr6 {l:List GI} (h:runL P Q (rawL l) af H):VI P fr n m (.reg false l) Q af H:=by
 intro c hc
 cases c<;>simp only [qc5] at hc
 case region id ops draw =>
  split at hc
  ·rename_i l' hl
   cases draw with
   | true =>
     rw [if_pos rfl] at hc
     split at hc
     ·obtain ⟨x,_,hx⟩:=Option.map_eq_some_iff.1 hc
      cases hx
     ·cases hc
   | false =>
     simp only [Bool.false_eq_true,if_false,Option.some.injEq,IC.reg.injEq] at hc
     obtain ⟨_,rfl⟩:=hc
     exact fun w M G a hst hr=>wpIn_region_list (qs6 ops.toList l' af H w M G a hl hst hr h fun _ _ _ hp=>hp)
  ·exfalso;split at hc<;>simp at hc
 all_goals (exfalso;(repeat' split at hc)<;>simp at hc)
end
theorem vrr_ {p q:Prop} (h:q) (e:q->p:=by first | exact qbr6 | exact qx6 | exact q0l | exact q8y | exact qbfh | exact q8q | exact q8k | exact q7c):p:=e h
end Go.V
