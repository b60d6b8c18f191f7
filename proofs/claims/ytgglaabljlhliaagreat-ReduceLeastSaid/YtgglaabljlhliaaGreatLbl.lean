/- A text of this proof. -/
import Derived.Test.YtgglaabljlhliaaGreatLba
import Derived.Lib.SliceRun
set_option linter.unusedVariables false
set_option linter.unusedSimpArgs false

/-
 The value logic: a slice that is compared with nil; a copy of a slice.
-/
namespace Go.V
open Go Go.RowKit

def nlq (t:Nat) (x:Opd) (Q:VE->AF->List Ent->Prop):VE->AF->List Ent->Prop
 | .nrm,af,H=>∃ n es,gt af x = .sl n es∧∀ b:Bool,(b = true->es = [])->Q .nrm (put af (some t) (.bool b)) H
 | e,af,H=>Q e af H
section
variable {P:Program} {n m:Nat} {Q:VE->AF->List Ent->Prop} {af:AF} {H:List Ent} {ops:Array Oper}
theorem q58:∀ {l:List Oper} {gl:List GI} {g:GI},cL P ops n l = some (gl ++ [g])->∃ r o,l = r ++ [o]∧cL P ops n r = some gl∧cGI P ops n o = some g
 | [],gl,g,h=>by simp [cL] at h
 | o :: r, gl, g, h => by
   simp only [cL] at h
   split at h
   ·rename_i a l' ha hl
    simp only [Option.some.injEq] at h
    cases gl with
    | nil =>
      simp only [List.nil_append,List.cons.injEq] at h
      obtain ⟨rfl,rfl⟩:=h
      cases r with
      | nil=>exact ⟨[],o,rfl,rfl,ha⟩
      | cons o2 r2 =>
        simp only [cL] at hl
        split at hl<;>simp at hl
    | cons b gl' =>
      simp only [List.cons_append,List.cons.injEq] at h
      obtain ⟨rfl,rfl⟩:=h
      obtain ⟨r',o',rfl,h1,h2⟩:=q58 hl
      exact ⟨o :: r',o',rfl,by simp only [cL,ha,h1],h2⟩
   ·cases h
theorem q31 {t:TypeId} (h:eqT P t = .slice):∃ u,P.underlying t = some (.slice u):=by
 unfold eqT at h
 split at h
 case h_3 u hu=>exact ⟨u,hu⟩
 case h_6=>(repeat' split at h)<;>simp at h
 case h_7=>(repeat' split at h)<;>simp at h
 all_goals cases h
theorem qb5c {o:Oper} {x:Opd} (h:cI P o = some (.v (.bin .eql .slice x (.c .nils)))):∃ t xo yo yt,o.op = .binOp .eql t xo yo yt∧cO xo = some x∧cO yo = some (.c .nils)∧eqT P t = .slice:=by
 unfold cI at h
 split at h
 case h_11 op t xo yo yt ho =>
  split at h
  ·rename_i a b ha hb
   split at h
   ·cases h
   ·simp only [Option.some.injEq,I.v.injEq,IV.bin.injEq] at h
    obtain ⟨rfl,h2,rfl,rfl⟩:=h
    exact ⟨t,xo,yo,yt,ho,ha,hb,h2⟩
  ·cases h
 all_goals exfalso
 all_goals first | (simp [Option.map_eq_some_iff] at h;done) | ((repeat' split at h)<;>simp [Option.map_eq_some_iff] at h;done) | skip
 unfold q6k at h
 (repeat' split at h)<;>simp [Option.map_eq_some_iff] at h
theorem qo1 {l:List GI} {t:Nat} {x:Opd} (h:runL P (nlq t x Q) l af H):VI P none n m (.reg false (l ++ [⟨none,some t,.v (.bin .eql .slice x (.c .nils))⟩])) Q af H:=by
 intro c hc
 cases c<;>simp only [qce] at hc
 case region id ops draw =>
  split at hc
  ·rename_i l' hl
   cases draw with
   | true =>
     rw [if_pos rfl] at hc
     split at hc
     ·obtain ⟨x,_,hx⟩:=Option.map_eq_some_iff.1 hc
      cases hx
     ·cases hc
   | false =>
     rw [if_neg (by simp)] at hc
     simp only [Option.some.injEq,IC.reg.injEq] at hc
     obtain ⟨_,rfl⟩:=hc
     obtain ⟨r,o,hops,h1,h2⟩:=q58 hl
     unfold cGI at h2
     split at h2
     case h_2=>cases h2
     rename_i g i hg hi
     split at h2
     case isFalse=>cases h2
     rename_i hd
     simp only [Option.some.injEq,GI.mk.injEq] at h2
     obtain ⟨rfl,hdst,rfl⟩:=h2
     have hgd:o.guard = none:=by
      cases hq:o.guard with
      | none=>rfl
      | some p=>rw [hq] at hg;obtain ⟨j,b⟩:=p;simp only [cG] at hg;split at hg<;>simp at hg
     intro w M G a hst hr
     refine wpIn_region_list ?_
     rw [hops]
     refine qdg _ a w ?_
     refine qd6 (n:=n) (m:=m) r l af H w M G a h1 hst hr h fun e a' w' hp=>?_
     obtain ⟨ve,af',M',G',H',h1,h2,h3,h4,h5⟩:=hp
     cases ve with
     | nrm =>
       have h2:e = .normal:=h2
       subst h2
       obtain ⟨k,es,hx,hQ⟩:=h1
       obtain ⟨ty,xo,yo,yt,ho,hxo,hyo,hty⟩:=qb5c hi
       obtain ⟨u,hu⟩:=q31 hty
       have hvx:=qh hxo h5
       have hvy:VR w' M' G' .nils (a'.eval yo):=qh hyo h5
       rw [hx] at hvx
       obtain ⟨ad,cap,us,hus,hsl,hxv⟩:=hvx
       have hvy:a'.eval yo = .slice none 0 0:=hvy
       have hrun:(o.semAt (fw none).round a'.eval).run P w' = .ok (.value (.bool ad.isNone)) w':=by
        show (Oper.semAt none a'.eval o).run P w' = _
        rw [Oper.semAt_none]
        simp only [execOp,ho,hxv,hvy,Sem.run_bind,qq (u:=.slice ad us.length cap) (v:=.slice none 0 0) (by simp) (by simp),Lib.run_eql_slice_nil w' ty u ad us.length cap 0 0 hu,Result.andThen_ok,Sem.run_pure]
       have hw:Region.wanted o (yielded ops a'.tmps) = true:=by simp [Region.wanted,hgd]
       show wpListIn (fw none) 0 P ops _ [o] a' w'
       simp only [wpListIn]
       rw [if_pos hw]
       refine ⟨fun _ _=>trivial,?_⟩
       rw [hrun]
       refine ⟨.nrm,_,M',G',H',hQ ad.isNone fun hb=>?_,rfl,h3,h4,?_⟩
       ·cases ad with
        | some _=>cases hb
        | none =>
          obtain ⟨q1,_,_,q4⟩:=hsl
          simp only at q4
          have hl:=qe hus
          cases es with
          | nil=>rfl
          | cons _ _=>rw [List.length_cons] at hl;omega
       ·have:=h5.put (v:=.bool ad.isNone) (x:=.bool ad.isNone) rfl hd
        rw [hdst] at this
        rw [hdst]
        exact this
     | ext i=>have h2:e = .exit i:=h2;subst h2;exact ⟨.ext i,af',M',G',H',h1,rfl,h3,h4,h5⟩
     | gto l=>have h2:e = .goto l:=h2;subst h2;exact ⟨.gto l,af',M',G',H',h1,rfl,h3,h4,h5⟩
     | ret=>have h2:e = .ret:=h2;subst h2;exact ⟨.ret,af',M',G',H',h1,rfl,h3,h4,h5⟩
     | pan v=>obtain ⟨x,rfl,hx⟩:=h2;exact ⟨.pan v,af',M',G',H',h1,⟨x,rfl,hx⟩,h3,h4,h5⟩
  ·exfalso;split at hc<;>simp at hc
 all_goals (exfalso;(repeat' split at hc)<;>simp at hc)
theorem qbc0 {w:World} {M:Nat->Nat->Prop} {G:List Gh} {x:Value} (k:Nat) (h:VR w M G .nils x):VR w M G (.lit k []) x:=by
 have h:x = .slice none 0 0:=h
 subst h
 exact ⟨none,[],rfl,⟨Nat.le_refl _,Nat.zero_le _,(by simp),rfl⟩,rfl⟩
theorem qnp {f:FuncId} {args:List AV} {k:Nat} {Q':List Ent->VO->Prop} {Q:List Ent->VO->Prop} (h:VCalls P f H args Q') (h1:∀ H' o,Q' H' o->Q H' o∨(o = .val .nils∧Q H' (.val (.lit k [])))):VCalls P f H args Q:=by
 refine ⟨h.1,fun w M G vs hst hv=>(h.2 w M G vs hst hv).mono fun e w' he=>?_⟩
 cases e with
 | returned x =>
   obtain ⟨M',G',H',v,q1,q2,q3,q4⟩:=he
   rcases h1 _ _ q1 with q | ⟨hv,q⟩
   ·exact ⟨M',G',H',v,q,q2,q3,q4⟩
   ·simp only [VO.val.injEq] at hv
    subst hv
    exact ⟨M',G',H',_,q,q2,q3,qbc0 k q4⟩
 | panicked ch =>
   obtain ⟨M',G',H',v,x,q1,q2,q3,q4,rfl⟩:=he
   rcases h1 _ _ q1 with q | ⟨hv,q⟩
   ·exact ⟨M',G',H',v,x,q,q2,q3,q4,rfl⟩
   ·cases hv
 | outgrown=>exact he.elim
end
section
variable {P:Program} {fr:Option Nat} {n m:Nat} {a:IC} {Q:VE->AF->List Ent->Prop} {af:AF} {H:List Ent} {w:World} {M:Nat->Nat->Prop} {G:List Gh}
theorem qpy {S:Type} {Inv:S->Prop} {st:S->AF×List Ent} (hat:At S Inv st m af H) (h:∀ s,Inv s->VI P fr n m a Q (st s).1 (st s).2):VI P fr n m a Q af H:=by
 obtain ⟨s,h1,h2⟩:=hat
 exact quy (h s h1) h2
end
theorem qbqo {t:Nat} {x:Opd} {Q:VE->AF->List Ent->Prop} {af:AF} {H:List Ent}:nlq t x Q .nrm af H = ∃ n es,gt af x = .sl n es∧∀ b:Bool,(b = true->es = [])->Q .nrm (put af (some t) (.bool b)) H:=rfl
attribute [go_sem] qbqo
end Go.V
