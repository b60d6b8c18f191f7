/- A text of this proof. -/
import Derived.Test.YtkenggenkmfopaaGreatFah
set_option linter.unusedVariables false
set_option linter.unusedSimpArgs false

/-
 The value logic, part z: functions that turn one entry.
-/
namespace Go.V
open Go Go.RowKit

def VM(P:Program)(f:FuncId)(e e':Ent)(as:List AV)(r:AV):Prop:=VCalls P f [e] as fun H' o=>H'=[e']∧o=.val r

section
variable {P:Program} {f:FuncId} {e e':Ent} {as args caps:List AV} {r:AV} {H:List Ent} {Q:List Ent->VO->Prop} {H0 H1:List Ent}
theorem Ent.ren_bd0{σ:Nat->Nat}{e:Ent}(h:e.bd 0=true):e.ren σ=e:=Ent.ren_same (m:=0) (fun i hi=>by omega) e h
theorem qca(i:Nat)(h:VM P f e e' as r)(hq:Q (H.set i e') (.val r))(hb:e.bd 0=true:=by rfl)(hb':e'.bd 0=true:=by rfl)(hi:i<H.length:=by simp)(he:ent H i=e:=by rfl)(hr:r.bd 0=true:=by first | rfl | simp[go_sem])
 (e1:args++caps=AV.rens (sg [i]) as:=by first | rfl | (simp only[go_sem];rfl) | (simp[go_sem,sg,AV.rens,AV.ren];done)) (ha:AV.bds 1 as=true:=by first | rfl | (simp only[go_sem];done) | simp[go_sem,AV.bds,AV.bd]):VApp P H (.fn f [] caps) args Q:=by
 refine qcj ?_
 rw[List.nil_append,e1]
 refine qbs [i] h (by simp) ?_ ha rfl fun H1 o ho=>?_
 ·cases e with
  | dead=>exact⟨hi,trivial⟩
  | _=>exact⟨⟨hi,Ent.bd_le (Nat.zero_le _) _ hb,by rw[he,Ent.ren_bd0 hb]⟩,trivial⟩
 ·obtain⟨rfl,rfl⟩:=ho
  have h1:qe7 H [i] [e']=H.set i e':=by
   simp only[qe7,List.length_singleton,List.take_succ_cons,List.take_zero,List.drop_succ_cons,List.drop_nil,List.map_cons,List.map_nil,List.append_nil,qbq,Ent.ren_bd0 hb']
  rw[h1]
  simp only[VO.ren,ren_same (m:=0) (σ:=sg' [i] H.length) (fun i hi=>by omega) r hr]
  exact hq
theorem qcu{r':AV}{e2:Ent}(h:VM P f e e' as r)(h1:e'=e2)(h2:r=r'):VM P f e e2 as r':=by subst h1 h2;exact h
theorem qc4(h:VCalls P f H0 as (qdk fun H' o=>H'=[bun H1]∧o=.val r))(ha:AV.bds 1 as=true):VM P f (bun H0) (bun H1) as r:=q1d h ha
end
theorem qchn(k:Nat)(R:World->(Nat->Nat->Prop)->Gh->Prop):(Ent.cus R).bd k=true:=rfl
theorem qbom(σ:Nat->Nat)(R:World->(Nat->Nat->Prop)->Gh->Prop):(Ent.cus R).ren σ=.cus R:=rfl
attribute [go_sem] qchn qbom opn
end Go.V
