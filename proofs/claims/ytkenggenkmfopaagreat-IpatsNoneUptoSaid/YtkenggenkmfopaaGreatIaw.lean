/- Texts of this proof, joined. -/
import Derived.Test.YtkenggenkmfopaaGreatIaq
set_option linter.unusedVariables false
set_option linter.unusedSimpArgs false

/-
 The value logic, part z, second half: a row that was written becomes one that stays.
-/
namespace Go.V
open Go Go.RowKit

section
variable {P:Program} {fr:Option Nat} {n m:Nat} {a:IC} {QV:VE->AF->List Ent->Prop} {af:AF} {H:List Ent}
theorem qcp(i:Nat){q:Nat}{es:List AV}(he:ent H i=.mrow q es)(hf:∀v∈es,v.flat)(h:VI P fr n m a QV af (H.set i (.app q es))):VI P fr n m a QV af H:=by
 intro c hc w M G act hst hr
 have hH:=qba he (by simp)
 obtain⟨g,hg⟩:=hst.lenH hH
 obtain⟨h1,⟨h2,h3,vs,t,us,h4,h5,h6,h7,h8⟩,h9⟩:=hst.ok i g _ hg hH
 have hiG:=(List.getElem?_eq_some_iff.1 hg).1
 let M':Nat->Nat->Prop:=fun b o=>M b o∨(b=g.blk∧o<q*es.length)
 have hul:us.length=es.length:=ql h6
 have hle:Le w M w M':=fun b o hm=>⟨.inl hm,rfl⟩
 have hc0:∀(i:Nat) (g:Gh),G[i]?=some g->∃g':Gh,G[i]?=some g'∧g'.core=g.core:=fun i g hg=>⟨g,hg,rfl⟩
 have hone:=qfi h6 hf
 have hst':St w M' G (H.set i (.app q es)):=by
  refine⟨by rw[List.length_set];exact hst.len,fun j gj e hj hje=>?_,hst.dj,hst.lt,fun b o hm=>?_,fun b o v hm hv=>?_⟩
  ·by_cases hij:i=j
   ·subst hij
    rw[hg] at hj
    simp only[Option.some.injEq] at hj
    subst hj
    rw[List.getElem?_set_self (by rw[←hst.len];exact hiG)] at hje
    simp only[Option.some.injEq] at hje
    subst hje
    exact⟨h1,⟨h2,h3,vs,t,us,h4,h5,qca hc0 hle h6,h7,h8⟩,fun o=>⟨fun hm=>hm.elim (fun hm=>absurd hm (h9 o)) fun hm=>hm.2,fun ho=>.inr ⟨rfl,ho⟩⟩⟩
   ·rw[List.getElem?_set_ne hij] at hje
    refine qfr hc0 ⟨fun _ _=>rfl,hle,fun b o hb hm=>?_,Nat.le_refl _⟩ (hst.ok j gj e hj hje)
    rcases hm with hm | ⟨rfl,_⟩
    ·exact hm
    ·exact absurd (hst.dj j i gj g g.blk hj hg hb ((h1 _).2 rfl)) (Ne.symm hij)
  ·rcases hm with hm | ⟨rfl,_⟩
   ·exact hst.Mlt b o hm
   ·exact hst.lt i g g.blk hg ((h1 _).2 rfl)
  ·rcases hm with hm | ⟨rfl,ho⟩
   ·exact hst.one b o v hm hv
   ·rw[qec h4 o] at hv
    have hv':(vs.take (q*es.length))[o]?=some v:=by rw[List.getElem?_take_of_lt ho];exact hv
    rw[h8] at hv'
    have hmem:=List.mem_of_getElem? hv'
    obtain⟨u,hu,hvu⟩:=List.mem_flatMap.1 hmem
    exact hone u hu v hvu
 have hext:Ext w M G w M' G:=⟨rfl,rfl,rfl,Nat.le_refl _,hc0,hle,fun _ _ _=>rfl,fun b hb=>.inl hb,fun b o hm=>by
  rcases hm with hm | ⟨rfl,_⟩
  ·exact .inl hm
  ·exact .inr (.inl ⟨i,g,hg,(h1 _).2 rfl⟩)⟩
 exact qo9 (h c hc) hst' (hr.ext hext) hext.toM
end

end Go.V
