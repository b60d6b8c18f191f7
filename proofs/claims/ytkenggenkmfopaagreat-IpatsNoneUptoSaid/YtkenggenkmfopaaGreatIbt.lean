/- Texts of this proof, joined. -/
import Derived.Test.YtkenggenkmfopaaGreatIaw
import Derived.RecoverIn
set_option linter.unusedVariables false
set_option linter.unusedSimpArgs false

/-
 The value logic: panics, and functions that recover.
-/
namespace Go.V
open Go Go.RowKit



def qt1:List Nat->List Ent->List Ent
 | [],H=>H
 | r::rs,H=>qt1 rs (H.set r .dead)
theorem qnz:∀(rs:List Nat) (H:List Ent),(qt1 rs H).length=H.length
 | [],H=>rfl
 | r::rs,H=>by rw[qt1,qnz rs,List.length_set]
theorem qtx:∀(rs:List Nat) (H:List Ent) (j:Nat) (e:Ent),(qt1 rs H)[j]?=some e->(j∈rs∧e=.dead)∨(j∉rs∧H[j]?=some e)
 | [],H,j,e,h=>.inr ⟨by simp,h⟩
 | r :: rs, H, j, e, h => by
   rcases qtx rs _ j e h with ⟨h1,h2⟩ | ⟨h1,h2⟩
   ·exact .inl ⟨by simp[h1],h2⟩
   ·by_cases hr:r=j
    ·subst hr
     have hl:r<H.length:=by have:=(List.getElem?_eq_some_iff.1 h2).1;simpa using this
     rw[List.getElem?_set_self hl] at h2
     simp only[Option.some.injEq] at h2
     exact .inl ⟨by simp,h2.symm⟩
    ·rw[List.getElem?_set_ne hr] at h2
     exact .inr ⟨by simp[Ne.symm hr,h1],h2⟩
section
variable {P:Program} {H:List Ent} {fr:Option Nat} {n m:Nat} {a:IC} {QV:VE->AF->List Ent->Prop} {af:AF}
theorem qzo(i:Nat)(rs:List Nat){H1:List Ent}(hp:0<H1.length)(hn:(i::rs).Nodup)(he:qel H (i::rs) H1.length H1 (i::rs))(h:VI P fr n m a QV af ((qt1 rs H).set i (bun H1))):VI P fr n m a QV af H:=by
 intro c hc w M G act hst hr
 obtain⟨e1,e2⟩:=qby he
 have hsel:∀j∈i::rs,j<H.length:=qju he
 obtain⟨G1,q1,q2⟩:=qm5 (H0:=H1) hn hsel e1.symm (fun j e hj=>by
  have hjl:=(List.getElem?_eq_some_iff.1 hj).1
  exact(e2 j e _ hj (qfb (by omega))).2) hst
 have hlen:=hst.len
 have hpos':0<G1.length:=by rw[q1.len];exact hp
 obtain⟨gi,k5,k6,k7⟩:=q2 0 _ (List.getElem?_eq_getElem hpos')
 have s0:sg (i::rs) 0=i:=rfl
 rw[s0] at k5
 have hown:∀b,own G1 b->∃j∈i::rs,∃g,G[j]?=some g∧g.fp b:=fun b ⟨j,gj,hj,hb⟩=>by
  obtain⟨g3,r1,r2,r3⟩:=q2 j gj hj
  have hjl:j<(i::rs).length:=by have:=(List.getElem?_eq_some_iff.1 hj).1;rw[q1.len] at this;omega
  exact⟨sg (i::rs) j,List.mem_of_getElem? (qfb hjl),g3,r1,r3 b hb⟩
 obtain⟨adj,hadj⟩:∃adj:Nat->Gh->Gh,adj=fun j g=>if j=i then { g with fp:=fun b=>own G1 b } else if j∈rs then { g with fp:=fun _=>False } else g:=⟨_,rfl⟩
 have hcore:∀j g,(adj j g).core=g.core:=fun j g=>by
  rw[hadj];dsimp only
  split
  ·rfl
  ·split<;>rfl
 have hget:∀j,(G.mapIdx adj)[j]?=G[j]?.map (adj j):=fun j=>List.getElem?_mapIdx
 have hG':∀(j:Nat) (g':Gh),(G.mapIdx adj)[j]?=some g'->∃g,G[j]?=some g∧g'=adj j g:=fun j g' hj=>by
  rw[hget] at hj
  obtain⟨g,h1,h2⟩:=Option.map_eq_some_iff.1 hj
  exact⟨g,h1,h2.symm⟩
 have hG1:∀(j:Nat) (gj:Gh),G[j]?=some gj->∃g',(G.mapIdx adj)[j]?=some g'∧g'.core=gj.core:=fun j gj hj=>⟨adj j gj,by rw[hget,hj];rfl,hcore j gj⟩
 have hfp:∀(j:Nat) (g:Gh) (b:Nat),(adj j g).fp b->(j=i∧own G1 b)∨(j∉i::rs∧g.fp b):=fun j g b hb=>by
  rw[hadj] at hb;dsimp only at hb
  by_cases h1:j=i
  ·rw[if_pos h1] at hb;exact .inl ⟨h1,hb⟩
  ·rw[if_neg h1] at hb
   by_cases h2:j∈rs
   ·rw[if_pos h2] at hb;exact hb.elim
   ·rw[if_neg h2] at hb;exact .inr ⟨by simp[h1,h2],hb⟩
 have hst':St w M (G.mapIdx adj) ((qt1 rs H).set i (bun H1)):=by
  refine⟨by rw[List.length_mapIdx,List.length_set,qnz];exact hlen,fun j g' e hj hje=>?_,fun j k gj gk b hj hk hb hb'=>?_,fun j gj b hj hb=>?_,hst.Mlt,hst.one⟩
  ·obtain⟨g,hg,rfl⟩:=hG' j g' hj
   by_cases hji:j=i
   ·subst hji
    have hjl:j<(qt1 rs H).length:=by rw[qnz];exact hsel j (by simp)
    rw[List.getElem?_set_self hjl] at hje
    simp only[Option.some.injEq] at hje
    subst hje
    rw[k5] at hg
    simp only[Option.some.injEq] at hg
    subst hg
    refine⟨⟨G1,q1.len,q1.ok,q1.dj,⟨_,List.getElem?_eq_getElem hpos',k6.trans (hcore j gi).symm⟩,fun b=>?_⟩,qn8⟩
    rw[hadj];dsimp only;rw[if_pos rfl]
   ·rw[List.getElem?_set_ne (Ne.symm hji)] at hje
    rcases qtx rs H j e hje with ⟨h1,rfl⟩ | ⟨h1,h2⟩
    ·intro b hb
     rcases hfp j g b hb with ⟨h3,_⟩ | ⟨h3,_⟩
     ·exact hji h3
     ·exact h3 (by simp[h1])
    ·have:adj j g=g:=by rw[hadj];dsimp only;rw[if_neg hji,if_neg h1]
     rw[this]
     exact qfr hG1 ⟨fun _ _=>rfl,Le.refl w M,fun _ _ _ h=>h,Nat.le_refl _⟩ (hst.ok j g e hg h2)
  ·obtain⟨g,hg,rfl⟩:=hG' j gj hj
   obtain⟨g2,hg2,rfl⟩:=hG' k gk hk
   rcases hfp j g b hb with ⟨h1,h2⟩ | ⟨h1,h2⟩<;>rcases hfp k g2 b hb' with ⟨h3,h4⟩ | ⟨h3,h4⟩
   ·rw[h1,h3]
   ·obtain⟨j',hj',g',hg',hb2⟩:=hown b h2
    have:=hst.dj j' k g' g2 b hg' hg2 hb2 h4
    subst this
    exact absurd hj' h3
   ·obtain⟨j',hj',g',hg',hb2⟩:=hown b h4
    have:=hst.dj j' j g' g b hg' hg hb2 h2
    subst this
    exact absurd hj' h1
   ·exact hst.dj j k g g2 b hg hg2 h2 h4
  ·obtain⟨g,hg,rfl⟩:=hG' j gj hj
   rcases hfp j g b hb with ⟨h1,h2⟩ | ⟨h1,h2⟩
   ·obtain⟨j',hj',g',hg',hb2⟩:=hown b h2
    exact hst.lt j' g' b hg' hb2
   ·exact hst.lt j g b hg h2
 have hext:Ext w M G w M (G.mapIdx adj):=⟨rfl,rfl,rfl,Nat.le_refl _,hG1,Le.refl w M,fun _ _ _=>rfl,fun b ⟨j,gj,hj,hb⟩=>by
  obtain⟨g,hg,rfl⟩:=hG' j gj hj
  rcases hfp j g b hb with ⟨h1,h2⟩ | ⟨h1,h2⟩
  ·obtain⟨j',hj',g',hg',hb2⟩:=hown b h2
   exact .inl ⟨j',g',hg',hb2⟩
  ·exact .inl ⟨j,g,hg,h2⟩,fun _ _ h=>.inl h⟩
 exact qo9 (h c hc) hst' (hr.ext hext) hext.toM
end
end Go.V
