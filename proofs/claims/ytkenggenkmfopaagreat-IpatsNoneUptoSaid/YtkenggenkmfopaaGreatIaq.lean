/- Texts of this proof, joined. -/
import Derived.Test.YtkenggenkmfopaaGreatIah
set_option linter.unusedVariables false
set_option linter.unusedSimpArgs false

/- The value logic, part x: regions whose calls get their arguments as they are. -/
namespace Go.V
open Go Go.RowKit

section
variable {P:Program} {fr:Option Nat} {n m:Nat} {Q:VE->AF->List Ent->Prop} {af:AF} {H:List Ent} {ops:Array Oper}
theorem qsm{S:Exit->Act->World->Prop}{Q:VE->AF->List Ent->Prop}:∀(l:List Oper) (gl:List GI) (af:AF) (H:List Ent) (w:World) (M:Nat->Nat->Prop) (G:List Gh) (a:Act),cL P ops n l=some gl->St w M G H->RelF w M G n af a->runL P Q (rawL gl) af H →
 (∀e a' w',VPost Q n m w M G e a' w'->S e a' w')->wpListIn (fw fr) 0 P ops S l a w
 | [], gl, af, H, w, M, G, a, hc, hst, hr, h, hS => by
   simp[cL] at hc;subst hc
   exact hS _ _ _ ⟨.nrm,af,M,G,H,h,rfl,ExtM.refl,hst,hr⟩
 | o :: r, gl, af, H, w, M, G, a, hc, hst, hr, h, hS => by
   simp only[cL] at hc
   split at hc
   ·rename_i gi l' hgi hl
    simp only[Option.some.injEq] at hc;subst hc
    unfold cGI at hgi
    split at hgi
    ·rename_i g i hg hi
     split at hgi
     ·rename_i hd
      simp only[Option.some.injEq] at hgi;subst hgi
      have hA:∀R,(∀a' w',wpListIn (fw fr) 0 P ops S r a' w'->R a' w')->doI P Q af H (rawI i) (fun v H'=>runL P Q (rawL l') (put af o.dst v) H')->o.wpIn (fw fr) 0 P a w R S:=by
       intro R hR hdo
       refine q5m hi hd hst hr hdo (fun v H' x w' M' G' k1 k2 k3 k4=>hR _ _ ?_) (fun v H' x w' M' G' k1 k2 k3 k4=>hS _ _ _ ⟨.pan v,af,M',G',H',k1,⟨x,rfl,k4⟩,k2.toM,k3,hr.ext k2⟩)
       exact qsm r l' _ H' w' M' G' _ hl k3 ((hr.ext k2).put k4 hd) k1 (fun e a' w'' hp=>hS _ _ _ (hp.trans k2.toM))
      have hB:runL P Q (rawL l') (put af o.dst (.tup [])) H->wpListIn (fw fr) 0 P ops S r (a.put o.dst undef) w:=fun hh =>
       qsm r l' _ H w M G _ hl hst (hr.put qsr hd) hh hS
      have hsplit:=qnp (A:=doI P Q af H (rawI i) (fun v H'=>runL P Q (rawL l') (put af o.dst v) H')) (B:=runL P Q (rawL l') (put af o.dst (.tup [])) H) hg hr (by
       cases g with
       | none=>exact h
       | some p=>exact h)
      simp only[wpListIn]
      rcases hsplit with ⟨h1,h2⟩ | ⟨h1,h2⟩
      ·rw[if_pos h1];exact hA _ (fun _ _ h=>h) h2
      ·rw[h1];exact⟨fun _ _=>trivial,hB h2⟩
     ·cases hgi
    ·cases hgi
   ·cases hc
theorem qb2i{l:List GI}(h:runL P Q (rawL l) af H):VI P fr n m (.reg false l) Q af H:=by
 intro c hc
 cases c<;>simp only[qb0] at hc
 case region id ops draw =>
  split at hc
  ·rename_i l' hl
   cases draw with
   | true =>
     rw[if_pos rfl] at hc
     split at hc
     ·obtain⟨x,_,hx⟩:=Option.map_eq_some_iff.1 hc
      cases hx
     ·cases hc
   | false =>
     simp only[Bool.false_eq_true,if_false,Option.some.injEq,IC.reg.injEq] at hc
     obtain⟨_,rfl⟩:=hc
     exact fun w M G a hst hr=>wpIn_region_list (qsm ops.toList l' af H w M G a hl hst hr h fun _ _ _ hp=>hp)
  ·exfalso;split at hc<;>simp at hc
 all_goals(exfalso;(repeat' split at hc)<;>simp at hc)
end
theorem vrr_{p q:Prop}(h:q)(e:q->p:=by first | exact qb2i | exact qx3 | exact q0l | exact q57 | exact qbbp | exact q5p | exact qbca | exact qbak):p:=e h

def bunR(H0:List Ent):World->(Nat->Nat->Prop)->Gh->Prop:=fun w M g =>
 ∃ G0 : List Gh, G0.length = H0.length ∧ (∀ (i : Nat) (g : Gh) (e : Ent), G0[i]? = some g → H0[i]? = some e → qib w M G0 g e) ∧
   (∀(i j:Nat) (g g':Gh) (b:Nat),G0[i]?=some g->G0[j]?=some g'->g.fp b->g'.fp b->i=j) ∧
   (∃g0,G0[0]?=some g0∧g0.core=g.core)∧∀b,g.fp b↔own G0 b
abbrev bun(H0:List Ent):Ent:=.cus (bunR H0)
theorem qn8{H0:List Ent}{g:Gh}:Stab (bunR H0) g:=by
 rintro w M w' M' ha ⟨G0,h1,h2,h3,h4,h5⟩
 refine⟨G0,h1,fun i g' e hg he=>?_,h3,h4,h5⟩
 have hfp:∀b,g'.fp b->g.fp b:=fun b hb=>(h5 b).2 ⟨i,g',hg,hb⟩
 exact qfr (fun j g hj=>⟨g,hj,rfl⟩) ⟨fun b hb=>ha.same b (hfp b hb),ha.le,fun b o hb hm=>ha.fresh b o (hfp b hb) hm,ha.size⟩ (h2 i g' e hg he)

section
variable {P:Program} {f:FuncId} {fv:AV} {H0 H H':List Ent} {args:List AV} {Q0 Q:List Ent->VO->Prop} {fr:Option Nat} {n m:Nat} {a:IC} {QV:VE->AF->List Ent->Prop} {af:AF}

theorem qbey{w:World}{M:Nat->Nat->Prop}{G:List Gh}(hst:St w M G [bun H0]):∃g G0,G=[g]∧St w M G0 H0∧(∃g0,G0[0]?=some g0∧g0.core=g.core)∧∀b,g.fp b↔own G0 b:=by
 have hl:=hst.len
 obtain⟨g,rfl⟩:∃g,G=[g]:=by
  cases G with
  | nil=>simp at hl
  | cons g r => cases r with
    | nil=>exact⟨g,rfl⟩
    | cons _ _=>simp at hl
 obtain⟨⟨G0,h1,h2,h3,h4,h5⟩,_⟩:=hst.ok 0 g _ rfl rfl
 exact⟨g,G0,rfl,⟨h1,h2,h3,fun i g' b hg hb=>hst.lt 0 g b rfl ((h5 b).2 ⟨i,g',hg,hb⟩),hst.Mlt,hst.one⟩,h4,h5⟩

def qc9(Q:List Ent->VO->Prop)(H':List Ent)(o:VO):Prop :=
 ∃(H1:List Ent) (sel:List Nat),sg sel 0=0∧0<H1.length∧sel.Nodup∧qel H' sel H1.length H1 sel∧o.bd 1=true∧Q [bun H1] o

theorem qbd7{w:World}{M:Nat->Nat->Prop}{G G':List Gh}(hG:∀g,G[0]?=some g->∃g':Gh,G'[0]?=some g'∧g'.core=g.core){v:AV}{x:Value}(hb:v.bd 1=true)(h:VR w M G v x):VR w M G' v x:=by
 have:=qpq (σ:=id) (m:=1) (G':=G') (fun i g hi hg=>(by have hi0:i=0:=(by omega);subst hi0;exact hG g hg)) (fun b o h=>⟨h,rfl⟩) v x hb h
 rwa [ren_same (σ:=id) (m:=1) (fun _ _=>rfl) v hb] at this
theorem q58{w:World}{M:Nat->Nat->Prop}{G G':List Gh}(hG:∀g,G[0]?=some g->∃g':Gh,G'[0]?=some g'∧g'.core=g.core){v:List AV}{x:List Value}(hb:AV.bds 1 v=true)(h:VRs w M G v x):VRs w M G' v x:=by
 have:=qc6 (σ:=id) (m:=1) (G':=G') (fun i g hi hg=>(by have hi0:i=0:=(by omega);subst hi0;exact hG g hg)) (fun b o h=>⟨h,rfl⟩) v x hb h
 rwa [qs (σ:=id) (m:=1) (fun _ _=>rfl) v hb] at this

theorem qbvr{w:World}{M:Nat->Nat->Prop}{g:Gh}{G0:List Gh}(hst:St w M [g] [bun H0])(h0:∃g0,G0[0]?=some g0∧g0.core=g.core)(hfp:∀b,g.fp b↔own G0 b){e:Ending}{w':World}
 (h:Out (qc9 Q) w M G0 e w'):Out Q w M [g] e w':=by
 have key:∀{M':Nat->Nat->Prop} {G':List Gh} {H' H1:List Ent} {sel:List Nat},Ext w M G0 w' M' G'->St w' M' G' H'->sg sel 0=0->0<H1.length->sel.Nodup->qel H' sel H1.length H1 sel →
  ∃g':Gh,Ext w M [g] w' M' [g']∧St w' M' [g'] [bun H1]∧∀v x,v.bd 1=true->VR w' M' G' v x->VR w' M' [g'] v x:=by
  intro M' G' H' H1 sel hx hs s0 hpos hn he
  obtain⟨e1,e2⟩:=qby he
  have hsel:∀i∈sel,i<H'.length:=qju he
  obtain⟨G1,q1,q2⟩:=qm5 (H0:=H1) hn hsel e1.symm (fun j e hj=>by
   have hjl:=(List.getElem?_eq_some_iff.1 hj).1
   exact(e2 j e _ hj (qfb (by omega))).2) hs
  obtain⟨g0,k1,k2⟩:=h0
  obtain⟨g1,k3,k4⟩:=hx.core 0 g0 k1
  have hpos':0<G1.length:=by rw[q1.len];exact hpos
  obtain⟨g2,k5,k6,k7⟩:=q2 0 _ (List.getElem?_eq_getElem hpos')
  rw[s0,k3] at k5
  simp only[Option.some.injEq] at k5
  subst k5
  have hown:∀b,own G1 b->own G' b:=fun b ⟨j,gj,hj,hb⟩=>by
   obtain⟨g3,r1,r2,r3⟩:=q2 j gj hj
   exact⟨_,g3,r1,r3 b hb⟩
  have hown1:∀b,own [({ g with fp:=fun b=>own G1 b }:Gh)] b↔own G1 b:=fun b=>⟨fun ⟨j,gj,hj,hb⟩=>by
   cases j with
   | zero=>simp at hj;subst hj;exact hb
   | succ j=>simp at hj,fun h=>⟨0,_,rfl,h⟩⟩
  have hown2:∀b,own [g] b↔own G0 b:=fun b=>⟨fun ⟨j,gj,hj,hb⟩=>by
   cases j with
   | zero=>simp at hj;subst hj;exact(hfp b).1 hb
   | succ j=>simp at hj,fun h=>⟨0,_,rfl,(hfp b).2 h⟩⟩
  refine⟨{ g with fp:=fun b=>own G1 b },⟨hx.os,hx.tape,hx.output,hx.size,fun i gi hi=>?_,hx.le,fun b hb ho=>hx.out b hb (fun hc=>ho ((hown2 b).2 hc)),fun b hb=>?_,fun b o hm=>?_⟩,⟨rfl,fun i gi e hi he'=>?_,fun i j g1 g2 b h1 h2 _ _=>?_,fun i gi b hi hb=>?_,hs.Mlt,hs.one⟩,fun v x hb hv=>?_⟩
  ·cases i with
   | zero=>simp at hi;subst hi;exact⟨_,rfl,rfl⟩
   | succ i=>simp at hi
  ·rcases hx.new b (hown b ((hown1 b).1 hb)) with h | h
   ·exact .inl ((hown2 b).2 h)
   ·exact .inr h
  ·rcases hx.Mnew b o hm with h | h | h
   ·exact .inl h
   ·exact .inr (.inl ((hown2 b).2 h))
   ·exact .inr (.inr h)
  ·cases i with
   | succ i=>simp at hi
   | zero =>
     simp at hi he'
     subst hi he'
     exact⟨⟨G1,q1.len,q1.ok,q1.dj,⟨_,List.getElem?_eq_getElem hpos',(k6.trans k4).trans k2⟩,fun b=>Iff.rfl⟩,qn8⟩
  ·cases i<;>cases j<;>simp at h1 h2<;>rfl
  ·cases i with
   | succ i=>simp at hi
   | zero=>simp at hi;subst hi;obtain⟨j,gj,hj,hb⟩:=hb;exact q1.lt j gj b hj hb
  ·refine qbd7 (fun gz hz=>?_) hb hv
   rw[k3] at hz
   simp only[Option.some.injEq] at hz
   subst hz
   exact⟨_,rfl,(k4.trans k2).symm⟩
 cases e with
 | returned x =>
   obtain⟨M',G',H',v,⟨H1,sel,s0,hp,hn,he,hb,hq⟩,hx,hs,hv⟩:=h
   obtain⟨g',r1,r2,r3⟩:=key hx hs s0 hp hn he
   exact⟨M',[g'],_,v,hq,r1,r2,r3 v x hb hv⟩
 | panicked ch =>
   obtain⟨M',G',H',v,x,⟨H1,sel,s0,hp,hn,he,hb,hq⟩,hx,hs,hv,hc⟩:=h
   obtain⟨g',r1,r2,r3⟩:=key hx hs s0 hp hn he
   exact⟨M',[g'],_,v,x,hq,r1,r2,r3 v x hb hv,hc⟩
 | outgrown=>exact h

theorem q3c(h:VCalls P f H0 args (qc9 Q))(ha:AV.bds 1 args=true):VCalls P f [bun H0] args Q:=by
 refine⟨h.1,fun w M G vs hst hv=>?_⟩
 obtain⟨g,G0,rfl,hs0,hc,hfp⟩:=qbey hst
 refine CallsIn.mono (h.2 w M G0 vs hs0 (q58 (fun gz hz=>?_) ha hv)) fun e w' ho=>qbvr hst hc hfp ho
 simp at hz
 subst hz
 exact hc

theorem qyh(i:Nat){cs:List AV}(he:ent H i=.blk cs)(hb:AV.bds 0 cs=true)(h:VI P fr n m a QV af (H.set i (bun [.blk cs]))):VI P fr n m a QV af H:=by
 intro c hc w M G act hst hr
 have hH:=qba he (by simp)
 obtain⟨g,hg⟩:=hst.lenH hH
 obtain⟨h1,⟨vs,t,h2,h3⟩,h4⟩:=hst.ok i g _ hg hH
 have hG:G.set i g=G:=by
  apply List.ext_getElem?
  intro j
  by_cases hij:i=j
  ·subst hij
   rw[List.getElem?_set_self (List.getElem?_eq_some_iff.1 hg).1,hg]
  ·rw[List.getElem?_set_ne hij]
 have h3':VRs w M [g] cs vs:=by
  have:=qc6 (σ:=id) (m:=0) (G':=[g]) (fun i g hi hg=>by omega) (fun b o h=>⟨h,rfl⟩) cs vs hb h3
  rwa [qs (σ:=id) (m:=0) (fun _ _=>rfl) cs hb] at this
 have hok:qib w M (G.set i g) g (bun [.blk cs]):=by
  refine⟨⟨[g],rfl,fun j gj e hj he=>?_,fun j k g1 g2 b q1 q2 _ _=>?_,⟨g,rfl,rfl⟩,fun b=>⟨fun hb=>⟨0,g,rfl,hb⟩,fun ⟨j,gj,hj,hb⟩=>?_⟩⟩,qn8⟩
  ·cases j with
   | succ j=>simp at hj
   | zero =>
     simp at hj he
     subst hj he
     exact⟨h1,⟨vs,t,h2,h3'⟩,h4⟩
  ·cases j<;>cases k<;>simp at q1 q2<;>rfl
  ·cases j with
   | succ j=>simp at hj
   | zero=>simp at hj;subst hj;exact hb
 have hst':=qik (w':=w) (M':=M) (g':=g) (e:=bun [.blk cs]) hst hg rfl (fun _ h=>h) (Nat.le_refl _) (fun _ _ _=>rfl) (Le.refl w M) (fun _ _ h=>.inl h) hok
 rw[hG] at hst'
 exact(h c hc) w M G act hst' hr

def opn(i L j:Nat):Nat:=if j=0 then i else L+j-1
theorem q9b(i:Nat){e0:Ent}{r:List Ent}(he:ent H i=bun (e0::r))(hm:m≤H.length)(h:VI P fr n m a QV af (H.set i (e0.ren (opn i H.length))++r.map (Ent.ren (opn i H.length)))):VI P fr n m a QV af H:=by
 intro c hc w M G act hst hr
 have hH:=qba he (by simp)
 obtain⟨g,hg⟩:=hst.lenH hH
 obtain⟨⟨G0,h1,h2,h3,⟨g0,h4,h4'⟩,h5⟩,_⟩:=hst.ok i g _ hg hH
 obtain⟨g0',rg,rfl⟩:∃g0 r,G0=g0::r:=by
  cases G0 with
  | nil=>simp at h4
  | cons a b=>exact⟨a,b,rfl⟩
 simp at h4
 subst h4
 have hiG:=(List.getElem?_eq_some_iff.1 hg).1
 have hlen:=hst.len
 have hrl:rg.length=r.length:=by simpa using h1
 let G':=G.set i g0'++rg
 have hG1:∀(j:Nat) (gj:Gh),G[j]?=some gj->∃g',G'[j]?=some g'∧g'.core=gj.core:=fun j gj hj=>by
  have hjl:=(List.getElem?_eq_some_iff.1 hj).1
  by_cases hij:i=j
  ·subst hij
   rw[hg] at hj
   simp only[Option.some.injEq] at hj
   subst hj
   exact⟨g0',by simp only[G'];rw[List.getElem?_append_left (by simpa using hjl),List.getElem?_set_self hjl],h4'⟩
  ·exact⟨gj,by simp only[G'];rw[List.getElem?_append_left (by simpa using hjl),List.getElem?_set_ne hij,hj],rfl⟩
 have hG2:∀(j:Nat) (gj:Gh),j<r.length+1->(g0'::rg)[j]?=some gj->∃g',G'[opn i H.length j]?=some g'∧g'.core=gj.core:=fun j gj hj hgj=>by
  cases j with
  | zero =>
    simp at hgj;subst hgj
    refine⟨g0',?_,rfl⟩
    simp only[G',opn,if_true]
    rw[List.getElem?_append_left (by simpa using hiG),List.getElem?_set_self hiG]
  | succ j =>
    refine⟨gj,?_,rfl⟩
    have:opn i H.length (j+1)=H.length+j:=by simp only[opn,if_neg (Nat.succ_ne_zero j)];omega
    rw[this,List.getElem?_append_right (by simp;omega)]
    simpa [hlen] using hgj
 -- each place of the new state
 have hcase:∀(j:Nat) (gj:Gh),G'[j]?=some gj->(j≠i∧j<H.length∧G[j]?=some gj)∨(∃k,(g0'::rg)[k]?=some gj∧j=opn i H.length k∧k<r.length+1):=fun j gj hj=>by
  simp only[G'] at hj
  by_cases hjl:j<G.length
  ·rw[List.getElem?_append_left (by simpa using hjl)] at hj
   by_cases hij:i=j
   ·subst hij
    rw[List.getElem?_set_self hjl] at hj
    exact .inr ⟨0,by simpa using hj,by simp[opn],by omega⟩
   ·rw[List.getElem?_set_ne hij] at hj
    exact .inl ⟨Ne.symm hij,by omega,hj⟩
  ·rw[List.getElem?_append_right (by simp;omega)] at hj
   simp only[List.length_set] at hj
   have:=(List.getElem?_eq_some_iff.1 hj).1
   exact .inr ⟨j-G.length+1,by simpa using hj,by simp only[opn,if_neg (Nat.succ_ne_zero _)];omega,by omega⟩
 have hinj:∀j k,j<r.length+1->k<r.length+1->opn i H.length j=opn i H.length k->j=k:=fun j k hj hk h=>by
  simp only[opn] at h
  split at h<;>split at h<;>omega
 have hsep:∀(j:Nat) (gj:Gh) (k:Nat) (gk:Gh) (b:Nat),j≠i->G[j]?=some gj->(g0'::rg)[k]?=some gk->gj.fp b->gk.fp b->False:=fun j gj k gk b hji hj hk hb hb' =>
  hji (hst.dj j i gj g b hj hg hb ((h5 b).2 ⟨k,gk,hk,hb'⟩))
 have hst':St w M G' (H.set i (e0.ren (opn i H.length))++r.map (Ent.ren (opn i H.length))):=by
  refine⟨by simp only[G',List.length_append,List.length_set,List.length_map];omega,fun j gj e hj hje=>?_,fun j k gj gk b hj hk hb hb'=>?_,fun j gj b hj hb=>?_,hst.Mlt,hst.one⟩
  ·rcases hcase j gj hj with ⟨q1,q2,q3⟩ | ⟨k,q1,q2,q3⟩
   ·rw[List.getElem?_append_left (by simpa using q2),List.getElem?_set_ne (Ne.symm q1)] at hje
    exact qfr hG1 ⟨fun _ _=>rfl,Le.refl w M,fun _ _ _ h=>h,Nat.le_refl _⟩ (hst.ok j gj e q3 hje)
   ·obtain⟨e',hk',rfl⟩:∃e',(e0::r)[k]?=some e'∧e=e'.ren (opn i H.length):=by
     subst q2
     cases k with
     | zero =>
       simp only[opn,if_true] at hje
       rw[List.getElem?_append_left (by rw[List.length_set];omega),List.getElem?_set_self (by omega)] at hje
       simp only[Option.some.injEq] at hje
       exact⟨e0,rfl,hje.symm⟩
     | succ k =>
       have:opn i H.length (k+1)=H.length+k:=by simp only[opn,if_neg (Nat.succ_ne_zero k)];omega
       rw[this,List.getElem?_append_right (by simp)] at hje
       simp only[List.length_set,Nat.add_sub_cancel_left,List.getElem?_map,Option.map_eq_some_iff] at hje
       obtain⟨e',r1,r2⟩:=hje
       exact⟨e',by simpa using r1,r2.symm⟩
    have hok:=h2 k gj e' q1 hk'
    have hbd:=qzw hok
    rw[List.length_cons,hrl] at hbd
    exact quz (G:=g0'::rg) (G':=G') hG2 hbd hok
  ·rcases hcase j gj hj with ⟨q1,q2,q3⟩ | ⟨k1,q1,q2,q3⟩<;>rcases hcase k gk hk with ⟨r1,r2,r3⟩ | ⟨k2,r1,r2,r3⟩
   ·exact hst.dj j k gj gk b q3 r3 hb hb'
   ·exact(hsep j gj k2 gk b q1 q3 r1 hb hb').elim
   ·exact(hsep k gk k1 gj b r1 r3 q1 hb' hb).elim
   ·have:=h3 k1 k2 gj gk b q1 r1 hb hb'
    subst this
    rw[q2,r2]
  ·rcases hcase j gj hj with ⟨q1,q2,q3⟩ | ⟨k,q1,q2,q3⟩
   ·exact hst.lt j gj b q3 hb
   ·exact hst.lt i g b hg ((h5 b).2 ⟨k,gj,q1,hb⟩)
 have hext:Ext w M G w M G':=⟨rfl,rfl,rfl,Nat.le_refl _,hG1,Le.refl w M,fun _ _ _=>rfl,fun b ⟨j,gj,hj,hb⟩=>by
  rcases hcase j gj hj with ⟨q1,q2,q3⟩ | ⟨k,q1,q2,q3⟩
  ·exact .inl ⟨j,gj,q3,hb⟩
  ·exact .inl ⟨i,g,hg,(h5 b).2 ⟨k,gj,q1,hb⟩⟩,fun _ _ h=>.inl h⟩
 exact qo9 (h c hc) hst' (hr.ext hext) hext.toM
end

def VM(P:Program)(f:FuncId)(e e':Ent)(as:List AV)(r:AV):Prop:=VCalls P f [e] as fun H' o=>H'=[e']∧o=.val r

section
variable {P:Program} {f:FuncId} {e e':Ent} {as args caps:List AV} {r:AV} {H:List Ent} {Q:List Ent->VO->Prop} {H0 H1:List Ent}
theorem Ent.ren_bd0{σ:Nat->Nat}{e:Ent}(h:e.bd 0=true):e.ren σ=e:=Ent.ren_same (m:=0) (fun i hi=>by omega) e h
theorem qcw(i:Nat)(h:VM P f e e' as r)(hq:Q (H.set i e') (.val r))(hb:e.bd 0=true:=by rfl)(hb':e'.bd 0=true:=by rfl)(hi:i<H.length:=by simp)(he:ent H i=e:=by rfl)(hr:r.bd 0=true:=by first | rfl | simp[go_sem])
 (e1:args++caps=AV.rens (sg [i]) as:=by first | rfl | (simp only[go_sem];rfl) | (simp[go_sem,sg,AV.rens,AV.ren];done)) (ha:AV.bds 1 as=true:=by first | rfl | (simp only[go_sem];done) | simp[go_sem,AV.bds,AV.bd]):VApp P H (.fn f [] caps) args Q:=by
 refine qb1 ?_
 rw[List.nil_append,e1]
 refine qbr [i] h (by simp) ?_ ha rfl fun H1 o ho=>?_
 ·cases e with
  | dead=>exact⟨hi,trivial⟩
  | _=>exact⟨⟨hi,Ent.bd_le (Nat.zero_le _) _ hb,by rw[he,Ent.ren_bd0 hb]⟩,trivial⟩
 ·obtain⟨rfl,rfl⟩:=ho
  have h1:qds H [i] [e']=H.set i e':=by
   simp only[qds,List.length_singleton,List.take_succ_cons,List.take_zero,List.drop_succ_cons,List.drop_nil,List.map_cons,List.map_nil,List.append_nil,qbf,Ent.ren_bd0 hb']
  rw[h1]
  simp only[VO.ren,ren_same (m:=0) (σ:=sg' [i] H.length) (fun i hi=>by omega) r hr]
  exact hq
theorem qk3{r':AV}{e2:Ent}(h:VM P f e e' as r)(h1:e'=e2)(h2:r=r'):VM P f e e2 as r':=by subst h1 h2;exact h
theorem qek(h:VCalls P f H0 as (qc9 fun H' o=>H'=[bun H1]∧o=.val r))(ha:AV.bds 1 as=true):VM P f (bun H0) (bun H1) as r:=q3c h ha
end
theorem qcjy(k:Nat)(R:World->(Nat->Nat->Prop)->Gh->Prop):(Ent.cus R).bd k=true:=rfl
theorem qb1o(σ:Nat->Nat)(R:World->(Nat->Nat->Prop)->Gh->Prop):(Ent.cus R).ren σ=.cus R:=rfl
attribute [go_sem] qcjy qb1o opn
end Go.V
