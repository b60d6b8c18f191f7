/- A text of this proof. -/
import Derived.Test.YtkenggenkmfopaaGreatSau
import Derived.Test.YtkenggenkmfopaaGreatSaf
set_option linter.unusedVariables false
set_option linter.unusedSimpArgs false

/-
 The value logic, part zi: regions that draw, where two operations, one behind the other, both lay new entries, behind calls.
-/
namespace Go.V
open Go Go.RowKit

def qha(P:Program)(K:List FP->AF->List Ent->Prop):List FP->List (GI×List Nat)->AF->List Ent->Prop
 | acc,[],af,H=>K acc af H
 | acc,(⟨none,d,i⟩,us)::r,af,H=>doD P af H i fun top v H'=>qdt acc us (fpI af H.length top i)∧qha P K (acc++[fpI af H.length top i]) r (put af d v) H'
 | acc,(⟨some (t,b),d,i⟩,us)::r,af,H=>gd (get af.tm t) b (doD P af H i fun top v H'=>qdt acc us (fpI af H.length top i)∧qha P K (acc++[fpI af H.length top i]) r (put af d v) H')
  (qdt acc us (fpI af H.length .off i)∧qha P K (acc++[fpI af H.length .off i]) r (put af d (.tup [])) H)
section
variable {P:Program} {K:List FP->AF->List Ent->Prop}
def dvK(P:Program)(K:List FP->AF->List Ent->Prop)(acc:List FP)(us:List Nat)(fp:FP)(d:Option Nat)(r:List (GI×List Nat))(af:AF)(H:List Ent)(v:AV):Prop:=qdt acc us fp∧qha P K (acc++[fp]) r (put af d v) H
def dcK(P:Program)(K:List FP->AF->List Ent->Prop)(acc:List FP)(us:List Nat)(n:Nat)(rd:List Nat)(d:Option Nat)(r:List (GI×List Nat))(af:AF)(top:Md)(v:AV)(H:List Ent):Prop:=qdt acc us (fpC n rd top)∧qha P K (acc++[fpC n rd top]) r (put af d v) H
variable (acc:List FP) (us:List Nat)
theorem qcd1(fp:FP)(d:Option Nat)(r:List (GI×List Nat))(af:AF)(H:List Ent)(v:AV):dvK P K acc us fp d r af H v=(qdt acc us fp∧qha P K (acc++[fp]) r (put af d v) H):=Eq.trans rfl rfl
theorem qccr(n:Nat)(rd:List Nat)(d:Option Nat)(r:List (GI×List Nat))(af:AF)(H:List Ent)(top:Md)(v:AV):dcK P K acc us n rd d r af top v H=(qdt acc us (fpC n rd top)∧qha P K (acc++[fpC n rd top]) r (put af d v) H):=Eq.trans rfl rfl
theorem q47(af:AF)(H:List Ent):qha P K acc [] af H=K acc af H:=Eq.trans rfl rfl
theorem qb8j(d:Option Nat)(i:IV)(r:List (GI×List Nat))(af:AF)(H:List Ent):qha P K acc ((⟨none,d,.v i⟩,us)::r) af H=(evv af H i).bnd (dvK P K acc us { rd:=fpV af i } d r af H):=by
 simp only[qha,doD,evi];rw[qbz];rfl
theorem q28(d:Option Nat)(f:Opd)(l:List (Opd×Co))(r:List (GI×List Nat))(af:AF)(H:List Ent):qha P K acc ((⟨none,d,.call f l⟩,us)::r) af H=DApp P H (gt af f) (gco H af l) (gco H af (rawO l)) (dcK P K acc us H.length (rdPs af l) d r af):=Eq.trans rfl rfl
attribute [go_sem] q47 qb8j q28 qcd1 qccr
end
section
variable {P:Program} {K:List FP->AF->List Ent->Prop}
theorem q53{acc:List FP}{g:GI}{us:List Nat}{r:List (GI×List Nat)}{af:AF}{H:List Ent}(h:qha P K acc ((g,us)::r) af H):∃top v H',Psi P ⟨g,top,fpI af H.length top g.i⟩ af H v H'∧qdt acc us (fpI af H.length top g.i)∧qha P K (acc++[fpI af H.length top g.i]) r (put af g.d v) H':=by
 obtain⟨gg,d,i⟩:=g
 cases gg with
 | none =>
   obtain⟨top,v,H',h1,h2,h3⟩:=qrl (show doD P af H i _ from h)
   exact⟨top,v,H',⟨rfl,h1⟩,h2,h3⟩
 | some p =>
   obtain⟨t,b⟩:=p
   simp only[qha] at h
   unfold gd at h
   split at h
   ·rename_i c hc
    split at h
    ·rename_i hcb
     obtain⟨top,v,H',h1,h2,h3⟩:=qrl h
     exact⟨top,v,H',⟨rfl,by simp only[gd,hc];rw[if_pos hcb];exact h1⟩,h2,h3⟩
    ·rename_i hcb
     exact⟨.off,.tup [],H,⟨rfl,by simp only[gd,hc];rw[if_neg hcb];exact⟨by first | trivial | rfl,by first | trivial | rfl⟩⟩,h.1,h.2⟩
   ·rename_i hc
    exact⟨.off,.tup [],H,⟨rfl,by simp only[gd,hc,and_self]⟩,h.1,h.2⟩
   ·exact h.elim
theorem qzz:∀{l:List (GI×List Nat)} {acc:List FP} {af:AF} {H:List Ent},qha P K acc l af H->∃es af' H',Fits es acc l∧Tr P es af H af' H'∧K (acc++es.map (·.2.fp)) af' H'
 | [],acc,af,H,h=>⟨[],af,H,⟨rfl,fun k p hp=>by simp at hp⟩,⟨AFE.refl _,rfl⟩,by rw[List.map_nil,List.append_nil];exact h⟩
 | (g, us) :: r, acc, af, H, h => by
   obtain⟨top,v,H',h1,h2,h3⟩:=q53 h
   obtain⟨es,af',H'',⟨hf1,hf2⟩,h4,h5⟩:=qzz h3
   refine⟨(acc.length,⟨g,top,fpI af H.length top g.i⟩)::es,af',H'',⟨by simp[hf1],fun k p hp=>?_⟩,⟨v,H',h1,h4⟩,by simpa [List.append_assoc] using h5⟩
   cases k with
   | zero =>
     simp only[List.getElem?_cons_zero,Option.some.injEq] at hp
     subst hp
     refine⟨rfl,⟨us,rfl,fun j hj hlt=>?_⟩,af,H.length,rfl⟩
     have:=qk1 h2 j hj
     rw[List.getD_eq_getElem?_getD,List.getElem?_append_left hlt,←List.getD_eq_getElem?_getD]
     exact this
   | succ k =>
     obtain⟨q1,⟨us',q2,q3⟩,q4⟩:=hf2 k p (by simpa using hp)
     refine⟨by rw[q1];simp;omega,⟨us',by simpa using q2,fun j hj hlt=>?_⟩,q4⟩
     have:=q3 j hj hlt
     simpa [List.append_assoc] using this
theorem q44:∀{a b:List (Nat×EO)} {af afm af':AF} {H Hm H':List Ent},Tr P a af H afm Hm->Tr P b afm Hm af' H'->Tr P (a++b) af H af' H'
 | [], b, af, afm, af', H, Hm, H', h1, h2 => by
   obtain⟨e,rfl⟩:=h1
   exact q43 e.symm h2
 | (i, e) :: a, b, af, afm, af', H, Hm, H', h1, h2 => by
   obtain⟨v,H1,q1,q2⟩:=h1
   exact⟨v,H1,q1,q44 q2 h2⟩
end
section
variable {P:Program} {fr:Option Nat} {n m:Nat} {Q:VE->AF->List Ent->Prop} {ops:Array Oper}
theorem q1u{gl:List GI}{es1 es2:List (Nat×EO)}{x:Nat}(hcl:cL P ops n ops.toList=some gl)(hok:qfp (qbx ops.toList []) gl 0 ops.toList gl=true)(r1:Row ops gl es1 x (x+1))(r2:Row ops gl es2 x (x+1))
 (hpost:∀(i:Nat) (g:GI),gl[i]?=some g->x+1<i->((qbx ops.toList []).getD i 0).testBit x=true∨((qbx ops.toList []).getD i 0).testBit (x+1)=true)
 {ex1 ey1 ex2 ey2:EO} {t1 t2:List (Nat×EO)}
 (hm1:∀p∈(x,ex1)::(x+1,ey1)::t1,es1[p.1]?=some p) (hw1:((x,ex1)::(x+1,ey1)::t1).Pairwise (fun p q=>p.1<q.1))
 (hm2:∀p∈(x,ex2)::(x+1,ey2)::t2,es2[p.1]?=some p) (hw2:((x,ex2)::(x+1,ey2)::t2).Pairwise (fun p q=>p.1<q.1)) (hnum:t1.map (·.1)=t2.map (·.1))
 {S:Exit->Act->World->Prop} {af1 af2:AF} {E1 E2:List Ent} (hQ1:Q .nrm af1 E1) (hQ2:Q .nrm af2 E2) :
 ∀ (fuel : Nat) (p : List (Nat × EO)) (listed : Array Bool) (af : AF) (H : List Ent) (w : World) (M : Nat → Nat → Prop) (G : List Gh) (a : Act), p.length + 2 + t1.length ≤ fuel →
   (∀q∈p,es1[q.1]?=some q∧es2[q.1]?=some q)->p.Pairwise (fun p q=>p.1<q.1)->(∀q∈p,q.1<x) →
   (∀i,i<ops.size->(listed.getD i true=false↔∃g,(i,g)∈p++(x,ex1)::(x+1,ey1)::t1))->listed.size=ops.size →
   (∀i j,i<ops.size->listed.getD i true=true->((qbx ops.toList []).getD i 0).testBit j=true->j<i->listed.getD j true=true) →
   St w M G H->RelF w M G n af a->(∃afm Hm,Tr P p af H afm Hm∧Tr P ((x,ex1)::(x+1,ey1)::t1) afm Hm af1 E1∧Tr P ((x+1,ey2)::(x,ex2)::t2) afm Hm af2 E2) →
   (∀e a' w',VPost Q n m w M G e a' w'->S e a' w')->wpAnyIn (fw fr) 0 P .any ops S fuel listed a w:=by
 obtain⟨hlen,hcget⟩:=qle hcl
 obtain⟨_,hdget⟩:=qe1 hok
 have hone:∀(i:Nat) (o:Oper) (g:GI),ops[i]?=some o->gl[i]?=some g->qcx (qbx ops.toList []) gl i o g=true:=fun i o g ho hg=>by
  obtain⟨g',h1,h2⟩:=hdget i o (by simpa using ho)
  rw[hg] at h1
  simp only[Option.some.injEq] at h1;subst h1
  simpa using h2
 have hin12:∀j,(∃g,(j,g)∈t1)↔∃g,(j,g)∈t2:=fun j=>by
  have e1:(∃g,(j,g)∈t1)↔j∈t1.map (·.1):=by simp
  have e2:(∃g,(j,g)∈t2)↔j∈t2.map (·.1):=by simp
  rw[e1,e2,hnum]
 intro fuel
 induction fuel with
 | zero=>intro p listed af H w M G a hf;omega
 | succ fuel ih =>
   intro p listed af H w M G a hf hp hpw hpx hli hsz hD hst hr hT hS
   obtain⟨afm,Hm,tp,tA,tB⟩:=hT
   have hg1:∀q∈(x,ex1)::(x+1,ey1)::t1,x≤q.1:=fun q hq=>by
    rcases List.mem_cons.1 hq with rfl | hq
    ·exact Nat.le_refl _
    ·have:=List.rel_of_pairwise_cons hw1 hq;simp only at this;omega
   have hg2:∀q∈(x,ex2)::(x+1,ey2)::t2,x≤q.1:=fun q hq=>by
    rcases List.mem_cons.1 hq with rfl | hq
    ·exact Nat.le_refl _
    ·have:=List.rel_of_pairwise_cons hw2 hq;simp only at this;omega
   have hpw1:(p++(x,ex1)::(x+1,ey1)::t1).Pairwise (fun p q=>p.1<q.1):=List.pairwise_append.2 ⟨hpw,hw1,fun a ha b hb=>by have:=hpx a ha;have:=hg1 b hb;omega⟩
   have hpw2:(p++(x,ex2)::(x+1,ey2)::t2).Pairwise (fun p q=>p.1<q.1):=List.pairwise_append.2 ⟨hpw,hw2,fun a ha b hb=>by have:=hpx a ha;have:=hg2 b hb;omega⟩
   have hme1:∀q∈p++(x,ex1)::(x+1,ey1)::t1,es1[q.1]?=some q:=fun q hq=>by
    rcases List.mem_append.1 hq with hq | hq
    ·exact(hp q hq).1
    ·exact hm1 q hq
   have hme2:∀q∈p++(x,ex2)::(x+1,ey2)::t2,es2[q.1]?=some q:=fun q hq=>by
    rcases List.mem_append.1 hq with hq | hq
    ·exact(hp q hq).2
    ·exact hm2 q hq
   obtain⟨rem,hrem⟩:∃rem,p++(x,ex1)::(x+1,ey1)::t1=rem:=⟨_,rfl⟩
   rw[hrem] at hpw1 hme1 hli
   have hfirst:∀p r,rem=p::r->Region.ready .any ops listed≠[]:=by
    rintro⟨i,g⟩ r rfl hnil
    have hg:=(r1.g i _ (hme1 (i,g) (by simp))).2
    simp only at hg
    have hgl:=(List.getElem?_eq_some_iff.1 hg).1
    have hi:i<ops.size:=by rw[←Array.length_toList,hlen];exact hgl
    have hio:ops[i]?=some ops[i]:=Array.getElem?_eq_getElem hi
    have:i∈Region.ready .any ops listed:=by
     refine mem_ready.2 ⟨(hli i hi).2 ⟨g,by simp⟩,ops[i],hio,fun e he hb=>?_⟩
     have hd:=hone i _ g.g hio hg
     simp only[qcx,Bool.and_eq_true,List.all_eq_true] at hd
     have hlt:=hd.1 e (by simpa using he)
     simp only[hb,Bool.not_true,Bool.false_or,decide_eq_true_eq] at hlt
     have hel:e.on<ops.size:=by omega
     cases hq:listed.getD e.on true with
     | true =>
       have:e.on<listed.size:=by omega
       simp[this] at hq ⊢
       exact hq
     | false =>
       obtain⟨g',hg'⟩:=(hli e.on hel).1 hq
       rcases List.mem_cons.1 hg' with hx | hx
       ·simp only[Prod.mk.injEq] at hx;omega
       ·have:=List.rel_of_pairwise_cons hpw1 hx
        simp only at this;omega
    rw[hnil] at this
    cases this
   refine⟨fun hnil=>?_,fun i hi=>?_⟩
   ·cases hrm:rem with
    | nil=>rw[hrm] at hrem;simp at hrem
    | cons q r=>exact absurd hnil (hfirst q r hrm)
   ·obtain⟨h1,o,ho,hall⟩:=mem_ready.1 hi
    have hlt:=(Array.getElem?_eq_some_iff.1 ho).1
    have hanc:∀gi,gl[i]?=some gi->∀j,j<i->((qbx ops.toList []).getD i 0).testBit j=true->listed.getD j true=true:=fun gi hgi j hj hb=>by
     have hd:=hone i o gi ho hgi
     simp only[qcx,Bool.and_eq_true,List.all_eq_true,List.mem_range] at hd
     have:=hd.2 j hj
     split at this
     ·rename_i gj hgj
      rw[if_pos hb] at this
      obtain⟨e,he,hbe⟩:=List.any_eq_true.1 this
      simp only[Bool.and_eq_true,Bool.or_eq_true,beq_iff_eq,decide_eq_true_eq] at hbe
      have hon:=hall e (by simpa using he) hbe.1
      have helt:=hd.1 e he
      simp only[hbe.1,Bool.not_true,Bool.false_or,decide_eq_true_eq] at helt
      have hon':listed.getD e.on true=true:=by
       have:e.on<listed.size:=by omega
       simp[this] at hon ⊢
       exact hon
      rcases hbe.2 with rfl | ⟨hje,hbit⟩
      ·exact hon'
      ·exact hD e.on j (by omega) hon' hbit hje
     ·cases this
    have hunl:∀j g',(j,g')∈rem->j<i->listed.getD j true=false:=fun j g' hg' hji=>(hli j (by omega)).2 ⟨g',hg'⟩
    have hindG:∀(es:List (Nat×EO)),Row ops gl es x (x+1)->∀(l1 l2:List (Nat×EO)) (g:EO),(∀p∈l1++(i,g)::l2,es[p.1]?=some p)->(l1++(i,g)::l2).Pairwise (fun p q=>p.1<q.1)->(∀j g',(j,g')∈l1->∃g'',(j,g'')∈rem)->(∀q∈l1,¬(q.1=x∧i=x+1))->∀q∈l1,qfy q.2.g g.g=true∧okFP q.2.fp g.fp=true:=by
     intro es hrow l1 l2 g hm hp hin hiy
     rintro⟨j,ej⟩ hq
     have hes:=hm (i,g) (by simp)
     obtain⟨_,hgi⟩:=hrow.g i _ hes
     simp only at hgi
     have hji:j<i:=(List.pairwise_append.1 hp).2.2 (j,ej) hq (i,g) (by simp)
     have hej:=hm (j,ej) (by simp[hq])
     obtain⟨_,hgj⟩:=hrow.g j _ hej
     simp only at hgj
     obtain⟨g'',hg''⟩:=hin j ej hq
     have hun:=hunl j g'' hg'' hji
     have hnb:¬(((qbx ops.toList []).getD i 0).testBit j=true):=fun hb=>by
      have:=hanc _ hgi j hji hb
      rw[hun] at this;cases this
     have hd:=hone i o g.g ho hgi
     simp only[qcx,Bool.and_eq_true,List.all_eq_true,List.mem_range] at hd
     have:=hd.2 j hji
     rw[hgj] at this
     simp only at this
     rw[if_neg hnb] at this
     exact⟨this,hrow.ok i j _ _ hes hej hji (hiy _ hq) (by simpa using hnb)⟩
    have hD':∀gi,gl[i]?=some gi->∀k j,k<ops.size->(listed.setIfInBounds i true).getD k true=true->((qbx ops.toList []).getD k 0).testBit j=true->j<k->(listed.setIfInBounds i true).getD j true=true:=by
     intro gi hgi k j hk hlk hb hjk
     by_cases hik:i=k
     ·subst hik
      rw[qbf _ _ (by omega)]
      exact hanc gi hgi j hjk hb
     ·rw[qbf _ _ hik] at hlk
      by_cases hij:i=j
      ·subst hij
       have:i<listed.size:=by omega
       simp[this]
      ·rw[qbf _ _ hij]
       exact hD k j hk hlk hb hjk
    have hset:∀(r:List (Nat×EO)),(∀q∈r,q.1≠i)->(∀j,j≠i->((∃g,(j,g)∈rem)↔∃g,(j,g)∈r))->∀j,j<ops.size->((listed.setIfInBounds i true).getD j true=false↔∃g,(j,g)∈r):=by
     intro r hr1 hr2 j hj
     by_cases hji:i=j
     ·subst hji
      constructor
      ·intro hh
       have:i<listed.size:=by omega
       simp[this] at hh
      ·rintro⟨g'',hg''⟩
       exact absurd rfl (hr1 _ hg'')
     ·rw[qbf _ _ hji,hli j hj]
      exact hr2 j (fun e=>hji e.symm)
    obtain⟨g,hg⟩:=(hli i hlt).1 h1
    have hgi:=(r1.g i _ (hme1 (i,g) hg)).2
    simp only at hgi
    obtain⟨gc,hg1',hgc⟩:=hcget i o (by simpa using ho)
    rw[hgi] at hg1'
    simp only[Option.some.injEq] at hg1'
    subst hg1'
    have hxr:(x,ex1)∈rem:=by rw[←hrem];simp
    have hyr:(x+1,ey1)∈rem:=by rw[←hrem];simp
    rw[←hrem] at hg
    rcases List.mem_append.1 hg with hgp | hgt
    ·-- one of those ahead of the pair
     obtain⟨l1,l2,rfl⟩:=List.append_of_mem hgp
     have htf:=qfm (hindG es1 r1 l1 l2 g (fun q hq=>(hp q hq).1) hpw (fun j g' h=>⟨g',by rw[←hrem];simp[h]⟩) (fun q hq he=>by have:=hpx q (by simp[hq]);omega)) tp
     obtain⟨v,H1,hpsi,htr⟩:=htf
     have hpw1':(l1++(i,g)::(l2++(x,ex1)::(x+1,ey1)::t1)).Pairwise (fun p q=>p.1<q.1):=by
      have e:l1++(i,g)::(l2++(x,ex1)::(x+1,ey1)::t1)=rem:=by rw[←hrem];simp
      rw[e];exact hpw1
     obtain⟨n1,n2,n3,n4⟩:=qi1 hpw1'
     obtain⟨m1,m2,m3,m4⟩:=qi1 hpw
     have hes:gl[i]?=some g.g:=hgi
     refine qef ho hgc hst hr hpsi fun a' w' M' G' k1 k2 k3=>?_
     refine ih (l1++l2) (listed.setIfInBounds i true) _ H1 w' M' G' a' (by simp at hf ⊢;omega) (fun q hq=>hp q (m3 q hq)) m1 (fun q hq=>hpx q (m3 q hq)) ?_ (by simpa using hsz) (hD' _ hgi) k2 k3 ⟨afm,Hm,htr,tA,tB⟩ fun e a'' w'' hp=>hS _ _ _ (hp.trans k1.toM)
     intro j hj
     rw[List.append_assoc]
     refine hset (l1++(l2++(x,ex1)::(x+1,ey1)::t1)) n2 (fun j hj=>?_) j hj
     have e:l1++(i,g)::(l2++(x,ex1)::(x+1,ey1)::t1)=rem:=by rw[←hrem];simp
     rw[←e]
     exact n4 j hj
    ·by_cases hix:i=x
     ·-- the text's order
      subst hix
      have hge:g=ex1:=by
       rcases List.mem_cons.1 hgt with h | h
       ·simpa using h
       ·have:=List.rel_of_pairwise_cons hw1 h;simp only at this;omega
      subst hge
      have htf:=qfm (hindG es1 r1 p ((i+1,ey1)::t1) g (fun q hq=>hme1 q (by rw[←hrem];exact hq)) (by rw[hrem];exact hpw1) (fun j g' h=>⟨g',by rw[←hrem];simp[h]⟩) (fun q hq he=>by omega)) (q44 tp tA)
      obtain⟨v,H1,hpsi,htr⟩:=htf
      have hpw1':(p++(i,g)::((i+1,ey1)::t1)).Pairwise (fun p q=>p.1<q.1):=by rw[hrem];exact hpw1
      obtain⟨n1,n2,n3,n4⟩:=qi1 hpw1'
      rw[hrem] at n3 n4
      refine qef ho hgc hst hr hpsi fun a' w' M' G' k1 k2 k3=>?_
      exact qhw hcl hok r1 hQ1 fuel (p++(i+1,ey1)::t1) (listed.setIfInBounds i true) _ H1 w' M' G' a' (by simp at hf ⊢;omega) (fun q hq=>hme1 q (n3 q hq)) n1 (hset _ n2 n4) (by simpa using hsz) (hD' _ hgi) (fun g1 g2 q1 q2=>n2 _ q1 rfl) k2 k3 htr fun e a'' w'' hp=>hS _ _ _ (hp.trans k1.toM)
     ·by_cases hiy:i=x+1
      ·-- the other order
       subst hiy
       have hsub:(p++(x+1,ey2)::t2).Pairwise (fun p q=>p.1<q.1):=by
        rw[List.pairwise_append] at hpw2 ⊢
        exact⟨hpw2.1,(List.pairwise_cons.1 hpw2.2.1).2,fun a ha b hb=>hpw2.2.2 a ha b (List.mem_cons_of_mem _ hb)⟩
       have hgi2:=(r2.g (x+1) _ (hm2 (x+1,ey2) (by simp))).2
       simp only at hgi2
       have hgeq:g.g=ey2.g:=by rw[hgi] at hgi2;exact Option.some.inj hgi2
       rw[hgeq] at hgc
       have htf:=qfm (r:=(x,ex2)::t2) (hindG es2 r2 p t2 ey2 (fun q hq=>hme2 q (by
        rcases List.mem_append.1 hq with h | h
        ·exact List.mem_append.2 (.inl h)
        ·exact List.mem_append.2 (.inr (List.mem_cons_of_mem _ h)))) hsub (fun j g' h=>⟨g',by rw[←hrem];simp[h]⟩) (fun q hq he=>by have:=hpx q hq;omega)) (q44 tp tB)
       obtain⟨v,H1,hpsi,htr⟩:=htf
       have hpwX:(p++(x,ex2)::t2).Pairwise (fun p q=>p.1<q.1):=by
        rw[List.pairwise_append] at hpw2 ⊢
        have h2:=List.pairwise_cons.1 hpw2.2.1
        have h3:=List.pairwise_cons.1 h2.2
        exact⟨hpw2.1,List.pairwise_cons.2 ⟨fun b hb=>h2.1 b (List.mem_cons_of_mem _ hb),h3.2⟩,fun a ha b hb=>hpw2.2.2 a ha b (by
         rcases List.mem_cons.1 hb with h | h
         ·rw[h];simp
         ·simp[h])⟩
       have hne:∀q∈p++(x,ex2)::t2,q.1≠x+1:=fun q hq=>by
        rcases List.mem_append.1 hq with h | h
        ·have:=hpx q h;omega
        ·rcases List.mem_cons.1 h with h | h
         ·rw[h];simp
         ·have h2:=List.pairwise_cons.1 hw2
          have:=List.rel_of_pairwise_cons h2.2 h
          simp only at this;omega
       refine qef ho hgc hst hr hpsi fun a' w' M' G' k1 k2 k3=>?_
       have hlen12:t2.length=t1.length:=by have:=congrArg List.length hnum;simpa using this.symm
       refine qhw hcl hok r2 hQ2 fuel (p++(x,ex2)::t2) (listed.setIfInBounds (x+1) true) _ H1 w' M' G' a' (by simp at hf ⊢;omega) (fun q hq=>hme2 q (by
        rcases List.mem_append.1 hq with h | h
        ·exact List.mem_append.2 (.inl h)
        ·rcases List.mem_cons.1 h with h | h
         ·rw[h];simp
         ·simp[h])) hpwX (hset _ hne fun j hj=>?_) (by simpa using hsz) (hD' _ hgi) (fun g1 g2 q1 q2=>hne _ q2 rfl) k2 k3 htr fun e a'' w'' hp=>hS _ _ _ (hp.trans k1.toM)
       rw[←hrem]
       constructor
       ·rintro⟨g',hg'⟩
        rcases List.mem_append.1 hg' with h | h
        ·exact⟨g',by simp[h]⟩
        ·rcases List.mem_cons.1 h with h | h
         ·simp only[Prod.mk.injEq] at h;exact⟨ex2,by rw[h.1];simp⟩
         ·rcases List.mem_cons.1 h with h | h
          ·simp only[Prod.mk.injEq] at h;exact absurd h.1 hj
          ·obtain⟨g2,h2⟩:=(hin12 j).1 ⟨g',h⟩;exact⟨g2,by simp[h2]⟩
       ·rintro⟨g',hg'⟩
        rcases List.mem_append.1 hg' with h | h
        ·exact⟨g',by simp[h]⟩
        ·rcases List.mem_cons.1 h with h | h
         ·simp only[Prod.mk.injEq] at h;exact⟨ex1,by rw[h.1];simp⟩
         ·obtain⟨g2,h2⟩:=(hin12 j).2 ⟨g',h⟩;exact⟨g2,by simp[h2]⟩
      ·-- one of those behind the pair waits
       exfalso
       have hgt1:x+1<i:=by have:=hg1 _ hgt;simp only at this;omega
       rcases hpost i g.g hgi hgt1 with hb | hb
       ·have:=hanc _ hgi x (by omega) hb
        rw[hunl x ex1 hxr (by omega)] at this;cases this
       ·have:=hanc _ hgi (x+1) hgt1 hb
        rw[hunl (x+1) ey1 hyr hgt1] at this;cases this

def swpN(x i:Nat):Nat:=if i=x then x+1 else if i=x+1 then x else i
def qzi(x:Nat)(gx p:GI×List Nat):Bool:=!(p.2.any fun j=>decide (j=x))&&!(qfr gx.1.i&&qfr p.1.i)&&!(qfq gx.1.i||qfq p.1.i)
def qyk(x:Nat)(l:List (GI×List Nat)):Bool:=match l.drop x with
 | gx::gy::post=>post.all fun p=>qzi x gx p||qzi (x+1) gy p
 | _=>false
def qb53(P:Program)(Q:VE->AF->List Ent->Prop)(x:Nat):List (GI×List Nat)->List FP->AF->List Ent->Prop
 | gx::gy::post,acc,af,H=>runD P Q acc (gx::(gy.1,gy.2.filter fun j=>decide (j≠x))::post) af H∧runD P Q acc ((gy.1,gy.2.filter fun j=>decide (j≠x))::gx::post.map fun p=>(p.1,p.2.map (swpN x))) af H
 | _,_,_,_=>False
theorem qs4{gl:List GI}{x i:Nat}{gx gi:GI}{ux:List Nat}(hxi:x<i)(hgx:gl[x]?=some gx)(hgi:gl[i]?=some gi)(h:qzi x (gx,ux) (gi,qga (qbx ops.toList []) gl i gi)=true):((qbx ops.toList []).getD i 0).testBit x=true:=by
 unfold qzi at h
 simp only[Bool.and_eq_true,Bool.not_eq_true'] at h
 obtain⟨⟨h1,h2⟩,h3⟩:=h
 cases hb:((qbx ops.toList []).getD i 0).testBit x with
 | true=>rfl
 | false =>
   exfalso
   have hm:x∈qga (qbx ops.toList []) gl i gi:=by
    unfold qga
    rw[List.mem_filter]
    refine⟨by simpa using hxi,?_⟩
    rw[hb,hgx]
    simp only[h2,h3]
    rfl
   rw[List.any_eq_false] at h1
   exact absurd (h1 x hm) (by simp)
theorem qxu{e1 e2:List (Nat×EO)}{l1 l2:List (GI×List Nat)}(h1:Fits e1 [] l1)(h2:Fits e2 (e1.map (·.2.fp)) l2):Fits (e1++e2) [] (l1++l2):=by
 obtain⟨a1,b1⟩:=h1
 obtain⟨a2,b2⟩:=h2
 refine⟨by rw[List.length_append,List.length_append,a1,a2],fun k p hp=>?_⟩
 by_cases hk:k<e1.length
 ·rw[List.getElem?_append_left hk] at hp
  obtain⟨c1,⟨us,c2,c3⟩,c4⟩:=b1 k p hp
  refine⟨c1,⟨us,by rw[List.getElem?_append_left (by omega)];exact c2,fun j hj hjp=>?_⟩,c4⟩
  have:=c3 j hj hjp
  have hj1:j<(e1.map (·.2.fp)).length:=by rw[List.length_map];simp at c1;omega
  rw[List.nil_append,List.map_append,List.getD_eq_getElem?_getD,List.getElem?_append_left hj1]
  rw[List.nil_append,List.getD_eq_getElem?_getD] at this
  exact this
 ·rw[List.getElem?_append_right (by omega)] at hp
  obtain⟨c1,⟨us,c2,c3⟩,c4⟩:=b2 _ p hp
  rw[List.length_map] at c1
  refine⟨by rw[c1];simp;omega,⟨us,by rw[List.getElem?_append_right (by omega),←a1];exact c2,fun j hj hjp=>?_⟩,c4⟩
  have:=c3 j hj hjp
  rw[List.nil_append,List.map_append]
  exact this
theorem qci5{x i j:Nat}(h:j<i)(hn:¬(j=x∧i=x+1)):swpN x j<swpN x i:=by unfold swpN;split<;>split<;>(try split)<;>(try split)<;>omega
theorem qzy{x j:Nat}(h:j<x):swpN x j=j:=by unfold swpN;rw[if_neg (by omega),if_neg (by omega)]
theorem qblo{x j:Nat}(h:x+1<j):swpN x j=j:=by unfold swpN;rw[if_neg (by omega),if_neg (by omega)]
theorem qci8(x:Nat):swpN x x=x+1:=if_pos rfl
theorem qcgr(x:Nat):swpN x (x+1)=x:=by unfold swpN;rw[if_neg (by omega),if_pos rfl]
theorem qwk{es:List (Nat×EO)}(h:∀(k:Nat) (p:Nat×EO),es[k]?=some p->p.1=k):(∀p∈es,es[p.1]?=some p)∧es.Pairwise (fun p q=>p.1<q.1)∧∀i,(∃g,(i,g)∈es)↔i<es.length:=by
 refine⟨fun p hp=>?_,?_,fun i=>⟨fun hg=>?_,fun hi=>?_⟩⟩
 ·obtain⟨k,hk⟩:=List.mem_iff_getElem?.1 hp
  rw[h k p hk];exact hk
 ·rw[List.pairwise_iff_getElem]
  intro i j hi hj hij
  rw[h i _ (List.getElem?_eq_getElem hi),h j _ (List.getElem?_eq_getElem hj)]
  exact hij
 ·obtain⟨g,hg⟩:=hg
  obtain⟨k,hk⟩:=List.mem_iff_getElem?.1 hg
  have h1:=h k _ hk
  simp only at h1
  have:=(List.getElem?_eq_some_iff.1 hk).1
  omega
 ·have h1:=h i _ (List.getElem?_eq_getElem hi)
  refine⟨es[i].2,?_⟩
  have hmem:=List.getElem_mem hi
  generalize es[i]=q at *
  subst h1
  exact hmem
theorem qbz0{id:Nat}{gl:List GI}{l:List (GI×List Nat)}{x:Nat}{af:AF}{H:List Ent}(hm:P.follows .mixedOrders=true)(hc:cL P ops n ops.toList=some gl)(hok:qno ops gl=some l)(hs:qyk x l=true)
 (hR:qha P (qb53 P Q x (l.drop x)) [] (l.take x) af H):VW P fr n m (.region id ops true) Q af H:=by
 intro w M G a hst hr
 refine wpIn_region_any hm ?_
 unfold qno at hok
 split at hok
 case isFalse=>cases hok
 case isTrue hall =>
 simp only[Option.some.injEq] at hok
 obtain⟨hlen,_⟩:=qle hc
 have hwl:=(qdl (ms:=qbx ops.toList []) (gl:=gl) (l:=gl) (k:=0))
 rw[hok] at hwl
 obtain⟨hll,hlg⟩:=hwl
 have hN:gl.length=ops.size:=by rw[←hlen];simp
 have hget:∀i,i<l.length->∃g,gl[i]?=some g∧l[i]?=some (g,qga (qbx ops.toList []) gl i g):=fun i hi=>by
  have hi':i<gl.length:=by omega
  refine⟨gl[i],List.getElem?_eq_getElem hi',?_⟩
  have:=hlg i gl[i] (List.getElem?_eq_getElem hi')
  rwa [Nat.zero_add] at this
 obtain⟨gx,gy,post,hdr⟩:∃gx gy post,l.drop x=gx::gy::post:=by
  unfold qyk at hs
  split at hs
  ·exact⟨_,_,_,by assumption⟩
  ·cases hs
 rw[hdr] at hR
 unfold qyk at hs
 rw[hdr] at hs
 simp only at hs
 have hdl:=congrArg List.length hdr
 rw[List.length_drop,List.length_cons,List.length_cons] at hdl
 have hdg:∀k,l[x+k]?=(gx::gy::post)[k]?:=fun k=>by rw[←hdr,List.getElem?_drop]
 have hLx:l[x]?=some gx:=by have:=hdg 0;simpa using this
 have hLy:l[x+1]?=some gy:=by have:=hdg 1;simpa using this
 have hLp:∀k,l[x+2+k]?=post[k]?:=fun k=>by
  have:=hdg (k+2)
  rw[show x+(k+2)=x+2+k by omega] at this
  rw[this];rfl
 obtain⟨es0,afm,Hm,hf0,tp,hK⟩:=qzz hR
 rw[List.nil_append] at hK
 obtain⟨hA,hB⟩:=hK
 obtain⟨eA,af1,E1,hfA,tA,q1⟩:=qkn hA
 obtain⟨eB,af2,E2,hfB,tB,q2⟩:=qkn hB
 have hFA:=qxu hf0 hfA
 have hFB:=qxu hf0 hfB
 have hx0:es0.length=x:=by rw[hf0.1,List.length_take];omega
 have hlA:=hfA.1
 have hlB:=hfB.1
 obtain⟨a0,a1,tlA,rfl⟩:∃a0 a1 t,eA=a0::a1::t:=by
  match eA,hlA with
  | a0::a1::t,_=>exact⟨a0,a1,t,rfl⟩
 obtain⟨b0,b1,tlB,rfl⟩:∃b0 b1 t,eB=b0::b1::t:=by
  match eB,hlB with
  | b0::b1::t,_=>exact⟨b0,b1,t,rfl⟩
 simp only[List.length_cons,List.length_map] at hlA hlB
 -- the text's order
 obtain⟨es1,he1⟩:∃es1,es0++a0::a1::tlA=es1:=⟨_,rfl⟩
 obtain⟨eF,heF⟩:∃eF,es0++b0::b1::tlB=eF:=⟨_,rfl⟩
 rw[he1] at hFA
 rw[heF] at hFB
 have hn1:∀(k:Nat) (p:Nat×EO),es1[k]?=some p->p.1=k:=fun k p hp=>by have:=(hFA.2 k p hp).1;simpa using this
 have hnF:∀(k:Nat) (p:Nat×EO),eF[k]?=some p->p.1=k:=fun k p hp=>by have:=(hFB.2 k p hp).1;simpa using this
 have htk:(l.take x).length=x:=by rw[List.length_take];omega
 have LA:∀i g us,l[i]?=some (g,us)->((l.take x++gx::(gy.1,gy.2.filter fun j=>decide (j≠x))::post)[i]?=some (g,if i=x+1 then us.filter (fun j=>decide (j≠x)) else us)):=fun i g us hi=>by
  by_cases c1:i<x
  ·rw[List.getElem?_append_left (by omega),List.getElem?_take_of_lt c1,hi,if_neg (by omega)]
  ·rw[List.getElem?_append_right (by omega),htk]
   by_cases c2:i=x
   ·subst c2
    rw[hLx] at hi
    simp only[Option.some.injEq] at hi
    rw[Nat.sub_self,if_neg (by omega),hi];rfl
   ·by_cases c3:i=x+1
    ·subst c3
     rw[hLy] at hi
     simp only[Option.some.injEq] at hi
     rw[show x+1-x=1 by omega,if_pos rfl,hi];rfl
    ·have:=hLp (i-x-2)
     rw[show x+2+(i-x-2)=i by omega,hi] at this
     rw[show i-x=(i-x-2)+2 by omega,if_neg c3]
     simp only[List.getElem?_cons_succ]
     exact this.symm
 have LB:∀i g us,l[i]?=some (g,us)->((l.take x++(gy.1,gy.2.filter fun j=>decide (j≠x))::gx::post.map fun p=>(p.1,p.2.map (swpN x)))[swpN x i]?=some (g,if i=x+1 then us.filter (fun j=>decide (j≠x)) else if i≤x then us else us.map (swpN x))):=fun i g us hi=>by
  by_cases c1:i<x
  ·rw[qzy c1,List.getElem?_append_left (by omega),List.getElem?_take_of_lt c1,hi,if_neg (by omega),if_pos (by omega)]
  ·by_cases c2:i=x
   ·subst c2
    rw[qci8,List.getElem?_append_right (by omega),htk]
    rw[hLx] at hi
    simp only[Option.some.injEq] at hi
    rw[show i+1-i=1 by omega,if_neg (by omega),if_pos (by omega),hi];rfl
   ·by_cases c3:i=x+1
    ·subst c3
     rw[qcgr,List.getElem?_append_right (by omega),htk]
     rw[hLy] at hi
     simp only[Option.some.injEq] at hi
     rw[Nat.sub_self,if_pos rfl,hi];rfl
    ·rw[qblo (by omega),List.getElem?_append_right (by omega),htk]
     have:=hLp (i-x-2)
     rw[show x+2+(i-x-2)=i by omega,hi] at this
     rw[show i-x=(i-x-2)+2 by omega,if_neg c3,if_neg (by omega)]
     simp only[List.getElem?_cons_succ,List.getElem?_map]
     rw[←this];rfl
 have hlen1:es1.length=l.length:=by rw[hFA.1,List.length_append,htk,List.length_cons,List.length_cons];omega
 have hlenF:eF.length=l.length:=by rw[hFB.1,List.length_append,htk,List.length_cons,List.length_cons,List.length_map];omega
 have R1:Row ops gl es1 x (x+1):=by
  refine qyt (fun i p hp=>?_) (fun i j p q hp hq hji hlk hne=>?_)
  ·have hi:i<l.length:=by have:=(List.getElem?_eq_some_iff.1 hp).1;omega
   obtain⟨k1,⟨us,k2,_⟩,k3⟩:=hFA.2 i p hp
   obtain⟨g,g1,g2⟩:=hget i hi
   rw[LA i g _ g2] at k2
   simp only[Option.some.injEq,Prod.mk.injEq] at k2
   exact⟨by simpa using k1,by rw[g1,k2.1],k3⟩
  ·have hi:i<l.length:=by have:=(List.getElem?_eq_some_iff.1 hp).1;omega
   obtain⟨k1,⟨us,k2,k4⟩,k3⟩:=hFA.2 i p hp
   obtain⟨g,g1,g2⟩:=hget i hi
   rw[LA i g _ g2] at k2
   simp only[Option.some.injEq,Prod.mk.injEq] at k2
   obtain⟨rfl,rfl⟩:=k2
   have h:=k4 j (by
    split
    ·rename_i hiy
     rw[List.mem_filter]
     exact⟨hlk,by simp only[decide_eq_true_eq];exact fun e=>hne ⟨e,hiy⟩⟩
    ·exact hlk) (by rw[k1];simpa using hji)
   rw[qmd hq] at h
   exact h
 -- the other order
 obtain⟨es2,he2⟩:∃es2,es0++(x,b1.2)::(x+1,b0.2)::tlB=es2:=⟨_,rfl⟩
 have hF0:∀k,k<x->eF[k]?=es0[k]?:=fun k hk=>by rw[←heF,List.getElem?_append_left (by omega)]
 have hFx:eF[x]?=some b0:=by rw[←heF,List.getElem?_append_right (by omega),hx0,Nat.sub_self];rfl
 have hFy:eF[x+1]?=some b1:=by rw[←heF,List.getElem?_append_right (by omega),hx0,show x+1-x=1 by omega];rfl
 have hFp:∀k,eF[x+2+k]?=tlB[k]?:=fun k=>by rw[←heF,List.getElem?_append_right (by omega),hx0,show x+2+k-x=k+2 by omega];rfl
 have h2g:∀i p,es2[i]?=some p->∃p',eF[swpN x i]?=some p'∧p=(i,p'.2):=fun i p hp=>by
  rw[←he2] at hp
  by_cases c1:i<x
  ·rw[List.getElem?_append_left (by omega),←hF0 i c1] at hp
   refine⟨p,by rw[qzy c1];exact hp,?_⟩
   have:=hnF i p hp
   exact Prod.ext this rfl
  ·rw[List.getElem?_append_right (by omega),hx0] at hp
   by_cases c2:i=x
   ·subst c2
    rw[Nat.sub_self,List.getElem?_cons_zero] at hp
    simp only[Option.some.injEq] at hp
    exact⟨b1,by rw[qci8];exact hFy,hp.symm⟩
   ·by_cases c3:i=x+1
    ·subst c3
     rw[show x+1-x=1 by omega] at hp
     simp only[List.getElem?_cons_succ,List.getElem?_cons_zero,Option.some.injEq] at hp
     exact⟨b0,by rw[qcgr];exact hFx,hp.symm⟩
    ·rw[show i-x=(i-x-2)+2 by omega] at hp
     simp only[List.getElem?_cons_succ] at hp
     have hq:eF[i]?=some p:=by have:=hFp (i-x-2);rw[show x+2+(i-x-2)=i by omega] at this;rw[this];exact hp
     refine⟨p,by rw[qblo (by omega)];exact hq,?_⟩
     have:=hnF i p hq
     exact Prod.ext this rfl
 have hlen2:es2.length=l.length:=by rw[←he2,List.length_append,hx0,List.length_cons,List.length_cons];omega
 have R2:Row ops gl es2 x (x+1):=by
  refine qyt (fun i p hp=>?_) (fun i j p q hp hq hji hlk hne=>?_)
  ·have hi:i<l.length:=by have:=(List.getElem?_eq_some_iff.1 hp).1;omega
   obtain⟨p',hp',rfl⟩:=h2g i p hp
   obtain⟨k1,⟨us,k2,_⟩,k3⟩:=hFB.2 _ p' hp'
   obtain⟨g,g1,g2⟩:=hget i hi
   rw[LB i g _ g2] at k2
   simp only[Option.some.injEq,Prod.mk.injEq] at k2
   exact⟨rfl,by rw[g1,k2.1],k3⟩
  ·have hi:i<l.length:=by have:=(List.getElem?_eq_some_iff.1 hp).1;omega
   obtain⟨p',hp',rfl⟩:=h2g i p hp
   obtain⟨q',hq',rfl⟩:=h2g j q hq
   obtain⟨k1,⟨us,k2,k4⟩,k3⟩:=hFB.2 _ p' hp'
   obtain⟨g,g1,g2⟩:=hget i hi
   rw[LB i g _ g2] at k2
   simp only[Option.some.injEq,Prod.mk.injEq] at k2
   obtain⟨rfl,rfl⟩:=k2
   have h:=k4 (swpN x j) (by
    by_cases c3:i=x+1
    ·rw[if_pos c3,List.mem_filter]
     have hjx:j≠x:=fun e=>hne ⟨e,c3⟩
     rw[qzy (by omega)]
     exact⟨hlk,by simpa using hjx⟩
    ·rw[if_neg c3]
     by_cases c4:i≤x
     ·rw[if_pos c4,qzy (by omega)];exact hlk
     ·rw[if_neg c4];exact List.mem_map.2 ⟨j,hlk,rfl⟩) (by rw[k1,List.length_nil,Nat.zero_add];exact qci5 hji hne)
   rw[qmd hq'] at h
   exact h
 have hn2:∀(k:Nat) (p:Nat×EO),es2[k]?=some p->p.1=k:=fun k p hp=>by
  obtain⟨p',_,rfl⟩:=h2g k p hp;rfl
 obtain⟨m1a,m1b,m1c⟩:=qwk hn1
 obtain⟨m2a,m2b,m2c⟩:=qwk hn2
 have hn0:∀(k:Nat) (p:Nat×EO),es0[k]?=some p->p.1=k:=fun k p hp=>by have:=(hf0.2 k p hp).1;simpa using this
 obtain⟨m0a,m0b,m0c⟩:=qwk hn0
 have ha0:a0=(x,a0.2):=by
  have:es1[x]?=some a0:=by rw[←he1,List.getElem?_append_right (by omega),hx0,Nat.sub_self];rfl
  exact Prod.ext (hn1 x a0 this) rfl
 have ha1:a1=(x+1,a1.2):=by
  have:es1[x+1]?=some a1:=by rw[←he1,List.getElem?_append_right (by omega),hx0,show x+1-x=1 by omega];rfl
  exact Prod.ext (hn1 (x+1) a1 this) rfl
 rw[ha0,ha1] at he1 tA
 have hdrw:({ w with drawn:=w.drawn+1 }:World)=w.drew:=rfl
 rw[hdrw]
 have hx:=Ext.drew hst
 have tB':Tr P ((x+1,b0.2)::(x,b1.2)::tlB) afm Hm af2 E2:=qvy (by simp) tB
 have hnum:tlA.map (·.1)=tlB.map (·.1):=by
  refine List.ext_getElem? fun k=>?_
  rw[List.getElem?_map,List.getElem?_map]
  have eA:es1[x+2+k]?=tlA[k]?:=by rw[←he1,List.getElem?_append_right (by omega),hx0,show x+2+k-x=k+2 by omega];rfl
  have eB:es2[x+2+k]?=tlB[k]?:=by rw[←he2,List.getElem?_append_right (by omega),hx0,show x+2+k-x=k+2 by omega];rfl
  cases h1:tlA[k]? with
  | none =>
    have h2:tlB[k]?=none:=by rw[List.getElem?_eq_none_iff] at h1 ⊢;omega
    rw[h2]
  | some p =>
    cases h2:tlB[k]? with
    | none=>exfalso;have:=(List.getElem?_eq_some_iff.1 h1).1;rw[List.getElem?_eq_none_iff] at h2;omega
    | some q =>
      rw[h1] at eA
      rw[h2] at eB
      simp only[Option.map_some,Option.some.injEq]
      rw[hn1 _ p eA,hn2 _ q eB]
 refine q1u (m:=m) hc hall R1 R2 (fun i g hg hi=>?_) (fun p hp=>m1a p (by rw[←he1];exact List.mem_append.2 (.inr hp))) (by rw[←he1] at m1b;exact(List.pairwise_append.1 m1b).2.1) (fun p hp=>m2a p (by rw[←he2];exact List.mem_append.2 (.inr hp))) (by rw[←he2] at m2b;exact(List.pairwise_append.1 m2b).2.1) hnum q1 q2 ops.size es0 _ af H w.drew M G a (by omega) (fun q hq=>⟨m1a q (by rw[←he1];exact List.mem_append.2 (.inl hq)),m2a q (by rw[←he2];exact List.mem_append.2 (.inl hq))⟩) m0b (fun q hq=>by have:=(m0c q.1).1 ⟨q.2,hq⟩;omega) (fun i hi=>?_) (by simp) ?_ hst.drew (hr.ext hx) ⟨afm,Hm,tp,tA,tB'⟩ fun e a' w' hp=>hp.trans hx.toM
 ·have hil:i<l.length:=by have:=(List.getElem?_eq_some_iff.1 hg).1;omega
  have hpi:post[i-x-2]?=some (g,qga (qbx ops.toList []) gl i g):=by
   have:=hLp (i-x-2)
   rw[show x+2+(i-x-2)=i by omega] at this
   obtain⟨g',g1,g2⟩:=hget i hil
   rw[hg] at g1
   simp only[Option.some.injEq] at g1
   subst g1
   rw[←this];exact g2
  have hw:=List.all_eq_true.1 hs _ (List.mem_of_getElem? hpi)
  obtain⟨ggx,hgx1,hgx2⟩:=hget x (by omega)
  obtain⟨ggy,hgy1,hgy2⟩:=hget (x+1) (by omega)
  rw[hLx] at hgx2
  rw[hLy] at hgy2
  simp only[Option.some.injEq] at hgx2 hgy2
  subst hgx2 hgy2
  rw[Bool.or_eq_true] at hw
  rcases hw with h | h
  ·exact .inl (qs4 (by omega) hgx1 hg h)
  ·exact .inr (qs4 hi hgy1 hg h)
 ·constructor
  ·intro _;rw[he1];exact(m1c i).2 (by omega)
  ·intro _;simp[hi]
 ·intro i j hi hl _ _
  simp[hi] at hl
end
section
variable {P:Program} {fr:Option Nat} {n m:Nat} {Q:VE->AF->List Ent->Prop} {af:AF} {H:List Ent}
theorem qb2h{l:List (GI×List Nat)}(x:Nat)(hs:qyk x l=true)(hR:qha P (qb53 P Q x (l.drop x)) [] (l.take x) af H):VI P fr n m (.drw l) Q af H:=by
 intro c hc
 cases c<;>simp only[qck] at hc
 case region id ops draw =>
  split at hc
  ·rename_i l' hl
   cases draw with
   | true =>
     rw[if_pos rfl] at hc
     split at hc
     ·rename_i hm
      obtain⟨z,hx,hxx⟩:=Option.map_eq_some_iff.1 hc
      simp only[IC.drw.injEq] at hxx
      subst hxx
      exact qbz0 hm hl hx hs hR
     ·cases hc
   | false=>rw[if_neg (by simp)] at hc;cases hc
  ·exfalso;split at hc<;>simp at hc
 all_goals(exfalso;(repeat' split at hc)<;>simp at hc)
end
end Go.V
