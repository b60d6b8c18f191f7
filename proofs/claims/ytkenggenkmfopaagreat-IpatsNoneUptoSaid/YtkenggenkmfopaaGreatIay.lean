/- Texts of this proof, joined. -/
import Derived.Test.YtkenggenkmfopaaGreatIaq
import Derived.Test.YtkenggenkmfopaaGreatIad
import Derived.Test.YtkenggenkmfopaaGreatIae
set_option linter.unusedVariables false
set_option linter.unusedSimpArgs false

/-
 The value logic, part z, eighth part: a row that was written becomes one that stays, its elements told otherwise.
-/
namespace Go.V
open Go Go.RowKit

section
variable {P:Program} {fr:Option Nat} {n m:Nat} {a:IC} {QV:VE->AF->List Ent->Prop} {af:AF} {H:List Ent}
theorem q5o{w:World}{M:Nat->Nat->Prop}{G:List Gh}(hst:St w M G H)(c:Co):∀(es:List AV) (us:List Value),VRs w M G es us->VRs w M G (es.map (co H c)) us
 | [],us,h=>h
 | e :: r, us, h => by
   obtain⟨v,vs,h1,h2,h3⟩:=h
   exact⟨v,vs,h1,qdo hst c e v h2,q5o hst c r vs h3⟩
theorem qpe(i:Nat)(c:Co){q:Nat}{es0 es:List AV}(he:ent H i=.mrow q es0)(hco:es0.map (co H c)=es)(hf:∀v∈es,v.flat)(h:VI P fr n m a QV af (H.set i (.app q es))):VI P fr n m a QV af H:=by
 intro c' hc w M G act hst hr
 have hH:=qba he (by simp)
 obtain⟨g,hg⟩:=hst.lenH hH
 obtain⟨h1,⟨h2,h3,vs,t,us,h4,h5,h6,h7,h8⟩,h9⟩:=hst.ok i g _ hg hH
 have hlen:es0.length=es.length:=by rw[←hco,List.length_map]
 have h6:=q5o hst c _ _ h6
 rw[hco] at h6
 try rw[hlen] at h2
 try rw[hlen] at h3
 try rw[hlen] at h4
 try rw[hlen] at h5
 try rw[hlen] at h7
 try rw[hlen] at h8
 try simp only[hlen] at h9
 have hiG:=(List.getElem?_eq_some_iff.1 hg).1
 let M':Nat->Nat->Prop:=fun b o=>M b o∨(b=g.blk∧o<q*es.length)
 have hul:us.length=es.length:=ql h6
 have hle:Le w M w M':=fun b o hm=>⟨.inl hm,rfl⟩
 have hc0:∀(i:Nat) (g:Gh),G[i]?=some g->∃g':Gh,G[i]?=some g'∧g'.core=g.core:=fun i g hg=>⟨g,hg,rfl⟩
 have hone:=qfi h6 hf
 have hst':St w M' G (H.set i (.app q es)):=by
  refine⟨by rw[List.length_set];exact hst.len,fun j gj e hj hje=>?_,hst.dj,hst.lt,fun b o hm=>?_,fun b o v hm hv=>?_⟩
  ·by_cases hij:i=j
   ·subst hij
    rw[hg] at hj
    simp only[Option.some.injEq] at hj
    subst hj
    rw[List.getElem?_set_self (by rw[←hst.len];exact hiG)] at hje
    simp only[Option.some.injEq] at hje
    subst hje
    exact⟨h1,⟨h2,h3,vs,t,us,h4,h5,qca hc0 hle h6,h7,h8⟩,fun o=>⟨fun hm=>hm.elim (fun hm=>absurd hm (h9 o)) fun hm=>hm.2,fun ho=>.inr ⟨rfl,ho⟩⟩⟩
   ·rw[List.getElem?_set_ne hij] at hje
    refine qfr hc0 ⟨fun _ _=>rfl,hle,fun b o hb hm=>?_,Nat.le_refl _⟩ (hst.ok j gj e hj hje)
    rcases hm with hm | ⟨rfl,_⟩
    ·exact hm
    ·exact absurd (hst.dj j i gj g g.blk hj hg hb ((h1 _).2 rfl)) (Ne.symm hij)
  ·rcases hm with hm | ⟨rfl,_⟩
   ·exact hst.Mlt b o hm
   ·exact hst.lt i g g.blk hg ((h1 _).2 rfl)
  ·rcases hm with hm | ⟨rfl,ho⟩
   ·exact hst.one b o v hm hv
   ·rw[qec h4 o] at hv
    have hv':(vs.take (q*es.length))[o]?=some v:=by rw[List.getElem?_take_of_lt ho];exact hv
    rw[h8] at hv'
    have hmem:=List.mem_of_getElem? hv'
    obtain⟨u,hu,hvu⟩:=List.mem_flatMap.1 hmem
    exact hone u hu v hvu
 have hext:Ext w M G w M' G:=⟨rfl,rfl,rfl,Nat.le_refl _,hc0,hle,fun _ _ _=>rfl,fun b hb=>.inl hb,fun b o hm=>by
  rcases hm with hm | ⟨rfl,_⟩
  ·exact .inl hm
  ·exact .inr (.inl ⟨i,g,hg,(h1 _).2 rfl⟩)⟩
 exact qo9 (h c' hc) hst' (hr.ext hext) hext.toM
end

theorem q6s{a b:List Nat}(h:∀k∈a,k∉b):∀k∈b,k∉a:=fun k hk hb=>h k hb hk
theorem q7r{k:Nat}:∀{l:List Nat},k∉l->nin k l=true
 | [],_=>rfl
 | a :: r, h => by
   simp only[List.mem_cons,not_or] at h
   unfold nin
   rw[if_neg h.1];exact q7r h.2
theorem qs3:∀{l r:List Nat},(∀k∈l,k∉r)->disj l r=true
 | [],_,_=>rfl
 | a :: l, r, h => by
   simp only[disj,Bool.and_eq_true]
   exact⟨q7r (h a (by simp)),qs3 fun k hk=>h k (by simp[hk])⟩
theorem qbas{x y:FP}(h:okFP x y=true):okFP y x=true:=by
 have s:=qvy h
 simp only[okFP,Bool.and_eq_true]
 refine⟨qs3 s.c,qs3 (q6s s.b),qs3 s.a,?_,?_,?_⟩
 ·cases hx:x.al<;>cases hy:y.al<;>first | rfl | exact(s.d hx hy).elim
 ·cases ht:y.top with
  | false=>rfl
  | true=>obtain⟨a,b⟩:=s.f ht;simp[a,b]
 ·cases ht:x.top with
  | false=>rfl
  | true=>obtain⟨a,b⟩:=s.e ht;simp[a,b]
section
variable {P:Program} {fr:Option Nat} {n m:Nat} {Q:VE->AF->List Ent->Prop} {ops:Array Oper}

structure Row(ops:Array Oper)(gl:List GI)(es:List (Nat×EO))(x y:Nat):Prop where
 g:∀(i:Nat) (p:Nat×EO),es[i]?=some p->p.1=i∧gl[i]?=some p.2.g
 ok:∀(i j:Nat) (p q:Nat×EO),es[i]?=some p->es[j]?=some q->j<i->¬(j=x∧i=y)->((qcz ops.toList []).getD i 0).testBit j=false->okFP q.2.fp p.2.fp=true

theorem qqg{gl:List GI}{es:List (Nat×EO)}{x y:Nat}(hcl:cL P ops n ops.toList=some gl)(hok:qgf (qcz ops.toList []) gl 0 ops.toList gl=true)(hrow:Row ops gl es x y){S:Exit->Act->World->Prop}{afE:AF}{HE:List Ent}(hQ:Q .nrm afE HE):
 ∀ (fuel : Nat) (rem : List (Nat × EO)) (listed : Array Bool) (af : AF) (H : List Ent) (w : World) (M : Nat → Nat → Prop) (G : List Gh) (a : Act), rem.length ≤ fuel →
   (∀p∈rem,es[p.1]?=some p)->rem.Pairwise (fun p q=>p.1<q.1)->(∀i,i<ops.size->(listed.getD i true=false↔∃g,(i,g)∈rem))->listed.size=ops.size →
   (∀i j,i<ops.size->listed.getD i true=true->((qcz ops.toList []).getD i 0).testBit j=true->j<i->listed.getD j true=true)->(∀g g',(x,g)∈rem->(y,g')∈rem->False) →
   St w M G H->RelF w M G n af a->Tr P rem af H afE HE->(∀e a' w',VPost Q n m w M G e a' w'->S e a' w')->wpAnyIn (fw fr) 0 P .any ops S fuel listed a w:=by
 obtain⟨hlen,hcget⟩:=qpg hcl
 obtain⟨_,hdget⟩:=qgi hok
 have hone:∀(i:Nat) (o:Oper) (g:GI),ops[i]?=some o->gl[i]?=some g->qdx (qcz ops.toList []) gl i o g=true:=fun i o g ho hg=>by
  obtain⟨g',h1,h2⟩:=hdget i o (by simpa using ho)
  rw[hg] at h1
  simp only[Option.some.injEq] at h1;subst h1
  simpa using h2
 have hfin:∀{w:World} {M:Nat->Nat->Prop} {G:List Gh} {af:AF} {H:List Ent} {a:Act},St w M G H->RelF w M G n af a->Tr P [] af H afE HE->VPost Q n m w M G .normal a w:=by
  intro w M G af H a hst hr ht
  obtain⟨⟨he1,he2⟩,rfl⟩:=ht
  exact⟨.nrm,afE,M,G,H,hQ,rfl,ExtM.refl,hst,⟨hr.size,by rw[←he1];exact hr.defers,fun t=>by rw[←he2 t];exact hr.rd t⟩⟩
 intro fuel
 induction fuel with
 | zero =>
   intro rem listed af H w M G a hf hrem hpw hli hsz hD hno hst hr ht hS
   have h0:rem=[]:=List.eq_nil_of_length_eq_zero (by omega)
   subst h0
   refine⟨?_,hS _ _ _ (hfin hst hr ht)⟩
   cases hrd:Region.ready .any ops listed with
   | nil=>rfl
   | cons i r =>
     have hi:i∈Region.ready .any ops listed:=by rw[hrd];simp
     obtain⟨h1,o,ho,_⟩:=mem_ready.1 hi
     have hlt:=(Array.getElem?_eq_some_iff.1 ho).1
     obtain⟨g,hg⟩:=(hli i hlt).1 h1
     cases hg
 | succ fuel ih =>
   intro rem listed af H w M G a hf hrem hpw hli hsz hD hno hst hr ht hS
   have hfirst:∀p r,rem=p::r->Region.ready .any ops listed≠[]:=by
    rintro⟨i,g⟩ r rfl hnil
    have hg:=(hrow.g i _ (hrem (i,g) (by simp))).2
    simp only at hg
    have hgl:=(List.getElem?_eq_some_iff.1 hg).1
    have hi:i<ops.size:=by rw[←Array.length_toList,hlen];exact hgl
    have hio:ops[i]?=some ops[i]:=Array.getElem?_eq_getElem hi
    have:i∈Region.ready .any ops listed:=by
     refine mem_ready.2 ⟨(hli i hi).2 ⟨g,by simp⟩,ops[i],hio,fun e he hb=>?_⟩
     have hd:=hone i _ g.g hio hg
     simp only[qdx,Bool.and_eq_true,List.all_eq_true] at hd
     have hlt:=hd.1 e (by simpa using he)
     simp only[hb,Bool.not_true,Bool.false_or,decide_eq_true_eq] at hlt
     have hel:e.on<ops.size:=by omega
     cases hq:listed.getD e.on true with
     | true =>
       have:e.on<listed.size:=by omega
       simp[this] at hq ⊢
       exact hq
     | false =>
       obtain⟨g',hg'⟩:=(hli e.on hel).1 hq
       rcases List.mem_cons.1 hg' with hx | hx
       ·simp only[Prod.mk.injEq] at hx;omega
       ·have:=List.rel_of_pairwise_cons hpw hx
        simp only at this;omega
    rw[hnil] at this
    cases this
   refine⟨fun hnil=>?_,fun i hi=>?_⟩
   ·have h0:rem=[]:=by
     cases hrm:rem with
     | nil=>rfl
     | cons p r=>exact absurd hnil (hfirst p r hrm)
    subst h0
    exact hS _ _ _ (hfin hst hr ht)
   ·obtain⟨h1,o,ho,hall⟩:=mem_ready.1 hi
    have hlt:=(Array.getElem?_eq_some_iff.1 ho).1
    obtain⟨g,hg⟩:=(hli i hlt).1 h1
    obtain⟨l1,l2,rfl⟩:=List.append_of_mem hg
    have hes:=hrem (i,g) hg
    obtain⟨_,hgi⟩:=hrow.g i _ hes
    simp only at hgi
    have hd:=hone i o g.g ho hgi
    simp only[qdx,Bool.and_eq_true,List.all_eq_true,List.mem_range] at hd
    have hanc:∀j,j<i->((qcz ops.toList []).getD i 0).testBit j=true->listed.getD j true=true:=fun j hj hb=>by
     have:=hd.2 j hj
     split at this
     ·rename_i gj hgj
      rw[if_pos hb] at this
      obtain⟨e,he,hbe⟩:=List.any_eq_true.1 this
      simp only[Bool.and_eq_true,Bool.or_eq_true,beq_iff_eq,decide_eq_true_eq] at hbe
      have hon:=hall e (by simpa using he) hbe.1
      have helt:=hd.1 e he
      simp only[hbe.1,Bool.not_true,Bool.false_or,decide_eq_true_eq] at helt
      have hon':listed.getD e.on true=true:=by
       have:e.on<listed.size:=by omega
       simp[this] at hon ⊢
       exact hon
      rcases hbe.2 with rfl | ⟨hje,hbit⟩
      ·exact hon'
      ·exact hD e.on j (by omega) hon' hbit hje
     ·cases this
    have hind:∀q∈l1,qgu q.2.g g.g=true∧okFP q.2.fp g.fp=true:=by
     rintro⟨j,ej⟩ hq
     have hji:j<i:=(List.pairwise_append.1 hpw).2.2 (j,ej) hq (i,g) (by simp)
     have hej:=hrem (j,ej) (by simp[hq])
     obtain⟨_,hgj⟩:=hrow.g j _ hej
     simp only at hgj
     have hun:listed.getD j true=false:=(hli j (by omega)).2 ⟨ej,by simp[hq]⟩
     have hnb:¬(((qcz ops.toList []).getD i 0).testBit j=true):=fun hb=>by
      have:=hanc j hji hb
      rw[hun] at this;cases this
     have:=hd.2 j hji
     rw[hgj] at this
     simp only at this
     rw[if_neg hnb] at this
     refine⟨this,hrow.ok i j _ _ hes hej hji (fun e=>?_) (by simpa using hnb)⟩
     obtain⟨rfl,rfl⟩:=e
     exact hno ej g (by simp[hq]) (by simp)
    have htf:=qi8 hind ht
    obtain⟨v,H1,hpsi,htr⟩:=htf
    obtain⟨g',hg1,hg2⟩:=hcget i o (by simpa using ho)
    rw[hgi] at hg1
    simp only[Option.some.injEq] at hg1;subst hg1
    refine qhi ho hg2 hst hr hpsi fun a' w' M' G' k1 k2 k3=>?_
    have hni:∀q∈l1++l2,q.1≠i:=fun q hq=>by
     rcases List.mem_append.1 hq with hq | hq
     ·have:=(List.pairwise_append.1 hpw).2.2 q hq (i,g) (by simp);simp only at this;omega
     ·have:=List.rel_of_pairwise_cons (List.pairwise_append.1 hpw).2.1 hq;simp only at this;omega
    have hsub:∀q,q∈l1++l2->q∈l1++(i,g)::l2:=fun q hq=>by
     rcases List.mem_append.1 hq with hq | hq<;>simp[hq]
    refine ih (l1++l2) (listed.setIfInBounds i true) _ H1 w' M' G' a' (by simp at hf ⊢;omega) (fun q hq=>hrem q (hsub q hq)) ?_ ?_ (by simpa using hsz) ?_ (fun g1 g2 q1 q2=>hno g1 g2 (hsub _ q1) (hsub _ q2)) k2 k3 htr fun e a'' w'' hp=>hS _ _ _ (hp.trans k1.toM)
    ·rw[List.pairwise_append] at hpw ⊢
     exact⟨hpw.1,(List.pairwise_cons.1 hpw.2.1).2,fun x hx y hy=>hpw.2.2 x hx y (by simp[hy])⟩
    ·intro j hj
     by_cases hji:i=j
     ·subst hji
      constructor
      ·intro hh
       have:i<listed.size:=by omega
       simp[this] at hh
      ·rintro⟨g'',hg''⟩
       exact absurd rfl (hni _ hg'')
     ·rw[qbl _ _ hji,hli j hj]
      constructor
      ·rintro⟨g'',hg''⟩
       refine⟨g'',?_⟩
       rcases List.mem_append.1 hg'' with hx | hx
       ·simp[hx]
       ·rcases List.mem_cons.1 hx with hx | hx
        ·simp only[Prod.mk.injEq] at hx;exact absurd hx.1.symm hji
        ·simp[hx]
      ·rintro⟨g'',hg''⟩
       exact⟨g'',hsub _ hg''⟩
    ·intro k j hk hlk hb hjk
     by_cases hik:i=k
     ·subst hik
      rw[qbl _ _ (by omega)]
      exact hanc j hjk hb
     ·rw[qbl _ _ hik] at hlk
      by_cases hij:i=j
      ·subst hij
       have:i<listed.size:=by omega
       simp[this]
      ·rw[qbl _ _ hij]
       exact hD k j hk hlk hb hjk

def qlk:I->Bool
 | .call _ _=>false
 | _=>true
theorem qbn3{α:Type}{r:Rs α}{K K':α->Prop}(h:r.bnd K)(h':r.bnd K'):r.bnd fun x=>K x∧K' x:=by
 induction r with
 | ret x=>exact⟨h,h'⟩
 | req p r ih=>exact⟨h.1,ih h.2 h'.2⟩
 | bad=>exact h
theorem q6x{i:I}(hi:qlk i=true){top top':Md}{af:AF}{H H1 H2:List Ent}{v v':AV}(h:Phi P top af H i v H1)(h':Phi P top' af H i v' H2):v=v'∧H1=H2:=by
 have key:∀r:Rs (AV×List Ent),(r.bnd fun p=>p.1=v∧p.2=H1)->(r.bnd fun p=>p.1=v'∧p.2=H2)->v=v'∧H1=H2:=by
  intro r a b
  obtain⟨p,_,q1,q2⟩:=qui (qbn3 a b)
  exact⟨q1.1.symm.trans q2.1,q1.2.symm.trans q2.2⟩
 cases i<;>first | (exact key _ h h') | (simp[qlk] at hi)
theorem qb7u{e e':EO}(hg:e.g=e'.g)(hi:qlk e.g.i=true){af:AF}{H H1 H2:List Ent}{v v':AV}(h:Psi P e af H v H1)(h':Psi P e' af H v' H2):v=v'∧H1=H2:=by
 obtain⟨⟨gg,d,i⟩,top,fp⟩:=e
 obtain⟨g',top',fp'⟩:=e'
 simp only at hg hi
 subst hg
 obtain⟨_,h⟩:=h
 obtain⟨_,h'⟩:=h'
 simp only at h h'
 cases gg with
 | none=>exact q6x hi h h'
 | some p =>
   obtain⟨t,b⟩:=p
   simp only at h h'
   unfold gd at h h'
   split at h
   ·rename_i c hc
    rw[hc] at h'
    simp only at h'
    split at h
    ·rename_i hb;rw[if_pos hb] at h';exact q6x hi h h'
    ·rename_i hb;rw[if_neg hb] at h';exact⟨h.1.trans h'.1.symm,h.2.trans h'.2.symm⟩
   ·rename_i hc
    rw[hc] at h'
    simp only at h'
    exact⟨h.1.trans h'.1.symm,h.2.trans h'.2.symm⟩
   ·exact h.elim
theorem q0b{α:Type}{l1 l2:List (Nat×α)}{i:Nat}{g:α}(hpw:(l1++(i,g)::l2).Pairwise (fun p q=>p.1<q.1)):
 (l1++l2).Pairwise (fun p q=>p.1<q.1)∧(∀q∈l1++l2,q.1≠i)∧(∀q∈l1++l2,q∈l1++(i,g)::l2)∧∀j,j≠i->((∃g',(j,g')∈l1++(i,g)::l2)↔∃g',(j,g')∈l1++l2):=by
 have hsub:∀q,q∈l1++l2->q∈l1++(i,g)::l2:=fun q hq=>by
  rcases List.mem_append.1 hq with hq | hq<;>simp[hq]
 refine⟨?_,fun q hq=>?_,hsub,fun j hj=>⟨fun h=>?_,fun h=>?_⟩⟩
 ·rw[List.pairwise_append] at hpw ⊢
  exact⟨hpw.1,(List.pairwise_cons.1 hpw.2.1).2,fun x hx y hy=>hpw.2.2 x hx y (by simp[hy])⟩
 ·rcases List.mem_append.1 hq with hq | hq
  ·have:=(List.pairwise_append.1 hpw).2.2 q hq (i,g) (by simp);simp only at this;omega
  ·have:=List.rel_of_pairwise_cons (List.pairwise_append.1 hpw).2.1 hq;simp only at this;omega
 ·obtain⟨g',hg'⟩:=h
  refine⟨g',?_⟩
  rcases List.mem_append.1 hg' with hx | hx
  ·simp[hx]
  ·rcases List.mem_cons.1 hx with hx | hx
   ·simp only[Prod.mk.injEq] at hx;exact absurd hx.1 hj
   ·simp[hx]
 ·obtain⟨g',hg'⟩:=h
  exact⟨g',hsub _ hg'⟩
theorem q2p{gl:List GI}{es1 es2:List (Nat×EO)}{x y:Nat}(hcl:cL P ops n ops.toList=some gl)(hok:qgf (qcz ops.toList []) gl 0 ops.toList gl=true)(r1:Row ops gl es1 x y)(r2:Row ops gl es2 x y)(hxy:x<y)(hnc:∀(i:Nat) (g:GI),gl[i]?=some g->i≠x->i≠y->qlk g.i=true∨(x<i∧((qcz ops.toList []).getD i 0).testBit x=true))
 {ey:EO} (hfree:∀(j:Nat) (q:Nat×EO),es2[j]?=some q->j<y->j≠x->qgu ey.g q.2.g=true∧okFP ey.fp q.2.fp=true) (hey:es2[y]?=some (y,ey))
 {S:Exit->Act->World->Prop} {af1 af2:AF} {E1 E2:List Ent} (hQ1:Q .nrm af1 E1) (hQ2:Q .nrm af2 E2) :
 ∀ (fuel : Nat) (rem rem2 : List (Nat × EO)) (listed : Array Bool) (af : AF) (H : List Ent) (w : World) (M : Nat → Nat → Prop) (G : List Gh) (a : Act), rem.length ≤ fuel → rem2.length + 1 = rem.length →
   (∀p∈rem,es1[p.1]?=some p)->rem.Pairwise (fun p q=>p.1<q.1)->(∀p∈rem2,es2[p.1]?=some p)->rem2.Pairwise (fun p q=>p.1<q.1) →
   (∀i,i<ops.size->(listed.getD i true=false↔∃g,(i,g)∈rem))->(∀i,(∃g,(i,g)∈rem2)↔i≠y∧∃g,(i,g)∈rem)->listed.size=ops.size →
   (∀i j,i<ops.size->listed.getD i true=true->((qcz ops.toList []).getD i 0).testBit j=true->j<i->listed.getD j true=true)->(∃g,(x,g)∈rem)->(∃g,(y,g)∈rem) →
   St w M G H->RelF w M G n af a->Tr P rem af H af1 E1->Tr P ((y,ey)::rem2) af H af2 E2->(∀e a' w',VPost Q n m w M G e a' w'->S e a' w')->wpAnyIn (fw fr) 0 P .any ops S fuel listed a w:=by
 obtain⟨hlen,hcget⟩:=qpg hcl
 obtain⟨_,hdget⟩:=qgi hok
 have hone:∀(i:Nat) (o:Oper) (g:GI),ops[i]?=some o->gl[i]?=some g->qdx (qcz ops.toList []) gl i o g=true:=fun i o g ho hg=>by
  obtain⟨g',h1,h2⟩:=hdget i o (by simpa using ho)
  rw[hg] at h1
  simp only[Option.some.injEq] at h1;subst h1
  simpa using h2
 intro fuel
 induction fuel with
 | zero =>
   intro rem rem2 listed af H w M G a hf hl2 hrem hpw hrem2 hpw2 hli hli2 hsz hD hx hy hst hr ht ht2 hS
   omega
 | succ fuel ih =>
   intro rem rem2 listed af H w M G a hf hl2 hrem hpw hrem2 hpw2 hli hli2 hsz hD hx hy hst hr ht ht2 hS
   have hfirst:∀p r,rem=p::r->Region.ready .any ops listed≠[]:=by
    rintro⟨i,g⟩ r rfl hnil
    have hg:=(r1.g i _ (hrem (i,g) (by simp))).2
    simp only at hg
    have hgl:=(List.getElem?_eq_some_iff.1 hg).1
    have hi:i<ops.size:=by rw[←Array.length_toList,hlen];exact hgl
    have hio:ops[i]?=some ops[i]:=Array.getElem?_eq_getElem hi
    have:i∈Region.ready .any ops listed:=by
     refine mem_ready.2 ⟨(hli i hi).2 ⟨g,by simp⟩,ops[i],hio,fun e he hb=>?_⟩
     have hd:=hone i _ g.g hio hg
     simp only[qdx,Bool.and_eq_true,List.all_eq_true] at hd
     have hlt:=hd.1 e (by simpa using he)
     simp only[hb,Bool.not_true,Bool.false_or,decide_eq_true_eq] at hlt
     have hel:e.on<ops.size:=by omega
     cases hq:listed.getD e.on true with
     | true =>
       have:e.on<listed.size:=by omega
       simp[this] at hq ⊢
       exact hq
     | false =>
       obtain⟨g',hg'⟩:=(hli e.on hel).1 hq
       rcases List.mem_cons.1 hg' with hx | hx
       ·simp only[Prod.mk.injEq] at hx;omega
       ·have:=List.rel_of_pairwise_cons hpw hx
        simp only at this;omega
    rw[hnil] at this
    cases this
   refine⟨fun hnil=>?_,fun i hi=>?_⟩
   ·cases hrm:rem with
    | nil=>rw[hrm] at hx;obtain⟨g,hg⟩:=hx;cases hg
    | cons p r=>exact absurd hnil (hfirst p r hrm)
   ·obtain⟨h1,o,ho,hall⟩:=mem_ready.1 hi
    have hlt:=(Array.getElem?_eq_some_iff.1 ho).1
    have hanc:∀gi,gl[i]?=some gi->∀j,j<i->((qcz ops.toList []).getD i 0).testBit j=true->listed.getD j true=true:=fun gi hgi j hj hb=>by
     have hd:=hone i o gi ho hgi
     simp only[qdx,Bool.and_eq_true,List.all_eq_true,List.mem_range] at hd
     have:=hd.2 j hj
     split at this
     ·rename_i gj hgj
      rw[if_pos hb] at this
      obtain⟨e,he,hbe⟩:=List.any_eq_true.1 this
      simp only[Bool.and_eq_true,Bool.or_eq_true,beq_iff_eq,decide_eq_true_eq] at hbe
      have hon:=hall e (by simpa using he) hbe.1
      have helt:=hd.1 e he
      simp only[hbe.1,Bool.not_true,Bool.false_or,decide_eq_true_eq] at helt
      have hon':listed.getD e.on true=true:=by
       have:e.on<listed.size:=by omega
       simp[this] at hon ⊢
       exact hon
      rcases hbe.2 with rfl | ⟨hje,hbit⟩
      ·exact hon'
      ·exact hD e.on j (by omega) hon' hbit hje
     ·cases this
    have hunl:∀j g',(j,g')∈rem->j<i->listed.getD j true=false:=fun j g' hg' hji=>(hli j (by omega)).2 ⟨g',hg'⟩
    have hindG:∀(es:List (Nat×EO)),Row ops gl es x y->∀(l1 l2:List (Nat×EO)) (g:EO),(∀p∈l1++(i,g)::l2,es[p.1]?=some p)->(l1++(i,g)::l2).Pairwise (fun p q=>p.1<q.1)->(∀j g',(j,g')∈l1->∃g'',(j,g'')∈rem)->i≠y->∀q∈l1,qgu q.2.g g.g=true∧okFP q.2.fp g.fp=true:=by
     intro es hrow l1 l2 g hm hp hin hiy
     rintro⟨j,ej⟩ hq
     have hes:=hm (i,g) (by simp)
     obtain⟨_,hgi⟩:=hrow.g i _ hes
     simp only at hgi
     have hji:j<i:=(List.pairwise_append.1 hp).2.2 (j,ej) hq (i,g) (by simp)
     have hej:=hm (j,ej) (by simp[hq])
     obtain⟨_,hgj⟩:=hrow.g j _ hej
     simp only at hgj
     obtain⟨g'',hg''⟩:=hin j ej hq
     have hun:=hunl j g'' hg'' hji
     have hnb:¬(((qcz ops.toList []).getD i 0).testBit j=true):=fun hb=>by
      have:=hanc _ hgi j hji hb
      rw[hun] at this;cases this
     have hd:=hone i o g.g ho hgi
     simp only[qdx,Bool.and_eq_true,List.all_eq_true,List.mem_range] at hd
     have:=hd.2 j hji
     rw[hgj] at this
     simp only at this
     rw[if_neg hnb] at this
     exact⟨this,hrow.ok i j _ _ hes hej hji (fun e=>hiy e.2) (by simpa using hnb)⟩
    have hD':∀gi,gl[i]?=some gi->∀k j,k<ops.size->(listed.setIfInBounds i true).getD k true=true->((qcz ops.toList []).getD k 0).testBit j=true->j<k->(listed.setIfInBounds i true).getD j true=true:=by
     intro gi hgi k j hk hlk hb hjk
     by_cases hik:i=k
     ·subst hik
      rw[qbl _ _ (by omega)]
      exact hanc gi hgi j hjk hb
     ·rw[qbl _ _ hik] at hlk
      by_cases hij:i=j
      ·subst hij
       have:i<listed.size:=by omega
       simp[this]
      ·rw[qbl _ _ hij]
       exact hD k j hk hlk hb hjk
    have hset:∀(r:List (Nat×EO)),(∀q∈r,q.1≠i)->(∀j,j≠i->((∃g,(j,g)∈rem)↔∃g,(j,g)∈r))->∀j,j<ops.size->((listed.setIfInBounds i true).getD j true=false↔∃g,(j,g)∈r):=by
     intro r hr1 hr2 j hj
     by_cases hji:i=j
     ·subst hji
      constructor
      ·intro hh
       have:i<listed.size:=by omega
       simp[this] at hh
      ·rintro⟨g'',hg''⟩
       exact absurd rfl (hr1 _ hg'')
     ·rw[qbl _ _ hji,hli j hj]
      exact hr2 j (fun e=>hji e.symm)
    by_cases hiy:i=y
    ·-- the later one comes up first
     subst hiy
     obtain⟨v,H1,hpsi,htr⟩:=ht2
     have hgy:=(r2.g i _ hey).2
     simp only at hgy
     obtain⟨g',hg1,hg2⟩:=hcget i o (by simpa using ho)
     rw[hgy] at hg1
     simp only[Option.some.injEq] at hg1;subst hg1
     refine qhi ho hg2 hst hr hpsi fun a' w' M' G' k1 k2 k3=>?_
     have hny:∀q∈rem2,q.1≠i:=fun q hq=>((hli2 q.1).1 ⟨q.2,hq⟩).1
     refine qqg hcl hok r2 hQ2 fuel rem2 (listed.setIfInBounds i true) _ H1 w' M' G' a' (by omega) hrem2 hpw2 (hset rem2 hny fun j hj=>⟨fun h=>(hli2 j).2 ⟨hj,h⟩,fun h=>((hli2 j).1 h).2⟩) (by simpa using hsz) (hD' _ hgy) (fun g1 g2 q1 q2=>hny _ q2 rfl) k2 k3 htr fun e a'' w'' hp=>hS _ _ _ (hp.trans k1.toM)
    ·obtain⟨g,hg⟩:=(hli i hlt).1 h1
     obtain⟨l1,l2,rfl⟩:=List.append_of_mem hg
     have hes:=hrem (i,g) hg
     obtain⟨_,hgi⟩:=r1.g i _ hes
     simp only at hgi
     have htf:=qi8 (hindG es1 r1 l1 l2 g hrem hpw (fun j g' h=>⟨g',by simp[h]⟩) hiy) ht
     obtain⟨v,H1,hpsi,htr⟩:=htf
     obtain⟨n1,n2,n3,n4⟩:=q0b hpw
     obtain⟨g',hg1,hg2⟩:=hcget i o (by simpa using ho)
     rw[hgi] at hg1
     simp only[Option.some.injEq] at hg1;subst hg1
     by_cases hix:i=x
     ·subst hix
      refine qhi ho hg2 hst hr hpsi fun a' w' M' G' k1 k2 k3=>?_
      exact qqg hcl hok r1 hQ1 fuel (l1++l2) (listed.setIfInBounds i true) _ H1 w' M' G' a' (by simp at hf ⊢;omega) (fun q hq=>hrem q (n3 q hq)) n1 (hset _ n2 n4) (by simpa using hsz) (hD' _ hgi) (fun g1 g2 q1 q2=>n2 _ q1 rfl) k2 k3 htr fun e a'' w'' hp=>hS _ _ _ (hp.trans k1.toM)
     ·obtain⟨g2,hgg2⟩:=(hli2 i).2 ⟨hiy,g,hg⟩
      obtain⟨m1,m2,rfl⟩:=List.append_of_mem hgg2
      have hes2:=hrem2 (i,g2) hgg2
      obtain⟨_,hgi2⟩:=r2.g i _ hes2
      simp only at hgi2
      have hgeq:g2.g=g.g:=by rw[hgi] at hgi2;exact(Option.some.inj hgi2).symm
      have hI:=hindG es2 r2 m1 m2 g2 hrem2 hpw2 (fun j g' h=>((hli2 j).1 ⟨g',by simp[h]⟩).2) hiy
      have hyfree:qgu ey.g g2.g=true∧okFP ey.fp g2.fp=true:=by
       by_cases hlt2:i<y
       ·exact hfree i _ hes2 hlt2 hix
       ·have hyi:y<i:=by omega
        obtain⟨gy',hgy'⟩:=hy
        have hun:=hunl y gy' hgy' hyi
        have hgy:=(r2.g y _ hey).2
        simp only at hgy
        have hnb:¬(((qcz ops.toList []).getD i 0).testBit y=true):=fun hb=>by
         have:=hanc _ hgi2 y hyi hb
         rw[hun] at this;cases this
        have hd:=hone i o g2.g ho hgi2
        simp only[qdx,Bool.and_eq_true,List.all_eq_true,List.mem_range] at hd
        have:=hd.2 y hyi
        rw[hgy] at this
        simp only at this
        rw[if_neg hnb] at this
        exact⟨this,r2.ok i y _ _ hes2 hey hyi (fun e=>hiy e.2) (by simpa using hnb)⟩
      have htf2:=qi8 (l:=(y,ey)::m1) (r:=m2) (p:=(i,g2)) (fun q hq=>by
       rcases List.mem_cons.1 hq with rfl | hq
       ·exact hyfree
       ·exact hI q hq) (by simpa using ht2)
      obtain⟨v2,H2,hpsi2,htr2⟩:=htf2
      obtain⟨p1,p2,p3,p4⟩:=q0b hpw2
      have hncI:qlk g.g.i=true:=by
       rcases hnc i g.g hgi hix hiy with h | ⟨h,hb⟩
       ·exact h
       ·obtain⟨gx,hgx⟩:=hx
        have:=hanc _ hgi x h hb
        rw[hunl x gx hgx h] at this;cases this
      obtain⟨rfl,rfl⟩:=qb7u (e:=g2) (e':=g) hgeq (by rw[hgeq];exact hncI) hpsi2 hpsi
      refine qhi ho hg2 hst hr hpsi fun a' w' M' G' k1 k2 k3=>?_
      rw[hgeq] at htr2
      refine ih (l1++l2) (m1++m2) (listed.setIfInBounds i true) _ _ w' M' G' a' (by simp at hf ⊢;omega) (by simp at hl2 ⊢;omega) (fun q hq=>hrem q (n3 q hq)) n1 (fun q hq=>hrem2 q (p3 q hq)) p1 (hset _ n2 n4) (fun j=>?_) (by simpa using hsz) (hD' _ hgi) ?_ ?_ k2 k3 htr (by simpa using htr2) fun e a'' w'' hp=>hS _ _ _ (hp.trans k1.toM)
      ·by_cases hji:j=i
       ·subst hji
        constructor
        ·rintro⟨g',hg'⟩;exact absurd rfl (p2 _ hg')
        ·rintro⟨_,g',hg'⟩;exact absurd rfl (n2 _ hg')
       ·rw[←p4 j hji,←n4 j hji];exact hli2 j
      ·obtain⟨g',hg'⟩:=hx
       exact(n4 x (fun e=>hix e.symm)).1 ⟨g',hg'⟩
      ·obtain⟨g',hg'⟩:=hy
       exact(n4 y (fun e=>hiy e.symm)).1 ⟨g',hg'⟩
theorem qbma{gl:List GI}{es:List (Nat×EO)}{x y:Nat}(h1:∀(i:Nat) (p:Nat×EO),es[i]?=some p->p.1=i∧gl[i]?=some p.2.g∧∃af n,p.2.fp=fpI af n p.2.top p.2.g.i)
 (h2:∀(i j:Nat) (p q:Nat×EO),es[i]?=some p->es[j]?=some q->j<i->j∈qka (qcz ops.toList []) gl i p.2.g->¬(j=x∧i=y)->okFP q.2.fp p.2.fp=true):Row ops gl es x y where
 g:=fun i p h=>⟨(h1 i p h).1,(h1 i p h).2.1⟩
 ok:=fun i j p q hp hq hji hne hnb=>by
  obtain⟨_,hgi,af1,n1,q4⟩:=h1 i p hp
  obtain⟨_,hgj,af2,n2,q5⟩:=h1 j q hq
  by_cases hqq:(qgw q.2.g.i&&qgw p.2.g.i)=true
  ·rw[q4,q5]
   simp only[Bool.and_eq_true] at hqq
   exact qqk hqq.1 hqq.2
  by_cases hs1:qgs q.2.g.i=true
  ·rw[q5,qmb hs1]
   exact qbls _
  by_cases hs2:qgs p.2.g.i=true
  ·rw[q4,qmb hs2]
   exact qbl7 _
  ·refine h2 i j p q hp hq hji ?_ hne
   have hqq':(qgw q.2.g.i&&qgw p.2.g.i)=false:=by simpa using hqq
   unfold qka
   rw[List.mem_filter]
   refine⟨by simpa using hji,?_⟩
   have hs1':qgs q.2.g.i=false:=by simpa using hs1
   have hs2':qgs p.2.g.i=false:=by simpa using hs2
   rw[hnb,hgj]
   simp only[hqq',hs1',hs2']
   rfl

def qqt(x y:Nat):Nat->List (GI×List Nat)->List (GI×List Nat)
 | _,[]=>[]
 | i,(g,us)::r=>(g,if i=y then us.filter (fun j=>decide (j≠x)) else us)::qqt x y (i+1) r
def posL(y i:Nat):Nat:=if i=y then 0 else if i<y then i+1 else i
def qg9(x y:Nat):Nat->List (GI×List Nat)->List (GI×List Nat)
 | _,[]=>[]
 | i,(g,us)::r=>if i=y then qg9 x y (i+1) r else(g,if i<y∧i≠x then 0::us.map (posL y) else us.map (posL y))::qg9 x y (i+1) r
def qln(x y:Nat)(l:List (GI×List Nat)):List (GI×List Nat):=match l[y]? with
 | some p=>(p.1,[])::qg9 x y 0 l
 | none=>[]
def ncAt(x y:Nat)(gx:GI):Nat->List (GI×List Nat)->Bool
 | _,[]=>true
 | i,(g,us)::r=>(qlk g.i||(decide (i=x)||(decide (i=y)||(decide (x<i)&&(!(us.any (fun j=>decide (j=x)))&&!(qgw gx.i&&qgw g.i)&&!(qgs gx.i||qgs g.i))))))&&ncAt x y gx (i+1) r
theorem qz6(x y:Nat)(gx:GI):∀(l:List (GI×List Nat)) (k m:Nat) (p:GI×List Nat),ncAt x y gx k l=true->l[m]?=some p->qlk p.1.i=true∨k+m=x∨k+m=y∨(x<k+m∧x∉p.2∧(qgw gx.i&&qgw p.1.i)=false∧(qgs gx.i||qgs p.1.i)=false)
 | [],k,m,p,_,h=>by simp at h
 | (g, us) :: r, k, 0, p, hc, h => by
   simp only[List.getElem?_cons_zero,Option.some.injEq] at h
   subst h
   rw[ncAt,Bool.and_eq_true] at hc
   have h1:=hc.1
   rw[Bool.or_eq_true,Bool.or_eq_true,Bool.or_eq_true,Bool.and_eq_true,Bool.and_eq_true,Bool.and_eq_true,decide_eq_true_eq,decide_eq_true_eq,decide_eq_true_eq] at h1
   rcases h1 with h1 | h1 | h1 | ⟨h1,⟨h2,h3⟩,h4⟩
   ·exact .inl h1
   ·exact .inr (.inl h1)
   ·exact .inr (.inr (.inl h1))
   ·refine .inr (.inr (.inr ⟨h1,fun hm=>?_,by first | exact Bool.not_eq_true' _ |>.mp h3 | simpa using h3,by first | exact Bool.not_eq_true' _ |>.mp h4 | simpa using h4⟩))
    have:us.any (fun j=>decide (j=x))=true:=List.any_eq_true.2 ⟨x,hm,by simp⟩
    rw[this] at h2;cases h2
 | (g, us) :: r, k, m + 1, p, hc, h => by
   simp only[List.getElem?_cons_succ] at h
   rw[ncAt,Bool.and_eq_true] at hc
   have:=qz6 x y gx r (k+1) m p hc.2 h
   rw[show k+1+m=k+(m+1) by omega] at this
   exact this
def q5f(x y:Nat)(l:List (GI×List Nat)):Bool:=decide (x<y)&&((match l[x]? with
 | some p=>ncAt x y p.1 0 l
 | none=>false)&&(match l[y]? with
 | some p=>(l.take y).all fun q=>qgu p.1 q.1
 | none=>false))
theorem qol(x y:Nat):∀(l:List (GI×List Nat)) (k m:Nat) (p:GI×List Nat),l[m]?=some p->(qqt x y k l)[m]?=some (p.1,if k+m=y then p.2.filter (fun j=>decide (j≠x)) else p.2)
 | [],k,m,p,h=>by simp at h
 | (g, us) :: r, k, 0, p, h => by
   simp only[List.getElem?_cons_zero,Option.some.injEq] at h
   subst h
   simp[qqt]
 | (g, us) :: r, k, m + 1, p, h => by
   simp only[List.getElem?_cons_succ] at h
   have:=qol x y r (k+1) m p h
   simp only[qqt,List.getElem?_cons_succ]
   rw[this,show k+1+m=k+(m+1) by omega]
theorem qu8(x y:Nat):∀(l:List (GI×List Nat)) (k:Nat),(qqt x y k l).length=l.length
 | [],k=>rfl
 | p::r,k=>by simp[qqt,qu8 x y r]
theorem qki(x y:Nat):∀(l:List (GI×List Nat)) (k m:Nat) (p:GI×List Nat),l[m]?=some p->k+m≠y->(qg9 x y k l)[if k≤y∧y<k+m then m-1 else m]?=some (p.1,if k+m<y∧k+m≠x then 0::p.2.map (posL y) else p.2.map (posL y))
 | [],k,m,p,h,_=>by simp at h
 | (g, us) :: r, k, 0, p, h, hne => by
   simp only[List.getElem?_cons_zero,Option.some.injEq] at h
   subst h
   have hk:¬k=y:=by omega
   rw[if_neg (by omega),qg9,if_neg hk]
   simp
 | (g, us) :: r, k, m + 1, p, h, hne => by
   simp only[List.getElem?_cons_succ] at h
   have:=qki x y r (k+1) m p h (by omega)
   rw[show k+1+m=k+(m+1) by omega] at this
   by_cases hk:k=y
   ·rw[qg9,if_pos hk,if_pos (by omega)]
    rw[if_neg (by omega)] at this
    simpa using this
   ·rw[qg9,if_neg hk]
    by_cases hc:k≤y∧y<k+(m+1)
    ·rw[if_pos hc]
     rw[if_pos (by omega)] at this
     have hm:m+1-1=(m-1)+1:=by omega
     rw[hm,List.getElem?_cons_succ];exact this
    ·rw[if_neg hc]
     rw[if_neg (by omega)] at this
     rw[List.getElem?_cons_succ];exact this
theorem qpx(x y:Nat):∀(l:List (GI×List Nat)) (k:Nat),(qg9 x y k l).length=if k≤y∧y<k+l.length then l.length-1 else l.length
 | [],k=>by simp[qg9]
 | p :: r, k => by
   have:=qpx x y r (k+1)
   obtain⟨g,us⟩:=p
   rw[qg9]
   by_cases hk:k=y
   ·rw[if_pos hk,this,if_neg (by omega),if_pos (by simp;omega)];simp
   ·rw[if_neg hk,List.length_cons,this]
    by_cases hc:k+1≤y∧y<k+1+r.length
    ·rw[if_pos hc,if_pos (by simp;omega)];simp;omega
    ·rw[if_neg hc,if_neg (by simp;omega)];simp
theorem qba8:∀{l l':List (Nat×EO)} {af af':AF} {H H':List Ent},l.map (·.2)=l'.map (·.2)->Tr P l af H af' H'->Tr P l' af H af' H'
 | [],[],_,_,_,_,_,h=>h
 | [],_::_,_,_,_,_,e,_=>by simp at e
 | _::_,[],_,_,_,_,e,_=>by simp at e
 | (_, p) :: r, (_, p') :: r', _, _, _, _, e, h => by
   simp only[List.map_cons,List.cons.injEq] at e
   obtain⟨rfl,e⟩:=e
   obtain⟨v,H1,h1,h2⟩:=h
   exact⟨v,H1,h1,qba8 e h2⟩
theorem qxw{es:List (Nat×EO)}{j:Nat}{q:Nat×EO}(h:es[j]?=some q):(([]:List FP)++es.map (·.2.fp)).getD j {}=q.2.fp:=by
 rw[List.nil_append,List.getD_eq_getElem?_getD,List.getElem?_map,h];rfl
theorem qb67{id:Nat}{gl:List GI}{l:List (GI×List Nat)}{x y:Nat}{af:AF}{H:List Ent}(hm:P.follows .mixedOrders=true)(hc:cL P ops n ops.toList=some gl)(hok:qt2 ops gl=some l)(hs:q5f x y l=true)
 (hA:runD P Q [] (qqt x y 0 l) af H) (hB:runD P Q [] (qln x y l) af H):VW P fr n m (.region id ops true) Q af H:=by
 intro w M G a hst hr
 refine wpIn_region_any hm ?_
 unfold qt2 at hok
 split at hok
 case isFalse=>cases hok
 case isTrue hall =>
 simp only[Option.some.injEq] at hok
 obtain⟨hlen,_⟩:=qpg hc
 have hwl:=(qeq (ms:=qcz ops.toList []) (gl:=gl) (l:=gl) (k:=0))
 rw[hok] at hwl
 obtain⟨hll,hlg⟩:=hwl
 have hN:gl.length=ops.size:=by rw[←hlen];simp
 simp only[q5f,Bool.and_eq_true,decide_eq_true_eq] at hs
 obtain⟨hxy,hnc,hap⟩:=hs
 obtain⟨py,hpy⟩:∃p,l[y]?=some p:=by
  cases h:l[y]? with
  | none=>rw[h] at hap;cases hap
  | some p=>exact⟨p,rfl⟩
 rw[hpy] at hap
 simp only at hap
 have hyN:y<l.length:=(List.getElem?_eq_some_iff.1 hpy).1
 have hget:∀i,i<l.length->∃g,gl[i]?=some g∧l[i]?=some (g,qka (qcz ops.toList []) gl i g):=fun i hi=>by
  have hi':i<gl.length:=by omega
  refine⟨gl[i],List.getElem?_eq_getElem hi',?_⟩
  have:=hlg i gl[i] (List.getElem?_eq_getElem hi')
  rwa [Nat.zero_add] at this
 obtain⟨px,hpx⟩:∃p,l[x]?=some p:=by
  cases h:l[x]? with
  | none=>rw[h] at hnc;cases hnc
  | some p=>exact⟨p,rfl⟩
 rw[hpx] at hnc
 simp only at hnc
 have hncg:∀(i:Nat) (g:GI),gl[i]?=some g->i≠x->i≠y->qlk g.i=true∨(x<i∧((qcz ops.toList []).getD i 0).testBit x=true):=fun i g hg hix hiy=>by
  have h1:=hlg i g hg
  rw[Nat.zero_add] at h1
  rcases qz6 x y px.1 l 0 i _ hnc h1 with h | h | h | ⟨h,hm,hq,hs⟩
  ·exact .inl h
  ·omega
  ·omega
  ·rw[Nat.zero_add] at h
   refine .inr ⟨h,?_⟩
   obtain⟨gx,g1,g2⟩:=hget x (by omega)
   rw[hpx] at g2
   simp only[Option.some.injEq] at g2
   subst g2
   simp only at hm hq hs
   cases hb:((qcz ops.toList []).getD i 0).testBit x with
   | true=>rfl
   | false =>
     refine absurd ?_ hm
     unfold qka
     rw[List.mem_filter]
     refine⟨by simpa using h,?_⟩
     rw[hb,g1]
     simp only[hq,hs]
     rfl
 obtain⟨e1,afE1,HE1,⟨hf1,hf1'⟩,t1,q1⟩:=qrm hA
 obtain⟨e2r,afE2,HE2,⟨hf2,hf2'⟩,t2,q2⟩:=qrm hB
 have hl1:e1.length=l.length:=by rw[hf1,qu8]
 have hfrl:(qln x y l).length=l.length:=by
  unfold qln
  rw[hpy]
  simp only[List.length_cons,qpx]
  rw[if_pos (by omega)];omega
 have hl2:e2r.length=l.length:=by rw[hf2,hfrl]
 have hes1:∀(k:Nat) (p:Nat×EO),e1[k]?=some p->p.1=k:=fun k p hp=>by have:=(hf1' k p hp).1;simpa using this
 -- the text's order
 have R1:Row ops gl e1 x y:=by
  refine qbma (fun i p hp=>?_) (fun i j p q hp hq hji hlk hne=>?_)
  ·have hi:i<l.length:=by have:=(List.getElem?_eq_some_iff.1 hp).1;omega
   obtain⟨k1,⟨us,k2,_⟩,k3⟩:=hf1' i p hp
   obtain⟨g,g1,g2⟩:=hget i hi
   rw[qol x y l 0 i _ g2] at k2
   simp only[Option.some.injEq,Prod.mk.injEq] at k2
   exact⟨by simpa using k1,by rw[g1,k2.1],k3⟩
  ·have hi:i<l.length:=by have:=(List.getElem?_eq_some_iff.1 hp).1;omega
   obtain⟨k1,⟨us,k2,k4⟩,k3⟩:=hf1' i p hp
   obtain⟨g,g1,g2⟩:=hget i hi
   rw[qol x y l 0 i _ g2] at k2
   simp only[Option.some.injEq,Prod.mk.injEq,Nat.zero_add] at k2
   obtain⟨rfl,rfl⟩:=k2
   have h:=k4 j (by
    split
    ·rename_i hiy
     rw[List.mem_filter]
     exact⟨hlk,by simp only[decide_eq_true_eq];exact fun e=>hne ⟨e,hiy⟩⟩
    ·exact hlk) (by rw[k1];simpa using hji)
   rw[qxw hq] at h
   exact h
 -- the other order
 obtain⟨p0,er,rfl⟩:∃p0 er,e2r=p0::er:=by
  cases e2r with
  | nil=>simp at hl2;omega
  | cons p0 er=>exact⟨p0,er,rfl⟩
 have hpos:∀i,i<l.length->posL y i<(p0::er).length:=fun i hi=>by
  rw[hl2]
  unfold posL
  split
  ·omega
  ·split<;>omega
 obtain⟨e2,he2⟩:∃e2:List (Nat×EO),e2=(List.range l.length).map fun i=>(i,((p0::er).getD (posL y i) p0).2):=⟨_,rfl⟩
 have he2g:∀i,i<l.length->∃q,(p0::er)[posL y i]?=some q∧e2[i]?=some (i,q.2):=fun i hi=>by
  have h1:=hpos i hi
  refine⟨(p0::er)[posL y i],List.getElem?_eq_getElem h1,?_⟩
  rw[he2,List.getElem?_map,List.getElem?_range hi]
  simp only[Option.map_some,Option.some.injEq,Prod.mk.injEq,true_and]
  rw[List.getD_eq_getElem?_getD,List.getElem?_eq_getElem h1];rfl
 have he2n:∀(i:Nat) (p:Nat×EO),e2[i]?=some p->i<l.length:=fun i p hp=>by
  have:=(List.getElem?_eq_some_iff.1 hp).1
  rw[he2] at this;simpa using this
 -- what the other order has looked at
 have hlook:∀i,i<l.length->∃q g us,(p0::er)[posL y i]?=some q∧e2[i]?=some (i,q.2)∧gl[i]?=some g∧q.2.g=g∧(∃af n,q.2.fp=fpI af n q.2.top q.2.g.i)∧(i≠y->us=qka (qcz ops.toList []) gl i g∧∀j,(j∈(if i<y∧i≠x then 0::us.map (posL y) else us.map (posL y)))->j<posL y i->okFP (([]:List FP)++(p0::er).map (·.2.fp) |>.getD j {}) q.2.fp=true):=fun i hi=>by
  obtain⟨q,h1,h2⟩:=he2g i hi
  obtain⟨g,g1,g2⟩:=hget i hi
  obtain⟨k1,⟨us,k2,k4⟩,k3⟩:=hf2' (posL y i) q h1
  refine⟨q,g,qka (qcz ops.toList []) gl i g,h1,h2,g1,?_,k3,?_⟩
  ·by_cases hiy:i=y
   ·subst hiy
    unfold qln posL at k2
    rw[g2,if_pos rfl] at k2
    simp only[List.getElem?_cons_zero,Option.some.injEq,Prod.mk.injEq] at k2
    exact k2.1.symm
   ·have hA:=qki x y l 0 i _ g2 (by omega)
    unfold qln at k2
    rw[hpy] at k2
    have:posL y i=(if 0≤y∧y<0+i then i-1 else i)+1:=by
     unfold posL
     rw[if_neg hiy]
     split<;>split<;>omega
    rw[this,List.getElem?_cons_succ,hA] at k2
    simp only[Option.some.injEq,Prod.mk.injEq] at k2
    exact k2.1.symm
  ·intro hiy
   refine⟨rfl,fun j hj hlt=>?_⟩
   have hA:=qki x y l 0 i _ g2 (by omega)
   unfold qln at k2
   rw[hpy] at k2
   have:posL y i=(if 0≤y∧y<0+i then i-1 else i)+1:=by
    unfold posL
    rw[if_neg hiy]
    split<;>split<;>omega
   rw[this,List.getElem?_cons_succ,hA] at k2
   simp only[Option.some.injEq,Prod.mk.injEq,Nat.zero_add] at k2
   refine k4 j (by rw[←k2.2];exact hj) ?_
   rw[k1];simpa using hlt
 have hlt_pos:∀i j,j<i->i≠y->posL y j<posL y i:=fun i j h hiy=>by
  unfold posL
  rw[if_neg hiy]
  split<;>split<;>(try split)<;>omega
 have hfr:∀j,j<y->j≠x->∃q qy,e2[j]?=some q∧e2[y]?=some qy∧okFP qy.2.fp q.2.fp=true:=fun j hj hjx=>by
  obtain⟨q,g,us,h1,h2,h3,h4,h5,h6⟩:=hlook j (by omega)
  obtain⟨qy,gy,usy,y1,y2,_⟩:=hlook y hyN
  refine⟨_,_,h2,y2,?_⟩
  have hp0:posL y y=0:=if_pos rfl
  have:=(h6 (by omega)).2 0 (by rw[if_pos ⟨hj,hjx⟩];simp) (by unfold posL;rw[if_neg (by omega),if_pos hj];omega)
  rw[hp0] at y1
  rw[qxw y1] at this
  exact this
 have R2:Row ops gl e2 x y:=by
  refine qbma (fun i p hp=>?_) (fun i j p q hp hq hji hlk hne=>?_)
  ·obtain⟨q,g,us,h1,h2,h3,h4,h5,_⟩:=hlook i (he2n i p hp)
   rw[hp] at h2
   simp only[Option.some.injEq] at h2
   subst h2
   exact⟨rfl,by rw[h3,h4],h5⟩
  ·by_cases hiy:i=y
   ·subst hiy
    obtain⟨a,b,a1,a2,a3⟩:=hfr j hji (fun e=>hne ⟨e,rfl⟩)
    rw[hq] at a1
    rw[hp] at a2
    simp only[Option.some.injEq] at a1 a2
    subst a1 a2
    exact qbas a3
   ·obtain⟨a,g,us,h1,h2,h3,h4,h5,h6⟩:=hlook i (he2n i p hp)
    obtain⟨b,gj,usj,j1,j2,_⟩:=hlook j (he2n j q hq)
    rw[hp] at h2
    rw[hq] at j2
    simp only[Option.some.injEq] at h2 j2
    subst h2 j2
    obtain⟨h7,h8⟩:=h6 hiy
    have hm:posL y j∈us.map (posL y):=List.mem_map.2 ⟨j,by rw[h7,←h4];exact hlk,rfl⟩
    have:=h8 (posL y j) (by split<;>simp only[List.mem_cons,hm,or_true]) (hlt_pos i j hji hiy)
    rw[qxw j1] at this
    exact this
 have hy2:e2[y]?=some (y,p0.2):=by
  obtain⟨q,h1,h2⟩:=he2g y hyN
  have hp0:posL y y=0:=if_pos rfl
  rw[hp0,List.getElem?_cons_zero] at h1
  simp only[Option.some.injEq] at h1
  rw[h2,h1]
 have hfree:∀(j:Nat) (q:Nat×EO),e2[j]?=some q->j<y->j≠x->qgu p0.2.g q.2.g=true∧okFP p0.2.fp q.2.fp=true:=fun j q hq hj hjx=>by
  obtain⟨a,b,a1,a2,a3⟩:=hfr j hj hjx
  rw[hq] at a1
  rw[hy2] at a2
  simp only[Option.some.injEq] at a1 a2
  subst a1 a2
  refine⟨?_,a3⟩
  obtain⟨gj,g1,g2⟩:=hget j (by omega)
  obtain⟨gy,y1,y2⟩:=hget y hyN
  rw[hpy] at y2
  simp only[Option.some.injEq] at y2
  subst y2
  have h1:q.2.g=gj:=by have:=(R2.g j q hq).2;rw[g1] at this;exact(Option.some.inj this).symm
  have h2:p0.2.g=gy:=by have:=(R2.g y _ hy2).2;rw[y1] at this;exact(Option.some.inj this).symm
  rw[h1,h2]
  have hmem:(gj,qka (qcz ops.toList []) gl j gj)∈l.take y:=by
   refine List.mem_of_getElem? (i:=j) ?_
   rw[List.getElem?_take_of_lt hj];exact g2
  exact List.all_eq_true.1 hap _ hmem
 obtain⟨r2,hr2⟩:∃r2:List (Nat×EO),r2=(List.range (l.length-1)).map fun m=>(if m<y then m else m+1,((p0::er).getD (m+1) p0).2):=⟨_,rfl⟩
 have hr2m:∀p∈r2,e2[p.1]?=some p:=fun p hp=>by
  rw[hr2] at hp
  obtain⟨m,hm,rfl⟩:=List.mem_map.1 hp
  rw[List.mem_range] at hm
  simp only
  have hi:(if m<y then m else m+1)<l.length:=by split<;>omega
  have hpo:posL y (if m<y then m else m+1)=m+1:=by
   unfold posL
   by_cases hm2:m<y
   ·rw[if_pos hm2,if_neg (by omega),if_pos hm2]
   ·rw[if_neg hm2,if_neg (by omega),if_neg (by omega)]
  obtain⟨q,h1,h2⟩:=he2g _ hi
  rw[h2]
  rw[hpo] at h1
  rw[List.getD_eq_getElem?_getD,h1];rfl
 have hr2p:r2.Pairwise (fun p q=>p.1<q.1):=by
  rw[hr2,List.pairwise_map]
  refine List.Pairwise.imp (fun {a b} h=>?_) (List.pairwise_lt_range)
  simp only
  split<;>split<;>omega
 have ht2:Tr P ((y,p0.2)::r2) af H afE2 HE2:=by
  refine qba8 ?_ t2
  rw[List.map_cons,List.map_cons]
  congr 1
  rw[hr2,List.map_map]
  have hle:er.length=l.length-1:=by simp at hl2;omega
  refine List.ext_getElem? fun k=>?_
  rw[List.getElem?_map,List.getElem?_map]
  by_cases hk:k<l.length-1
  ·rw[List.getElem?_range hk,List.getElem?_eq_getElem (by omega)]
   simp only[Option.map_some,Function.comp_apply,List.getD_eq_getElem?_getD,List.getElem?_cons_succ,List.getElem?_eq_getElem (show k<er.length by omega),Option.getD_some]
  ·rw[List.getElem?_eq_none (by omega),List.getElem?_eq_none (by simp;omega)];rfl
 have hmem1:∀i,i<l.length->∃g,(i,g)∈e1:=fun i hi=>by
  have hi':i<e1.length:=by omega
  have h1:=hes1 i _ (List.getElem?_eq_getElem hi')
  refine⟨e1[i].2,?_⟩
  have hmem:=List.getElem_mem hi'
  generalize e1[i]=q at *
  subst h1
  exact hmem
 have hmem1':∀i g,(i,g)∈e1->i<l.length:=fun i g hg=>by
  obtain⟨k,hk⟩:=List.mem_iff_getElem?.1 hg
  have h1:=hes1 k _ hk
  simp only at h1
  have:=(List.getElem?_eq_some_iff.1 hk).1
  omega
 have hdr:({ w with drawn:=w.drawn+1 }:World)=w.drew:=rfl
 rw[hdr]
 have hx:=Ext.drew hst
 refine q2p (m:=m) hc hall R1 R2 hxy hncg hfree hy2 q1 q2 ops.size e1 r2 _ af H w.drew M G a (by omega) (by rw[hr2];simp;omega) ?_ ?_ hr2m hr2p ?_ (fun i=>?_) ?_ ?_ (hmem1 x (by omega)) (hmem1 y hyN) hst.drew (hr.ext hx) t1 ht2 fun e a' w' hp=>hp.trans hx.toM
 ·intro p hp
  obtain⟨k,hk⟩:=List.mem_iff_getElem?.1 hp
  rw[hes1 k p hk];exact hk
 ·rw[List.pairwise_iff_getElem]
  intro i j hi hj hij
  rw[hes1 i _ (List.getElem?_eq_getElem hi),hes1 j _ (List.getElem?_eq_getElem hj)]
  exact hij
 ·intro i hi
  constructor
  ·intro _;exact hmem1 i (by omega)
  ·intro _;simp[hi]
 ·constructor
  ·rintro⟨g,hg⟩
   rw[hr2] at hg
   obtain⟨k,hk,he⟩:=List.mem_map.1 hg
   rw[List.mem_range] at hk
   simp only[Prod.mk.injEq] at he
   refine⟨by rw[←he.1];split<;>omega,hmem1 i (by rw[←he.1];split<;>omega)⟩
  ·rintro⟨hiy,g,hg⟩
   have hi:=hmem1' i g hg
   refine⟨((p0::er).getD ((if i<y then i else i-1)+1) p0).2,List.mem_of_getElem? (i:=if i<y then i else i-1) ?_⟩
   rw[hr2,List.getElem?_map,List.getElem?_range (by split<;>omega)]
   simp only[Option.map_some,Option.some.injEq,Prod.mk.injEq,and_true]
   by_cases h1:i<y
   ·simp only[if_pos h1]
   ·simp only[if_neg h1]
    split<;>omega
 ·simp
 ·intro i j hi hl _ _
  simp[hi] at hl
end
section
variable {P:Program} {fr:Option Nat} {n m:Nat} {Q:VE->AF->List Ent->Prop} {af:AF} {H:List Ent}
theorem qb3l{l:List (GI×List Nat)}(x y:Nat)(hs:q5f x y l=true)(hA:runD P Q [] (qqt x y 0 l) af H)(hB:runD P Q [] (qln x y l) af H):VI P fr n m (.drw l) Q af H:=by
 intro c hc
 cases c<;>simp only[qb0] at hc
 case region id ops draw =>
  split at hc
  ·rename_i l' hl
   cases draw with
   | true =>
     rw[if_pos rfl] at hc
     split at hc
     ·rename_i hm
      obtain⟨z,hx,hxx⟩:=Option.map_eq_some_iff.1 hc
      simp only[IC.drw.injEq] at hxx
      subst hxx
      exact qb67 hm hl hx hs hA hB
     ·cases hc
   | false=>rw[if_neg (by simp)] at hc;cases hc
  ·exfalso;split at hc<;>simp at hc
 all_goals(exfalso;(repeat' split at hc)<;>simp at hc)
end
end Go.V
