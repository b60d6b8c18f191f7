/- Texts of this proof, joined. -/
import Derived.Test.YtkenggenkmfopaaGreatFaf
import Derived.ScopeJumps
set_option linter.unusedVariables false
set_option linter.unusedSimpArgs false

/-
 The value logic, part q: calls out of a greater state, said by lists; one round of a loop over a function.
-/
namespace Go.V
open Go Go.RowKit

def qe7(H:List Ent)(sel:List Nat)(H1:List Ent):List Ent :=
 qbq H sel ((H1.take sel.length).map (Ent.ren (sg' sel H.length)))++(H1.drop sel.length).map (Ent.ren (sg' sel H.length))

section
variable {P:Program} {H H0:List Ent} {f:FuncId} {args0 args:List AV} {fv0 fv:AV} {Q Q':List Ent->VO->Prop}

theorem qiq{sel:List Nat}{k:Nat}:∀{l:List Ent} {is:List Nat},qex H sel k l is->∀i∈is,i<H.length:=by
 intro l is h i hi
 obtain⟨h1,h2⟩:=qbv h
 obtain⟨j,hj⟩:=List.mem_iff_getElem?.1 hi
 have hjl:=(List.getElem?_eq_some_iff.1 hj).1
 exact(h2 j _ i (List.getElem?_eq_getElem (by omega)) hj).1

theorem qbs(sel:List Nat)(h:VCalls P f H0 args0 Q)(hn:sel.Nodup)(he:qex H sel H0.length H0 sel)(hb:AV.bds H0.length args0=true)(ha:args=AV.rens (sg sel) args0)
 (hQ:∀H1 o,Q H1 o->Q' (qe7 H sel H1) (o.ren (sg' sel H.length))):VCalls P f H args Q':=by
 subst ha
 obtain⟨h1,h2⟩:=qbv he
 exact qor sel h hn (qiq he) h1.symm (fun j e hj=>(h2 j e _ hj (qe8 (by have:=(List.getElem?_eq_some_iff.1 hj).1;omega))).2) hb hQ

theorem qb8x(sel:List Nat)(h:VApp P H0 fv0 args0 Q)(hn:sel.Nodup)(he:qex H sel H0.length H0 sel)(hfb:fv0.bd H0.length=true)(hf:fv=fv0.ren (sg sel))(hb:AV.bds H0.length args0=true)(ha:args=AV.rens (sg sel) args0)
 (hQ:∀H1 o,Q H1 o->Q' (qe7 H sel H1) (o.ren (sg' sel H.length))):VApp P H fv args Q':=by
 subst ha hf
 obtain⟨h1,h2⟩:=qbv he
 exact qbib sel h hn (qiq he) h1.symm (fun j e hj=>(h2 j e _ hj (qe8 (by have:=(List.getElem?_eq_some_iff.1 hj).1;omega))).2) hfb hb hQ
end

def qxd:List (Nat×AV)->List Nat->List AV->List (Nat×AV)
 | tm,p::ps,v::vs=>qxd ((p,v)::tm) ps vs
 | tm,_,_=>tm

def endq(k i:Nat)(Q:List Ent->VO->Prop):VE->AF->List Ent->Prop
 | .nrm, _, H => match ent H i with
   | .lp d as=>fin k Q (H.set i (.lp ⟨.ready,none,d.fn,d.ps,d.asn,d.bd⟩ as)) (.val (.bool true))
   | _=>False
 | .ret, _, H => match ent H i with
   | .lp d as=>fin k Q (H.set i (.lp ⟨.done,some .ret,d.fn,d.ps,d.asn,d.bd⟩ as)) (.val (.bool false))
   | _=>False
 | .ext id, _, H => match ent H i with
   | .lp d as=>fin k Q (H.set i (.lp ⟨.done,some (.exit id),d.fn,d.ps,d.asn,d.bd⟩ as)) (.val (.bool false))
   | _=>False
 | _,_,_=>False

def begq(P:Program)(n m k i l:Nat)(b:IC)(Q:List Ent->VO->Prop):VE->AF->List Ent->Prop
 | .nrm, af, H => match ent H i with
   | .lp ⟨.ready,j,fn,ps,x,y⟩ as=>VI P (some l) n m b (endq k i Q) af (H.set i (.lp ⟨.busy,j,fn,ps,x,y⟩ as))
   | _=>False
 | _,_,_=>False

section
variable {P:Program} {n k i:Nat} {H:List Ent} {a b:IC} {d:LpD} {as args:List AV} {Q:List Ent->VO->Prop}

theorem qow{w:World}{M:Nat->Nat->Prop}{G:List Gh}:∀{ps:List Nat} {args:List AV} {xs:List Value} {tm:List (Nat×AV)} {ts:Array Value},RelF w M G n ⟨tm,[]⟩ { tmps:=ts,defers:=[] }->(∀p∈ps,p<n)->VRs w M G args xs →
 RelF w M G n ⟨qxd tm ps args,[]⟩ { tmps:=(ps.zip xs).foldl (fun tmps (t,a)=>tmps.setIfInBounds t a) ts,defers:=[] }
 | [],args,xs,tm,ts,h,_,_=>by simpa [qxd] using h
 | p::ps,[],xs,tm,ts,h,_,hv=>by simp only[VRs] at hv;subst hv;simpa [qxd] using h
 | p :: ps, v :: vs, xs, tm, ts, h, hp, hv => by
   obtain⟨x,r,rfl,h1,h2⟩:=hv
   have hpn:=hp p (by simp)
   have h3:=h.put (d:=some p) h1 (by simpa using hpn)
   simp only[put] at h3
   have h4:({ tmps:=ts,defers:=[] }:Act).put (some p) x={ tmps:=ts.setIfInBounds p x,defers:=[] }:=by
    simp[Act.put]
   rw[h4] at h3
   simp only[qxd,List.zip_cons_cons,List.foldl_cons]
   exact qow h3 (fun q hq=>hp q (by simp[hq])) h2

theorem qbii{w:World}{M:Nat->Nat->Prop}{G:List Gh}{vs:List Value}(hv:VRs w M G as vs)(hn:as.length=n):RelF w M G n ⟨qev 0 as,[]⟩ { tmps:=vs.toArray,defers:=[] }:=by
 have hl:=qh hv
 refine⟨by simp;omega,rfl,fun t=>?_⟩
 simp only[qgd,Nat.zero_le,if_true,Nat.sub_zero]
 by_cases ht:t<as.length
 ·obtain⟨x,hx,hr⟩:=qde hv ht
  have:vs.toArray.getD t undef=x:=by rw[Array.getD_eq_getD_getElem?];simp[hx]
  rw[this];exact hr
 ·have:as.getD t .junk=.junk:=by rw[List.getD_eq_getElem?_getD,List.getElem?_eq_none (by omega)];rfl
  rw[this];trivial

theorem q0e(hH:ent H i=.lp d as)(hs:d.st=.ready)(hn:as.length=n)(ha:qcl P n d.asn=some a)(hb:qcl P n d.bd=some b)(hl:args.length=d.ps.size)(hp:∀p∈d.ps.toList,p<n)(hk:H.length≤k)
 (h:∀l,VI P (some l) n H.length a (begq P n H.length k i l b Q) ⟨qxd (qev 0 as) d.ps.toList args,[]⟩ H):VApp P H (.opq i) args Q:=by
 intro w M G x xs hst hf hv
 obtain⟨g,hg,rfl,_⟩:=hf rfl
 obtain⟨h1,⟨vs,h2,h3⟩,h4,h5,h6,h7⟩:=hst.ok i g _ hg (qti hH)
 have hxl:=qh hv
 show AppOut P _ _ w _
 rw[h5]
 refine⟨{ target:=.fn (.yield g.blk) #[],args:=#[]++xs.toArray },w,rfl,?_⟩
 have hinv:(invoke (Target.fn (.yield g.blk) #[]) (#[]++xs.toArray)).run P w=(Instr.yield g.blk (#[]++xs.toArray)).run P w:=by
  simp[invoke]
 have hy:=run_yield (P:=P) (args:=#[]++xs.toArray) h2 (by simp;omega)
 simp only[hinv,hy]
 have hlen:G.length=H.length:=hst.len
 refine roundIn_of_wpIn trivial ?_
 have hrel:=qow (qbii h3 hn) hp hv
 have hz:((d.ps.zip (#[]++xs.toArray)).foldl (fun tmps (t,a)=>tmps.setIfInBounds t a) vs.toArray)=(d.ps.toList.zip xs).foldl (fun tmps (t,a)=>tmps.setIfInBounds t a) vs.toArray:=by
  rw[←Array.foldl_toList]
  simp
 rw[hz]
 have hwp:=h g.blk d.asn ha w M G _ hst hrel
 refine wpIn_mono hwp fun e a' w' hp'=>?_
 obtain⟨ve,af',M',G',H',q1,q2,q3,q4,q5⟩:=hp'
 cases ve<;>try exact q1.elim
 have q2:e=.normal:=q2
 subst q2
 simp only[begq] at q1
 split at q1
 ·rename_i j fn ps x y as' he
  have hi:i<G.length:=(List.getElem?_eq_some_iff.1 hg).1
  obtain⟨g',hg',hcore⟩:=q3.core i g (by omega) hg
  obtain⟨vs',r1,r2,r3,r4⟩:=qrf q4 hg' (qti he) ⟨.busy,j,fn,ps,x,y⟩ rfl rfl rfl rfl
  have hblk:g'.blk=g.blk:=(qce hcore).1
  rw[hblk] at r1 r3 r4
  refine⟨_,run_beginRound r1 rfl,?_⟩
  have hcode:d.bd=d.bd:=rfl
  have hx:=q3.trans r4.toM
  have hwb:=q1 d.bd hb _ M' G' a' r3 (q5.ext r4)
  refine wpIn_mono hwb fun e₂ a₂ w₂ hp₂=>?_
  obtain⟨ve₂,af₂,M₂,G₂,H₂,s1,s2,s3,s4,s5⟩:=hp₂
  have hx2:=hx.trans s3
  have done:∀(d':LpD) (as₂:List AV) (st:LoopState) (jmp:Option Code) (bv:Bool),ent H₂ i=.lp d' as₂->(st=if jmp.isNone then .ready else .done)->bv=jmp.isNone->fin k Q (H₂.set i (.lp ⟨st,jmp,d'.fn,d'.ps,d'.asn,d'.bd⟩ as₂)) (.val (.bool bv)) →
   ∃v w₃,(Instr.endRound g.blk jmp).run P w₂=.ok v w₃∧Out Q w M G (.returned v) w₃:=by
   intro d' as₂ st jmp bv he₂ hst' hbv hq
   subst hst' hbv
   obtain⟨g₂,hg₂,hcore₂⟩:=hx2.core i g (by omega) hg
   obtain⟨vs₂,t1,t2,t3,t4⟩:=qrf s4 hg₂ (qti he₂) ⟨if jmp.isNone then .ready else .done,jmp,d'.fn,d'.ps,d'.asn,d'.bd⟩ rfl rfl rfl rfl
   have hblk₂:g₂.blk=g.blk:=(qce hcore₂).1
   rw[hblk₂] at t1 t3 t4
   obtain⟨G₃,u1,u2,u3,u4⟩:=qny (m:=H.length) t3 hq hk
   exact⟨_,_,run_endRound jmp t1,M₂,G₃,_,_,u3,(hlen ▸ ((hx2.trans t4.toM).trans u1)).toExt,u2,u4 _ _ rfl rfl⟩
  cases ve₂ with
  | nrm =>
    have s2:e₂=.normal:=s2
    subst s2
    simp only[endq] at s1
    split at s1
    ·rename_i d' as₂ he₂
     exact done d' as₂ .ready none true he₂ rfl rfl s1
    ·exact s1.elim
  | ret =>
    have s2:e₂=.ret:=s2
    subst s2
    simp only[endq] at s1
    split at s1
    ·rename_i d' as₂ he₂
     exact done d' as₂ .done (some .ret) false he₂ rfl rfl s1
    ·exact s1.elim
  | ext id =>
    have s2:e₂=.exit id:=s2
    subst s2
    simp only[endq] at s1
    split at s1
    ·rename_i d' as₂ he₂
     exact done d' as₂ .done (some (.exit id)) false he₂ rfl rfl s1
    ·exact s1.elim
  | gto l=>exact s1.elim
  | pan v=>exact s1.elim
 ·exact q1.elim
end

/-! ### A row is written no more -/
section
variable {P:Program} {fr:Option Nat} {n m:Nat} {Q:VE->AF->List Ent->Prop} {af:AF} {H:List Ent} {a:IC} {i q:Nat} {es:List AV}

theorem frz{w:World}{M:Nat->Nat->Prop}{G:List Gh}(hst:St w M G H)(he:ent H i=.mrow q es)(hl:es.all (fun e=>(e.isAgg||e.leaf)&&e.cells.all AV.leaf)=true):
 ∃M',St w M' G (H.set i (.app q es))∧Ext w M G w M' G:=by
 have hH:=qbj he (by simp)
 obtain⟨g,hg⟩:=hst.lenH hH
 obtain⟨h1,h2,h3⟩:=hst.ok i g _ hg hH
 let M':Nat->Nat->Prop:=fun b o=>M b o∨(b=g.blk∧o<q*es.length)
 have hle:Le w M w M':=fun b o hm=>⟨.inl hm,rfl⟩
 have hone:∀o,o<q*es.length->∀v,w.cell? ⟨g.blk,o,none⟩=some v->v.oneCell'=true:=by
  intro o ho v hv
  obtain⟨_,_,vs,t,us,r1,r2,r3,r4,r5⟩:=h2
  rw[qd4 r1] at hv
  have hx:(vs.take (q*es.length))[o]?=some v:=by rw[List.getElem?_take_of_lt ho];exact hv
  rw[r5] at hx
  obtain⟨u,hu,hvu⟩:=List.mem_flatMap.1 (List.mem_of_getElem? hx)
  obtain⟨j,hj⟩:=List.mem_iff_getElem?.1 hu
  have hjl:=(List.getElem?_eq_some_iff.1 hj).1
  have hlen:=qh r3
  obtain⟨u',s1,s2⟩:=qde r3 (i:=j) (by omega)
  rw[hj] at s1
  simp only[Option.some.injEq] at s1;subst s1
  have hmem:es.getD j .junk∈es:=by
   rw[List.getD_eq_getElem?_getD,List.getElem?_eq_getElem (by omega)];exact List.getElem_mem _
  have hq:=List.all_eq_true.1 hl _ hmem
  simp only[Bool.and_eq_true,Bool.or_eq_true] at hq
  exact qmv (qd1 s2 hq.1) hq.2 v hvu
 have hext:Ext w M G w M' G:=⟨rfl,rfl,rfl,Nat.le_refl _,fun j g h=>⟨g,h,rfl⟩,hle,fun _ _ _=>rfl,fun b hb=>.inl hb,fun b o hm=>by
  rcases hm with hm | ⟨rfl,ho⟩
  ·exact .inl hm
  ·exact .inr (.inl ⟨i,g,hg,(h1 _).2 rfl⟩)⟩
 refine⟨M',?_,hext⟩
 have:=qg1 (w':=w) (M':=M') (g':=g) (e:=.app q es) hst hg rfl (fun _ h=>h) (Nat.le_refl _) (fun _ _ _=>rfl) hle (fun b o hm=>by
  rcases hm with hm | ⟨rfl,ho⟩
  ·exact .inl hm
  ·exact .inr ⟨(h1 _).2 rfl,hone o ho⟩) (by
   rw[qd2 _ _ _ hg]
   obtain⟨a1,a2,vs,t,us,r1,r2,r3,r4,r5⟩:=h2
   exact⟨h1,⟨a1,a2,vs,t,us,r1,r2,r3.ext hext,r4,r5⟩,fun o=>⟨fun hm=>by
    rcases hm with hm | ⟨_,ho⟩
    ·exact absurd hm (h3 o)
    ·exact ho,fun ho=>.inr ⟨rfl,ho⟩⟩⟩)
 rwa [qd2 _ _ _ hg] at this

theorem qcjm(i:Nat){q:Nat}{es:List AV}(he:ent H i=.mrow q es)(hl:es.all (fun e=>(e.isAgg||e.leaf)&&e.cells.all AV.leaf)=true)(h:VI P fr n m a Q af (H.set i (.app q es))):VI P fr n m a Q af H:=by
 intro c hc w M G act hst hr
 obtain⟨M',h1,h2⟩:=frz hst he hl
 exact qop (h c hc) h1 (hr.ext h2) h2.toM
end

/-! ### Scopes and labels (no jump) -/
section
variable {P:Program} {fr:Option Nat} {n m:Nat} {Q:VE->AF->List Ent->Prop} {af:AF} {H:List Ent} {a:IC}

theorem qbbj{l:Nat}(h:Q .nrm af H):VI P fr n m (.label l) Q af H:=by
 intro c hc
 have:c=.label l:=by
  cases c<;>simp only[qcl] at hc<;>first | (simp at hc;rw[hc];done) | (exfalso;(repeat' split at hc)<;>simp at hc)
 subst this
 exact fun w M G a hst hr=>wpIn_label ⟨.nrm,af,M,G,H,h,rfl,ExtM.refl,hst,hr⟩

theorem qe0{b:Frame}{a:Act}{k:List Item}{cs:List Frame}{w:World}{c:Code}:step P (lone (b.atR a (.code (.scope c)::k)) cs w)=.next (lone (b.atR a (.code c::.inScope c::k)) cs w) :=
 step_lone_go (by simp[stepG,stepG.exec,Frame.atR])
theorem qjv{b:Frame}{a:Act}{k:List Item}{cs:List Frame}{w:World}{c:Code}:step P (lone (b.atR a (.inScope c::k)) cs w)=.next (lone (b.atR a k) cs w) :=
 step_lone_go (by simp[stepG,stepG.exec,Frame.atR])

def scq(Q:VE->AF->List Ent->Prop):VE->AF->List Ent->Prop
 | .gto _,_,_=>False
 | e,af,H=>Q e af H

theorem qbbp(h:VI P fr n m a (scq Q) af H):VI P fr n m (.scope a) Q af H:=by
 intro c hc
 cases c<;>simp only[qcl] at hc
 case scope x =>
  obtain⟨x',hx,hxx⟩:=Option.map_eq_some_iff.1 hc
  simp only[IC.scope.injEq] at hxx
  subst hxx
  intro w M G act hst hr b k cs hro hb hroom
  obtain⟨e,a₁,w₁,hq,harr⟩:=h x hx w M G act hst hr b (.inScope x::k) cs hro hb hroom
  obtain⟨ve,af',M',G',H',h1,h2,h3,h4,h5⟩:=hq
  have h0:(lone (b.atR act (.code (.scope x)::k)) cs w).fenced P (fw fr):=fenced_calm hb hroom rfl
  have hp:∀hng:(∀l,ve≠.gto l),VPost Q n m w M G e a₁ w₁:=fun hng=>⟨ve,af',M',G',H',by cases ve<;>first | exact h1 | exact absurd rfl (hng _),h2,h3,h4,h5⟩
  cases ve with
  | gto l=>exact h1.elim
  | nrm =>
    have h2:e=.normal:=h2
    subst h2
    exact⟨.normal,a₁,w₁,hp (by simp),.head h0 qe0 (StepsIn.trans harr (.one (fenced_calm hb hroom rfl) qjv))⟩
  | ext i =>
    have h2:e=.exit i:=h2
    subst h2
    exact⟨.exit i,a₁,w₁,hp (by simp),.of_steps (.one h0 qe0) ⟨fun k' hk=>harr.1 k' (by simpa [exitTo] using hk),fun hr hk=>harr.2 hr (by simpa [exitTo] using hk)⟩⟩
  | ret =>
    have h2:e=.ret:=h2
    subst h2
    exact⟨.ret,a₁,w₁,hp (by simp),.of_steps (.one h0 qe0) harr⟩
  | pan v =>
    obtain⟨y,rfl,hy⟩:=h2
    exact⟨_,a₁,w₁,hp (by simp),.of_steps (.one h0 qe0) harr⟩
 all_goals(exfalso;(repeat' split at hc)<;>simp at hc)

theorem qb18{Q:VE->AF->List Ent->Prop}(af:AF)(H:List Ent):scq Q .nrm af H=Q .nrm af H:=Eq.trans rfl rfl
theorem qcdo{Q:VE->AF->List Ent->Prop}(i:Nat)(af:AF)(H:List Ent):scq Q (.ext i) af H=Q (.ext i) af H:=Eq.trans rfl rfl
theorem qb74{Q:VE->AF->List Ent->Prop}(af:AF)(H:List Ent):scq Q .ret af H=Q .ret af H:=Eq.trans rfl rfl
theorem qbv1{Q:VE->AF->List Ent->Prop}(v:AV)(af:AF)(H:List Ent):scq Q (.pan v) af H=Q (.pan v) af H:=Eq.trans rfl rfl
attribute [go_sem] qb18 qcdo qb74 qbv1
end

/-! ### States with a front that stays -/
theorem Ent.bd_le{k k':Nat}(h:k≤k')(e:Ent)(hb:e.bd k=true):e.bd k'=true:=by
 cases e<;>simp only[Ent.bd] at hb ⊢<;>exact qdn h _ hb
theorem qcaw{k k':Nat}(h:k≤k'){l:List Ent}(hb:l.all (Ent.bd k)=true):l.all (Ent.bd k')=true:=by
 rw[List.all_eq_true] at hb ⊢
 exact fun e he=>Ent.bd_le h e (hb e he)
theorem Ent.ren_same{σ:Nat->Nat}{m:Nat}(hσ:∀i,i<m->σ i=i)(e:Ent)(hb:e.bd m=true):e.ren σ=e:=by
 cases e<;>simp only[Ent.bd,Ent.ren] at hb ⊢<;>rw[qp hσ _ hb]
theorem VO.ren_same{σ:Nat->Nat}{m:Nat}(hσ:∀i,i<m->σ i=i)(o:VO)(hb:o.bd m=true):o.ren σ=o:=by
 cases o<;>simp only[VO.bd,VO.ren] at hb ⊢<;>rw[Go.V.ren_same hσ _ hb]

theorem qlj{m i:Nat}(h:i<m):sg (List.range m) i=i:=by
 rw[sg,List.getD_eq_getElem?_getD,List.getElem?_range h];rfl
theorem qnz{m len i:Nat}(h:i<m):sg' (List.range m) len i=i:=by
 rw[sg',if_pos (by simpa using h),List.getD_eq_getElem?_getD,List.getElem?_range h];rfl

theorem qk5{α:Type}:∀(es pre l:List α),es.length≤l.length->qbq (pre++l) (List.range' pre.length es.length) es=pre++es++l.drop es.length
 | [],pre,l,_=>by simp[qbq]
 | e::es,pre,[],h=>by simp at h
 | e :: es, pre, x :: l, h => by
   simp only[List.length_cons,List.range'_succ,qbq]
   have h1:(pre++x::l).set pre.length e=(pre++[e])++l:=by simp
   rw[h1]
   have h2:=qk5 es (pre++[e]) l (by simpa using h)
   simp only[List.length_append,List.length_cons,List.length_nil,Nat.zero_add] at h2
   rw[h2]
   simp
theorem qtr{H0 L H1:List Ent}(hl:H1.length=H0.length)(hb:H1.all (Ent.bd H0.length)=true):qe7 (H0++L) (List.range H0.length) H1=H1++L:=by
 have hid:(H1.take H0.length).map (Ent.ren (sg' (List.range H0.length) (H0++L).length))=H1:=by
  rw[List.take_of_length_le (by omega)]
  conv=>rhs;rw[←List.map_id H1]
  refine List.map_congr_left fun e he=>?_
  exact Ent.ren_same (m:=H0.length) (fun i hi=>qnz hi) e (List.all_eq_true.1 hb e he)
 unfold qe7
 rw[List.length_range,hid,List.drop_of_length_le (by omega)]
 have:=qk5 H1 [] (H0++L) (by simp;omega)
 simp only[List.nil_append,List.length_nil,hl] at this
 rw[List.range_eq_range',this]
 simp

theorem qly{H0 L:List Ent}{x:Ent}{m:Nat}(h:H0.length=m):ent (H0++x::L) m=x:=by
 subst h
 induction H0 with
 | nil=>rfl
 | cons e r ih=>exact ih
theorem qov{H0 L:List Ent}(hb:H0.all (Ent.bd H0.length)=true):qex (H0++L) (List.range H0.length) H0.length H0 (List.range H0.length):=by
 have key:∀(l pre:List Ent),H0=pre++l->qex (H0++L) (List.range H0.length) H0.length l (List.range' pre.length l.length):=by
  intro l
  induction l with
  | nil=>intro pre _;simp[qex]
  | cons e l ih =>
    intro pre he
    have h1:=ih (pre++[e]) (by simp[he])
    simp only[List.length_append,List.length_cons,List.length_nil,Nat.zero_add] at h1
    have hlt:pre.length<(H0++L).length:=by rw[he];simp
    have hbe:e.bd H0.length=true:=List.all_eq_true.1 hb e (by rw[he];simp)
    have hen:e≠.dead->ent (H0++L) pre.length=e.ren (sg (List.range H0.length)):=fun _=>by
     rw[Ent.ren_same (m:=H0.length) (fun i hi=>qlj hi) e hbe,he,List.append_assoc,List.cons_append]
     exact qly rfl
    simp only[List.length_cons,List.range'_succ]
    cases e<;>first | exact⟨hlt,h1⟩ | exact⟨⟨hlt,hbe,hen (by simp)⟩,h1⟩
 have:=key H0 [] rfl
 rwa [List.length_nil,←List.range_eq_range'] at this

section
variable {P:Program} {H0 L:List Ent} {f:FuncId} {args:List AV} {fv:AV} {Q0 Q:List Ent->VO->Prop}

theorem qpm(h:VCalls P f H0 args Q0)(hb:H0.all (Ent.bd H0.length)=true)(ha:AV.bds H0.length args=true)
 (hq:∀H1 o,Q0 H1 o->H1.length=H0.length∧H1.all (Ent.bd H0.length)=true∧o.bd H0.length=true∧Q (H1++L) o):VCalls P f (H0++L) args Q :=
 qbs (List.range H0.length) h List.nodup_range (qov hb) ha (by rw[qp (m:=H0.length) (fun i hi=>qlj hi) _ ha]) fun H1 o ho=>by
  obtain⟨h1,h2,h3,h4⟩:=hq H1 o ho
  rw[qtr h1 h2,VO.ren_same (m:=H0.length) (fun i hi=>qnz hi) o h3]
  exact h4

theorem qbb5(h:VApp P H0 fv args Q0)(hb:H0.all (Ent.bd H0.length)=true)(hf:fv.bd H0.length=true)(ha:AV.bds H0.length args=true)
 (hq:∀H1 o,Q0 H1 o->H1.length=H0.length∧H1.all (Ent.bd H0.length)=true∧o.bd H0.length=true∧Q (H1++L) o):VApp P (H0++L) fv args Q :=
 qb8x (List.range H0.length) h List.nodup_range (qov hb) hf (by rw[ren_same (m:=H0.length) (fun i hi=>qlj hi) _ hf]) ha (by rw[qp (m:=H0.length) (fun i hi=>qlj hi) _ ha]) fun H1 o ho=>by
  obtain⟨h1,h2,h3,h4⟩:=hq H1 o ho
  rw[qtr h1 h2,VO.ren_same (m:=H0.length) (fun i hi=>qnz hi) o h3]
  exact h4
end

theorem qyr{H0 L:List Ent}{x y:Ent}{m:Nat}(h:H0.length=m):ent (H0++x::y::L) (m+1)=y:=by
 have:=qly (H0:=H0++[x]) (L:=L) (x:=y) (m:=m+1) (by simp[h])
 simpa using this
theorem qbfb{H0 L:List Ent}{x y z:Ent}{m:Nat}(h:H0.length=m):ent (H0++x::y::z::L) (m+2)=z:=by
 have:=qly (H0:=H0++[x,y]) (L:=L) (x:=z) (m:=m+2) (by simp[h])
 simpa using this
theorem qqr{H0 L:List Ent}{x e:Ent}{m:Nat}(h:H0.length=m):(H0++x::L).set m e=H0++e::L:=by subst h;simp
theorem q86{H0 L:List Ent}{x y e:Ent}{m:Nat}(h:H0.length=m):(H0++x::y::L).set (m+1) e=H0++x::e::L:=by
 have:=qqr (H0:=H0++[x]) (L:=L) (x:=y) (e:=e) (m:=m+1) (by simp[h])
 simpa using this
theorem qbfc{H0 L:List Ent}{x y z e:Ent}{m:Nat}(h:H0.length=m):(H0++x::y::z::L).set (m+2) e=H0++x::y::e::L:=by
 have:=qqr (H0:=H0++[x,y]) (L:=L) (x:=z) (e:=e) (m:=m+2) (by simp[h])
 simpa using this
def tmS(tm:List (Nat×AV))(k:Nat):List (Nat×AV)->Prop
 | []=>True
 | (t,v)::r=>(v.bd k=true∧get tm t=v)∧tmS tm k r

theorem qx8{tm:List (Nat×AV)}{k:Nat}:∀{l:List (Nat×AV)},tmS tm k l->∀t,get l t=.junk∨((get l t).bd k=true∧get tm t=get l t)
 | [],_,t=>.inl rfl
 | (s, v) :: r, h, t => by
   obtain⟨⟨h1,h2⟩,h3⟩:=h
   simp only[get]
   by_cases hst:s=t
   ·subst hst;rw[if_pos rfl];exact .inr ⟨h1,h2⟩
   ·rw[if_neg hst];exact qx8 h3 t

theorem qx4{S:Type}{Inv:S->Prop}{st:S->AF×List Ent}{m:Nat}{af:AF}{H:List Ent}(s:S)(L:List Ent)(hs:Inv s)(hm:m≤(st s).2.length)(hH:H=(st s).2++L)(hb:(st s).2.all (Ent.bd (st s).2.length)=true)
 (ht:tmS af.tm (st s).2.length (st s).1.tm) (hd:af.dl=(st s).1.dl) (hdb:(st s).1.dl.all (AD.bd (st s).2.length)=true):At S Inv st m af H:=by
 refine⟨s,hs,id,fun i _=>rfl,hm,fun i j _ _ e=>e,fun j e he=>.inr ⟨List.all_eq_true.1 hb e (List.mem_of_getElem? he),?_⟩,fun j hj=>?_,fun t=>?_,fun d hd'=>List.all_eq_true.1 hdb d hd',?_⟩
 ·have hj:=(List.getElem?_eq_some_iff.1 he).1
  rw[hH,id,List.getElem?_append_left hj,he,Ent.ren_id]
 ·rw[hH];simp;omega
 ·rcases qx8 ht t with h | ⟨h1,h2⟩
  ·exact .inl h
  ·exact .inr ⟨h1,by rw[h2,AV.ren_id]⟩
 ·rw[hd]
  conv=>lhs;rw[←List.map_id (st s).1.dl]
  refine List.map_congr_left fun d _=>?_
  cases d<;>simp only[AD.ren,id,AV.ren_id,AV.rens_id]

theorem qb{i:Nat}(h:i<maxLen):IntKind.i64.wrap ((i:Int)+1)=((i+1:Nat):Int):=by
 rw[qqw (by omega) (by omega)];rfl
theorem qnc{α:Type}{l:List α}(h:¬l=[]):0<l.length:=by cases l<;>simp_all
theorem ev_{p q:Prop}(h:q)(e:p=q:=by simp only[go_sem,↓reduceIte];exact rfl):p:=by rw[e];exact h
theorem cj_{a b:Prop}(h:b)(ha:a:=by first | assumption | omega | (have:=qnc (by assumption);omega) | (unfold qbi;omega)):a∧b:=⟨ha,h⟩
theorem hb_:(∀b:Bool,((!b)=true)=(b=false))∧(∀b:Bool,((!b)=false)=(b=true))∧(∀(p:Prop) [Decidable p],(decide p=true)=p)∧(∀(p:Prop) [Decidable p],(decide p=false)=¬p)∧(∀a b:Bool,((a&&b)=true)=(a=true∧b=true)) :=
 ⟨fun b=>by cases b<;>simp,fun b=>by cases b<;>simp,fun p _=>by simp,fun p _=>by simp,fun a b=>by simp⟩
theorem nat0:((0:Nat):Int)=0:=rfl
theorem nat1:((1:Nat):Int)=1:=rfl
attribute [go_sem] decide_true decide_false nat0 nat1 Nat.zero_le Nat.le_refl
attribute [go_sem] List.append_assoc List.all_append Nat.le_add_right
theorem zget{l:List AV}{t:Nat}:get (qev 0 l) t=l.getD t .junk:=by rw[qgd,if_pos (Nat.zero_le _),Nat.sub_zero]
theorem qbbf{P:Program}{f:FuncId}{H:List Ent}{args:List AV}{Q0 Q:List Ent->VO->Prop}(h:VCalls P f [] args Q0)(ha:AV.bds 0 args=true)(hQ:∀H1 o,Q0 H1 o->Q (qe7 H [] H1) (o.ren (sg' [] H.length))):VApp P H (.fn f [] []) args Q :=
 qcj (first:=[]) (caps:=[]) (by
  simp only[List.nil_append,List.append_nil]
  exact qbs [] h List.nodup_nil trivial ha (by rw[qp (m:=0) (fun i hi=>by omega) _ ha]) hQ)
theorem qtu{n:Nat}{tm:List (Nat×AV)}:(qqj n tm).length=n:=by simp[qqj]
theorem q4a{n t:Nat}{tm:List (Nat×AV)}(h:t<n):(qqj n tm).getD t .junk=get tm t:=by
 rw[qqj,List.getD_eq_getElem?_getD,List.getElem?_map,List.getElem?_range h];rfl
def tmBd(k:Nat):List (Nat×AV)->Bool
 | []=>true
 | (_,v)::r=>v.bd k&&tmBd k r
theorem qy5{k:Nat}:∀{tm:List (Nat×AV)},tmBd k tm=true->∀t,(get tm t).bd k=true
 | [],_,t=>rfl
 | (s, v) :: r, h, t => by
   simp only[tmBd,Bool.and_eq_true] at h
   simp only[get]
   split
   ·exact h.1
   ·exact qy5 h.2 t
theorem qbil{n k:Nat}{tm:List (Nat×AV)}(h:tmBd k tm=true):AV.bds k (qqj n tm)=true:=by
 rw[qc2,List.all_eq_true]
 intro v hv
 obtain⟨t,_,rfl⟩:=List.mem_map.1 hv
 exact qy5 h t
attribute [go_sem] qtu q4a tmBd qbil
attribute [go_sem] qe7 VO.ren
attribute [go_sem] Bool.not_false Bool.not_true Bool.true_or Bool.or_true Bool.false_or Bool.or_false List.isEmpty_cons List.isEmpty_nil
attribute [go_sem] zget begq endq ranq
attribute [go_sem] qly qyr qbfb qqr q86 qbfc tmS qxd List.length_append

def qn3:IC->Nat->Option IC
 | .seq a b, l => match qn3 a l with
   | some r=>some (.seq r b)
   | none=>qn3 b l
 | .label l',l=>if l' == l then some .skip else none
 | _,_=>none

theorem q0s{P:Program}{n l:Nat}:∀{c:Code} {ic:IC},qcl P n c=some ic->(qn3 ic l=none->findLabel c l=none)∧∀r,qn3 ic l=some r->∃rest,findLabel c l=some rest∧qcl P n rest=some r:=by
 intro c
 induction c with
 | seq a b iha ihb =>
   intro ic hc
   simp only[qcl] at hc
   split at hc
   ·rename_i x y hx hy
    simp only[Option.some.injEq] at hc
    subst hc
    obtain⟨a1,a2⟩:=iha hx
    obtain⟨b1,b2⟩:=ihb hy
    simp only[qn3,findLabel]
    cases hf:qn3 x l with
    | none =>
      rw[a1 hf]
      exact⟨fun h=>b1 h,fun r h=>b2 r h⟩
    | some r =>
      obtain⟨rest,h1,h2⟩:=a2 r hf
      rw[h1]
      refine⟨fun h=>(by cases h),fun r' h=>?_⟩
      simp only[Option.some.injEq] at h
      subst h
      exact⟨_,rfl,by simp only[qcl,h2,hy]⟩
   ·cases hc
 | label l' =>
   intro ic hc
   simp only[qcl,Option.some.injEq] at hc
   subst hc
   simp only[qn3,findLabel]
   by_cases h:(l' == l)=true
   ·rw[if_pos h,if_pos h]
    exact⟨fun h=>(by cases h),fun r hr=>⟨.skip,rfl,by simp only[Option.some.injEq] at hr;subst hr;rfl⟩⟩
   ·rw[if_neg h,if_neg h]
    exact⟨fun _=>rfl,fun r hr=>(by cases hr)⟩
 | _ =>
   intro ic hc
   refine⟨fun _=>rfl,fun r hr=>?_⟩
   exfalso
   simp only[qcl] at hc
   repeat' split at hc
   all_goals first
    | (cases hc;done)
    | (simp only[Option.some.injEq] at hc;subst hc;simp only[qn3] at hr;cases hr;done)
    | (rcases Option.or_eq_some_iff.1 hc with hc | ⟨_,hc⟩<;>(obtain⟨y,_,hc⟩:=Option.map_eq_some_iff.1 hc;subst hc;simp only[qn3] at hr;cases hr);done)
    | (obtain⟨y,_,hc⟩:=Option.map_eq_some_iff.1 hc;subst hc;simp only[qn3] at hr;cases hr;done)

def scj{S:Type}(l:Nat)(Inv:S->Prop)(st:S->AF×List Ent)(m:Nat)(Q:VE->AF->List Ent->Prop):VE->AF->List Ent->Prop
 | .gto l',af,H=>l'=l∧At S Inv st m af H
 | e,af,H=>Q e af H

section
variable {P:Program} {fr:Option Nat} {n m:Nat} {Q:VE->AF->List Ent->Prop} {af:AF} {H:List Ent} {a:IC}

theorem qbuo{l:Nat}(h:Q (.gto l) af H):VI P fr n m (.goto l) Q af H:=by
 intro c hc
 have:c=.goto l:=by
  cases c<;>simp only[qcl] at hc<;>first | (simp at hc;rw[hc];done) | (exfalso;(repeat' split at hc)<;>simp at hc)
 subst this
 exact fun w M G a hst hr=>wpIn_goto ⟨.gto l,af,M,G,H,h,rfl,ExtM.refl,hst,hr⟩

theorem q7o{S:Type}(l:Nat){r:IC}(hf:qn3 a l=some r)(Inv:S->Prop)(st:S->AF×List Ent)(μ:S->Nat)(h0:VI P fr n m a (scj l Inv st m Q) af H)
 (hr:∀s,Inv s->VI P fr n m r (scj l (fun s'=>Inv s'∧μ s'<μ s) st m Q) (st s).1 (st s).2):VI P fr n m (.scope a) Q af H:=by
 intro c hc
 cases c<;>simp only[qcl] at hc
 case scope x =>
  obtain⟨x',hx,hxx⟩:=Option.map_eq_some_iff.1 hc
  simp only[IC.scope.injEq] at hxx
  subst hxx
  obtain⟨rest,hrest,hcr⟩:=(q0s hx).2 r hf
  intro w M G act hst hrf b k cs hro hb hroom
  have hg:gotoIn l (.inScope x::k)=some (.code rest::.inScope x::k):=by simp[gotoIn,hrest]
  have hsc:step P (lone (b.atR act (.code (.scope x)::k)) cs w)=.next (lone (b.atR act (.code x::.inScope x::k)) cs w):=qe0
  let I:S->Act->World->Prop:=fun s a' w'=>Inv s∧∃M' G',ExtM m w M G w' M' G'∧St w' M' G' (st s).2∧RelF w' M' G' n (st s).1 a'
  have hI:∀{af₁:AF} {H₁:List Ent} {a₁:Act} {w₁:World} {M₁:Nat->Nat->Prop} {G₁:List Gh} {J:S->Prop},(∀s,J s->Inv s)->At S J st m af₁ H₁->ExtM m w M G w₁ M₁ G₁->St w₁ M₁ G₁ H₁->RelF w₁ M₁ G₁ n af₁ a₁->∃s,J s∧I s a₁ w₁:=by
   intro af₁ H₁ a₁ w₁ M₁ G₁ J hJ hat he hs hf
   obtain⟨s,h1,h2⟩:=hat
   obtain⟨G₂,q1,q2,q3⟩:=qri hs hf h2
   exact⟨s,h1,hJ s h1,M₁,G₂,he.trans q1,q2,q3⟩
  -- how the inner code is left
  have out:∀{J:S->Prop} {e:Exit} {a₁:Act} {w₁:World} {m0:Machine},(∀s,J s->Inv s)->VPost (scj l J st m Q) n m w M G e a₁ w₁->ArrivesIn (Machine.fenced P (fw fr)) P m0 b (.inScope x::k) cs e a₁ w₁ →
   (∃e' a' w',VPost Q n m w M G e' a' w'∧ArrivesIn (Machine.fenced P (fw fr)) P m0 b k cs e' a' w')∨(∃s,J s∧I s a₁ w₁∧StepsIn (Machine.fenced P (fw fr)) P m0 (lone (b.atR a₁ (.code rest::.inScope x::k)) cs w₁)):=by
   intro J e a₁ w₁ m0 hJ hq harr
   obtain⟨ve,af',M',G',H',h1,h2,h3,h4,h5⟩:=hq
   cases ve with
   | gto l' =>
     have h2:e=.goto l':=h2
     subst h2
     obtain⟨rfl,hat⟩:=h1
     obtain⟨s,hs,hIs⟩:=hI hJ hat h3 h4 h5
     exact .inr ⟨s,hs,hIs,harr.1 _ hg⟩
   | nrm =>
     have h2:e=.normal:=h2
     subst h2
     exact .inl ⟨.normal,a₁,w₁,⟨.nrm,af',M',G',H',h1,rfl,h3,h4,h5⟩,StepsIn.trans harr (.one (fenced_calm hb hroom rfl) qjv)⟩
   | ext i =>
     have h2:e=.exit i:=h2
     subst h2
     exact .inl ⟨.exit i,a₁,w₁,⟨.ext i,af',M',G',H',h1,rfl,h3,h4,h5⟩,⟨fun k' hk=>harr.1 k' (by simpa [exitTo] using hk),fun hr hk=>harr.2 hr (by simpa [exitTo] using hk)⟩⟩
   | ret =>
     have h2:e=.ret:=h2
     subst h2
     exact .inl ⟨.ret,a₁,w₁,⟨.ret,af',M',G',H',h1,rfl,h3,h4,h5⟩,harr⟩
   | pan v =>
     obtain⟨y,rfl,hy⟩:=h2
     exact .inl ⟨_,a₁,w₁,⟨.pan v,af',M',G',H',h1,⟨y,rfl,hy⟩,h3,h4,h5⟩,harr⟩
  have key:∀(j:Nat) (s:S) (a₁:Act) (w₁:World),μ s=j->I s a₁ w₁->∃e a' w',VPost Q n m w M G e a' w'∧ArrivesIn (Machine.fenced P (fw fr)) P (lone (b.atR a₁ (.code rest::.inScope x::k)) cs w₁) b k cs e a' w':=by
   intro j
   induction j using Nat.strongRecOn with
   | _ j ih =>
     intro s a₁ w₁ hj ⟨hinv,M₁,G₁,he,hs,hf⟩
     obtain⟨e,a₂,w₂,hq,harr⟩:=qop (hr s hinv rest hcr) hs hf he b (.inScope x::k) cs hro hb hroom
     rcases out (fun s h=>h.1) hq harr with h | ⟨s',hs',hI',hst'⟩
     ·exact h
     ·obtain⟨e₂,a₃,w₃,hq₂,harr₂⟩:=ih (μ s') (hj ▸ hs'.2) s' a₂ w₂ rfl hI'
      exact⟨e₂,a₃,w₃,hq₂,.of_steps hst' harr₂⟩
  have hc0:(lone (b.atR act (.code (.scope x)::k)) cs w).fenced P (fw fr):=fenced_calm hb hroom rfl
  obtain⟨e,a₁,w₁,hq,harr⟩:=h0 x hx w M G act hst hrf b (.inScope x::k) cs hro hb hroom
  rcases out (fun s h=>h) hq (.of_steps (.one hc0 hsc) harr) with h | ⟨s',hs',hI',hst'⟩
  ·exact h
  ·obtain⟨e₂,a₃,w₃,hq₂,harr₂⟩:=key _ s' a₁ w₁ rfl hI'
   exact⟨e₂,a₃,w₃,hq₂,.of_steps hst' harr₂⟩
 all_goals(exfalso;(repeat' split at hc)<;>simp at hc)

theorem qbvh{S:Type}{l:Nat}{Inv:S->Prop}{st:S->AF×List Ent}(af:AF)(H:List Ent):scj l Inv st m Q .nrm af H=Q .nrm af H:=Eq.trans rfl rfl
theorem qb6o{S:Type}{l i:Nat}{Inv:S->Prop}{st:S->AF×List Ent}(af:AF)(H:List Ent):scj l Inv st m Q (.ext i) af H=Q (.ext i) af H:=Eq.trans rfl rfl
theorem qb4w{S:Type}{l:Nat}{Inv:S->Prop}{st:S->AF×List Ent}(af:AF)(H:List Ent):scj l Inv st m Q .ret af H=Q .ret af H:=Eq.trans rfl rfl
theorem qbms{S:Type}{l l':Nat}{Inv:S->Prop}{st:S->AF×List Ent}(af:AF)(H:List Ent):scj l Inv st m Q (.gto l') af H=(l'=l∧At S Inv st m af H):=Eq.trans rfl rfl
theorem qcmf{b:IC}(l:Nat)(af:AF)(H:List Ent):sq P fr n m b Q (.gto l) af H=Q (.gto l) af H:=Eq.trans rfl rfl
theorem qccb{id l:Nat}(af:AF)(H:List Ent):blq id Q (.gto l) af H=Q (.gto l) af H:=Eq.trans rfl rfl
theorem qclj{S:Type}{Inv:S->Prop}{st:S->AF×List Ent}{l:Nat}(af:AF)(H:List Ent):lq Inv st m Q (.gto l) af H=Q (.gto l) af H:=Eq.trans rfl rfl
attribute [go_sem] qbvh qb6o qb4w qbms qcmf qccb qclj
end
theorem ti_:True:=⟨⟩
theorem vs_{p q:Prop}(h:q)(e:q->p:=by first | exact qnt | exact qbdz | exact qbbp):p:=e h
theorem vr_{p q:Prop}(h:q)(e:q->p:=by first | exact qo0 | exact qbye (by rfl) | exact q7w | exact qbbj | exact qbuo | exact qbkz | exact qb7p | exact qb7f | exact qb2g):p:=e h
inductive Pk(c:Bool)(p:Prop):Prop where | mk
theorem qcno{P:Program}{Q:VE->AF->List Ent->Prop}{c b:Bool}{d:Option Nat}{i:I}{k:Kt}{af:AF}{H:List Ent}:Pk c (gdK P Q (.bool c) b d i k af H):=.mk
theorem qcli{c:Bool}{A B:Prop}:Pk c (cnd (.bool c) A B):=.mk
theorem cs_{c:Bool}{p x y a b:Prop}(h1:x->a)(h2:y->b)(_e:Pk c p:=by first | exact qcno | exact qcli)
 (ex:(c=true)=x:=by first | (simp only[hb_];exact rfl) | exact rfl) (ey:(c=false)=y:=by first | (simp only[hb_];exact rfl) | exact rfl)
 (ea:c=true->p=a:=by intro hc;first | (simp only[hc];exact rfl) | exact rfl) (eb:c=false->p=b:=by intro hc;first | (simp only[hc];exact rfl) | exact rfl):p:=by
 cases c
 ·rw[eb rfl];exact h2 (ey ▸ rfl)
 ·rw[ea rfl];exact h1 (ex ▸ rfl)

def panw(Q:List Ent->VO->Prop)(v:AV)(H:List Ent):Prop:=Q H (.pan v)

def endw(i:Nat)(Q:List Ent->VO->Prop):VE->AF->List Ent->Prop
 | .nrm, _, H => match ent H i with
   | .lp d as=>Q (H.set i (.lp ⟨.ready,none,d.fn,d.ps,d.asn,d.bd⟩ as)) (.val (.bool true))
   | _=>False
 | .ret, _, H => match ent H i with
   | .lp d as=>Q (H.set i (.lp ⟨.done,some .ret,d.fn,d.ps,d.asn,d.bd⟩ as)) (.val (.bool false))
   | _=>False
 | .ext id, _, H => match ent H i with
   | .lp d as=>Q (H.set i (.lp ⟨.done,some (.exit id),d.fn,d.ps,d.asn,d.bd⟩ as)) (.val (.bool false))
   | _=>False
 | _,_,_=>False
def begw(P:Program)(n m i l:Nat)(b:IC)(Q:List Ent->VO->Prop):VE->AF->List Ent->Prop
 | .nrm, af, H => match ent H i with
   | .lp ⟨.ready,j,fn,ps,x,y⟩ as=>VI P (some l) n m b (endw i Q) af (H.set i (.lp ⟨.busy,j,fn,ps,x,y⟩ as))
   | _=>False
 | _,_,_=>False



/-! ### States that grow -/
def gro(n k:Nat)(i:Nat):Nat:=if i<n then i else i+k
def grow(n:Nat)(L H1:List Ent):List Ent:=(H1.take n).map (Ent.ren (gro n L.length))++L++(H1.drop n).map (Ent.ren (gro n L.length))


theorem qbj? {H:List Ent} {i:Nat}:ent H i=(H[i]?).getD .dead:=by
 induction H generalizing i with
 | nil=>rfl
 | cons e r ih => cases i with
   | zero=>rfl
   | succ i=>rw[List.getElem?_cons_succ];exact ih
theorem q2m{H:List Ent}{i j:Nat}{e:Ent}(h:i≠j):ent (H.set i e) j=ent H j:=by
 rw[qbj?,qbj?,List.getElem?_set_ne h]

/-! ### What every state obeys -/
theorem qbev{w:World}{M:Nat->Nat->Prop}{G:List Gh}{g:Gh}{e:Ent}(h:qhy w M G g e):e.bd G.length=true:=by
 cases e with
 | dead=>rfl
 | blk cs=>obtain⟨_,⟨vs,t,_,h3⟩,_⟩:=h;exact qea _ _ h3
 | app n es=>obtain⟨_,⟨_,_,_,_,_,_,_,h5,_⟩,_⟩:=h;exact qea _ _ h5
 | mrow n es=>obtain⟨_,⟨_,_,_,_,_,_,_,h5,_⟩,_⟩:=h;exact qea _ _ h5
 | lp d as=>obtain⟨_,⟨vs,_,h3⟩,_⟩:=h;exact qea _ _ h3
 | cus R=>rfl
section
variable {P:Program} {fr:Option Nat} {n m:Nat} {a:IC} {Q:VE->AF->List Ent->Prop} {af:AF} {H:List Ent} {fv:AV} {f:FuncId} {args:List AV} {R:List Ent->VO->Prop}
theorem qyu{w:World}{M:Nat->Nat->Prop}{G:List Gh}(hst:St w M G H){c:Co}:∀{cs:List AV} {vs:List Value} {k:Nat},VRs w M G cs vs->VRs w M G (cs.set k (co H c (cs.getD k .junk))) vs
 | [],vs,k,h=>h
 | v::cs,vs,0,⟨x,r,h1,h2,h3⟩=>⟨x,r,h1,qdo hst c v x h2,h3⟩
 | v::cs,vs,k+1,⟨x,r,h1,h2,h3⟩=>⟨x,r,h1,h2,qyu hst h3⟩
theorem qik(j k:Nat)(c:Co){cs:List AV}(he:ent H j=.blk cs)(h:VI P fr n m a Q af (H.set j (.blk (cs.set k (co H c (cs.getD k .junk)))))):VI P fr n m a Q af H:=by
 intro z hz w M G act hst hr
 have hH:=qbj he (by simp)
 obtain⟨g,hg⟩:=hst.lenH hH
 obtain⟨h1,⟨vs,t,h2,h3⟩,h4⟩:=hst.ok j g _ hg hH
 have hv:VRs w M G (cs.set k (co H c (cs.getD k .junk))) vs:=qyu hst h3
 have hs:=qg1 (w':=w) (M':=M) (g':=g) (e:=.blk (cs.set k (co H c (cs.getD k .junk)))) hst hg rfl (fun _ h=>h) (Nat.le_refl _) (fun _ _ _=>rfl) (Le.refl w M) (fun _ _ h=>.inl h) (by rw[qd2 _ _ _ hg];exact⟨h1,⟨vs,t,h2,hv⟩,h4⟩)
 rw[qd2 _ _ _ hg] at hs
 exact qop (h z hz) hs hr ExtM.refl
end
attribute [go_sem] panw begw endw
end Go.V

/-
 The value logic, part t: rows that grow from none.
-/
namespace Go.V
open Go Go.RowKit

def accV(r:Nat)(es:List AV):AV :=
 match es with
 | []=>.nils
 | _::_=>.row r es.length
def accE(n:Nat)(es:List AV):List Ent :=
 match es with
 | []=>[]
 | _::_=>[.app n es]
section
variable {r n:Nat} {es fs:List AV} {x:AV}
theorem qq:accV r []=.nils:=rfl
theorem qw:accE n []=[]:=rfl
theorem q7(h:es≠[]):accV r es=.row r es.length:=by cases es with | nil=>exact absurd rfl h | cons _ _=>rfl
theorem qbc(h:es≠[]):accE n es=[.app n es]:=by cases es with | nil=>exact absurd rfl h | cons _ _=>rfl
theorem qcm:accV r (es++[x])=.row r (es.length+1):=by rw[q7 (by simp)];simp
theorem qdh:accE n (es++[x])=[.app n (es++[x])]:=qbc (by simp)
theorem qc7:accV r [x]=.row r 1:=rfl
theorem qej:accE n [x]=[.app n [x]]:=rfl
end
attribute [go_sem] qq qw qcm qdh qc7 qej
end Go.V
