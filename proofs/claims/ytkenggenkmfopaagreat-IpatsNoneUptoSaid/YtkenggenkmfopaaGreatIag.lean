/- A text of this proof. -/
import Derived.Test.YtkenggenkmfopaaGreatIaf
set_option linter.unusedVariables false
set_option linter.unusedSimpArgs false

/-
 The value logic, part q: calls out of a greater state, said by lists; one round of a loop over a function.
-/
namespace Go.V
open Go Go.RowKit

def qds(H:List Ent)(sel:List Nat)(H1:List Ent):List Ent :=
 qbf H sel ((H1.take sel.length).map (Ent.ren (sg' sel H.length)))++(H1.drop sel.length).map (Ent.ren (sg' sel H.length))

section
variable {P:Program} {H H0:List Ent} {f:FuncId} {args0 args:List AV} {fv0 fv:AV} {Q Q':List Ent->VO->Prop}

theorem qju{sel:List Nat}{k:Nat}:∀{l:List Ent} {is:List Nat},qel H sel k l is->∀i∈is,i<H.length:=by
 intro l is h i hi
 obtain⟨h1,h2⟩:=qby h
 obtain⟨j,hj⟩:=List.mem_iff_getElem?.1 hi
 have hjl:=(List.getElem?_eq_some_iff.1 hj).1
 exact(h2 j _ i (List.getElem?_eq_getElem (by omega)) hj).1

theorem qbr(sel:List Nat)(h:VCalls P f H0 args0 Q)(hn:sel.Nodup)(he:qel H sel H0.length H0 sel)(hb:AV.bds H0.length args0=true)(ha:args=AV.rens (sg sel) args0)
 (hQ:∀H1 o,Q H1 o->Q' (qds H sel H1) (o.ren (sg' sel H.length))):VCalls P f H args Q':=by
 subst ha
 obtain⟨h1,h2⟩:=qby he
 exact qdv sel h hn (qju he) h1.symm (fun j e hj=>(h2 j e _ hj (qfb (by have:=(List.getElem?_eq_some_iff.1 hj).1;omega))).2) hb hQ

theorem q7g(sel:List Nat)(h:VApp P H0 fv0 args0 Q)(hn:sel.Nodup)(he:qel H sel H0.length H0 sel)(hfb:fv0.bd H0.length=true)(hf:fv=fv0.ren (sg sel))(hb:AV.bds H0.length args0=true)(ha:args=AV.rens (sg sel) args0)
 (hQ:∀H1 o,Q H1 o->Q' (qds H sel H1) (o.ren (sg' sel H.length))):VApp P H fv args Q':=by
 subst ha hf
 obtain⟨h1,h2⟩:=qby he
 exact qbd0 sel h hn (qju he) h1.symm (fun j e hj=>(h2 j e _ hj (qfb (by have:=(List.getElem?_eq_some_iff.1 hj).1;omega))).2) hfb hb hQ
end

def qtz:List (Nat×AV)->List Nat->List AV->List (Nat×AV)
 | tm,p::ps,v::vs=>qtz ((p,v)::tm) ps vs
 | tm,_,_=>tm

def endq(k i:Nat)(Q:List Ent->VO->Prop):VE->AF->List Ent->Prop
 | .nrm, _, H => match ent H i with
   | .lp d as=>fin k Q (H.set i (.lp ⟨.ready,none,d.fn,d.ps,d.asn,d.bd⟩ as)) (.val (.bool true))
   | _=>False
 | .ret, _, H => match ent H i with
   | .lp d as=>fin k Q (H.set i (.lp ⟨.done,some .ret,d.fn,d.ps,d.asn,d.bd⟩ as)) (.val (.bool false))
   | _=>False
 | .ext id, _, H => match ent H i with
   | .lp d as=>fin k Q (H.set i (.lp ⟨.done,some (.exit id),d.fn,d.ps,d.asn,d.bd⟩ as)) (.val (.bool false))
   | _=>False
 | _,_,_=>False

def begq(P:Program)(n m k i l:Nat)(b:IC)(Q:List Ent->VO->Prop):VE->AF->List Ent->Prop
 | .nrm, af, H => match ent H i with
   | .lp ⟨.ready,j,fn,ps,x,y⟩ as=>VI P (some l) n m b (endq k i Q) af (H.set i (.lp ⟨.busy,j,fn,ps,x,y⟩ as))
   | _=>False
 | _,_,_=>False

section
variable {P:Program} {n k i:Nat} {H:List Ent} {a b:IC} {d:LpD} {as args:List AV} {Q:List Ent->VO->Prop}

theorem qle{w:World}{M:Nat->Nat->Prop}{G:List Gh}:∀{ps:List Nat} {args:List AV} {xs:List Value} {tm:List (Nat×AV)} {ts:Array Value},RelF w M G n ⟨tm,[]⟩ { tmps:=ts,defers:=[] }->(∀p∈ps,p<n)->VRs w M G args xs →
 RelF w M G n ⟨qtz tm ps args,[]⟩ { tmps:=(ps.zip xs).foldl (fun tmps (t,a)=>tmps.setIfInBounds t a) ts,defers:=[] }
 | [],args,xs,tm,ts,h,_,_=>by simpa [qtz] using h
 | p::ps,[],xs,tm,ts,h,_,hv=>by simp only[VRs] at hv;subst hv;simpa [qtz] using h
 | p :: ps, v :: vs, xs, tm, ts, h, hp, hv => by
   obtain⟨x,r,rfl,h1,h2⟩:=hv
   have hpn:=hp p (by simp)
   have h3:=h.put (d:=some p) h1 (by simpa using hpn)
   simp only[put] at h3
   have h4:({ tmps:=ts,defers:=[] }:Act).put (some p) x={ tmps:=ts.setIfInBounds p x,defers:=[] }:=by
    simp[Act.put]
   rw[h4] at h3
   simp only[qtz,List.zip_cons_cons,List.foldl_cons]
   exact qle h3 (fun q hq=>hp q (by simp[hq])) h2

theorem qzj{w:World}{M:Nat->Nat->Prop}{G:List Gh}{vs:List Value}(hv:VRs w M G as vs)(hn:as.length=n):RelF w M G n ⟨qc7 0 as,[]⟩ { tmps:=vs.toArray,defers:=[] }:=by
 have hl:=ql hv
 refine⟨by simp;omega,rfl,fun t=>?_⟩
 simp only[qdz,Nat.zero_le,if_true,Nat.sub_zero]
 by_cases ht:t<as.length
 ·obtain⟨x,hx,hr⟩:=qc1 hv ht
  have:vs.toArray.getD t undef=x:=by rw[Array.getD_eq_getD_getElem?];simp[hx]
  rw[this];exact hr
 ·have:as.getD t .junk=.junk:=by rw[List.getD_eq_getElem?_getD,List.getElem?_eq_none (by omega)];rfl
  rw[this];trivial

theorem qkv(hH:ent H i=.lp d as)(hs:d.st=.ready)(hn:as.length=n)(ha:qb0 P n d.asn=some a)(hb:qb0 P n d.bd=some b)(hl:args.length=d.ps.size)(hp:∀p∈d.ps.toList,p<n)(hk:H.length≤k)
 (h:∀l,VI P (some l) n H.length a (begq P n H.length k i l b Q) ⟨qtz (qc7 0 as) d.ps.toList args,[]⟩ H):VApp P H (.opq i) args Q:=by
 intro w M G x xs hst hf hv
 obtain⟨g,hg,rfl,_⟩:=hf rfl
 obtain⟨h1,⟨vs,h2,h3⟩,h4,h5,h6,h7⟩:=hst.ok i g _ hg (qio hH)
 have hxl:=ql hv
 show AppOut P _ _ w _
 rw[h5]
 refine⟨{ target:=.fn (.yield g.blk) #[],args:=#[]++xs.toArray },w,rfl,?_⟩
 have hinv:(invoke (Target.fn (.yield g.blk) #[]) (#[]++xs.toArray)).run P w=(Instr.yield g.blk (#[]++xs.toArray)).run P w:=by
  simp[invoke]
 have hy:=run_yield (P:=P) (args:=#[]++xs.toArray) h2 (by simp;omega)
 simp only[hinv,hy]
 have hlen:G.length=H.length:=hst.len
 refine roundIn_of_wpIn trivial ?_
 have hrel:=qle (qzj h3 hn) hp hv
 have hz:((d.ps.zip (#[]++xs.toArray)).foldl (fun tmps (t,a)=>tmps.setIfInBounds t a) vs.toArray)=(d.ps.toList.zip xs).foldl (fun tmps (t,a)=>tmps.setIfInBounds t a) vs.toArray:=by
  rw[←Array.foldl_toList]
  simp
 rw[hz]
 have hwp:=h g.blk d.asn ha w M G _ hst hrel
 refine wpIn_mono hwp fun e a' w' hp'=>?_
 obtain⟨ve,af',M',G',H',q1,q2,q3,q4,q5⟩:=hp'
 cases ve<;>try exact q1.elim
 have q2:e=.normal:=q2
 subst q2
 simp only[begq] at q1
 split at q1
 ·rename_i j fn ps x y as' he
  have hi:i<G.length:=(List.getElem?_eq_some_iff.1 hg).1
  obtain⟨g',hg',hcore⟩:=q3.core i g (by omega) hg
  obtain⟨vs',r1,r2,r3,r4⟩:=qjt q4 hg' (qio he) ⟨.busy,j,fn,ps,x,y⟩ rfl rfl rfl rfl
  have hblk:g'.blk=g.blk:=(qb7 hcore).1
  rw[hblk] at r1 r3 r4
  refine⟨_,run_beginRound r1 rfl,?_⟩
  have hcode:d.bd=d.bd:=rfl
  have hx:=q3.trans r4.toM
  have hwb:=q1 d.bd hb _ M' G' a' r3 (q5.ext r4)
  refine wpIn_mono hwb fun e₂ a₂ w₂ hp₂=>?_
  obtain⟨ve₂,af₂,M₂,G₂,H₂,s1,s2,s3,s4,s5⟩:=hp₂
  have hx2:=hx.trans s3
  have done:∀(d':LpD) (as₂:List AV) (st:LoopState) (jmp:Option Code) (bv:Bool),ent H₂ i=.lp d' as₂->(st=if jmp.isNone then .ready else .done)->bv=jmp.isNone->fin k Q (H₂.set i (.lp ⟨st,jmp,d'.fn,d'.ps,d'.asn,d'.bd⟩ as₂)) (.val (.bool bv)) →
   ∃v w₃,(Instr.endRound g.blk jmp).run P w₂=.ok v w₃∧Out Q w M G (.returned v) w₃:=by
   intro d' as₂ st jmp bv he₂ hst' hbv hq
   subst hst' hbv
   obtain⟨g₂,hg₂,hcore₂⟩:=hx2.core i g (by omega) hg
   obtain⟨vs₂,t1,t2,t3,t4⟩:=qjt s4 hg₂ (qio he₂) ⟨if jmp.isNone then .ready else .done,jmp,d'.fn,d'.ps,d'.asn,d'.bd⟩ rfl rfl rfl rfl
   have hblk₂:g₂.blk=g.blk:=(qb7 hcore₂).1
   rw[hblk₂] at t1 t3 t4
   obtain⟨G₃,u1,u2,u3,u4⟩:=qhe (m:=H.length) t3 hq hk
   exact⟨_,_,run_endRound jmp t1,M₂,G₃,_,_,u3,(hlen ▸ ((hx2.trans t4.toM).trans u1)).toExt,u2,u4 _ _ rfl rfl⟩
  cases ve₂ with
  | nrm =>
    have s2:e₂=.normal:=s2
    subst s2
    simp only[endq] at s1
    split at s1
    ·rename_i d' as₂ he₂
     exact done d' as₂ .ready none true he₂ rfl rfl s1
    ·exact s1.elim
  | ret =>
    have s2:e₂=.ret:=s2
    subst s2
    simp only[endq] at s1
    split at s1
    ·rename_i d' as₂ he₂
     exact done d' as₂ .done (some .ret) false he₂ rfl rfl s1
    ·exact s1.elim
  | ext id =>
    have s2:e₂=.exit id:=s2
    subst s2
    simp only[endq] at s1
    split at s1
    ·rename_i d' as₂ he₂
     exact done d' as₂ .done (some (.exit id)) false he₂ rfl rfl s1
    ·exact s1.elim
  | gto l=>exact s1.elim
  | pan v=>exact s1.elim
 ·exact q1.elim
end

/-! ### A row is written no more -/
section
variable {P:Program} {fr:Option Nat} {n m:Nat} {Q:VE->AF->List Ent->Prop} {af:AF} {H:List Ent} {a:IC} {i q:Nat} {es:List AV}

theorem frz{w:World}{M:Nat->Nat->Prop}{G:List Gh}(hst:St w M G H)(he:ent H i=.mrow q es)(hl:es.all (fun e=>(e.isAgg||e.leaf)&&e.cells.all AV.leaf)=true):
 ∃M',St w M' G (H.set i (.app q es))∧Ext w M G w M' G:=by
 have hH:=qba he (by simp)
 obtain⟨g,hg⟩:=hst.lenH hH
 obtain⟨h1,h2,h3⟩:=hst.ok i g _ hg hH
 let M':Nat->Nat->Prop:=fun b o=>M b o∨(b=g.blk∧o<q*es.length)
 have hle:Le w M w M':=fun b o hm=>⟨.inl hm,rfl⟩
 have hone:∀o,o<q*es.length->∀v,w.cell? ⟨g.blk,o,none⟩=some v->v.oneCell'=true:=by
  intro o ho v hv
  obtain⟨_,_,vs,t,us,r1,r2,r3,r4,r5⟩:=h2
  rw[qec r1] at hv
  have hx:(vs.take (q*es.length))[o]?=some v:=by rw[List.getElem?_take_of_lt ho];exact hv
  rw[r5] at hx
  obtain⟨u,hu,hvu⟩:=List.mem_flatMap.1 (List.mem_of_getElem? hx)
  obtain⟨j,hj⟩:=List.mem_iff_getElem?.1 hu
  have hjl:=(List.getElem?_eq_some_iff.1 hj).1
  have hlen:=ql r3
  obtain⟨u',s1,s2⟩:=qc1 r3 (i:=j) (by omega)
  rw[hj] at s1
  simp only[Option.some.injEq] at s1;subst s1
  have hmem:es.getD j .junk∈es:=by
   rw[List.getD_eq_getElem?_getD,List.getElem?_eq_getElem (by omega)];exact List.getElem_mem _
  have hq:=List.all_eq_true.1 hl _ hmem
  simp only[Bool.and_eq_true,Bool.or_eq_true] at hq
  exact qmv (qd4 s2 hq.1) hq.2 v hvu
 have hext:Ext w M G w M' G:=⟨rfl,rfl,rfl,Nat.le_refl _,fun j g h=>⟨g,h,rfl⟩,hle,fun _ _ _=>rfl,fun b hb=>.inl hb,fun b o hm=>by
  rcases hm with hm | ⟨rfl,ho⟩
  ·exact .inl hm
  ·exact .inr (.inl ⟨i,g,hg,(h1 _).2 rfl⟩)⟩
 refine⟨M',?_,hext⟩
 have:=qik (w':=w) (M':=M') (g':=g) (e:=.app q es) hst hg rfl (fun _ h=>h) (Nat.le_refl _) (fun _ _ _=>rfl) hle (fun b o hm=>by
  rcases hm with hm | ⟨rfl,ho⟩
  ·exact .inl hm
  ·exact .inr ⟨(h1 _).2 rfl,hone o ho⟩) (by
   rw[qd3 _ _ _ hg]
   obtain⟨a1,a2,vs,t,us,r1,r2,r3,r4,r5⟩:=h2
   exact⟨h1,⟨a1,a2,vs,t,us,r1,r2,r3.ext hext,r4,r5⟩,fun o=>⟨fun hm=>by
    rcases hm with hm | ⟨_,ho⟩
    ·exact absurd hm (h3 o)
    ·exact ho,fun ho=>.inr ⟨rfl,ho⟩⟩⟩)
 rwa [qd3 _ _ _ hg] at this

theorem qcfr(i:Nat){q:Nat}{es:List AV}(he:ent H i=.mrow q es)(hl:es.all (fun e=>(e.isAgg||e.leaf)&&e.cells.all AV.leaf)=true)(h:VI P fr n m a Q af (H.set i (.app q es))):VI P fr n m a Q af H:=by
 intro c hc w M G act hst hr
 obtain⟨M',h1,h2⟩:=frz hst he hl
 exact qo9 (h c hc) h1 (hr.ext h2) h2.toM
end

/-! ### Scopes and labels (no jump) -/
section
variable {P:Program} {fr:Option Nat} {n m:Nat} {Q:VE->AF->List Ent->Prop} {af:AF} {H:List Ent} {a:IC}

theorem q0l{l:Nat}(h:Q .nrm af H):VI P fr n m (.label l) Q af H:=by
 intro c hc
 have:c=.label l:=by
  cases c<;>simp only[qb0] at hc<;>first | (simp at hc;rw[hc];done) | (exfalso;(repeat' split at hc)<;>simp at hc)
 subst this
 exact fun w M G a hst hr=>wpIn_label ⟨.nrm,af,M,G,H,h,rfl,ExtM.refl,hst,hr⟩

theorem qe1{b:Frame}{a:Act}{k:List Item}{cs:List Frame}{w:World}{c:Code}:step P (lone (b.atR a (.code (.scope c)::k)) cs w)=.next (lone (b.atR a (.code c::.inScope c::k)) cs w) :=
 step_lone_go (by simp[stepG,stepG.exec,Frame.atR])
theorem qjk{b:Frame}{a:Act}{k:List Item}{cs:List Frame}{w:World}{c:Code}:step P (lone (b.atR a (.inScope c::k)) cs w)=.next (lone (b.atR a k) cs w) :=
 step_lone_go (by simp[stepG,stepG.exec,Frame.atR])

def scq(Q:VE->AF->List Ent->Prop):VE->AF->List Ent->Prop
 | .gto _,_,_=>False
 | e,af,H=>Q e af H

theorem qbht(h:VI P fr n m a (scq Q) af H):VI P fr n m (.scope a) Q af H:=by
 intro c hc
 cases c<;>simp only[qb0] at hc
 case scope x =>
  obtain⟨x',hx,hxx⟩:=Option.map_eq_some_iff.1 hc
  simp only[IC.scope.injEq] at hxx
  subst hxx
  intro w M G act hst hr b k cs hro hb hroom
  obtain⟨e,a₁,w₁,hq,harr⟩:=h x hx w M G act hst hr b (.inScope x::k) cs hro hb hroom
  obtain⟨ve,af',M',G',H',h1,h2,h3,h4,h5⟩:=hq
  have h0:(lone (b.atR act (.code (.scope x)::k)) cs w).fenced P (fw fr):=fenced_calm hb hroom rfl
  have hp:∀hng:(∀l,ve≠.gto l),VPost Q n m w M G e a₁ w₁:=fun hng=>⟨ve,af',M',G',H',by cases ve<;>first | exact h1 | exact absurd rfl (hng _),h2,h3,h4,h5⟩
  cases ve with
  | gto l=>exact h1.elim
  | nrm =>
    have h2:e=.normal:=h2
    subst h2
    exact⟨.normal,a₁,w₁,hp (by simp),.head h0 qe1 (StepsIn.trans harr (.one (fenced_calm hb hroom rfl) qjk))⟩
  | ext i =>
    have h2:e=.exit i:=h2
    subst h2
    exact⟨.exit i,a₁,w₁,hp (by simp),.of_steps (.one h0 qe1) ⟨fun k' hk=>harr.1 k' (by simpa [exitTo] using hk),fun hr hk=>harr.2 hr (by simpa [exitTo] using hk)⟩⟩
  | ret =>
    have h2:e=.ret:=h2
    subst h2
    exact⟨.ret,a₁,w₁,hp (by simp),.of_steps (.one h0 qe1) harr⟩
  | pan v =>
    obtain⟨y,rfl,hy⟩:=h2
    exact⟨_,a₁,w₁,hp (by simp),.of_steps (.one h0 qe1) harr⟩
 all_goals(exfalso;(repeat' split at hc)<;>simp at hc)

theorem qbp7{Q:VE->AF->List Ent->Prop}(af:AF)(H:List Ent):scq Q .nrm af H=Q .nrm af H:=Eq.trans rfl rfl
theorem qb0s{Q:VE->AF->List Ent->Prop}(i:Nat)(af:AF)(H:List Ent):scq Q (.ext i) af H=Q (.ext i) af H:=Eq.trans rfl rfl
theorem qb1r{Q:VE->AF->List Ent->Prop}(af:AF)(H:List Ent):scq Q .ret af H=Q .ret af H:=Eq.trans rfl rfl
theorem qbni{Q:VE->AF->List Ent->Prop}(v:AV)(af:AF)(H:List Ent):scq Q (.pan v) af H=Q (.pan v) af H:=Eq.trans rfl rfl
attribute [go_sem] qbp7 qb0s qb1r qbni
end

/-! ### States with a front that stays -/
theorem Ent.bd_le{k k':Nat}(h:k≤k')(e:Ent)(hb:e.bd k=true):e.bd k'=true:=by
 cases e<;>simp only[Ent.bd] at hb ⊢<;>exact qdc h _ hb
theorem qb2c{k k':Nat}(h:k≤k'){l:List Ent}(hb:l.all (Ent.bd k)=true):l.all (Ent.bd k')=true:=by
 rw[List.all_eq_true] at hb ⊢
 exact fun e he=>Ent.bd_le h e (hb e he)
theorem Ent.ren_same{σ:Nat->Nat}{m:Nat}(hσ:∀i,i<m->σ i=i)(e:Ent)(hb:e.bd m=true):e.ren σ=e:=by
 cases e<;>simp only[Ent.bd,Ent.ren] at hb ⊢<;>rw[qs hσ _ hb]
theorem VO.ren_same{σ:Nat->Nat}{m:Nat}(hσ:∀i,i<m->σ i=i)(o:VO)(hb:o.bd m=true):o.ren σ=o:=by
 cases o<;>simp only[VO.bd,VO.ren] at hb ⊢<;>rw[Go.V.ren_same hσ _ hb]

theorem qhy{m i:Nat}(h:i<m):sg (List.range m) i=i:=by
 rw[sg,List.getD_eq_getElem?_getD,List.getElem?_range h];rfl
theorem qoj{m len i:Nat}(h:i<m):sg' (List.range m) len i=i:=by
 rw[sg',if_pos (by simpa using h),List.getD_eq_getElem?_getD,List.getElem?_range h];rfl

theorem qht{α:Type}:∀(es pre l:List α),es.length≤l.length->qbf (pre++l) (List.range' pre.length es.length) es=pre++es++l.drop es.length
 | [],pre,l,_=>by simp[qbf]
 | e::es,pre,[],h=>by simp at h
 | e :: es, pre, x :: l, h => by
   simp only[List.length_cons,List.range'_succ,qbf]
   have h1:(pre++x::l).set pre.length e=(pre++[e])++l:=by simp
   rw[h1]
   have h2:=qht es (pre++[e]) l (by simpa using h)
   simp only[List.length_append,List.length_cons,List.length_nil,Nat.zero_add] at h2
   rw[h2]
   simp
theorem qu7{H0 L H1:List Ent}(hl:H1.length=H0.length)(hb:H1.all (Ent.bd H0.length)=true):qds (H0++L) (List.range H0.length) H1=H1++L:=by
 have hid:(H1.take H0.length).map (Ent.ren (sg' (List.range H0.length) (H0++L).length))=H1:=by
  rw[List.take_of_length_le (by omega)]
  conv=>rhs;rw[←List.map_id H1]
  refine List.map_congr_left fun e he=>?_
  exact Ent.ren_same (m:=H0.length) (fun i hi=>qoj hi) e (List.all_eq_true.1 hb e he)
 unfold qds
 rw[List.length_range,hid,List.drop_of_length_le (by omega)]
 have:=qht H1 [] (H0++L) (by simp;omega)
 simp only[List.nil_append,List.length_nil,hl] at this
 rw[List.range_eq_range',this]
 simp

theorem qmp{H0 L:List Ent}{x:Ent}{m:Nat}(h:H0.length=m):ent (H0++x::L) m=x:=by
 subst h
 induction H0 with
 | nil=>rfl
 | cons e r ih=>exact ih
theorem qk0{H0 L:List Ent}(hb:H0.all (Ent.bd H0.length)=true):qel (H0++L) (List.range H0.length) H0.length H0 (List.range H0.length):=by
 have key:∀(l pre:List Ent),H0=pre++l->qel (H0++L) (List.range H0.length) H0.length l (List.range' pre.length l.length):=by
  intro l
  induction l with
  | nil=>intro pre _;simp[qel]
  | cons e l ih =>
    intro pre he
    have h1:=ih (pre++[e]) (by simp[he])
    simp only[List.length_append,List.length_cons,List.length_nil,Nat.zero_add] at h1
    have hlt:pre.length<(H0++L).length:=by rw[he];simp
    have hbe:e.bd H0.length=true:=List.all_eq_true.1 hb e (by rw[he];simp)
    have hen:e≠.dead->ent (H0++L) pre.length=e.ren (sg (List.range H0.length)):=fun _=>by
     rw[Ent.ren_same (m:=H0.length) (fun i hi=>qhy hi) e hbe,he,List.append_assoc,List.cons_append]
     exact qmp rfl
    simp only[List.length_cons,List.range'_succ]
    cases e<;>first | exact⟨hlt,h1⟩ | exact⟨⟨hlt,hbe,hen (by simp)⟩,h1⟩
 have:=key H0 [] rfl
 rwa [List.length_nil,←List.range_eq_range'] at this

section
variable {P:Program} {H0 L:List Ent} {f:FuncId} {args:List AV} {fv:AV} {Q0 Q:List Ent->VO->Prop}

theorem qqa(h:VCalls P f H0 args Q0)(hb:H0.all (Ent.bd H0.length)=true)(ha:AV.bds H0.length args=true)
 (hq:∀H1 o,Q0 H1 o->H1.length=H0.length∧H1.all (Ent.bd H0.length)=true∧o.bd H0.length=true∧Q (H1++L) o):VCalls P f (H0++L) args Q :=
 qbr (List.range H0.length) h List.nodup_range (qk0 hb) ha (by rw[qs (m:=H0.length) (fun i hi=>qhy hi) _ ha]) fun H1 o ho=>by
  obtain⟨h1,h2,h3,h4⟩:=hq H1 o ho
  rw[qu7 h1 h2,VO.ren_same (m:=H0.length) (fun i hi=>qoj hi) o h3]
  exact h4

theorem qbio(h:VApp P H0 fv args Q0)(hb:H0.all (Ent.bd H0.length)=true)(hf:fv.bd H0.length=true)(ha:AV.bds H0.length args=true)
 (hq:∀H1 o,Q0 H1 o->H1.length=H0.length∧H1.all (Ent.bd H0.length)=true∧o.bd H0.length=true∧Q (H1++L) o):VApp P (H0++L) fv args Q :=
 q7g (List.range H0.length) h List.nodup_range (qk0 hb) hf (by rw[ren_same (m:=H0.length) (fun i hi=>qhy hi) _ hf]) ha (by rw[qs (m:=H0.length) (fun i hi=>qhy hi) _ ha]) fun H1 o ho=>by
  obtain⟨h1,h2,h3,h4⟩:=hq H1 o ho
  rw[qu7 h1 h2,VO.ren_same (m:=H0.length) (fun i hi=>qoj hi) o h3]
  exact h4
end

theorem qbk6{H0 L:List Ent}{x y:Ent}{m:Nat}(h:H0.length=m):ent (H0++x::y::L) (m+1)=y:=by
 have:=qmp (H0:=H0++[x]) (L:=L) (x:=y) (m:=m+1) (by simp[h])
 simpa using this
theorem qbej{H0 L:List Ent}{x y z:Ent}{m:Nat}(h:H0.length=m):ent (H0++x::y::z::L) (m+2)=z:=by
 have:=qmp (H0:=H0++[x,y]) (L:=L) (x:=z) (m:=m+2) (by simp[h])
 simpa using this
theorem qq7{H0 L:List Ent}{x e:Ent}{m:Nat}(h:H0.length=m):(H0++x::L).set m e=H0++e::L:=by subst h;simp
theorem qbfs{H0 L:List Ent}{x y e:Ent}{m:Nat}(h:H0.length=m):(H0++x::y::L).set (m+1) e=H0++x::e::L:=by
 have:=qq7 (H0:=H0++[x]) (L:=L) (x:=y) (e:=e) (m:=m+1) (by simp[h])
 simpa using this
theorem qbeu{H0 L:List Ent}{x y z e:Ent}{m:Nat}(h:H0.length=m):(H0++x::y::z::L).set (m+2) e=H0++x::y::e::L:=by
 have:=qq7 (H0:=H0++[x,y]) (L:=L) (x:=z) (e:=e) (m:=m+2) (by simp[h])
 simpa using this
theorem qdw{H0 L:List Ent}{j:Nat}(h:j<H0.length):ent (H0++L) j=ent H0 j:=by
 induction H0 generalizing j with
 | nil=>simp at h
 | cons e r ih => cases j with
   | zero=>rfl
   | succ j=>exact ih (by simpa using h)

def tmS(tm:List (Nat×AV))(k:Nat):List (Nat×AV)->Prop
 | []=>True
 | (t,v)::r=>(v.bd k=true∧get tm t=v)∧tmS tm k r

theorem qzh{tm:List (Nat×AV)}{k:Nat}:∀{l:List (Nat×AV)},tmS tm k l->∀t,get l t=.junk∨((get l t).bd k=true∧get tm t=get l t)
 | [],_,t=>.inl rfl
 | (s, v) :: r, h, t => by
   obtain⟨⟨h1,h2⟩,h3⟩:=h
   simp only[get]
   by_cases hst:s=t
   ·subst hst;rw[if_pos rfl];exact .inr ⟨h1,h2⟩
   ·rw[if_neg hst];exact qzh h3 t

theorem qlj{S:Type}{Inv:S->Prop}{st:S->AF×List Ent}{m:Nat}{af:AF}{H:List Ent}(s:S)(L:List Ent)(hs:Inv s)(hm:m≤(st s).2.length)(hH:H=(st s).2++L)(hb:(st s).2.all (Ent.bd (st s).2.length)=true)
 (ht:tmS af.tm (st s).2.length (st s).1.tm) (hd:af.dl=(st s).1.dl) (hdb:(st s).1.dl.all (AD.bd (st s).2.length)=true):At S Inv st m af H:=by
 refine⟨s,hs,id,fun i _=>rfl,hm,fun i j _ _ e=>e,fun j e he=>.inr ⟨List.all_eq_true.1 hb e (List.mem_of_getElem? he),?_⟩,fun j hj=>?_,fun t=>?_,fun d hd'=>List.all_eq_true.1 hdb d hd',?_⟩
 ·have hj:=(List.getElem?_eq_some_iff.1 he).1
  rw[hH,id,List.getElem?_append_left hj,he,Ent.ren_id]
 ·rw[hH];simp;omega
 ·rcases qzh ht t with h | ⟨h1,h2⟩
  ·exact .inl h
  ·exact .inr ⟨h1,by rw[h2,AV.ren_id]⟩
 ·rw[hd]
  conv=>lhs;rw[←List.map_id (st s).1.dl]
  refine List.map_congr_left fun d _=>?_
  cases d<;>simp only[AD.ren,id,AV.ren_id,AV.rens_id]

theorem qc{i:Nat}(h:i<maxLen):IntKind.i64.wrap ((i:Int)+1)=((i+1:Nat):Int):=by
 rw[qfk (by omega) (by omega)];rfl
theorem qsy{α:Type}{l:List α}(h:¬l=[]):0<l.length:=by cases l<;>simp_all
theorem ev_{p q:Prop}(h:q)(e:p=q:=by simp only[go_sem,↓reduceIte];exact rfl):p:=by rw[e];exact h
theorem cj_{a b:Prop}(h:b)(ha:a:=by first | assumption | omega | (have:=qsy (by assumption);omega) | (unfold qbe;omega)):a∧b:=⟨ha,h⟩
theorem hb_:(∀b:Bool,((!b)=true)=(b=false))∧(∀b:Bool,((!b)=false)=(b=true))∧(∀(p:Prop) [Decidable p],(decide p=true)=p)∧(∀(p:Prop) [Decidable p],(decide p=false)=¬p)∧(∀a b:Bool,((a&&b)=true)=(a=true∧b=true)) :=
 ⟨fun b=>by cases b<;>simp,fun b=>by cases b<;>simp,fun p _=>by simp,fun p _=>by simp,fun a b=>by simp⟩
theorem nat0:((0:Nat):Int)=0:=rfl
theorem nat1:((1:Nat):Int)=1:=rfl
attribute [go_sem] decide_true decide_false nat0 nat1 Nat.zero_le Nat.le_refl
attribute [go_sem] List.append_assoc List.all_append Nat.le_add_right
theorem zget{l:List AV}{t:Nat}:get (qc7 0 l) t=l.getD t .junk:=by rw[qdz,if_pos (Nat.zero_le _),Nat.sub_zero]
theorem qjz{P:Program}{f:FuncId}{H:List Ent}{args:List AV}{Q0 Q:List Ent->VO->Prop}(h:VCalls P f [] args Q0)(ha:AV.bds 0 args=true)(hQ:∀H1 o,Q0 H1 o->Q (qds H [] H1) (o.ren (sg' [] H.length))):VApp P H (.fn f [] []) args Q :=
 qb1 (first:=[]) (caps:=[]) (by
  simp only[List.nil_append,List.append_nil]
  exact qbr [] h List.nodup_nil trivial ha (by rw[qs (m:=0) (fun i hi=>by omega) _ ha]) hQ)
theorem qjr{n:Nat}{tm:List (Nat×AV)}:(qg7 n tm).length=n:=by simp[qg7]
theorem q6o{n t:Nat}{tm:List (Nat×AV)}(h:t<n):(qg7 n tm).getD t .junk=get tm t:=by
 rw[qg7,List.getD_eq_getElem?_getD,List.getElem?_map,List.getElem?_range h];rfl
def tmBd(k:Nat):List (Nat×AV)->Bool
 | []=>true
 | (_,v)::r=>v.bd k&&tmBd k r
theorem qyt{k:Nat}:∀{tm:List (Nat×AV)},tmBd k tm=true->∀t,(get tm t).bd k=true
 | [],_,t=>rfl
 | (s, v) :: r, h, t => by
   simp only[tmBd,Bool.and_eq_true] at h
   simp only[get]
   split
   ·exact h.1
   ·exact qyt h.2 t
theorem q0c{n k:Nat}{tm:List (Nat×AV)}(h:tmBd k tm=true):AV.bds k (qg7 n tm)=true:=by
 rw[qb6,List.all_eq_true]
 intro v hv
 obtain⟨t,_,rfl⟩:=List.mem_map.1 hv
 exact qyt h t
attribute [go_sem] qjr q6o tmBd q0c
attribute [go_sem] qds VO.ren
attribute [go_sem] Bool.not_false Bool.not_true Bool.true_or Bool.or_true Bool.false_or Bool.or_false List.isEmpty_cons List.isEmpty_nil
attribute [go_sem] zget begq endq ranq
attribute [go_sem] qmp qbk6 qbej qq7 qbfs qbeu tmS qtz List.length_append
end Go.V
