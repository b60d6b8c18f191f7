/- Texts of this proof, joined. -/
import Derived.Test.YtkenggenkmfopaaGreatIae
import Derived.RangeFuncRecord
set_option linter.unusedVariables false
set_option linter.unusedSimpArgs false

/-
 The value logic, part n, continued: a function value called out of a greater state; loops over functions: the record of a loop is laid, written, struck off.
-/
namespace Go.V
open Go Go.RowKit

section
variable {P:Program} {H H0:List Ent}

theorem qm5{sel:List Nat}{w:World}{M:Nat->Nat->Prop}{G:List Gh}(hn:sel.Nodup)(hlt:∀i∈sel,i<H.length)(hl:sel.length=H0.length)
 (hent:∀(j:Nat) (e:Ent),H0[j]?=some e->e=.dead∨(e.bd H0.length=true∧H[sg sel j]?=some (e.ren (sg sel)))) (hst:St w M G H) :
 ∃G0,St w M G0 H0∧∀(j:Nat) (g₀:Gh),G0[j]?=some g₀->∃g:Gh,G[sg sel j]?=some g∧g₀.core=g.core∧∀b,g₀.fp b->g.fp b:=by
 have hinj:∀i j,i<H0.length->j<H0.length->sg sel i=sg sel j->i=j:=fun i j hi hj he=>by
  have h1:=qfb (sel:=sel) (j:=i) (by omega)
  have h2:=qfb (sel:=sel) (j:=j) (by omega)
  rw[he,←h2] at h1
  exact(List.getElem?_inj (by omega) hn).1 h1
 have key:=qjh (n:=0) (m:=0) (σ:=sg sel) (af:=⟨[],[]⟩) (af':=⟨[],[]⟩) (a:={ tmps:=#[],defers:=[] }) hst ⟨rfl,rfl,fun t=>trivial⟩
  ⟨fun i hi=>by omega,Nat.zero_le _,hinj,hent,fun j hj=>hlt _ (List.mem_of_getElem? (qfb (by omega))),fun t=>.inl rfl,fun d hd=>(by cases hd),rfl⟩
 refine⟨_,key.2.1,fun j g₀ hg=>?_⟩
 have hj:=(List.getElem?_eq_some_iff.1 hg).1
 rw[key.2.1.len] at hj
 have hlt':=hlt _ (List.mem_of_getElem? (qfb (sel:=sel) (j:=j) (by omega)))
 rw[←hst.len] at hlt'
 have hq:=qoz (sg sel) G H0 0 j _ (List.getElem?_eq_getElem hj)
 rw[Nat.zero_add] at hq
 rw[hq] at hg
 have hgd:G.getD (sg sel j) {}=G[sg sel j]:=by rw[List.getD_eq_getElem?_getD,List.getElem?_eq_getElem hlt'];rfl
 rw[hgd] at hg
 simp only[Option.some.injEq] at hg
 refine⟨G[sg sel j],List.getElem?_eq_getElem hlt',?_,fun b hb=>?_⟩
 ·rw[←hg];split<;>rfl
 ·rw[←hg] at hb
  split at hb
  ·exact hb.elim
  ·exact hb

theorem qbd0(sel:List Nat){fv0:AV}{args0:List AV}{Q Q':List Ent->VO->Prop}(h:VApp P H0 fv0 args0 Q)(hn:sel.Nodup)(hlt:∀i∈sel,i<H.length)(hl:sel.length=H0.length)
 (hent:∀(j:Nat) (e:Ent),H0[j]?=some e->e=.dead∨(e.bd H0.length=true∧H[sg sel j]?=some (e.ren (sg sel)))) (hfv:fv0.bd H0.length=true) (hargs:AV.bds H0.length args0=true)
 (hQ:∀H1 o,Q H1 o->Q' (qbf H sel ((H1.take sel.length).map (Ent.ren (sg' sel H.length)))++(H1.drop sel.length).map (Ent.ren (sg' sel H.length))) (o.ren (sg' sel H.length))):VApp P H (fv0.ren (sg sel)) (AV.rens (sg sel) args0) Q':=by
 intro w M G x vs hst hf hv
 obtain⟨G0,hst0,hget⟩:=qm5 hn hlt hl hent hst
 have hcore:∀(i:Nat) (g:Gh),i<H0.length->G[sg sel i]?=some g->∃g':Gh,G0[i]?=some g'∧g'.core=g.core:=fun i g hi hg=>by
  have hi':i<G0.length:=by rw[hst0.len];exact hi
  obtain⟨g',q1,q2,_⟩:=hget i _ (List.getElem?_eq_getElem hi')
  rw[hg] at q1
  simp only[Option.some.injEq] at q1;subst q1
  exact⟨_,List.getElem?_eq_getElem hi',q2⟩
 have hv0:VRs w M G0 args0 vs:=qfj hcore args0 vs hargs hv
 have hf0:mkOf fv0=none->VR w M G0 fv0 x:=fun hn=>q05 hcore fv0 x hfv (hf (by rw[qza];exact hn))
 refine((h w M G0 x vs hst0 hf0 hv0).eq (qza _ _).symm).mono fun e w' ho=>?_
 have h0l:G0.length=sel.length:=by rw[hst0.len,hl]
 cases e with
 | returned x =>
   obtain⟨M',G1,H1,v,q1,q2,q3,q4⟩:=ho
   obtain⟨G',r1,r2,r3⟩:=ql9 hn hlt hst h0l hget q2 q3
   exact⟨M',G',_,_,hQ _ _ q1,r1,r2,r3 _ _ q4⟩
 | panicked c =>
   obtain⟨M',G1,H1,v,x,q1,q2,q3,q4,q5⟩:=ho
   obtain⟨G',r1,r2,r3⟩:=ql9 hn hlt hst h0l hget q2 q3
   exact⟨M',G',_,_,x,hQ _ _ q1,r1,r2,r3 _ _ q4,q5⟩
 | outgrown=>exact ho
end

/-! ### The record of a loop over a function -/

def LpD.rc(d:LpD)(vs:List Value)(cap:Nat):Loop:={ state:=d.st,pending:=d.jmp,fn:=d.fn,tmps:=vs.toArray,params:=d.ps,assign:=d.asn,body:=d.bd,defers:=cap }

section
variable {P:Program} {w:World} {M:Nat->Nat->Prop} {G:List Gh} {H:List Ent} {i:Nat} {g:Gh} {d:LpD} {as:List AV}

theorem qdm{r b:Nat}{o:Obj}(h:b≠r):(w.putObj r o).heap[b]?=w.heap[b]?:=World.putObj_heap_other h

theorem qjt(hst:St w M G H)(hg:G[i]?=some g)(hH:H[i]?=some (.lp d as))(d':LpD)(hfn:d'.fn=d.fn)(hps:d'.ps=d.ps)(ha:d'.asn=d.asn)(hb:d'.bd=d.bd):
 ∃vs,w.heap[g.blk]?=some (.loop (d.rc vs g.cap))∧VRs w M G as vs∧St (w.putObj g.blk (.loop (d'.rc vs g.cap))) M G (H.set i (.lp d' as))∧Ext w M G (w.putObj g.blk (.loop (d'.rc vs g.cap))) M G:=by
 obtain⟨h1,⟨vs,h2,h3⟩,h4,h5,h6,h7⟩:=hst.ok i g _ hg hH
 have hne:g.cap≠g.blk:=fun e=>by rw[e] at h4;rw[h4] at h2;cases h2
 have hlt:g.blk<w.heap.size:=hst.lt i g _ hg ((h1 _).2 (.inl rfl))
 have hle:Le w M (w.putObj g.blk (.loop (d'.rc vs g.cap))) M:=fun b o hm=>⟨hm,World.cell?_of_block (qdm fun e=>h6 o (e ▸ hm))⟩
 have hext:Ext w M G (w.putObj g.blk (.loop (d'.rc vs g.cap))) M G:=⟨rfl,rfl,rfl,by simp,fun i g h=>⟨g,h,rfl⟩,hle,fun b hb hn=>qdm fun e=>hn ⟨i,g,hg,(h1 _).2 (.inl e)⟩,fun b hb=>.inl hb,fun b o hm=>.inl hm⟩
 refine⟨vs,h2,h3,?_,hext⟩
 have:=qik (w':=w.putObj g.blk (.loop (d'.rc vs g.cap))) (M':=M) (g':=g) (e:=.lp d' as) hst hg rfl (fun _ h=>h) (by simp) (fun b hb hn=>qdm fun e=>hn ((h1 _).2 (.inl e))) hle (fun b o h=>.inl h)
  (by
   rw[qd3 _ _ _ hg]
   refine⟨h1,⟨vs,?_,h3.ext hext⟩,?_,h5,h6,h7⟩
   ·exact World.putObj_heap_same hlt
   ·rw[qdm hne];exact h4)
 rwa [qd3 _ _ _ hg] at this

theorem qye(hst:St w M G H)(hg:G[i]?=some g)(hH:H[i]?=some (.lp d as)):
 ∃G',w.heap[g.cap]?=some (.deferred (some []))∧St (w.putObj g.cap (.deferred none)) M G' (H.set i .dead)∧Ext w M G (w.putObj g.cap (.deferred none)) M G':=by
 obtain⟨h1,⟨vs,h2,h3⟩,h4,h5,h6,h7⟩:=hst.ok i g _ hg hH
 have hle:Le w M (w.putObj g.cap (.deferred none)) M:=fun b o hm=>⟨hm,World.cell?_of_block (qdm fun e=>h7 o (e ▸ hm))⟩
 have hold:∀b,b<w.heap.size->¬g.fp b->(w.putObj g.cap (.deferred none)).heap[b]?=w.heap[b]?:=fun b hb hn=>qdm fun e=>hn ((h1 _).2 (.inr e))
 have hi:=(List.getElem?_eq_some_iff.1 hg).1
 refine⟨G.set i { g with fp:=fun _=>False },h4,qik hst hg rfl (fun _ h=>h.elim) (by simp) hold hle (fun b o h=>.inl h) (fun b hb=>hb),⟨rfl,rfl,rfl,by simp,fun j g₀ hj=>?_,hle,fun b hb hn=>hold b hb (fun h=>hn ⟨i,g,hg,h⟩),fun b ⟨j,g₁,hj,hb⟩=>?_,fun b o hm=>.inl hm⟩⟩
 ·by_cases hji:i=j
  ·subst hji
   rw[hg] at hj;cases hj
   exact⟨{ g with fp:=fun _=>False },by simp[hi],rfl⟩
  ·exact⟨g₀,by rw[List.getElem?_set_ne hji];exact hj,rfl⟩
 ·by_cases hji:i=j
  ·subst hji;simp[hi] at hj;subst hj;exact hb.elim
  ·rw[List.getElem?_set_ne hji] at hj;exact .inl ⟨j,g₁,hj,hb⟩

theorem qio(h:ent H i=.lp d as):H[i]?=some (.lp d as):=qba h (by simp)
end

def qg7(n:Nat)(tm:List (Nat×AV)):List AV:=(List.range n).map (get tm)

def ranq(Q:VE->AF->List Ent->Prop)(af:AF)(k:Nat)(H:List Ent):VO->Prop
 | .val _ => match ent H k with
   | .lp ⟨.ready,none,fn,ps,a,b⟩ as=>Q .nrm ⟨af.tm,.mark k::af.dl⟩ (H.set k (.lp ⟨.exhausted,none,fn,ps,a,b⟩ as))
   | .lp ⟨.done,some .ret,fn,ps,a,b⟩ as=>Q .ret ⟨af.tm,.mark k::af.dl⟩ (H.set k (.lp ⟨.exhausted,some .ret,fn,ps,a,b⟩ as))
   | .lp ⟨.done,some (.exit id),fn,ps,a,b⟩ as=>Q (.ext id) ⟨af.tm,.mark k::af.dl⟩ (H.set k (.lp ⟨.exhausted,some (.exit id),fn,ps,a,b⟩ as))
   | _=>False
 | .pan v=>Q (.pan v) ⟨af.tm,.mark k::af.dl⟩ H

section
variable {P:Program} {n m:Nat} {Q:VE->AF->List Ent->Prop} {af:AF} {H:List Ent} {a b:IC}

theorem q6e{w:World}{M:Nat->Nat->Prop}{G:List Gh}{act:Act}(hr:RelF w M G n af act):VRs w M G (qg7 n af.tm) act.tmps.toList:=by
 have key:∀(l:List Nat),VRs w M G (l.map (get af.tm)) (l.map fun t=>act.tmps.getD t undef):=by
  intro l
  induction l with
  | nil=>rfl
  | cons t r ih=>exact⟨_,_,rfl,hr.rd t,ih⟩
 have h:=key (List.range n)
 have he:((List.range n).map fun t=>act.tmps.getD t undef)=act.tmps.toList:=by
  have hs:=hr.size
  apply List.ext_getElem
  ·simp[hs]
  ·intro j h1 h2
   simp only[List.length_map,List.length_range] at h1
   simp only[List.getElem_map,List.getElem_range,Array.getElem_toList]
   rw[Array.getD_eq_getD_getElem?,Array.getElem?_eq_getElem (by omega)];rfl
 rw[he] at h
 exact h

theorem q0d{g:Opd}{ps:List Nat}{f:FuncId}{first caps:List AV}(hg:gt af g=.fn f first caps)(hm:m≤H.length)
 (h:∀(fn:FuncId) (asn bd:Code),qb0 P n asn=some a->qb0 P n bd=some b →
  VCalls P f (H++[.lp ⟨.ready,none,fn,ps.toArray,asn,bd⟩ (qg7 n af.tm)]) (first++[.opq H.length]++caps) (ranq Q af H.length)):VI P none n m (.rng g ps a b) Q af H:=by
 intro c hc
 cases c<;>simp only[qb0] at hc
 case rangeFunc g' ps' asn bd =>
  split at hc
  ·rename_i z x y hz hx hy
   simp only[Option.some.injEq,IC.rng.injEq] at hc
   obtain⟨rfl,rfl,rfl,rfl⟩:=hc
   intro w M G act hst hr
   refine wpIn_rangeFunc fun fn _=>?_
   have hcall:=h fn asn bd hx hy
   rw[Array.toArray_toList] at hcall
   -- the record
   obtain⟨w₁,henter,hh,hos,htp,hou⟩:∃w₁:World,(Instr.enterLoop fn act.tmps ps' asn bd none).run P w=.ok (w.heap.size+1,[{ target:=.collected w.heap.size,args:=#[] }]) w₁ ∧
    w₁.heap=(w.heap.push (.deferred (some []))).push (.loop { state:=.ready,pending:=none,fn,tmps:=act.tmps,params:=ps',assign:=asn,body:=bd,defers:=w.heap.size })∧w₁.os=w.os∧w₁.tape=w.tape∧w₁.output=w.output :=
    ⟨_,run_enterLoop_outer (P:=P) (w:=w) fn act.tmps ps' asn bd,rfl,rfl,rfl,rfl⟩
   obtain⟨gh,hgb,hgc,hgv,hgf⟩:∃gh:Gh,gh.blk=w.heap.size+1∧gh.cap=w.heap.size∧gh.val=.func (.yield (w.heap.size+1)) #[] #[]∧∀b,gh.fp b↔b=w.heap.size+1∨b=w.heap.size :=
    ⟨{ blk:=w.heap.size+1,cap:=w.heap.size,val:=.func (.yield (w.heap.size+1)) #[] #[],fp:=fun b=>b=w.heap.size+1∨b=w.heap.size },rfl,rfl,rfl,fun _=>Iff.rfl⟩
   have hsz:w₁.heap.size=w.heap.size+2:=by rw[hh];simp
   have hold:∀b,b<w.heap.size->w₁.heap[b]?=w.heap[b]?:=fun b hb=>by
    rw[hh,Array.getElem?_push,if_neg (by simp;omega),Array.getElem?_push,if_neg (by omega)]
   have h0:w₁.heap[w.heap.size]?=some (.deferred (some [])):=by rw[hh,Array.getElem?_push,if_neg (by simp),Array.getElem?_push,if_pos rfl]
   have h1:w₁.heap[w.heap.size+1]?=some (.loop { state:=.ready,pending:=none,fn,tmps:=act.tmps,params:=ps',assign:=asn,body:=bd,defers:=w.heap.size }):=by rw[hh,Array.getElem?_push,if_pos (by simp)]
   have hext:Ext w M G w₁ M (G++[gh]):=qgh (w':=w₁) hst hos htp hou (by omega) hold (fun _ _ h=>h) (fun _ _ h=>.inl h) (fun b hb=>by rcases(hgf b).1 hb with rfl | rfl<;>omega)
   have hst₁:St w₁ M (G++[gh]) (H++[.lp ⟨.ready,none,fn,ps',asn,bd⟩ (qg7 n af.tm)]) :=
    qhg hst (by omega) hold (fun _ _ h=>h) (fun _ _ h=>.inl h) (fun b o hm=>by have:=hst.Mlt b o hm;omega) (fun b hb=>by rcases(hgf b).1 hb with rfl | rfl<;>omega)
     ⟨fun b=>by rw[hgf,hgb,hgc],⟨act.tmps.toList,by rw[hgb,h1,hgc,Array.toArray_toList],(q6e hr).ext hext⟩,by rw[hgc];exact h0,by rw[hgv,hgb],fun o hm=>by have:=hst.Mlt _ o hm;omega,fun o hm=>by have:=hst.Mlt _ o hm;omega⟩
   have hgl:(G++[gh])[H.length]?=some gh:=by rw[←hst.len];simp
   -- the function
   have hfv:=qt hz hr
   rw[hg] at hfv
   obtain⟨xs,ys,hx1,hy1,hfe⟩:=hfv
   have hargs:VRs w₁ M (G++[gh]) (first++[.opq H.length]++caps) (xs++[.func (.yield (w.heap.size+1)) #[] #[]]++ys) :=
    qbw (qbw (hx1.ext hext) ⟨_,[],rfl,⟨gh,hgl,hgv.symm,by rw[hgv];rfl⟩,rfl⟩) (hy1.ext hext)
   have hc2:=hcall.2 w₁ M (G++[gh]) _ hst₁ hargs
   refine⟨w.heap.size+1,[{ target:=.collected w.heap.size,args:=#[] }],w₁,{ target:=.fn (.func f) ys.toArray,args:=xs.toArray ++ #[.func (.yield (w.heap.size+1)) #[] #[]] },w₁,f,
    (xs++[Value.func (.yield (w.heap.size+1)) #[] #[]]++ys).toArray,w₁,henter,?_,fun _ _=>trivial,?_,fun hh=>(by cases hh),?_⟩
   ·simp only[resolve,rangeCall,hfe,List.map_toArray,List.map_cons,List.map_nil]
    rfl
   ·simp only[invoke]
    rw[qli hcall.1]
    simp
   ·apply qkt
    refine CallsIn.mono hc2 fun e w' ho=>?_
    cases e with
    | outgrown=>exact ho.elim
    | panicked ch =>
      obtain⟨M',G',H',v,x,q1,q2,q3,q4,rfl⟩:=ho
      have hx:=hext.trans q2
      obtain⟨gh',hg',hcore⟩:=q2.core _ _ hgl
      exact⟨.pan v,_,M',G',H',q1,⟨x,rfl,q4⟩,hx.toM,q3,hr.size,⟨gh',act.defers,by rw[(qb7 hcore).2.1,hgc];rfl,hg',qg0 hx.core hx.le hr.defers⟩,fun t=>(hr.rd t).ext hx⟩
    | returned x =>
      obtain⟨M',G',H',v,q1,q2,q3,q4⟩:=ho
      obtain⟨gh',hg',hcore⟩:=q2.core _ _ hgl
      obtain⟨hcb,hcc,hcv⟩:=qb7 hcore
      have fin:∀{d:LpD} {as:List AV} {d':LpD},ent H' H.length=.lp d as->d.st≠.busy->d'={ d with st:=.exhausted }->∃w₄,(Instr.endLoop (w.heap.size+1)).run P w'=.ok d.jmp w₄ ∧
       ∀ve e,Q ve ⟨af.tm,.mark H.length::af.dl⟩ (H'.set H.length (.lp d' as))->qbgj w₄ M' G' ve e->VPost Q n m w M G e { act with defers:=[{ target:=.collected w.heap.size,args:=#[] }]++act.defers } w₄:=by
       intro d as d' he hb hd'
       subst hd'
       obtain⟨vs,r1,r2,r3,r4⟩:=qjt q3 hg' (qio he) { d with st:=.exhausted } rfl rfl rfl rfl
       have hx:=(hext.trans q2).trans r4
       refine⟨_,?_,fun ve e hQ hE=>⟨ve,_,M',G',_,hQ,hE,hx.toM,r3,hr.size,⟨gh',act.defers,?_,hg',qg0 hx.core hx.le hr.defers⟩,fun t=>(hr.rd t).ext hx⟩⟩
       ·have hblk:gh'.blk=w.heap.size+1:=hcb.trans hgb
        rw[hblk] at r1 ⊢
        exact run_endLoop r1 hb
       ·rw[hcc,hgc];rfl
      simp only[ranq] at q1
      split at q1
      ·rename_i fn' ps'' a' b' as' he
       obtain⟨w₄,r1,r2⟩:=fin he (by simp) rfl
       exact⟨none,w₄,r1,r2 .nrm .normal q1 rfl⟩
      ·rename_i fn' ps'' a' b' as' he
       obtain⟨w₄,r1,r2⟩:=fin he (by simp) rfl
       exact⟨some .ret,w₄,r1,wpIn_ret (r2 .ret .ret q1 rfl)⟩
      ·rename_i id fn' ps'' a' b' as' he
       obtain⟨w₄,r1,r2⟩:=fin he (by simp) rfl
       exact⟨some (.exit id),w₄,r1,wpIn_exit (r2 (.ext id) (.exit id) q1 rfl)⟩
      ·exact q1.elim
  ·cases hc
 all_goals(exfalso;(repeat' split at hc)<;>simp at hc)
end

/-! ### What every value that is there obeys -/

mutual
def AV.wf:AV->Prop
 | .int k n=>(Lit.int k n).wf=true
 | .str l=>l.length≤maxLen
 | .sl _ es=>es.length≤maxLen∧AV.wfs es
 | .lit _ es=>es.length≤maxLen∧AV.wfs es
 | .eptr _ es _ _=>es.length≤maxLen∧AV.wfs es
 | .agg cs=>AV.wfs cs
 | .tup cs=>AV.wfs cs
 | .fn _ a b=>AV.wfs a∧AV.wfs b
 | .iface _ v=>v.wf
 | .bool _ | .nilp | .nilf | .nili | .nils | .nilm | .ptr _ _ | .row _ _ | .rptr _ _ _ _ | .vw _ _ _ _ | .opq _ | .junk=>True
def AV.wfs:List AV->Prop
 | []=>True
 | v::r=>v.wf∧AV.wfs r
end
def VO.wf:VO->Prop
 | .val v=>v.wf
 | .pan v=>v.wf
theorem qi2(l:List AV):AV.wfs l↔∀v∈l,v.wf:=by
 induction l with
 | nil=>simp[AV.wfs]
 | cons v r ih=>simp[AV.wfs,ih]

section
variable {w:World} {M:Nat->Nat->Prop} {G:List Gh}
theorem qq4{n:Nat}{us:List Value}{a:Option Addr}{cap:Nat}(h:SlOK w M n us a cap):us.length≤maxLen:=Nat.le_trans h.1 h.2.1
mutual
theorem qbj0:∀(v:AV) (x:Value),VR w M G v x->v.wf
 | .bool _,x,h=>trivial
 | .int _ _,x,h=>h.2
 | .str _,x,h=>h.2
 | .nilp,x,h=>trivial
 | .nilf,x,h=>trivial
 | .nili,x,h=>trivial
 | .nils,x,h=>trivial
 | .nilm,x,h=>trivial
 | .junk,x,h=>trivial
 | .agg cs,x,h=>by obtain⟨vs,_,h⟩:=h;exact qjq cs vs h
 | .tup cs,x,h=>by obtain⟨vs,_,h⟩:=h;exact qjq cs vs h
 | .sl n es, x, h => by
   obtain⟨a,cap,us,h1,h2,_⟩:=h
   exact⟨by rw[←ql h1];exact qq4 h2,qjq es us h1⟩
 | .lit n es, x, h => by
   obtain⟨a,us,h1,h2,_⟩:=h
   exact⟨by rw[←ql h1];exact qq4 h2,qjq es us h1⟩
 | .ptr i off,x,h=>trivial
 | .row i len,x,h=>trivial
 | .eptr n es q off, x, h => by
   obtain⟨a,cap,us,h1,h2,_⟩:=h
   exact⟨by rw[←ql h1];exact qq4 h2,qjq es us h1⟩
 | .rptr i n q off,x,h=>trivial
 | .vw i off len cap,x,h=>trivial
 | .fn f first caps, x, h => by
   obtain⟨xs,ys,h1,h2,_⟩:=h
   exact⟨qjq first xs h1,qjq caps ys h2⟩
 | .opq i,x,h=>trivial
 | .iface t v, x, h => by
   obtain⟨y,h1,_⟩:=h
   exact qbj0 v y h1
theorem qjq:∀(vs:List AV) (xs:List Value),VRs w M G vs xs->AV.wfs vs
 | [],xs,h=>trivial
 | c :: cs, xs, h => by
   obtain⟨v,r,_,h1,h2⟩:=h
   exact⟨qbj0 c v h1,qjq cs r h2⟩
end
end

theorem VCalls.mono'{P:Program}{f:FuncId}{H:List Ent}{args:List AV}{Q Q':List Ent->VO->Prop}(h:VCalls P f H args Q)(hq:∀H' o,o.wf->Q H' o->Q' H' o):VCalls P f H args Q' :=
 ⟨h.1,fun w M G vs hst hv=>CallsIn.mono (h.2 w M G vs hst hv) fun e w' he=>by
  cases e with
  | returned x=>obtain⟨M',G',H',v,h1,h2,h3,h4⟩:=he;exact⟨M',G',H',v,hq _ _ (qbj0 v x h4) h1,h2,h3,h4⟩
  | panicked c=>obtain⟨M',G',H',v,x,h1,h2,h3,h4,h5⟩:=he;exact⟨M',G',H',v,x,hq _ _ (qbj0 v x h4) h1,h2,h3,h4,h5⟩
  | outgrown=>exact he⟩

theorem qfq{P:Program}{f:FuncId}{H:List Ent}{args:List AV}{Q:List Ent->VO->Prop}(ho:okF P f=true)(h:AV.wfs args->VCalls P f H args Q):VCalls P f H args Q :=
 ⟨ho,fun w M G vs hst hv=>(h (qjq args vs hv)).2 w M G vs hst hv⟩

/-! ### A state said with less, by lists -/

def qel(H:List Ent)(sel:List Nat)(k:Nat):List Ent->List Nat->Prop
 | [],[]=>True
 | .dead::r,i::is=>i<H.length∧qel H sel k r is
 | e::r,i::is=>(i<H.length∧e.bd k=true∧ent H i=e.ren (sg sel))∧qel H sel k r is
 | _,_=>False
def tmOK(tm:List (Nat×AV))(sel:List Nat)(k:Nat):List (Nat×AV)->Prop
 | []=>True
 | (t,v)::r=>(v.bd k=true∧get tm t=v.ren (sg sel))∧tmOK tm sel k r
def dlOK(sel:List Nat)(k:Nat):List AD->List AD->Prop
 | [],[]=>True
 | d::r,d'::r'=>(d'.bd k=true∧d=d'.ren (sg sel))∧dlOK sel k r r'
 | _,_=>False

section
variable {P:Program} {fr:Option Nat} {n m:Nat} {Q Q':VE->AF->List Ent->Prop} {af af':AF} {H H':List Ent} {a b:IC}

theorem qby{sel:List Nat}{k:Nat}:∀{l:List Ent} {is:List Nat},qel H sel k l is->l.length=is.length∧∀(j:Nat) (e:Ent) (i:Nat),l[j]?=some e->is[j]?=some i->i<H.length∧(e=.dead∨(e.bd k=true∧H[i]?=some (e.ren (sg sel))))
 | [],[],_=>⟨rfl,fun j e i h=>by simp at h⟩
 | [],i::is,h=>h.elim
 | e::r,[],h=>by cases e<;>exact h.elim
 | .dead :: r, i :: is, h => by
   obtain⟨h1,h2⟩:=h
   obtain⟨h3,h4⟩:=qby h2
   refine⟨by simp[h3],fun j e i' he hi=>?_⟩
   cases j with
   | zero=>simp at he hi;subst he hi;exact⟨h1,.inl rfl⟩
   | succ j=>exact h4 j e i' (by simpa using he) (by simpa using hi)
 | .blk cs :: r, i :: is, h => by
   obtain⟨⟨h0,h1,h5⟩,h2⟩:=h
   obtain⟨h3,h4⟩:=qby h2
   refine⟨by simp[h3],fun j e i' he hi=>?_⟩
   cases j with
   | zero=>simp at he hi;subst he hi;exact⟨h0,.inr ⟨h1,qba h5 (by simp[Ent.ren])⟩⟩
   | succ j=>exact h4 j e i' (by simpa using he) (by simpa using hi)
 | .app q es :: r, i :: is, h => by
   obtain⟨⟨h0,h1,h5⟩,h2⟩:=h
   obtain⟨h3,h4⟩:=qby h2
   refine⟨by simp[h3],fun j e i' he hi=>?_⟩
   cases j with
   | zero=>simp at he hi;subst he hi;exact⟨h0,.inr ⟨h1,qba h5 (by simp[Ent.ren])⟩⟩
   | succ j=>exact h4 j e i' (by simpa using he) (by simpa using hi)
 | .mrow q es :: r, i :: is, h => by
   obtain⟨⟨h0,h1,h5⟩,h2⟩:=h
   obtain⟨h3,h4⟩:=qby h2
   refine⟨by simp[h3],fun j e i' he hi=>?_⟩
   cases j with
   | zero=>simp at he hi;subst he hi;exact⟨h0,.inr ⟨h1,qba h5 (by simp[Ent.ren])⟩⟩
   | succ j=>exact h4 j e i' (by simpa using he) (by simpa using hi)
 | .lp d as :: r, i :: is, h => by
   obtain⟨⟨h0,h1,h5⟩,h2⟩:=h
   obtain⟨h3,h4⟩:=qby h2
   refine⟨by simp[h3],fun j e i' he hi=>?_⟩
   cases j with
   | zero=>simp at he hi;subst he hi;exact⟨h0,.inr ⟨h1,qba h5 (by simp[Ent.ren])⟩⟩
   | succ j=>exact h4 j e i' (by simpa using he) (by simpa using hi)
 | .cus R :: r, i :: is, h => by
   obtain⟨⟨h0,h1,h5⟩,h2⟩:=h
   obtain⟨h3,h4⟩:=qby h2
   refine⟨by simp[h3],fun j e i' he hi=>?_⟩
   cases j with
   | zero=>simp at he hi;subst he hi;exact⟨h0,.inr ⟨h1,qba h5 (by simp[Ent.ren])⟩⟩
   | succ j=>exact h4 j e i' (by simpa using he) (by simpa using hi)

theorem qvb{tm:List (Nat×AV)}{sel:List Nat}{k:Nat}:∀{l:List (Nat×AV)},tmOK tm sel k l->∀t,get l t=.junk∨((get l t).bd k=true∧get tm t=(get l t).ren (sg sel))
 | [],_,t=>.inl rfl
 | (s, v) :: r, h, t => by
   obtain⟨⟨h1,h2⟩,h3⟩:=h
   simp only[get]
   by_cases hst:s=t
   ·subst hst;rw[if_pos rfl];exact .inr ⟨h1,h2⟩
   ·rw[if_neg hst];exact qvb h3 t

theorem qtw{sel:List Nat}{k:Nat}:∀{l l':List AD},dlOK sel k l l'->(∀d∈l',d.bd k=true)∧l=l'.map (AD.ren (sg sel))
 | [],[],_=>⟨fun d h=>(by cases h),rfl⟩
 | [],d::r,h=>h.elim
 | d::r,[],h=>h.elim
 | d :: r, d' :: r', h => by
   obtain⟨⟨h1,h2⟩,h3⟩:=h
   obtain⟨h4,h5⟩:=qtw h3
   refine⟨fun x hx=>?_,by rw[List.map_cons,←h5,←h2]⟩
   rcases List.mem_cons.1 hx with rfl | hx
   ·exact h1
   ·exact h4 x hx

def qchk(m:Nat)(sel:List Nat):Prop:=sel.take m=List.range m

theorem qsu(sel:List Nat)(hf:qchk m sel)(hn:sel.Nodup)(he:qel H sel H'.length H' sel)(ht:tmOK af.tm sel H'.length af'.tm)(hd:dlOK sel H'.length af.dl af'.dl):Wk m af H af' H':=by
 obtain⟨h1,h2⟩:=qby he
 obtain⟨h3,h4⟩:=qtw hd
 have hml:m≤sel.length:=by
  have:=congrArg List.length hf
  simp at this;omega
 refine⟨sg sel,fun i hi=>?_,by omega,fun i j hi hj e=>?_,fun j e hj=>?_,fun j hj=>?_,qvb ht,h3,h4⟩
 ·have h5:(sel.take m)[i]?=some i:=by rw[hf];simp[hi]
  rw[List.getElem?_take_of_lt hi,qfb (by omega)] at h5
  simpa using h5
 ·have h1:=qfb (sel:=sel) (j:=i) (by omega)
  have h2:=qfb (sel:=sel) (j:=j) (by omega)
  rw[e,←h2] at h1
  exact(List.getElem?_inj (by omega) hn).1 h1
 ·have hj':=(List.getElem?_eq_some_iff.1 hj).1
  exact(h2 j e _ hj (qfb (by omega))).2
 ·exact(h2 j _ _ (List.getElem?_eq_getElem hj) (qfb (by omega))).1

theorem qj{S:Type}{Inv:S->Prop}{st:S->AF×List Ent}(s:S)(sel:List Nat)(hs:Inv s)(hf:qchk m sel)(hn:sel.Nodup)(he:qel H sel (st s).2.length (st s).2 sel)(ht:tmOK af.tm sel (st s).2.length (st s).1.tm)
 (hd:dlOK sel (st s).2.length af.dl (st s).1.dl):At S Inv st m af H:=⟨s,hs,qsu sel hf hn he ht hd⟩
end

/-! ### Functions -/

inductive RV where
 | t (n:Nat)
 | c (agg:Bool) (n a:Nat)

def cRes(P:Program):List ResultVar->List TypeId->Option (List (RV×Co))
 | [],_=>some []
 | .tmp t :: r, ts => match cRes P r ts.tail with
   | some l=>some ((.t t,match ts.head? with | some t=>coT P t | none=>.id)::l)
   | none=>none
 | .cell a t :: r, ts => match aggT P t, qcb P t, cRes P r ts.tail with
   | some g,some n,some l=>some ((.c g n a,match ts.head? with | some t=>coT P t | none=>.id)::l)
   | _,_,_=>none

def cFun(P:Program)(f:FuncId):Option (Nat×IC×List (RV×Co)) :=
 match P.funcs[f]? with
 | some fn => if fn.name == "runtime.NumGoroutine" then none else match fn.body with
   | some c => match qb0 P fn.ntmps c, cRes P fn.results.toList fn.resultTypes.toList with
     | some ic,some rs=>some (fn.ntmps,ic,rs)
     | _,_=>none
   | none=>none
 | none=>none

def qe0(af:AF)(H:List Ent):List (RV×Co)->Rs (List AV)
 | []=>.ret []
 | (.t t,c)::r=>(qe0 af H r).map fun l=>co H c (get af.tm t)::l
 | (.c g n a, c) :: r => match ldv g n H (get af.tm a) with
   | .ret v=>(qe0 af H r).map fun l=>co H c v::l
   | .req p (.ret v)=>.req p ((qe0 af H r).map fun l=>co H c v::l)
   | .req p (.req q (.ret v))=>.req p (.req q ((qe0 af H r).map fun l=>co H c v::l))
   | _=>.bad
def one:List AV->AV
 | [v]=>v
 | l=>.tup l

def fin(k:Nat)(Q:List Ent->VO->Prop)(H:List Ent)(o:VO):Prop :=
 k≤H.length∧(H.take k).all (Ent.bd k)=true∧o.bd k=true∧Q (H.take k) o

def dlq:List AD->List Ent->(List Ent->Prop)->Prop
 | [],H,K=>K H
 | .mark i :: l, H, K => match ent H i with
   | .lp _ _=>dlq l (H.set i .dead) K
   | _=>False
 | .dfr _ _::_,_,_=>False

def retk(k:Nat)(rs:List (RV×Co))(Q:List Ent->VO->Prop)(af:AF)(H:List Ent):Prop :=
 (qe0 af H rs).bnd fun l=>fin k Q H (.val (one l))
def pank(k:Nat)(Q:List Ent->VO->Prop)(v:AV)(H:List Ent):Prop:=fin k Q H (.pan v)

def retq(k:Nat)(rs:List (RV×Co))(Q:List Ent->VO->Prop):VE->AF->List Ent->Prop
 | .nrm,af,H | .ret,af,H=>dlq af.dl H (retk k rs Q af)
 | .pan v,af,H=>dlq af.dl H (pank k Q v)
 | _,_,_=>False

theorem qml{K K':List Ent->Prop}(h:∀H,K H->K' H):∀{l:List AD} {H:List Ent},dlq l H K->dlq l H K'
 | [],H,hq=>h H hq
 | .mark i :: l, H, hq => by
   simp only[dlq] at hq ⊢
   split at hq
   ·exact qml h hq
   ·exact hq.elim
 | .dfr _ _::_,_,hq=>hq.elim

def qc7:Nat->List AV->List (Nat×AV)
 | _,[]=>[]
 | i,a::r=>(i,a)::qc7 (i+1) r

section
variable {P:Program} {w:World} {M:Nat->Nat->Prop} {G:List Gh} {n m:Nat} {af:AF} {H:List Ent} {a:Act}

mutual
theorem AV.ren_id:∀v:AV,v.ren id=v
 | .bool _ | .int _ _ | .str _ | .nilp | .nilf | .nili | .nils | .nilm | .junk | .ptr _ _ | .row _ _ | .rptr _ _ _ _ | .vw _ _ _ _ | .opq _=>rfl
 | .agg cs | .tup cs | .sl _ cs | .lit _ cs | .eptr _ cs _ _=>by simp only[AV.ren,AV.rens_id cs]
 | .fn f a b=>by simp only[AV.ren,AV.rens_id a,AV.rens_id b]
 | .iface t v=>by simp only[AV.ren,AV.ren_id v]
theorem AV.rens_id:∀l:List AV,AV.rens id l=l
 | []=>rfl
 | v::r=>by simp only[AV.rens,AV.ren_id v,AV.rens_id r]
end
theorem Ent.ren_id(e:Ent):e.ren id=e:=by cases e<;>simp only[Ent.ren,AV.rens_id]

theorem qiw(hst:St w M G H)(hr:RelF w M G n af a):∀{rs:List ResultVar} {ts:List TypeId} {l:List (RV×Co)} {K:List AV->Prop},cRes P rs ts=some l->(qe0 af H l).bnd K →
 ∃vs xs,K vs∧VRs w M G vs xs∧(rs.mapM (m:=Sem) fun | .tmp t=>pure (a.tmps.getD t undef) | .cell q t=>do loadVar t (←asAddr (a.tmps.getD q undef))).run P w=.ok xs w
 | [], ts, l, K, hc, h => by
   simp only[cRes,Option.some.injEq] at hc;subst hc
   exact⟨[],[],h,rfl,rfl⟩
 | .tmp t :: r, ts, l, K, hc, h => by
   simp only[cRes] at hc
   split at hc
   ·rename_i l' hl
    simp only[Option.some.injEq] at hc;subst hc
    simp only[qe0] at h
    rw[qbx] at h
    obtain⟨vs,xs,h1,h2,h3⟩:=qiw hst hr hl h
    refine⟨_,_,h1,⟨_,_,rfl,qdo hst _ _ _ (hr.rd t),h2⟩,?_⟩
    simp only[List.mapM_cons,Sem.run_bind,Sem.run_pure,Result.andThen_ok,h3]
   ·cases hc
 | .cell q t :: r, ts, l, K, hc, h => by
   simp only[cRes] at hc
   split at hc
   ·rename_i g k l' hg hk hl
    simp only[Option.some.injEq] at hc;subst hc
    have hld:∃v:AV,(ldv g k H (get af.tm q)).bnd (fun u=>u=v)∧((qe0 af H l').map fun l=>co H (match ts.head? with | some t=>coT P t | none=>.id) v::l).bnd K:=by
     simp only[qe0] at h
     split at h
     ·rename_i v hv;exact⟨v,by rw[hv];rfl,h⟩
     ·rename_i p v hv;exact⟨v,by rw[hv];exact⟨h.1,rfl⟩,h.2⟩
     ·rename_i p p' v hv;exact⟨v,by rw[hv];exact⟨h.1,h.2.1,rfl⟩,h.2.2⟩
     ·exact h.elim
    obtain⟨v,hv,h⟩:=hld
    rw[qbx] at h
    obtain⟨vs,xs,h1,h2,h3⟩:=qiw hst hr hl h
    obtain⟨u,x,q1,q2,q3⟩:=qoh (P:=P) (t:=t) hst hg hk (hr.rd q) hv
    subst q1
    have hsp:(do loadVar t (←asAddr (a.tmps.getD q undef)):Sem Value).run P w=.ok x w:=by
     have hrd:=hr.rd q
     cases hp:get af.tm q<;>rw[hp] at hv hrd<;>simp only[ldv,Rs.bnd] at hv
     ·obtain⟨g',_,hx⟩:=hrd
      rw[hx] at q3 ⊢
      rw[qbo] at q3
      simp only[Sem.run_bind,asAddr,Sem.run_pure,Result.andThen_ok];exact q3
     ·obtain⟨ad,cap,us,_,hsl,_,hx⟩:=hrd
      rw[hx] at q3 ⊢
      rw[qbo] at q3
      simp only[Sem.run_bind,asAddr,Sem.run_pure,Result.andThen_ok];exact q3
     ·obtain⟨g',_,hx⟩:=hrd
      rw[hx] at q3 ⊢
      rw[qbo] at q3
      simp only[Sem.run_bind,asAddr,Sem.run_pure,Result.andThen_ok];exact q3
    refine⟨_,_,h1,⟨_,_,rfl,qdo hst _ _ _ q2,h2⟩,?_⟩
    simp only[Sem.run_bind] at hsp
    simp only[List.mapM_cons,Sem.run_bind,hsp,Result.andThen_ok,h3,Sem.run_pure]
   ·cases hc

theorem qms{fn:Func}{l:List (RV×Co)}{K:List AV->Prop}(hst:St w M G H)(hr:RelF w M G n af a)(hc:cRes P fn.results.toList fn.resultTypes.toList=some l)(h:(qe0 af H l).bnd K):
 ∃vs x,K vs∧VR w M G (one vs) x∧(results fn a.tmps).run P w=.ok x w:=by
 obtain⟨vs,xs,h1,h2,h3⟩:=qiw hst hr hc h
 have hm:(fn.results.mapM (m:=Sem) fun | .tmp t=>pure (a.tmps.getD t undef) | .cell q t=>do loadVar t (←asAddr (a.tmps.getD q undef))).run P w=.ok xs.toArray w:=by
  rw[←Array.toArray_toList (xs:=fn.results)]
  rw[List.mapM_toArray]
  simp only[Sem.run_map,h3]
  rfl
 have hl:=ql h2
 refine⟨vs,(if h:xs.toArray.size=1 then xs.toArray[0] else .tuple xs.toArray),h1,?_,?_⟩
 ·match vs,h2 with
  | [],h2=>simp only[VRs] at h2;subst h2;exact⟨[],by simp,rfl⟩
  | [v], h2 =>
    obtain⟨x,r,rfl,h4,h5⟩:=h2
    simp only[VRs] at h5;subst h5
    exact h4
  | v :: v' :: r, h2 =>
    have:xs.toArray.size≠1:=by simp at hl ⊢;omega
    rw[dif_neg this]
    exact⟨xs,rfl,h2⟩
 ·simp only[results,Sem.run_bind]
  erw [hm]
  simp only[Result.andThen_ok,Sem.run_pure]

theorem qhe{k:Nat}{Q:List Ent->VO->Prop}{o:VO}(hst:St w M G H)(h:fin k Q H o)(hm:m≤k):∃G',ExtM m w M G w M G'∧St w M G' (H.take k)∧Q (H.take k) o∧∀(v:AV) (x:Value),v.bd k=true->VR w M G v x->VR w M G' v x:=by
 obtain⟨h1,h2,h3,h4⟩:=h
 have hl:(H.take k).length=k:=by rw[List.length_take];omega
 have key:=qjh (n:=0) (m:=m) (σ:=id) (af:=⟨[],[]⟩) (H':=H.take k) (af':=⟨[],[]⟩) (a:={ tmps:=#[],defers:=[] }) hst ⟨rfl,rfl,fun t=>trivial⟩
  ⟨fun i _=>rfl,by omega,fun i j _ _ e=>e,fun j e he=>.inr ⟨by rw[hl];exact(List.all_eq_true.1 h2) e (List.mem_of_getElem? he),by
   rw[Ent.ren_id]
   have hj:=(List.getElem?_eq_some_iff.1 he).1
   rw[List.getElem?_take_of_lt (by omega)] at he
   exact he⟩,fun j hj=>by simp only[id];omega,fun t=>.inl rfl,fun d hd=>(by cases hd),rfl⟩
 refine⟨_,key.1,key.2.1,h4,fun v x hb hv=>?_⟩
 have hv':VR w M G (v.ren id) x:=by rw[AV.ren_id];exact hv
 refine q05 (σ:=id) (k:=k) (fun i g hi hg=>?_) v x hb hv'
 have hi':i<(H.take k).length:=by omega
 have hq:=qoz id G (H.take k) 0 i _ (List.getElem?_eq_getElem hi')
 rw[Nat.zero_add] at hq
 have hg':G.getD (id i) {}=g:=by rw[List.getD_eq_getElem?_getD,hg];rfl
 rw[hg'] at hq
 refine⟨_,hq,?_⟩
 split<;>rfl

theorem qdz:∀{args:List AV} {i t:Nat},get (qc7 i args) t=if i≤t then args.getD (t-i) .junk else .junk
 | [],i,t=>by simp[qc7,get]
 | a :: r, i, t => by
   simp only[qc7,get]
   by_cases h:i=t
   ·subst h;simp
   ·rw[if_neg h,qdz]
    by_cases h2:i≤t
    ·rw[if_pos (by omega),if_pos h2]
     obtain⟨d,rfl⟩:∃d,t=i+1+d:=⟨t-i-1,by omega⟩
     rw[show i+1+d-(i+1)=d by omega,show i+1+d-i=d+1 by omega]
     rfl
    ·rw[if_neg (by omega),if_neg h2]
end

section
variable {P:Program} {f:FuncId} {n k:Nat} {ic:IC} {rs:List (RV×Co)} {H:List Ent} {args:List AV} {Q:List Ent->VO->Prop}

theorem qjp(h:cFun P f=some (n,ic,rs)):∃fn c,P.funcs[f]?=some fn∧fn.body=some c∧fn.ntmps=n∧qb0 P n c=some ic∧cRes P fn.results.toList fn.resultTypes.toList=some rs∧okF P f=true:=by
 unfold cFun at h
 split at h
 ·rename_i fn hf
  split at h
  ·cases h
  ·rename_i hname
   split at h
   ·rename_i c hb
    split at h
    ·rename_i ic' rs' h1 h2
     simp only[Option.some.injEq,Prod.mk.injEq] at h
     obtain⟨rfl,rfl,rfl⟩:=h
     exact⟨fn,c,hf,hb,rfl,h1,h2,by simp[okF,hf,hb];simpa using hname⟩
    ·cases h
   ·cases h
 ·cases h

theorem qjy{tm:List (Nat×AV)}{l l':List AD}{H:List Ent}:∀{rs:List (RV×Co)},qe0 ⟨tm,l⟩ H rs=qe0 ⟨tm,l'⟩ H rs
 | []=>rfl
 | (.t t,c)::r=>by simp only[qe0,qjy (rs:=r) (l:=l) (l':=l')]
 | (.c g n a,c)::r=>by simp only[qe0,qjy (rs:=r) (l:=l) (l':=l')]

theorem qd(hc:cFun P f=some (n,ic,rs))(k:Nat)(hk:H.length≤k)(hl:args.length≤n)(h:VI P none n H.length ic (retq k rs Q) ⟨qc7 0 args,[]⟩ H):VCalls P f H args Q:=by
 obtain⟨fn,c,hf,hb,hn,hcode,hres,hok⟩:=qjp hc
 subst hn
 refine⟨hok,fun w M G vs hst hv=>callsIn_of_wp_marks hf hb trivial ?_⟩
 have hvl:=ql hv
 have hrel:RelF w M G fn.ntmps ⟨qc7 0 args,[]⟩ { tmps:=vs.toArray++Array.replicate (fn.ntmps-vs.toArray.size) undef,defers:=[] }:=by
  refine⟨by simp;omega,rfl,fun t=>?_⟩
  simp only[qdz,Nat.zero_le,if_true,Nat.sub_zero]
  by_cases ht:t<args.length
  ·obtain⟨x,hx,hr⟩:=qc1 hv ht
   have:(vs.toArray++Array.replicate (fn.ntmps-vs.toArray.size) undef).getD t undef=x:=by
    rw[Array.getD_eq_getD_getElem?,Array.getElem?_append_left (by simp;omega)]
    simp[hx]
   rw[this];exact hr
  ·have:args.getD t .junk=.junk:=by rw[List.getD_eq_getElem?_getD,List.getElem?_eq_none (by omega)];rfl
   rw[this];trivial
 have hwp:=h c hcode w M G _ hst hrel
 have hfw:fw none=Fence.wide:=rfl
 rw[hfw] at hwp
 refine wpIn_mono hwp fun e a' w' hp=>?_
 obtain⟨ve,af',M',G',H',h1,h2,h3,h4,h5⟩:=hp
 have hlen:G.length=H.length:=hst.len
 -- the marks
 have leave:∀(l:List AD) (ds:List Deferred) (H₁:List Ent) (G₁:List Gh) (w₁:World) (mode:FrameMode) (K:List Ent->Prop),mode≠.run->DR w₁ M' G₁ l ds->ExtM H.length w M G w₁ M' G₁->St w₁ M' G₁ H₁->(∀t,VR w₁ M' G₁ (get af'.tm t) (a'.tmps.getD t undef))->dlq l H₁ K →
  (∀(H₂:List Ent) (G₂:List Gh) (w₂:World),K H₂->ExtM H.length w M G w₂ M' G₂->Ext w₁ M' G₁ w₂ M' G₂->St w₂ M' G₂ H₂->(∀t,VR w₂ M' G₂ (get af'.tm t) (a'.tmps.getD t undef))->LeavesIn Fence.wide 0 P fn a'.tmps (Out Q w M G) [] mode w₂) →
  LeavesInM Fence.wide 0 P fn a'.tmps (Out Q w M G) ds mode w₁:=by
  intro l
  induction l with
  | nil =>
    intro ds H₁ G₁ w₁ mode K hmo hd he hs hv hq hK
    simp only[DR] at hd;subst hd
    exact hK H₁ G₁ w₁ hq he (Ext.refl _ _ _) hs hv
  | cons d l ih =>
    intro ds H₁ G₁ w₁ mode K hmo hd he hs hv hq hK
    cases d with
    | dfr f args=>exact hq.elim
    | mark i =>
      obtain⟨g,r,rfl,hg,hd⟩:=hd
      simp only[dlq] at hq
      split at hq
      ·rename_i d as hen
       obtain⟨G₂,q1,q2,q3⟩:=qye hs hg (qio hen)
       refine⟨hmo,.inl ⟨g.cap,_,rfl,run_takeDeferred q1,?_⟩⟩
       exact ih r _ G₂ _ mode K hmo (qg0 q3.core q3.le hd) (he.trans q3.toM) q2 (fun t=>(hv t).ext q3) hq fun H₂ G₃ w₂ r1 r2 r3 r4 r5=>hK H₂ G₃ w₂ r1 r2 (q3.trans r3) r4 r5
      ·exact hq.elim
 have done:∀(hq:dlq af'.dl H' (retk k rs Q af')),LeavesInM Fence.wide 0 P fn a'.tmps (Out Q w M G) a'.defers .returning w':=fun hq=>by
  refine leave af'.dl a'.defers H' G' w' .returning _ (by simp) h5.defers h3 h4 h5.rd hq fun H₂ G₂ w₂ q1 q2 q3 q4 q5=>?_
  obtain⟨us,x,s1,s2,s3⟩:=qms (n:=fn.ntmps) (af:=⟨af'.tm,[]⟩) (a:={ tmps:=a'.tmps,defers:=[] }) q4 ⟨h5.size,rfl,q5⟩ hres (by rw[qjy (l':=af'.dl)];exact q1)
  obtain⟨G'',r1,r2,r3,r4⟩:=qhe (m:=H.length) q4 s1 hk
  exact⟨x,s3,M',G'',_,_,r3,(hlen ▸ (q2.trans r1)).toExt,r2,r4 _ _ s1.2.2.1 s2⟩
 cases ve with
 | nrm=>have h2:e=.normal:=h2;subst h2;exact done h1
 | ret=>have h2:e=.ret:=h2;subst h2;exact done h1
 | pan v =>
   obtain⟨x,rfl,hx⟩:=h2
   refine leave af'.dl a'.defers H' G' w' _ _ (by simp) h5.defers h3 h4 h5.rd h1 fun H₂ G₂ w₂ q1 q2 q3 q4 q5=>?_
   obtain⟨G'',r1,r2,r3,r4⟩:=qhe (m:=H.length) q4 q1 hk
   exact⟨M',G'',_,_,x,r3,(hlen ▸ (q2.trans r1)).toExt,r2,r4 _ _ q1.2.2.1 (hx.ext q3),rfl⟩
 | ext i=>exact h1.elim
 | gto l=>exact h1.elim

def qp(P:Program)(f:FuncId)(args:List AV)(r:AV):Prop :=
 VCalls P f [] args (fun H' o=>H'=[]∧o=.val r)∧AV.bds 0 args=true∧r.bd 0=true

theorem qk8(k:Nat)(l r:List AV):AV.bds k (l++r)=(AV.bds k l&&AV.bds k r):=by
 rw[qb6,qb6,qb6,List.all_append]

theorem qe{r:AV}(hc:cFun P f=some (n,ic,rs))(hl:args.length≤n)(ha:AV.bds 0 args=true)(hr:r.bd 0=true)(h:AV.wfs args->VI P none n 0 ic (retq 0 rs fun H' o=>o=.val r) ⟨qc7 0 args,[]⟩ []):qp P f args r:=by
 obtain⟨_,_,_,_,_,_,_,hok⟩:=qjp hc
 exact⟨qfq hok fun hw=>qd hc 0 (Nat.le_refl _) hl ((h hw).mono fun e af H hq=>by
  cases e<;>simp only[retq] at hq ⊢
  ·exact qml (fun H=>by simp only[retk,fin,List.take_zero,true_and];exact id) hq
  ·exact qml (fun H=>by simp only[retk,fin,List.take_zero,true_and];exact id) hq
  ·exact qml (fun H=>by simp only[pank,fin,List.take_zero,true_and];exact id) hq),ha,hr⟩

theorem qwg{r:AV}(h:qp P f args r)(hq:r.wf->Q H (.val r)):VCalls P f H args Q:=by
 have h1:=h.1.mono' (Q':=fun H' o=>(H'=[]∧o=.val r)∧r.wf) fun H' o hw ho=>⟨ho,by have:=ho.2;subst this;exact hw⟩
 have:=qdv (H:=H) [] (Q':=Q) h1 List.nodup_nil (by simp) rfl (by simp) h.2.1 (fun H1 o ho=>by
  obtain⟨⟨rfl,rfl⟩,hwf⟩:=ho
  simp only[qbf,List.take_nil,List.map_nil,List.drop_nil,List.append_nil,VO.ren]
  rw[ren_same (m:=0) (fun i hi=>by omega) r h.2.2]
  exact hq hwf)
 rwa [qs (m:=0) (fun i hi=>by omega) args h.2.1] at this

theorem qbad{r:AV}{first caps:List AV}(h:qp P f (first++args++caps) r)(hq:r.wf->Q H (.val r)):VApp P H (.fn f first caps) args Q:=qb1 (qwg h hq)
theorem qb{r:AV}(h:qp P f args r)(hq:r.wf->Q H (.val r)):VApp P H (.fn f [] []) args Q:=qbad (by simpa using h) hq
end

def runE(P:Program)(Q:VE->AF->List Ent->Prop):List GI->AF->List Ent->Prop
 | [],af,H=>Q .nrm af H
 | ⟨none,d,i⟩::r,af,H=>doD P af H i fun _ v H'=>runE P Q r (put af d v) H'
 | ⟨some (t,b),d,i⟩::r,af,H=>gd (get af.tm t) b (doD P af H i fun _ v H'=>runE P Q r (put af d v) H') (runE P Q r (put af d (.tup [])) H)

def noUs:List (GI×List Nat)->Bool
 | []=>true
 | (_,us)::r=>us.isEmpty&&noUs r

theorem qzt{P:Program}{af:AF}{H:List Ent}{i:I}{K K':Md->AV->List Ent->Prop}(h:doD P af H i K)(hk:∀t v H',K t v H'->K' t v H'):doD P af H i K':=by
 cases i with
 | call f l =>
   rcases h with ⟨r,h1,h2⟩ | ⟨r,h1,h2⟩ | ⟨r,k,e,e',h1,h2⟩ | ⟨k,e',ln,h1,h2⟩ | ⟨e',h1,h2⟩ | ⟨k,e,e',c,h1,h2⟩
   ·exact .inl ⟨r,h1,hk _ _ _ h2⟩
   ·exact .inr (.inl ⟨r,h1,hk _ _ _ h2⟩)
   ·exact .inr (.inr (.inl ⟨r,k,e,e',h1,hk _ _ _ h2⟩))
   ·exact .inr (.inr (.inr (.inl ⟨k,e',ln,h1,hk _ _ _ h2⟩)))
   ·exact .inr (.inr (.inr (.inr (.inl ⟨e',h1,hk _ _ _ h2⟩))))
   ·exact .inr (.inr (.inr (.inr (.inr ⟨k,e,e',c,h1,hk _ _ _ h2⟩))))
 | _=>exact qh4 (fun p hp=>hk _ _ _ hp) h

theorem qfx{P:Program}{Q:VE->AF->List Ent->Prop}:∀{l:List (GI×List Nat)} {acc:List FP} {af:AF} {H:List Ent},noUs l=true->runE P Q (l.map (·.1)) af H->runD P Q acc l af H
 | [],acc,af,H,_,h=>h
 | (⟨none, d, i⟩, us) :: r, acc, af, H, hn, h => by
   simp only[noUs,Bool.and_eq_true,List.isEmpty_iff] at hn
   obtain⟨rfl,hn⟩:=hn
   simp only[List.map_cons,runE] at h
   simp only[runD]
   exact qzt h fun t v H' hk=>⟨trivial,qfx hn hk⟩
 | (⟨some (t, b), d, i⟩, us) :: r, acc, af, H, hn, h => by
   simp only[noUs,Bool.and_eq_true,List.isEmpty_iff] at hn
   obtain⟨rfl,hn⟩:=hn
   simp only[List.map_cons,runE] at h
   simp only[runD]
   unfold gd at h ⊢
   split at h
   ·split at h
    ·rename_i c hc hb
     rw[if_pos hb]
     exact qzt h fun t v H' hk=>⟨trivial,qfx hn hk⟩
    ·rename_i c hc hb
     rw[if_neg hb]
     exact⟨trivial,qfx hn h⟩
   ·exact⟨trivial,qfx hn h⟩
   ·exact h

inductive Kt where
 | L (r:List GI)
 | E (r:List GI)
 | D (acc:List FP) (us:List Nat) (r:List (GI×List Nat))

def yesK(P:Program)(Q:VE->AF->List Ent->Prop)(d:Option Nat)(i:I)(k:Kt)(af:AF)(H:List Ent):Prop :=
 match k with
 | .L r=>runL P Q (⟨none,d,i⟩::r) af H
 | .E r=>runE P Q (⟨none,d,i⟩::r) af H
 | .D acc us r=>runD P Q acc ((⟨none,d,i⟩,us)::r) af H
def noK(P:Program)(Q:VE->AF->List Ent->Prop)(d:Option Nat)(i:I)(k:Kt)(af:AF)(H:List Ent):Prop :=
 match k with
 | .L r=>runL P Q r (put af d (.tup [])) H
 | .E r=>runE P Q r (put af d (.tup [])) H
 | .D acc us r=>qfl acc us (fpI af H.length .off i)∧runD P Q (acc++[fpI af H.length .off i]) r (put af d (.tup [])) H
def gdK(P:Program)(Q:VE->AF->List Ent->Prop)(v:AV)(b:Bool)(d:Option Nat)(i:I)(k:Kt)(af:AF)(H:List Ent):Prop :=
 gd v b (yesK P Q d i k af H) (noK P Q d i k af H)

section
variable {P:Program} {Q:VE->AF->List Ent->Prop} {d:Option Nat} {i:I} {k:Kt} {af:AF} {H:List Ent}
theorem qce0:gdK P Q (.bool true) true d i k af H=yesK P Q d i k af H:=Eq.trans rfl rfl
theorem qcjm:gdK P Q (.bool true) false d i k af H=noK P Q d i k af H:=Eq.trans rfl rfl
theorem qcf1:gdK P Q (.bool false) true d i k af H=noK P Q d i k af H:=Eq.trans rfl rfl
theorem qcj2:gdK P Q (.bool false) false d i k af H=yesK P Q d i k af H:=Eq.trans rfl rfl
theorem qbqm(b:Bool):gdK P Q (.tup []) b d i k af H=noK P Q d i k af H:=Eq.trans rfl rfl
theorem qchj(r:List GI):yesK P Q d i (.L r) af H=runL P Q (⟨none,d,i⟩::r) af H:=Eq.trans rfl rfl
theorem qcke(r:List GI):yesK P Q d i (.E r) af H=runE P Q (⟨none,d,i⟩::r) af H:=Eq.trans rfl rfl
theorem qcg7(acc:List FP)(us:List Nat)(r:List (GI×List Nat)):yesK P Q d i (.D acc us r) af H=runD P Q acc ((⟨none,d,i⟩,us)::r) af H:=Eq.trans rfl rfl
theorem qclj(r:List GI):noK P Q d i (.L r) af H=runL P Q r (put af d (.tup [])) H:=Eq.trans rfl rfl
theorem qcl1(r:List GI):noK P Q d i (.E r) af H=runE P Q r (put af d (.tup [])) H:=Eq.trans rfl rfl
theorem qclc(acc:List FP)(us:List Nat)(r:List (GI×List Nat)):noK P Q d i (.D acc us r) af H=(qfl acc us (fpI af H.length .off i)∧runD P Q (acc++[fpI af H.length .off i]) r (put af d (.tup [])) H):=Eq.trans rfl rfl
attribute [go_sem] qce0 qcjm qcf1 qcj2 qbqm qchj qcke qcg7 qclj qcl1 qclc
end

section
variable {P:Program} {Q:VE->AF->List Ent->Prop}
def kvE(P:Program)(Q:VE->AF->List Ent->Prop)(d:Option Nat)(r:List GI)(af:AF)(H:List Ent)(v:AV):Prop:=runE P Q r (put af d v) H
def kpE(P:Program)(Q:VE->AF->List Ent->Prop)(d:Option Nat)(r:List GI)(af:AF)(p:AV×List Ent):Prop:=runE P Q r (put af d p.1) p.2
def ksE(P:Program)(Q:VE->AF->List Ent->Prop)(d:Option Nat)(r:List GI)(af:AF)(H:List Ent):Prop:=runE P Q r (put af d (.tup [])) H
def kcE(P:Program)(Q:VE->AF->List Ent->Prop)(d:Option Nat)(r:List GI)(af:AF)(_:Md)(v:AV)(H:List Ent):Prop:=runE P Q r (put af d v) H
theorem qbtr(d:Option Nat)(r:List GI)(af:AF)(H:List Ent)(v:AV):kvE P Q d r af H v=runE P Q r (put af d v) H:=Eq.trans rfl rfl
theorem qb9v(d:Option Nat)(r:List GI)(af:AF)(v:AV)(H:List Ent):kpE P Q d r af (v,H)=runE P Q r (put af d v) H:=Eq.trans rfl rfl
theorem qcbb(d:Option Nat)(r:List GI)(af:AF)(H:List Ent):ksE P Q d r af H=runE P Q r (put af d (.tup [])) H:=Eq.trans rfl rfl
theorem qby4(d:Option Nat)(r:List GI)(af:AF)(H:List Ent)(t:Md)(v:AV):kcE P Q d r af t v H=runE P Q r (put af d v) H:=Eq.trans rfl rfl
theorem qbh0(af:AF)(H:List Ent):runE P Q [] af H=Q .nrm af H:=Eq.trans rfl rfl
theorem qcjo(d:Option Nat)(i:IV)(r:List GI)(af:AF)(H:List Ent):runE P Q (⟨none,d,.v i⟩::r) af H=(evv af H i).bnd (kvE P Q d r af H):=by
 simp only[runE,doD,evi];rw[qbx];rfl
theorem qbc7(d:Option Nat)(x:Opd)(r:List GI)(af:AF)(H:List Ent):runE P Q (⟨none,d,.box x⟩::r) af H=(boxv H (gt af x)).bnd (kpE P Q d r af):=Eq.trans rfl rfl
theorem qbd4(d:Option Nat)(x:List AV)(r:List GI)(af:AF)(H:List Ent):runE P Q (⟨none,d,.alo x⟩::r) af H=runE P Q r (put af d (.ptr H.length 0)) (H++[.blk x]):=Eq.trans rfl rfl
theorem qbi0(d:Option Nat)(t e:TypeId)(r:List GI)(af:AF)(H:List Ent):runE P Q (⟨none,d,.bld t e⟩::r) af H=runE P Q r (put af d (.ptr H.length 0)) (H++[.cus (bldR t e [])]):=Eq.trans rfl rfl
theorem qbpo(d:Option Nat)(n:Nat)(c:Co)(a x:Opd)(r:List GI)(af:AF)(H:List Ent):runE P Q (⟨none,d,.st n c a x⟩::r) af H=(stv n c H (gt af x) (gt af a)).bnd (ksE P Q d r af):=by
 simp only[runE,doD,evi];rw[qbx];rfl
theorem qbje(d:Option Nat)(n:Nat)(z:AV)(b:Nat)(l c:Opd)(r:List GI)(af:AF)(H:List Ent):runE P Q (⟨none,d,.mks n z b l c⟩::r) af H=(mksv n z b H (gt af l) (gt af c)).bnd (kpE P Q d r af):=Eq.trans rfl rfl
theorem qbir(d:Option Nat)(n:Nat)(z:AV)(b:Nat)(c:Co)(x y:Opd)(r:List GI)(af:AF)(H:List Ent):runE P Q (⟨none,d,.app n z b c x y⟩::r) af H=(appv n b H (gt af x) (gt af y)).bnd (kpE P Q d r af):=Eq.trans rfl rfl
theorem q9u(d:Option Nat)(f:Opd)(l:List (Opd×Co))(r:List GI)(af:AF)(H:List Ent):runE P Q (⟨none,d,.call f l⟩::r) af H=DApp P H (gt af f) (gco H af l) (gco H af (rawO l)) (kcE P Q d r af):=Eq.trans rfl rfl
theorem qcd2(t:Nat)(b:Bool)(d:Option Nat)(i:I)(r:List GI)(af:AF)(H:List Ent):runE P Q (⟨some (t,b),d,i⟩::r) af H=gdK P Q (get af.tm t) b d i (.E r) af H:=Eq.trans rfl rfl
attribute [go_sem] qbtr qb9v qcbb qby4 qbh0 qcjo qbc7 qbd4 qbi0 qbpo qbje qbir q9u qcd2
end

theorem qb7v{P:Program}{fr:Option Nat}{n m:Nat}{Q:VE->AF->List Ent->Prop}{af:AF}{H:List Ent}{l:List (GI×List Nat)}(hn:noUs l=true)(h:runE P Q (l.map (·.1)) af H):VI P fr n m (.drw l) Q af H:=qx3 (qfx hn h)

section
variable {P:Program} {Q:VE->AF->List Ent->Prop}
def kv(P:Program)(Q:VE->AF->List Ent->Prop)(d:Option Nat)(r:List GI)(af:AF)(H:List Ent)(v:AV):Prop:=runL P Q r (put af d v) H
def kp(P:Program)(Q:VE->AF->List Ent->Prop)(d:Option Nat)(r:List GI)(af:AF)(p:AV×List Ent):Prop:=runL P Q r (put af d p.1) p.2
def ks(P:Program)(Q:VE->AF->List Ent->Prop)(d:Option Nat)(r:List GI)(af:AF)(H:List Ent):Prop:=runL P Q r (put af d (.tup [])) H
def kc(P:Program)(Q:VE->AF->List Ent->Prop)(d:Option Nat)(r:List GI)(af:AF)(H:List Ent)(o:VO):Prop :=
 match o with
 | .val v=>runL P Q r (put af d v) H
 | .pan v=>Q (.pan v) af H
theorem qcgx(d:Option Nat)(r:List GI)(af:AF)(H:List Ent)(v:AV):kv P Q d r af H v=runL P Q r (put af d v) H:=Eq.trans rfl rfl
theorem qci3(d:Option Nat)(r:List GI)(af:AF)(v:AV)(H:List Ent):kp P Q d r af (v,H)=runL P Q r (put af d v) H:=Eq.trans rfl rfl
theorem qcfb(d:Option Nat)(r:List GI)(af:AF)(H:List Ent):ks P Q d r af H=runL P Q r (put af d (.tup [])) H:=Eq.trans rfl rfl
theorem q9l(d:Option Nat)(r:List GI)(af:AF)(H:List Ent)(v:AV):kc P Q d r af H (.val v)=runL P Q r (put af d v) H:=Eq.trans rfl rfl
theorem qcdn(d:Option Nat)(r:List GI)(af:AF)(H:List Ent)(v:AV):kc P Q d r af H (.pan v)=Q (.pan v) af H:=Eq.trans rfl rfl
theorem qbe8(af:AF)(H:List Ent):runL P Q [] af H=Q .nrm af H:=Eq.trans rfl rfl
theorem qchg(d:Option Nat)(i:IV)(r:List GI)(af:AF)(H:List Ent):runL P Q (⟨none,d,.v i⟩::r) af H=(evv af H i).bnd (kv P Q d r af H):=by
 simp only[runL,doI,evi];rw[qbx];rfl
theorem qbeq(d:Option Nat)(x:Opd)(r:List GI)(af:AF)(H:List Ent):runL P Q (⟨none,d,.box x⟩::r) af H=(boxv H (gt af x)).bnd (kp P Q d r af):=Eq.trans rfl rfl
theorem qbik(d:Option Nat)(x:List AV)(r:List GI)(af:AF)(H:List Ent):runL P Q (⟨none,d,.alo x⟩::r) af H=runL P Q r (put af d (.ptr H.length 0)) (H++[.blk x]):=Eq.trans rfl rfl
theorem qbfw(d:Option Nat)(t e:TypeId)(r:List GI)(af:AF)(H:List Ent):runL P Q (⟨none,d,.bld t e⟩::r) af H=runL P Q r (put af d (.ptr H.length 0)) (H++[.cus (bldR t e [])]):=Eq.trans rfl rfl
theorem qb8c(d:Option Nat)(n:Nat)(c:Co)(a x:Opd)(r:List GI)(af:AF)(H:List Ent):runL P Q (⟨none,d,.st n c a x⟩::r) af H=(stv n c H (gt af x) (gt af a)).bnd (ks P Q d r af):=by
 simp only[runL,doI,evi];rw[qbx];rfl
theorem qbdj(d:Option Nat)(n:Nat)(z:AV)(b:Nat)(l c:Opd)(r:List GI)(af:AF)(H:List Ent):runL P Q (⟨none,d,.mks n z b l c⟩::r) af H=(mksv n z b H (gt af l) (gt af c)).bnd (kp P Q d r af):=Eq.trans rfl rfl
theorem qbdb(d:Option Nat)(n:Nat)(z:AV)(b:Nat)(c:Co)(x y:Opd)(r:List GI)(af:AF)(H:List Ent):runL P Q (⟨none,d,.app n z b c x y⟩::r) af H=(appv n b H (gt af x) (gt af y)).bnd (kp P Q d r af):=Eq.trans rfl rfl
theorem q6q(d:Option Nat)(f:Opd)(l:List (Opd×Co))(r:List GI)(af:AF)(H:List Ent):runL P Q (⟨none,d,.call f l⟩::r) af H=VApp P H (gt af f) (gco H af l) (kc P Q d r af):=by
 have:(kc P Q d r af)=(fun H' o=>match o with | .val v=>runL P Q r (put af d v) H' | .pan v=>Q (.pan v) af H'):=by
  funext H' o;cases o<;>rfl
 rw[this];rfl
theorem qci9(t:Nat)(b:Bool)(d:Option Nat)(i:I)(r:List GI)(af:AF)(H:List Ent):runL P Q (⟨some (t,b),d,i⟩::r) af H=gdK P Q (get af.tm t) b d i (.L r) af H:=Eq.trans rfl rfl
end

section
variable {P:Program} {Q:VE->AF->List Ent->Prop}
def dv(P:Program)(Q:VE->AF->List Ent->Prop)(acc:List FP)(us:List Nat)(fp:FP)(d:Option Nat)(r:List (GI×List Nat))(af:AF)(H:List Ent)(v:AV):Prop:=qfl acc us fp∧runD P Q (acc++[fp]) r (put af d v) H
def dp(P:Program)(Q:VE->AF->List Ent->Prop)(acc:List FP)(us:List Nat)(fp:FP)(d:Option Nat)(r:List (GI×List Nat))(af:AF)(p:AV×List Ent):Prop:=qfl acc us fp∧runD P Q (acc++[fp]) r (put af d p.1) p.2
def ds(P:Program)(Q:VE->AF->List Ent->Prop)(acc:List FP)(us:List Nat)(fp:FP)(d:Option Nat)(r:List (GI×List Nat))(af:AF)(H:List Ent):Prop:=qfl acc us fp∧runD P Q (acc++[fp]) r (put af d (.tup [])) H
def dc(P:Program)(Q:VE->AF->List Ent->Prop)(acc:List FP)(us:List Nat)(n:Nat)(rd:List Nat)(d:Option Nat)(r:List (GI×List Nat))(af:AF)(top:Md)(v:AV)(H:List Ent):Prop:=qfl acc us (fpC n rd top)∧runD P Q (acc++[fpC n rd top]) r (put af d v) H
variable (acc:List FP) (us:List Nat)
theorem qcgz(fp:FP)(d:Option Nat)(r:List (GI×List Nat))(af:AF)(H:List Ent)(v:AV):dv P Q acc us fp d r af H v=(qfl acc us fp∧runD P Q (acc++[fp]) r (put af d v) H):=Eq.trans rfl rfl
theorem qcfp(fp:FP)(d:Option Nat)(r:List (GI×List Nat))(af:AF)(v:AV)(H:List Ent):dp P Q acc us fp d r af (v,H)=(qfl acc us fp∧runD P Q (acc++[fp]) r (put af d v) H):=Eq.trans rfl rfl
theorem qcid(fp:FP)(d:Option Nat)(r:List (GI×List Nat))(af:AF)(H:List Ent):ds P Q acc us fp d r af H=(qfl acc us fp∧runD P Q (acc++[fp]) r (put af d (.tup [])) H):=Eq.trans rfl rfl
theorem qcig(n:Nat)(rd:List Nat)(d:Option Nat)(r:List (GI×List Nat))(af:AF)(H:List Ent)(top:Md)(v:AV):dc P Q acc us n rd d r af top v H=(qfl acc us (fpC n rd top)∧runD P Q (acc++[fpC n rd top]) r (put af d v) H):=Eq.trans rfl rfl
theorem qbku(af:AF)(H:List Ent):runD P Q acc [] af H=Q .nrm af H:=Eq.trans rfl rfl
theorem qcj0(d:Option Nat)(i:IV)(r:List (GI×List Nat))(af:AF)(H:List Ent):runD P Q acc ((⟨none,d,.v i⟩,us)::r) af H=(evv af H i).bnd (dv P Q acc us { rd:=fpV af i } d r af H):=by
 simp only[runD,doD,evi];rw[qbx];rfl
theorem qbjf(d:Option Nat)(x:Opd)(r:List (GI×List Nat))(af:AF)(H:List Ent):runD P Q acc ((⟨none,d,.box x⟩,us)::r) af H=(boxv H (gt af x)).bnd (dp P Q acc us { wr:=[H.length],al:=true } d r af):=Eq.trans rfl rfl
theorem qbfm(d:Option Nat)(x:List AV)(r:List (GI×List Nat))(af:AF)(H:List Ent):runD P Q acc ((⟨none,d,.alo x⟩,us)::r) af H=(qfl acc us { wr:=[H.length],al:=true }∧runD P Q (acc++[{ wr:=[H.length],al:=true }]) r (put af d (.ptr H.length 0)) (H++[.blk x])):=Eq.trans rfl rfl
theorem qbia(d:Option Nat)(t e:TypeId)(r:List (GI×List Nat))(af:AF)(H:List Ent):runD P Q acc ((⟨none,d,.bld t e⟩,us)::r) af H=(qfl acc us { wr:=[H.length],al:=true }∧runD P Q (acc++[{ wr:=[H.length],al:=true }]) r (put af d (.ptr H.length 0)) (H++[.cus (bldR t e [])])):=Eq.trans rfl rfl
theorem qbt5(d:Option Nat)(n:Nat)(c:Co)(a x:Opd)(r:List (GI×List Nat))(af:AF)(H:List Ent):runD P Q acc ((⟨none,d,.st n c a x⟩,us)::r) af H=(stv n c H (gt af x) (gt af a)).bnd (ds P Q acc us { rd:=rdCo c (gt af x),wr:=ptrE (gt af a) } d r af):=by
 simp only[runD,doD,evi];rw[qbx];rfl
theorem qbeb(d:Option Nat)(n:Nat)(z:AV)(b:Nat)(l c:Opd)(r:List (GI×List Nat))(af:AF)(H:List Ent):runD P Q acc ((⟨none,d,.mks n z b l c⟩,us)::r) af H=(mksv n z b H (gt af l) (gt af c)).bnd (dp P Q acc us { wr:=[H.length],al:=true } d r af):=Eq.trans rfl rfl
theorem qbk8(d:Option Nat)(n:Nat)(z:AV)(b:Nat)(c:Co)(x y:Opd)(r:List (GI×List Nat))(af:AF)(H:List Ent):runD P Q acc ((⟨none,d,.app n z b c x y⟩,us)::r) af H=(appv n b H (gt af x) (gt af y)).bnd (dp P Q acc us { rd:=rowE (gt af y),wr:=H.length::rowE (gt af x),al:=true } d r af):=Eq.trans rfl rfl
theorem q7b(d:Option Nat)(f:Opd)(l:List (Opd×Co))(r:List (GI×List Nat))(af:AF)(H:List Ent):runD P Q acc ((⟨none,d,.call f l⟩,us)::r) af H=DApp P H (gt af f) (gco H af l) (gco H af (rawO l)) (dc P Q acc us H.length (rdPs af l) d r af):=Eq.trans rfl rfl
theorem qce6(t:Nat)(b:Bool)(d:Option Nat)(i:I)(r:List (GI×List Nat))(af:AF)(H:List Ent):runD P Q acc ((⟨some (t,b),d,i⟩,us)::r) af H=gdK P Q (get af.tm t) b d i (.D acc us r) af H:=Eq.trans rfl rfl
theorem q63(fp:FP):qfl acc [] fp=True:=rfl
theorem q30(j:Nat)(fp:FP):qfl acc (j::us) fp=(okFP (acc.getD j {}) fp=true∧qfl acc us fp):=rfl

theorem qbzs{f:FuncId}{args:List AV}{H:List Ent}{r:AV}(h:qp P f args r):PApp P H (.fn f [] []) args r:=qb h fun _=>⟨rfl,rfl⟩
theorem qf{f:FuncId}{args:List AV}{H:List Ent}{raws:List AV}{r:AV}{K:Md->AV->List Ent->Prop}(h:qp P f args r)(k:K .off r H):DApp P H (.fn f [] []) args raws K:=.inr (.inl ⟨r,fun H₀=>qbzs h,k⟩)
theorem qbpf(n:Nat)(rd:List Nat):fpC n rd .off={ rd }:=rfl
theorem qbgx(n:Nat)(rd:List Nat):fpC n rd .here={ rd,top:=true }:=rfl
theorem qbdc(n:Nat)(rd:List Nat)(k:Nat)(e e':Ent):fpC n rd (.meth k e e')={ rd:=k::rd,wr:=[k] }:=rfl
theorem qbi9(n:Nat)(rd:List Nat)(e':Ent)(ln:Nat):fpC n rd (.grow none e' ln)={ rd,wr:=[n],al:=true }:=rfl
theorem qbfh(n:Nat)(rd:List Nat)(p:Nat×Ent)(e':Ent)(ln:Nat):fpC n rd (.grow (some p) e' ln)={ rd:=p.1::rd,wr:=[n,p.1],al:=true }:=rfl
theorem qcan(n:Nat)(rd:List Nat)(e':Ent):fpC n rd (.lay e')={ rd,wr:=[n],al:=true }:=rfl
attribute [go_sem] qbpf qbgx qbdc qbi9 qbfh qcan rawO rawI rawL
end

def cor(e:Ent)(i len:Nat):AV :=
 match e with
 | .app n es=>if es.length=len then .sl n es else .row i len
 | _=>.row i len
section
variable (H:List Ent)
theorem qgq(v:AV):co H .id v=v:=by unfold co;rfl
theorem qdu(n:Nat):co H (.sl n) .nils=.sl n []:=by unfold co;rfl
theorem q6m(n m:Nat)(es:List AV):co H (.sl n) (.lit m es)=.sl m es:=by unfold co;rfl
theorem qcj(n m:Nat)(es:List AV):co H (.sl n) (.sl m es)=.sl m es:=by unfold co;rfl
theorem qul(n i len:Nat):co H (.sl n) (.row i len)=cor (ent H i) i len:=by unfold co cor;rfl
theorem qef(l:List Co)(vs:List AV):co H (.agg l) (.agg vs)=.agg (cos H l vs):=by rw[co]
theorem qcx(vs:List AV):cos H [] vs=vs:=by cases vs<;>rw[cos]
theorem qcf(c:Co)(l:List Co)(v:AV)(vs:List AV):cos H (c::l) (v::vs)=co H c v::cos H l vs:=by rw[cos]
theorem q8t(n:Nat)(es:List AV)(i len:Nat):cor (.app n es) i len=if es.length=len then .sl n es else .row i len:=rfl
theorem qbdz(n:Nat)(es:List AV)(i len:Nat):cor (.mrow n es) i len=.row i len:=rfl
end

theorem qclv(A B:Prop):gd (.bool true) true A B=A:=Eq.trans rfl rfl
theorem qcl2(A B:Prop):gd (.bool true) false A B=B:=Eq.trans rfl rfl
theorem qck4(A B:Prop):gd (.bool false) true A B=B:=Eq.trans rfl rfl
theorem qcl3(A B:Prop):gd (.bool false) false A B=A:=Eq.trans rfl rfl
theorem qchz(b:Bool)(A B:Prop):gd (.tup []) b A B=B:=Eq.trans rfl rfl
theorem qbjd(A B:Prop):cnd (.bool true) A B=A:=by simp[cnd]
theorem qba4(A B:Prop):cnd (.bool false) A B=B:=by simp[cnd]
theorem qcir{P:Program}{fr:Option Nat}{n m:Nat}{b:IC}{Q:VE->AF->List Ent->Prop}(af:AF)(H:List Ent):sq P fr n m b Q .nrm af H=VI P fr n m b Q af H:=Eq.trans rfl rfl
theorem qcfm{P:Program}{fr:Option Nat}{n m:Nat}{b:IC}{Q:VE->AF->List Ent->Prop}(i:Nat)(af:AF)(H:List Ent):sq P fr n m b Q (.ext i) af H=Q (.ext i) af H:=Eq.trans rfl rfl
theorem qcem{P:Program}{fr:Option Nat}{n m:Nat}{b:IC}{Q:VE->AF->List Ent->Prop}(af:AF)(H:List Ent):sq P fr n m b Q .ret af H=Q .ret af H:=Eq.trans rfl rfl
theorem qcfc{P:Program}{fr:Option Nat}{n m:Nat}{b:IC}{Q:VE->AF->List Ent->Prop}(v:AV)(af:AF)(H:List Ent):sq P fr n m b Q (.pan v) af H=Q (.pan v) af H:=Eq.trans rfl rfl
theorem qb58{id:Nat}{Q:VE->AF->List Ent->Prop}(af:AF)(H:List Ent):blq id Q .nrm af H=Q .nrm af H:=Eq.trans rfl rfl
theorem qb2m{id i:Nat}{Q:VE->AF->List Ent->Prop}(af:AF)(H:List Ent):blq id Q (.ext i) af H=if i=id then Q .nrm af H else Q (.ext i) af H:=Eq.trans rfl rfl
theorem qbxc{id:Nat}{Q:VE->AF->List Ent->Prop}(af:AF)(H:List Ent):blq id Q .ret af H=Q .ret af H:=Eq.trans rfl rfl
theorem qbxm{id:Nat}{Q:VE->AF->List Ent->Prop}(v:AV)(af:AF)(H:List Ent):blq id Q (.pan v) af H=Q (.pan v) af H:=Eq.trans rfl rfl
theorem qcht{S:Type}{Inv:S->Prop}{st:S->AF×List Ent}{m:Nat}{Q:VE->AF->List Ent->Prop}(af:AF)(H:List Ent):lq Inv st m Q .nrm af H=At S Inv st m af H:=Eq.trans rfl rfl
theorem qcj6{S:Type}{Inv:S->Prop}{st:S->AF×List Ent}{m i:Nat}{Q:VE->AF->List Ent->Prop}(af:AF)(H:List Ent):lq Inv st m Q (.ext i) af H=Q (.ext i) af H:=Eq.trans rfl rfl
theorem qcgj{S:Type}{Inv:S->Prop}{st:S->AF×List Ent}{m:Nat}{Q:VE->AF->List Ent->Prop}(af:AF)(H:List Ent):lq Inv st m Q .ret af H=Q .ret af H:=Eq.trans rfl rfl
theorem qckn{S:Type}{Inv:S->Prop}{st:S->AF×List Ent}{m:Nat}{Q:VE->AF->List Ent->Prop}(v:AV)(af:AF)(H:List Ent):lq Inv st m Q (.pan v) af H=Q (.pan v) af H:=Eq.trans rfl rfl
theorem qbd8{k:Nat}{rs:List (RV×Co)}{Q:List Ent->VO->Prop}(af:AF)(H:List Ent):retq k rs Q .ret af H=dlq af.dl H (retk k rs Q af):=Eq.trans rfl rfl
theorem qbea{k:Nat}{rs:List (RV×Co)}{Q:List Ent->VO->Prop}(af:AF)(H:List Ent):retq k rs Q .nrm af H=dlq af.dl H (retk k rs Q af):=Eq.trans rfl rfl
theorem qbhb{k:Nat}{rs:List (RV×Co)}{Q:List Ent->VO->Prop}(v:AV)(af:AF)(H:List Ent):retq k rs Q (.pan v) af H=dlq af.dl H (pank k Q v):=Eq.trans rfl rfl
theorem qcaa(H:List Ent)(K:List Ent->Prop):dlq [] H K=K H:=Eq.trans rfl rfl
theorem qbhh(i:Nat)(l:List AD)(H:List Ent)(K:List Ent->Prop):dlq (.mark i::l) H K=(match ent H i with
 | .lp _ _=>dlq l (H.set i .dead) K
 | _=>False):=Eq.trans rfl rfl
theorem qbgs{k:Nat}{rs:List (RV×Co)}{Q:List Ent->VO->Prop}(af:AF)(H:List Ent):retk k rs Q af H=((qe0 af H rs).bnd fun l=>fin k Q H (.val (one l))):=Eq.trans rfl rfl
theorem qbii{k:Nat}{Q:List Ent->VO->Prop}(v:AV)(H:List Ent):pank k Q v H=fin k Q H (.pan v):=Eq.trans rfl rfl

theorem qdh(v:AV):rdCo .id v=[]:=by unfold rdCo;rfl
theorem qv3(n i len:Nat):rdCo (.sl n) (.row i len)=[i]:=by unfold rdCo;rfl
theorem qbk(n m:Nat)(es:List AV):rdCo (.sl n) (.sl m es)=[]:=by unfold rdCo;rfl
theorem qxp(n m:Nat)(es:List AV):rdCo (.sl n) (.lit m es)=[]:=by unfold rdCo;rfl
theorem qv1(n:Nat):rdCo (.sl n) .nils=[]:=by unfold rdCo;rfl
theorem qce(l:List Co)(vs:List AV):rdCo (.agg l) (.agg vs)=qmu l vs:=by unfold rdCo;rfl
theorem qbq(vs:List AV):qmu [] vs=[]:=by unfold qmu;rfl
theorem qbi(c:Co)(l:List Co)(v:AV)(vs:List AV):qmu (c::l) (v::vs)=rdCo c v++qmu l vs:=by rw[qmu]
attribute [go_sem] qcaa qbhh qbgs qbii qbhb
attribute [go_sem] AV.wf AV.wfs VO.wf
attribute [go_sem] qbku qcj0 qbjf qbfm qbia qbt5 qbeb qbk8 q7b qce6 qcgz qcfp qcid qcig q63 q30 fpI fpV qdh qv3 qbk qxp qv1 qce qbq qbi rdPs ptrE rowE okFP disj nin
theorem qbuq{α:Type}(a:α)(k:α->Prop):(Rs.ret a).bnd k=k a:=Eq.trans rfl rfl
theorem qbsm{α:Type}(p:Prop)(r:Rs α)(k:α->Prop):(Rs.req p r).bnd k=(p∧r.bnd k):=Eq.trans rfl rfl
theorem qbx6{α:Type}(k:α->Prop):(Rs.bad:Rs α).bnd k=False:=Eq.trans rfl rfl
attribute [go_sem] qbe8 qchg qbeq qbik qbfw qb8c qbdj qbdb q6q qci9 qcgx qci3 qcfb q9l qcdn qclv qcl2 qck4 qcl3 qchz qbjd qba4 qcir qcfm qcem qcfc qb58 qb2m qbxc qbxm qcht qcj6 qcgj qckn qbd8 qbea qgq qdu q6m qcj qul qef qcx qcf q8t qbdz evv gt get put qbuq qbsm qbx6 Rs.map ent gco gts gto ldv ldc lde stv stc fadv iadv aadv idxv idav slsv slp slf slm slvv lenv eqc eqcs fitc qic eqv binI shrI binX binS eqb binv unv mmv extv nckv cviv cvsv cbsv slav qgp qm8 tyav qbtn spl bldv qbc5 mksv qna appE qia appv boxv AV.ren AV.rens AV.bd AV.bds Ent.ren Ent.bd AD.ren AD.bd tk Eqk.isIface qe0 one fin VO.bd qc7 qel tmOK dlOK sg sg' qbf
theorem qbfo(b:Bool)(n off:Nat)(cs:List AV):fldv b n off (.agg cs)=ldc b n off cs:=rfl
attribute [go_sem] qbfo
theorem qckg(n:Nat)(v:AV):un1 n .id v=v:=by unfold un1;split<;>first | rfl | simp_all
theorem qcej(n k:Nat)(v:AV):un1 n (.sl k) v=v:=by unfold un1;split<;>first | rfl | simp_all
theorem qcbl(n:Nat)(a b:Co)(r:List Co)(v:AV):un1 n (.agg (a::b::r)) v=v:=by unfold un1;split<;>first | rfl | simp_all
theorem qcad(v:AV):un1 1 (.agg [.id]) (.agg [v])=v:=rfl
attribute [go_sem] qckg qcej qcbl qcad
theorem qcc9(n:Nat)(H:List Ent)(v:AV):sto n .id H v=v:=Eq.trans (show sto n .id H v=co H .id v from rfl) (qgq H v)
theorem qcap(n:Nat)(cs:List Co)(H:List Ent)(v:AV):sto n (.agg cs) H v=co H (.agg cs) v:=rfl
theorem qcja(n m:Nat)(H:List Ent)(v:AV):sto n (.sl m) H v=if n=1 then q3u m H v else co H (.sl m) v:=rfl
theorem q7l(m i l:Nat)(H:List Ent):q3u m H (.row i l)=.row i l:=rfl
theorem qbeg(m n:Nat)(es:List AV)(H:List Ent):q3u m H (.sl n es)=co H (.sl m) (.sl n es):=rfl
theorem q5u(m n:Nat)(es:List AV)(H:List Ent):q3u m H (.lit n es)=co H (.sl m) (.lit n es):=rfl
theorem q1b(m:Nat)(H:List Ent):q3u m H .nils=co H (.sl m) .nils:=rfl
attribute [go_sem] qcc9 qcap qcja q7l qbeg q5u q1b
theorem q4g(cs:List AV):(AV.agg cs).isAgg=true:=rfl
theorem q8l(k:IntKind)(n:Int):(AV.int k n).isAgg=false:=rfl
theorem q95(l:List UInt8):(AV.str l).isAgg=false:=rfl
theorem q16(b:Bool):(AV.bool b).isAgg=false:=rfl
theorem q2q:AV.nilp.isAgg=false:=rfl
theorem q2u:AV.nilf.isAgg=false:=rfl
theorem q1x:AV.nili.isAgg=false:=rfl
theorem q1z:AV.nils.isAgg=false:=rfl
theorem q1h:AV.nilm.isAgg=false:=rfl
theorem qbe2(n:Nat)(l:List AV):(AV.sl n l).isAgg=false:=rfl
theorem q6z(n:Nat)(l:List AV):(AV.lit n l).isAgg=false:=rfl
theorem q5q(i o:Nat):(AV.ptr i o).isAgg=false:=rfl
theorem qbb6(i o:Nat):(AV.row i o).isAgg=false:=rfl
theorem q2n(n:Nat)(l:List AV)(i o:Nat):(AV.eptr n l i o).isAgg=false:=rfl
theorem q3d(n k i o:Nat):(AV.rptr n k i o).isAgg=false:=rfl
theorem qbfl(f:FuncId)(a b:List AV):(AV.fn f a b).isAgg=false:=rfl
theorem q42(i:Nat):(AV.opq i).isAgg=false:=rfl
theorem qwn(t:TypeId)(v:AV):(AV.iface t v).isAgg=false:=rfl
theorem q5c(l:List AV):(AV.tup l).isAgg=false:=rfl
theorem qbjv(cs:List AV):(AV.agg cs).leaf=false:=rfl
theorem qbgd(cs:List AV):(AV.tup cs).leaf=false:=rfl
theorem qbhl(k:IntKind)(n:Int):(AV.int k n).leaf=true:=rfl
theorem qbi4(l:List UInt8):(AV.str l).leaf=true:=rfl
theorem q7w(b:Bool):(AV.bool b).leaf=true:=rfl
theorem q7h:AV.nilp.leaf=true:=rfl
theorem q4o:AV.nilf.leaf=true:=rfl
theorem q8q:AV.nili.leaf=true:=rfl
theorem q5y:AV.nils.leaf=true:=rfl
theorem q7a:AV.nilm.leaf=true:=rfl
theorem qb2x(n:Nat)(l:List AV):(AV.sl n l).leaf=true:=rfl
theorem qbi3(n:Nat)(l:List AV):(AV.lit n l).leaf=true:=rfl
theorem qbdx(i o:Nat):(AV.ptr i o).leaf=true:=rfl
theorem qbgn(i o:Nat):(AV.row i o).leaf=true:=rfl
theorem qbbw(n:Nat)(l:List AV)(i o:Nat):(AV.eptr n l i o).leaf=true:=rfl
theorem qbbi(n k i o:Nat):(AV.rptr n k i o).leaf=true:=rfl
theorem qb9t(f:FuncId)(a b:List AV):(AV.fn f a b).leaf=true:=rfl
theorem qbgo(i:Nat):(AV.opq i).leaf=true:=rfl
theorem q3l(t:TypeId)(v:AV):(AV.iface t v).leaf=true:=rfl
theorem q4h(cs:List AV):(AV.agg cs).cells=cs:=rfl
theorem qbch(k:IntKind)(n:Int):(AV.int k n).cells=[.int k n]:=rfl
theorem qbaq(l:List UInt8):(AV.str l).cells=[.str l]:=rfl
theorem q31(b:Bool):(AV.bool b).cells=[.bool b]:=rfl
theorem q1l:AV.nilp.cells=[.nilp]:=rfl
theorem q1c:AV.nilf.cells=[.nilf]:=rfl
theorem q1v:AV.nili.cells=[.nili]:=rfl
theorem q39:AV.nils.cells=[.nils]:=rfl
theorem q1j:AV.nilm.cells=[.nilm]:=rfl
theorem qblb(n:Nat)(l:List AV):(AV.sl n l).cells=[.sl n l]:=rfl
theorem q8a(n:Nat)(l:List AV):(AV.lit n l).cells=[.lit n l]:=rfl
theorem q52(i o:Nat):(AV.ptr i o).cells=[.ptr i o]:=rfl
theorem q4y(i o:Nat):(AV.row i o).cells=[.row i o]:=rfl
theorem q19(n:Nat)(l:List AV)(i o:Nat):(AV.eptr n l i o).cells=[.eptr n l i o]:=rfl
theorem q13(n k i o:Nat):(AV.rptr n k i o).cells=[.rptr n k i o]:=rfl
theorem qbjg(f:FuncId)(a b:List AV):(AV.fn f a b).cells=[.fn f a b]:=rfl
theorem q6p(i:Nat):(AV.opq i).cells=[.opq i]:=rfl
theorem qv8(t:TypeId)(v:AV):(AV.iface t v).cells=[.iface t v]:=rfl
attribute [go_sem] q4g q8l q95 q16 q2q q2u q1x q1z q1h qbe2 q6z q5q qbb6 q2n q3d qbfl q42 qwn q5c qbjv qbgd qbhl qbi4 q7w q7h q4o q8q q5y q7a qb2x qbi3 qbdx qbgn qbbw qbbi qb9t qbgo q3l q4h qbch qbaq q31 q1l q1c q1v q39 q1j qblb q8a q52 q4y q19 q13 qbjg q6p qv8
attribute [go_sem] List.length_cons List.length_nil List.nil_append List.cons_append List.append_nil List.getD_cons_zero List.getD_cons_succ List.set_cons_zero List.set_cons_succ List.take_succ_cons List.take_zero List.take_nil List.drop_succ_cons List.drop_zero List.drop_nil List.all_cons List.all_nil Bool.and_true Bool.true_and Bool.false_and Bool.and_false true_and and_true false_and and_false true_or or_true or_false false_or and_self or_self not_true_eq_false not_false_eq_true Bool.false_eq_true if_true if_false List.map_cons List.map_nil Bool.and_eq_true Int.toNat_natCast Int.natCast_nonneg
attribute [go_sem_proc] Nat.reduceEqDiff Nat.reduceAdd Nat.reduceSub Nat.reduceMul Nat.reduceLT Nat.reduceLeDiff reduceCtorEq Int.reduceToNat
end Go.V
