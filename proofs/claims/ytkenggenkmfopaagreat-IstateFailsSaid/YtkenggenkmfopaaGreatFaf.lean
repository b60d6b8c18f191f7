/- Texts of this proof, joined. -/
import Derived.Test.YtkenggenkmfopaaGreatFae
import Derived.RangeFuncRecord
set_option linter.unusedVariables false
set_option linter.unusedSimpArgs false

/-
 The value logic, part n, continued: a function value called out of a greater state; loops over functions: the record of a loop is laid, written, struck off.
-/
namespace Go.V
open Go Go.RowKit

section
variable {P:Program} {H H0:List Ent}

theorem qnm{sel:List Nat}{w:World}{M:Nat->Nat->Prop}{G:List Gh}(hn:sel.Nodup)(hlt:∀i∈sel,i<H.length)(hl:sel.length=H0.length)
 (hent:∀(j:Nat) (e:Ent),H0[j]?=some e->e=.dead∨(e.bd H0.length=true∧H[sg sel j]?=some (e.ren (sg sel)))) (hst:St w M G H) :
 ∃G0,St w M G0 H0∧∀(j:Nat) (g₀:Gh),G0[j]?=some g₀->∃g:Gh,G[sg sel j]?=some g∧g₀.core=g.core∧∀b,g₀.fp b->g.fp b:=by
 have hinj:∀i j,i<H0.length->j<H0.length->sg sel i=sg sel j->i=j:=fun i j hi hj he=>by
  have h1:=qe8 (sel:=sel) (j:=i) (by omega)
  have h2:=qe8 (sel:=sel) (j:=j) (by omega)
  rw[he,←h2] at h1
  exact(List.getElem?_inj (by omega) hn).1 h1
 have key:=qi7 (n:=0) (m:=0) (σ:=sg sel) (af:=⟨[],[]⟩) (af':=⟨[],[]⟩) (a:={ tmps:=#[],defers:=[] }) hst ⟨rfl,rfl,fun t=>trivial⟩
  ⟨fun i hi=>by omega,Nat.zero_le _,hinj,hent,fun j hj=>hlt _ (List.mem_of_getElem? (qe8 (by omega))),fun t=>.inl rfl,fun d hd=>(by cases hd),rfl⟩
 refine⟨_,key.2.1,fun j g₀ hg=>?_⟩
 have hj:=(List.getElem?_eq_some_iff.1 hg).1
 rw[key.2.1.len] at hj
 have hlt':=hlt _ (List.mem_of_getElem? (qe8 (sel:=sel) (j:=j) (by omega)))
 rw[←hst.len] at hlt'
 have hq:=qnf (sg sel) G H0 0 j _ (List.getElem?_eq_getElem hj)
 rw[Nat.zero_add] at hq
 rw[hq] at hg
 have hgd:G.getD (sg sel j) {}=G[sg sel j]:=by rw[List.getD_eq_getElem?_getD,List.getElem?_eq_getElem hlt'];rfl
 rw[hgd] at hg
 simp only[Option.some.injEq] at hg
 refine⟨G[sg sel j],List.getElem?_eq_getElem hlt',?_,fun b hb=>?_⟩
 ·rw[←hg];split<;>rfl
 ·rw[←hg] at hb
  split at hb
  ·exact hb.elim
  ·exact hb

theorem qbib(sel:List Nat){fv0:AV}{args0:List AV}{Q Q':List Ent->VO->Prop}(h:VApp P H0 fv0 args0 Q)(hn:sel.Nodup)(hlt:∀i∈sel,i<H.length)(hl:sel.length=H0.length)
 (hent:∀(j:Nat) (e:Ent),H0[j]?=some e->e=.dead∨(e.bd H0.length=true∧H[sg sel j]?=some (e.ren (sg sel)))) (hfv:fv0.bd H0.length=true) (hargs:AV.bds H0.length args0=true)
 (hQ:∀H1 o,Q H1 o->Q' (qbq H sel ((H1.take sel.length).map (Ent.ren (sg' sel H.length)))++(H1.drop sel.length).map (Ent.ren (sg' sel H.length))) (o.ren (sg' sel H.length))):VApp P H (fv0.ren (sg sel)) (AV.rens (sg sel) args0) Q':=by
 intro w M G x vs hst hf hv
 obtain⟨G0,hst0,hget⟩:=qnm hn hlt hl hent hst
 have hcore:∀(i:Nat) (g:Gh),i<H0.length->G[sg sel i]?=some g->∃g':Gh,G0[i]?=some g'∧g'.core=g.core:=fun i g hi hg=>by
  have hi':i<G0.length:=by rw[hst0.len];exact hi
  obtain⟨g',q1,q2,_⟩:=hget i _ (List.getElem?_eq_getElem hi')
  rw[hg] at q1
  simp only[Option.some.injEq] at q1;subst q1
  exact⟨_,List.getElem?_eq_getElem hi',q2⟩
 have hv0:VRs w M G0 args0 vs:=qff hcore args0 vs hargs hv
 have hf0:mkOf fv0=none->VR w M G0 fv0 x:=fun hn=>q1u hcore fv0 x hfv (hf (by rw[qxl];exact hn))
 refine((h w M G0 x vs hst0 hf0 hv0).eq (qxl _ _).symm).mono fun e w' ho=>?_
 have h0l:G0.length=sel.length:=by rw[hst0.len,hl]
 cases e with
 | returned x =>
   obtain⟨M',G1,H1,v,q1,q2,q3,q4⟩:=ho
   obtain⟨G',r1,r2,r3⟩:=qln hn hlt hst h0l hget q2 q3
   exact⟨M',G',_,_,hQ _ _ q1,r1,r2,r3 _ _ q4⟩
 | panicked c =>
   obtain⟨M',G1,H1,v,x,q1,q2,q3,q4,q5⟩:=ho
   obtain⟨G',r1,r2,r3⟩:=qln hn hlt hst h0l hget q2 q3
   exact⟨M',G',_,_,x,hQ _ _ q1,r1,r2,r3 _ _ q4,q5⟩
 | outgrown=>exact ho
end

/-! ### The record of a loop over a function -/

def LpD.rc(d:LpD)(vs:List Value)(cap:Nat):Loop:={ state:=d.st,pending:=d.jmp,fn:=d.fn,tmps:=vs.toArray,params:=d.ps,assign:=d.asn,body:=d.bd,defers:=cap }

section
variable {P:Program} {w:World} {M:Nat->Nat->Prop} {G:List Gh} {H:List Ent} {i:Nat} {g:Gh} {d:LpD} {as:List AV}

theorem qdb{r b:Nat}{o:Obj}(h:b≠r):(w.putObj r o).heap[b]?=w.heap[b]?:=World.putObj_heap_other h

theorem qrf(hst:St w M G H)(hg:G[i]?=some g)(hH:H[i]?=some (.lp d as))(d':LpD)(hfn:d'.fn=d.fn)(hps:d'.ps=d.ps)(ha:d'.asn=d.asn)(hb:d'.bd=d.bd):
 ∃vs,w.heap[g.blk]?=some (.loop (d.rc vs g.cap))∧VRs w M G as vs∧St (w.putObj g.blk (.loop (d'.rc vs g.cap))) M G (H.set i (.lp d' as))∧Ext w M G (w.putObj g.blk (.loop (d'.rc vs g.cap))) M G:=by
 obtain⟨h1,⟨vs,h2,h3⟩,h4,h5,h6,h7⟩:=hst.ok i g _ hg hH
 have hne:g.cap≠g.blk:=fun e=>by rw[e] at h4;rw[h4] at h2;cases h2
 have hlt:g.blk<w.heap.size:=hst.lt i g _ hg ((h1 _).2 (.inl rfl))
 have hle:Le w M (w.putObj g.blk (.loop (d'.rc vs g.cap))) M:=fun b o hm=>⟨hm,World.cell?_of_block (qdb fun e=>h6 o (e ▸ hm))⟩
 have hext:Ext w M G (w.putObj g.blk (.loop (d'.rc vs g.cap))) M G:=⟨rfl,rfl,rfl,by simp,fun i g h=>⟨g,h,rfl⟩,hle,fun b hb hn=>qdb fun e=>hn ⟨i,g,hg,(h1 _).2 (.inl e)⟩,fun b hb=>.inl hb,fun b o hm=>.inl hm⟩
 refine⟨vs,h2,h3,?_,hext⟩
 have:=qg1 (w':=w.putObj g.blk (.loop (d'.rc vs g.cap))) (M':=M) (g':=g) (e:=.lp d' as) hst hg rfl (fun _ h=>h) (by simp) (fun b hb hn=>qdb fun e=>hn ((h1 _).2 (.inl e))) hle (fun b o h=>.inl h)
  (by
   rw[qd2 _ _ _ hg]
   refine⟨h1,⟨vs,?_,h3.ext hext⟩,?_,h5,h6,h7⟩
   ·exact World.putObj_heap_same hlt
   ·rw[qdb hne];exact h4)
 rwa [qd2 _ _ _ hg] at this

theorem qbt9(hst:St w M G H)(hg:G[i]?=some g)(hH:H[i]?=some (.lp d as)):
 ∃G',w.heap[g.cap]?=some (.deferred (some []))∧St (w.putObj g.cap (.deferred none)) M G' (H.set i .dead)∧Ext w M G (w.putObj g.cap (.deferred none)) M G':=by
 obtain⟨h1,⟨vs,h2,h3⟩,h4,h5,h6,h7⟩:=hst.ok i g _ hg hH
 have hle:Le w M (w.putObj g.cap (.deferred none)) M:=fun b o hm=>⟨hm,World.cell?_of_block (qdb fun e=>h7 o (e ▸ hm))⟩
 have hold:∀b,b<w.heap.size->¬g.fp b->(w.putObj g.cap (.deferred none)).heap[b]?=w.heap[b]?:=fun b hb hn=>qdb fun e=>hn ((h1 _).2 (.inr e))
 have hi:=(List.getElem?_eq_some_iff.1 hg).1
 refine⟨G.set i { g with fp:=fun _=>False },h4,qg1 hst hg rfl (fun _ h=>h.elim) (by simp) hold hle (fun b o h=>.inl h) (fun b hb=>hb),⟨rfl,rfl,rfl,by simp,fun j g₀ hj=>?_,hle,fun b hb hn=>hold b hb (fun h=>hn ⟨i,g,hg,h⟩),fun b ⟨j,g₁,hj,hb⟩=>?_,fun b o hm=>.inl hm⟩⟩
 ·by_cases hji:i=j
  ·subst hji
   rw[hg] at hj;cases hj
   exact⟨{ g with fp:=fun _=>False },by simp[hi],rfl⟩
  ·exact⟨g₀,by rw[List.getElem?_set_ne hji];exact hj,rfl⟩
 ·by_cases hji:i=j
  ·subst hji;simp[hi] at hj;subst hj;exact hb.elim
  ·rw[List.getElem?_set_ne hji] at hj;exact .inl ⟨j,g₁,hj,hb⟩

theorem qti(h:ent H i=.lp d as):H[i]?=some (.lp d as):=qbj h (by simp)
end

def qqj(n:Nat)(tm:List (Nat×AV)):List AV:=(List.range n).map (get tm)

def ranq(Q:VE->AF->List Ent->Prop)(af:AF)(k:Nat)(H:List Ent):VO->Prop
 | .val _ => match ent H k with
   | .lp ⟨.ready,none,fn,ps,a,b⟩ as=>Q .nrm ⟨af.tm,.mark k::af.dl⟩ (H.set k (.lp ⟨.exhausted,none,fn,ps,a,b⟩ as))
   | .lp ⟨.done,some .ret,fn,ps,a,b⟩ as=>Q .ret ⟨af.tm,.mark k::af.dl⟩ (H.set k (.lp ⟨.exhausted,some .ret,fn,ps,a,b⟩ as))
   | .lp ⟨.done,some (.exit id),fn,ps,a,b⟩ as=>Q (.ext id) ⟨af.tm,.mark k::af.dl⟩ (H.set k (.lp ⟨.exhausted,some (.exit id),fn,ps,a,b⟩ as))
   | _=>False
 | .pan v=>Q (.pan v) ⟨af.tm,.mark k::af.dl⟩ H

section
variable {P:Program} {n m:Nat} {Q:VE->AF->List Ent->Prop} {af:AF} {H:List Ent} {a b:IC}

theorem q60{w:World}{M:Nat->Nat->Prop}{G:List Gh}{act:Act}(hr:RelF w M G n af act):VRs w M G (qqj n af.tm) act.tmps.toList:=by
 have key:∀(l:List Nat),VRs w M G (l.map (get af.tm)) (l.map fun t=>act.tmps.getD t undef):=by
  intro l
  induction l with
  | nil=>rfl
  | cons t r ih=>exact⟨_,_,rfl,hr.rd t,ih⟩
 have h:=key (List.range n)
 have he:((List.range n).map fun t=>act.tmps.getD t undef)=act.tmps.toList:=by
  have hs:=hr.size
  apply List.ext_getElem
  ·simp[hs]
  ·intro j h1 h2
   simp only[List.length_map,List.length_range] at h1
   simp only[List.getElem_map,List.getElem_range,Array.getElem_toList]
   rw[Array.getD_eq_getD_getElem?,Array.getElem?_eq_getElem (by omega)];rfl
 rw[he] at h
 exact h

theorem qch4{g:Opd}{ps:List Nat}{f:FuncId}{first caps:List AV}(hg:gt af g=.fn f first caps)(hm:m≤H.length)
 (h:∀(fn:FuncId) (asn bd:Code),qcl P n asn=some a->qcl P n bd=some b →
  VCalls P f (H++[.lp ⟨.ready,none,fn,ps.toArray,asn,bd⟩ (qqj n af.tm)]) (first++[.opq H.length]++caps) (ranq Q af H.length)):VI P none n m (.rng g ps a b) Q af H:=by
 intro c hc
 cases c<;>simp only[qcl] at hc
 case rangeFunc g' ps' asn bd =>
  split at hc
  ·rename_i z x y hz hx hy
   simp only[Option.some.injEq,IC.rng.injEq] at hc
   obtain⟨rfl,rfl,rfl,rfl⟩:=hc
   intro w M G act hst hr
   refine wpIn_rangeFunc fun fn _=>?_
   have hcall:=h fn asn bd hx hy
   rw[Array.toArray_toList] at hcall
   -- the record
   obtain⟨w₁,henter,hh,hos,htp,hou⟩:∃w₁:World,(Instr.enterLoop fn act.tmps ps' asn bd none).run P w=.ok (w.heap.size+1,[{ target:=.collected w.heap.size,args:=#[] }]) w₁ ∧
    w₁.heap=(w.heap.push (.deferred (some []))).push (.loop { state:=.ready,pending:=none,fn,tmps:=act.tmps,params:=ps',assign:=asn,body:=bd,defers:=w.heap.size })∧w₁.os=w.os∧w₁.tape=w.tape∧w₁.output=w.output :=
    ⟨_,run_enterLoop_outer (P:=P) (w:=w) fn act.tmps ps' asn bd,rfl,rfl,rfl,rfl⟩
   obtain⟨gh,hgb,hgc,hgv,hgf⟩:∃gh:Gh,gh.blk=w.heap.size+1∧gh.cap=w.heap.size∧gh.val=.func (.yield (w.heap.size+1)) #[] #[]∧∀b,gh.fp b↔b=w.heap.size+1∨b=w.heap.size :=
    ⟨{ blk:=w.heap.size+1,cap:=w.heap.size,val:=.func (.yield (w.heap.size+1)) #[] #[],fp:=fun b=>b=w.heap.size+1∨b=w.heap.size },rfl,rfl,rfl,fun _=>Iff.rfl⟩
   have hsz:w₁.heap.size=w.heap.size+2:=by rw[hh];simp
   have hold:∀b,b<w.heap.size->w₁.heap[b]?=w.heap[b]?:=fun b hb=>by
    rw[hh,Array.getElem?_push,if_neg (by simp;omega),Array.getElem?_push,if_neg (by omega)]
   have h0:w₁.heap[w.heap.size]?=some (.deferred (some [])):=by rw[hh,Array.getElem?_push,if_neg (by simp),Array.getElem?_push,if_pos rfl]
   have h1:w₁.heap[w.heap.size+1]?=some (.loop { state:=.ready,pending:=none,fn,tmps:=act.tmps,params:=ps',assign:=asn,body:=bd,defers:=w.heap.size }):=by rw[hh,Array.getElem?_push,if_pos (by simp)]
   have hext:Ext w M G w₁ M (G++[gh]):=qfz (w':=w₁) hst hos htp hou (by omega) hold (fun _ _ h=>h) (fun _ _ h=>.inl h) (fun b hb=>by rcases(hgf b).1 hb with rfl | rfl<;>omega)
   have hst₁:St w₁ M (G++[gh]) (H++[.lp ⟨.ready,none,fn,ps',asn,bd⟩ (qqj n af.tm)]) :=
    qg8 hst (by omega) hold (fun _ _ h=>h) (fun _ _ h=>.inl h) (fun b o hm=>by have:=hst.Mlt b o hm;omega) (fun b hb=>by rcases(hgf b).1 hb with rfl | rfl<;>omega)
     ⟨fun b=>by rw[hgf,hgb,hgc],⟨act.tmps.toList,by rw[hgb,h1,hgc,Array.toArray_toList],(q60 hr).ext hext⟩,by rw[hgc];exact h0,by rw[hgv,hgb],fun o hm=>by have:=hst.Mlt _ o hm;omega,fun o hm=>by have:=hst.Mlt _ o hm;omega⟩
   have hgl:(G++[gh])[H.length]?=some gh:=by rw[←hst.len];simp
   -- the function
   have hfv:=qn hz hr
   rw[hg] at hfv
   obtain⟨xs,ys,hx1,hy1,hfe⟩:=hfv
   have hargs:VRs w₁ M (G++[gh]) (first++[.opq H.length]++caps) (xs++[.func (.yield (w.heap.size+1)) #[] #[]]++ys) :=
    qbu (qbu (hx1.ext hext) ⟨_,[],rfl,⟨gh,hgl,hgv.symm,by rw[hgv];rfl⟩,rfl⟩) (hy1.ext hext)
   have hc2:=hcall.2 w₁ M (G++[gh]) _ hst₁ hargs
   refine⟨w.heap.size+1,[{ target:=.collected w.heap.size,args:=#[] }],w₁,{ target:=.fn (.func f) ys.toArray,args:=xs.toArray ++ #[.func (.yield (w.heap.size+1)) #[] #[]] },w₁,f,
    (xs++[Value.func (.yield (w.heap.size+1)) #[] #[]]++ys).toArray,w₁,henter,?_,fun _ _=>trivial,?_,fun hh=>(by cases hh),?_⟩
   ·simp only[resolve,rangeCall,hfe,List.map_toArray,List.map_cons,List.map_nil]
    rfl
   ·simp only[invoke]
    rw[qk8 hcall.1]
    simp
   ·apply qkq
    refine CallsIn.mono hc2 fun e w' ho=>?_
    cases e with
    | outgrown=>exact ho.elim
    | panicked ch =>
      obtain⟨M',G',H',v,x,q1,q2,q3,q4,rfl⟩:=ho
      have hx:=hext.trans q2
      obtain⟨gh',hg',hcore⟩:=q2.core _ _ hgl
      exact⟨.pan v,_,M',G',H',q1,⟨x,rfl,q4⟩,hx.toM,q3,hr.size,⟨gh',act.defers,by rw[(qce hcore).2.1,hgc];rfl,hg',qkc hx.core hx.le hr.defers⟩,fun t=>(hr.rd t).ext hx⟩
    | returned x =>
      obtain⟨M',G',H',v,q1,q2,q3,q4⟩:=ho
      obtain⟨gh',hg',hcore⟩:=q2.core _ _ hgl
      obtain⟨hcb,hcc,hcv⟩:=qce hcore
      have fin:∀{d:LpD} {as:List AV} {d':LpD},ent H' H.length=.lp d as->d.st≠.busy->d'={ d with st:=.exhausted }->∃w₄,(Instr.endLoop (w.heap.size+1)).run P w'=.ok d.jmp w₄ ∧
       ∀ve e,Q ve ⟨af.tm,.mark H.length::af.dl⟩ (H'.set H.length (.lp d' as))->qbbg w₄ M' G' ve e->VPost Q n m w M G e { act with defers:=[{ target:=.collected w.heap.size,args:=#[] }]++act.defers } w₄:=by
       intro d as d' he hb hd'
       subst hd'
       obtain⟨vs,r1,r2,r3,r4⟩:=qrf q3 hg' (qti he) { d with st:=.exhausted } rfl rfl rfl rfl
       have hx:=(hext.trans q2).trans r4
       refine⟨_,?_,fun ve e hQ hE=>⟨ve,_,M',G',_,hQ,hE,hx.toM,r3,hr.size,⟨gh',act.defers,?_,hg',qkc hx.core hx.le hr.defers⟩,fun t=>(hr.rd t).ext hx⟩⟩
       ·have hblk:gh'.blk=w.heap.size+1:=hcb.trans hgb
        rw[hblk] at r1 ⊢
        exact run_endLoop r1 hb
       ·rw[hcc,hgc];rfl
      simp only[ranq] at q1
      split at q1
      ·rename_i fn' ps'' a' b' as' he
       obtain⟨w₄,r1,r2⟩:=fin he (by simp) rfl
       exact⟨none,w₄,r1,r2 .nrm .normal q1 rfl⟩
      ·rename_i fn' ps'' a' b' as' he
       obtain⟨w₄,r1,r2⟩:=fin he (by simp) rfl
       exact⟨some .ret,w₄,r1,wpIn_ret (r2 .ret .ret q1 rfl)⟩
      ·rename_i id fn' ps'' a' b' as' he
       obtain⟨w₄,r1,r2⟩:=fin he (by simp) rfl
       exact⟨some (.exit id),w₄,r1,wpIn_exit (r2 (.ext id) (.exit id) q1 rfl)⟩
      ·exact q1.elim
  ·cases hc
 all_goals(exfalso;(repeat' split at hc)<;>simp at hc)
end

/-! ### What every value that is there obeys -/

mutual
def AV.wf:AV->Prop
 | .int k n=>(Lit.int k n).wf=true
 | .str l=>l.length≤maxLen
 | .sl _ es=>es.length≤maxLen∧AV.wfs es
 | .lit _ es=>es.length≤maxLen∧AV.wfs es
 | .eptr _ es _ _=>es.length≤maxLen∧AV.wfs es
 | .agg cs=>AV.wfs cs
 | .tup cs=>AV.wfs cs
 | .fn _ a b=>AV.wfs a∧AV.wfs b
 | .iface _ v=>v.wf
 | .bool _ | .nilp | .nilf | .nili | .nils | .nilm | .ptr _ _ | .row _ _ | .rptr _ _ _ _ | .vw _ _ _ _ | .opq _ | .junk=>True
def AV.wfs:List AV->Prop
 | []=>True
 | v::r=>v.wf∧AV.wfs r
end
def VO.wf:VO->Prop
 | .val v=>v.wf
 | .pan v=>v.wf
theorem q81(l:List AV):AV.wfs l↔∀v∈l,v.wf:=by
 induction l with
 | nil=>simp[AV.wfs]
 | cons v r ih=>simp[AV.wfs,ih]

section
variable {w:World} {M:Nat->Nat->Prop} {G:List Gh}
theorem qrg{n:Nat}{us:List Value}{a:Option Addr}{cap:Nat}(h:SlOK w M n us a cap):us.length≤maxLen:=Nat.le_trans h.1 h.2.1
mutual
theorem qbdn:∀(v:AV) (x:Value),VR w M G v x->v.wf
 | .bool _,x,h=>trivial
 | .int _ _,x,h=>h.2
 | .str _,x,h=>h.2
 | .nilp,x,h=>trivial
 | .nilf,x,h=>trivial
 | .nili,x,h=>trivial
 | .nils,x,h=>trivial
 | .nilm,x,h=>trivial
 | .junk,x,h=>trivial
 | .agg cs,x,h=>by obtain⟨vs,_,h⟩:=h;exact qjx cs vs h
 | .tup cs,x,h=>by obtain⟨vs,_,h⟩:=h;exact qjx cs vs h
 | .sl n es, x, h => by
   obtain⟨a,cap,us,h1,h2,_⟩:=h
   exact⟨by rw[←qh h1];exact qrg h2,qjx es us h1⟩
 | .lit n es, x, h => by
   obtain⟨a,us,h1,h2,_⟩:=h
   exact⟨by rw[←qh h1];exact qrg h2,qjx es us h1⟩
 | .ptr i off,x,h=>trivial
 | .row i len,x,h=>trivial
 | .eptr n es q off, x, h => by
   obtain⟨a,cap,us,h1,h2,_⟩:=h
   exact⟨by rw[←qh h1];exact qrg h2,qjx es us h1⟩
 | .rptr i n q off,x,h=>trivial
 | .vw i off len cap,x,h=>trivial
 | .fn f first caps, x, h => by
   obtain⟨xs,ys,h1,h2,_⟩:=h
   exact⟨qjx first xs h1,qjx caps ys h2⟩
 | .opq i,x,h=>trivial
 | .iface t v, x, h => by
   obtain⟨y,h1,_⟩:=h
   exact qbdn v y h1
theorem qjx:∀(vs:List AV) (xs:List Value),VRs w M G vs xs->AV.wfs vs
 | [],xs,h=>trivial
 | c :: cs, xs, h => by
   obtain⟨v,r,_,h1,h2⟩:=h
   exact⟨qbdn c v h1,qjx cs r h2⟩
end
end

theorem VCalls.mono'{P:Program}{f:FuncId}{H:List Ent}{args:List AV}{Q Q':List Ent->VO->Prop}(h:VCalls P f H args Q)(hq:∀H' o,o.wf->Q H' o->Q' H' o):VCalls P f H args Q' :=
 ⟨h.1,fun w M G vs hst hv=>CallsIn.mono (h.2 w M G vs hst hv) fun e w' he=>by
  cases e with
  | returned x=>obtain⟨M',G',H',v,h1,h2,h3,h4⟩:=he;exact⟨M',G',H',v,hq _ _ (qbdn v x h4) h1,h2,h3,h4⟩
  | panicked c=>obtain⟨M',G',H',v,x,h1,h2,h3,h4,h5⟩:=he;exact⟨M',G',H',v,x,hq _ _ (qbdn v x h4) h1,h2,h3,h4,h5⟩
  | outgrown=>exact he⟩

theorem qha{P:Program}{f:FuncId}{H:List Ent}{args:List AV}{Q:List Ent->VO->Prop}(ho:okF P f=true)(h:AV.wfs args->VCalls P f H args Q):VCalls P f H args Q :=
 ⟨ho,fun w M G vs hst hv=>(h (qjx args vs hv)).2 w M G vs hst hv⟩

/-! ### A state said with less, by lists -/

def qex(H:List Ent)(sel:List Nat)(k:Nat):List Ent->List Nat->Prop
 | [],[]=>True
 | .dead::r,i::is=>i<H.length∧qex H sel k r is
 | e::r,i::is=>(i<H.length∧e.bd k=true∧ent H i=e.ren (sg sel))∧qex H sel k r is
 | _,_=>False
def tmOK(tm:List (Nat×AV))(sel:List Nat)(k:Nat):List (Nat×AV)->Prop
 | []=>True
 | (t,v)::r=>(v.bd k=true∧get tm t=v.ren (sg sel))∧tmOK tm sel k r
def dlOK(sel:List Nat)(k:Nat):List AD->List AD->Prop
 | [],[]=>True
 | d::r,d'::r'=>(d'.bd k=true∧d=d'.ren (sg sel))∧dlOK sel k r r'
 | _,_=>False

section
variable {P:Program} {fr:Option Nat} {n m:Nat} {Q Q':VE->AF->List Ent->Prop} {af af':AF} {H H':List Ent} {a b:IC}

theorem qbv{sel:List Nat}{k:Nat}:∀{l:List Ent} {is:List Nat},qex H sel k l is->l.length=is.length∧∀(j:Nat) (e:Ent) (i:Nat),l[j]?=some e->is[j]?=some i->i<H.length∧(e=.dead∨(e.bd k=true∧H[i]?=some (e.ren (sg sel))))
 | [],[],_=>⟨rfl,fun j e i h=>by simp at h⟩
 | [],i::is,h=>h.elim
 | e::r,[],h=>by cases e<;>exact h.elim
 | .dead :: r, i :: is, h => by
   obtain⟨h1,h2⟩:=h
   obtain⟨h3,h4⟩:=qbv h2
   refine⟨by simp[h3],fun j e i' he hi=>?_⟩
   cases j with
   | zero=>simp at he hi;subst he hi;exact⟨h1,.inl rfl⟩
   | succ j=>exact h4 j e i' (by simpa using he) (by simpa using hi)
 | .blk cs :: r, i :: is, h => by
   obtain⟨⟨h0,h1,h5⟩,h2⟩:=h
   obtain⟨h3,h4⟩:=qbv h2
   refine⟨by simp[h3],fun j e i' he hi=>?_⟩
   cases j with
   | zero=>simp at he hi;subst he hi;exact⟨h0,.inr ⟨h1,qbj h5 (by simp[Ent.ren])⟩⟩
   | succ j=>exact h4 j e i' (by simpa using he) (by simpa using hi)
 | .app q es :: r, i :: is, h => by
   obtain⟨⟨h0,h1,h5⟩,h2⟩:=h
   obtain⟨h3,h4⟩:=qbv h2
   refine⟨by simp[h3],fun j e i' he hi=>?_⟩
   cases j with
   | zero=>simp at he hi;subst he hi;exact⟨h0,.inr ⟨h1,qbj h5 (by simp[Ent.ren])⟩⟩
   | succ j=>exact h4 j e i' (by simpa using he) (by simpa using hi)
 | .mrow q es :: r, i :: is, h => by
   obtain⟨⟨h0,h1,h5⟩,h2⟩:=h
   obtain⟨h3,h4⟩:=qbv h2
   refine⟨by simp[h3],fun j e i' he hi=>?_⟩
   cases j with
   | zero=>simp at he hi;subst he hi;exact⟨h0,.inr ⟨h1,qbj h5 (by simp[Ent.ren])⟩⟩
   | succ j=>exact h4 j e i' (by simpa using he) (by simpa using hi)
 | .lp d as :: r, i :: is, h => by
   obtain⟨⟨h0,h1,h5⟩,h2⟩:=h
   obtain⟨h3,h4⟩:=qbv h2
   refine⟨by simp[h3],fun j e i' he hi=>?_⟩
   cases j with
   | zero=>simp at he hi;subst he hi;exact⟨h0,.inr ⟨h1,qbj h5 (by simp[Ent.ren])⟩⟩
   | succ j=>exact h4 j e i' (by simpa using he) (by simpa using hi)
 | .cus R :: r, i :: is, h => by
   obtain⟨⟨h0,h1,h5⟩,h2⟩:=h
   obtain⟨h3,h4⟩:=qbv h2
   refine⟨by simp[h3],fun j e i' he hi=>?_⟩
   cases j with
   | zero=>simp at he hi;subst he hi;exact⟨h0,.inr ⟨h1,qbj h5 (by simp[Ent.ren])⟩⟩
   | succ j=>exact h4 j e i' (by simpa using he) (by simpa using hi)

theorem qt2{tm:List (Nat×AV)}{sel:List Nat}{k:Nat}:∀{l:List (Nat×AV)},tmOK tm sel k l->∀t,get l t=.junk∨((get l t).bd k=true∧get tm t=(get l t).ren (sg sel))
 | [],_,t=>.inl rfl
 | (s, v) :: r, h, t => by
   obtain⟨⟨h1,h2⟩,h3⟩:=h
   simp only[get]
   by_cases hst:s=t
   ·subst hst;rw[if_pos rfl];exact .inr ⟨h1,h2⟩
   ·rw[if_neg hst];exact qt2 h3 t

theorem qut{sel:List Nat}{k:Nat}:∀{l l':List AD},dlOK sel k l l'->(∀d∈l',d.bd k=true)∧l=l'.map (AD.ren (sg sel))
 | [],[],_=>⟨fun d h=>(by cases h),rfl⟩
 | [],d::r,h=>h.elim
 | d::r,[],h=>h.elim
 | d :: r, d' :: r', h => by
   obtain⟨⟨h1,h2⟩,h3⟩:=h
   obtain⟨h4,h5⟩:=qut h3
   refine⟨fun x hx=>?_,by rw[List.map_cons,←h5,←h2]⟩
   rcases List.mem_cons.1 hx with rfl | hx
   ·exact h1
   ·exact h4 x hx

def qbcj(m:Nat)(sel:List Nat):Prop:=sel.take m=List.range m

theorem qrx(sel:List Nat)(hf:qbcj m sel)(hn:sel.Nodup)(he:qex H sel H'.length H' sel)(ht:tmOK af.tm sel H'.length af'.tm)(hd:dlOK sel H'.length af.dl af'.dl):Wk m af H af' H':=by
 obtain⟨h1,h2⟩:=qbv he
 obtain⟨h3,h4⟩:=qut hd
 have hml:m≤sel.length:=by
  have:=congrArg List.length hf
  simp at this;omega
 refine⟨sg sel,fun i hi=>?_,by omega,fun i j hi hj e=>?_,fun j e hj=>?_,fun j hj=>?_,qt2 ht,h3,h4⟩
 ·have h5:(sel.take m)[i]?=some i:=by rw[hf];simp[hi]
  rw[List.getElem?_take_of_lt hi,qe8 (by omega)] at h5
  simpa using h5
 ·have h1:=qe8 (sel:=sel) (j:=i) (by omega)
  have h2:=qe8 (sel:=sel) (j:=j) (by omega)
  rw[e,←h2] at h1
  exact(List.getElem?_inj (by omega) hn).1 h1
 ·have hj':=(List.getElem?_eq_some_iff.1 hj).1
  exact(h2 j e _ hj (qe8 (by omega))).2
 ·exact(h2 j _ _ (List.getElem?_eq_getElem hj) (qe8 (by omega))).1

theorem qg{S:Type}{Inv:S->Prop}{st:S->AF×List Ent}(s:S)(sel:List Nat)(hs:Inv s)(hf:qbcj m sel)(hn:sel.Nodup)(he:qex H sel (st s).2.length (st s).2 sel)(ht:tmOK af.tm sel (st s).2.length (st s).1.tm)
 (hd:dlOK sel (st s).2.length af.dl (st s).1.dl):At S Inv st m af H:=⟨s,hs,qrx sel hf hn he ht hd⟩
end

/-! ### Functions -/

inductive RV where
 | t (n:Nat)
 | c (agg:Bool) (n a:Nat)

def cRes(P:Program):List ResultVar->List TypeId->Option (List (RV×Co))
 | [],_=>some []
 | .tmp t :: r, ts => match cRes P r ts.tail with
   | some l=>some ((.t t,match ts.head? with | some t=>coT P t | none=>.id)::l)
   | none=>none
 | .cell a t :: r, ts => match aggT P t, qb5 P t, cRes P r ts.tail with
   | some g,some n,some l=>some ((.c g n a,match ts.head? with | some t=>coT P t | none=>.id)::l)
   | _,_,_=>none

def cFun(P:Program)(f:FuncId):Option (Nat×IC×List (RV×Co)) :=
 match P.funcs[f]? with
 | some fn => if fn.name == "runtime.NumGoroutine" then none else match fn.body with
   | some c => match qcl P fn.ntmps c, cRes P fn.results.toList fn.resultTypes.toList with
     | some ic,some rs=>some (fn.ntmps,ic,rs)
     | _,_=>none
   | none=>none
 | none=>none

def qh4(af:AF)(H:List Ent):List (RV×Co)->Rs (List AV)
 | []=>.ret []
 | (.t t,c)::r=>(qh4 af H r).map fun l=>co H c (get af.tm t)::l
 | (.c g n a, c) :: r => match ldv g n H (get af.tm a) with
   | .ret v=>(qh4 af H r).map fun l=>co H c v::l
   | .req p (.ret v)=>.req p ((qh4 af H r).map fun l=>co H c v::l)
   | .req p (.req q (.ret v))=>.req p (.req q ((qh4 af H r).map fun l=>co H c v::l))
   | _=>.bad
def one:List AV->AV
 | [v]=>v
 | l=>.tup l

def fin(k:Nat)(Q:List Ent->VO->Prop)(H:List Ent)(o:VO):Prop :=
 k≤H.length∧(H.take k).all (Ent.bd k)=true∧o.bd k=true∧Q (H.take k) o

def dlq:List AD->List Ent->(List Ent->Prop)->Prop
 | [],H,K=>K H
 | .mark i :: l, H, K => match ent H i with
   | .lp _ _=>dlq l (H.set i .dead) K
   | _=>False
 | .dfr _ _::_,_,_=>False

def retk(k:Nat)(rs:List (RV×Co))(Q:List Ent->VO->Prop)(af:AF)(H:List Ent):Prop :=
 (qh4 af H rs).bnd fun l=>fin k Q H (.val (one l))
def pank(k:Nat)(Q:List Ent->VO->Prop)(v:AV)(H:List Ent):Prop:=fin k Q H (.pan v)

def retq(k:Nat)(rs:List (RV×Co))(Q:List Ent->VO->Prop):VE->AF->List Ent->Prop
 | .nrm,af,H | .ret,af,H=>dlq af.dl H (retk k rs Q af)
 | .pan v,af,H=>dlq af.dl H (pank k Q v)
 | _,_,_=>False

theorem qlk{K K':List Ent->Prop}(h:∀H,K H->K' H):∀{l:List AD} {H:List Ent},dlq l H K->dlq l H K'
 | [],H,hq=>h H hq
 | .mark i :: l, H, hq => by
   simp only[dlq] at hq ⊢
   split at hq
   ·exact qlk h hq
   ·exact hq.elim
 | .dfr _ _::_,_,hq=>hq.elim

def qev:Nat->List AV->List (Nat×AV)
 | _,[]=>[]
 | i,a::r=>(i,a)::qev (i+1) r

section
variable {P:Program} {w:World} {M:Nat->Nat->Prop} {G:List Gh} {n m:Nat} {af:AF} {H:List Ent} {a:Act}

mutual
theorem AV.ren_id:∀v:AV,v.ren id=v
 | .bool _ | .int _ _ | .str _ | .nilp | .nilf | .nili | .nils | .nilm | .junk | .ptr _ _ | .row _ _ | .rptr _ _ _ _ | .vw _ _ _ _ | .opq _=>rfl
 | .agg cs | .tup cs | .sl _ cs | .lit _ cs | .eptr _ cs _ _=>by simp only[AV.ren,AV.rens_id cs]
 | .fn f a b=>by simp only[AV.ren,AV.rens_id a,AV.rens_id b]
 | .iface t v=>by simp only[AV.ren,AV.ren_id v]
theorem AV.rens_id:∀l:List AV,AV.rens id l=l
 | []=>rfl
 | v::r=>by simp only[AV.rens,AV.ren_id v,AV.rens_id r]
end
theorem Ent.ren_id(e:Ent):e.ren id=e:=by cases e<;>simp only[Ent.ren,AV.rens_id]

theorem qig(hst:St w M G H)(hr:RelF w M G n af a):∀{rs:List ResultVar} {ts:List TypeId} {l:List (RV×Co)} {K:List AV->Prop},cRes P rs ts=some l->(qh4 af H l).bnd K →
 ∃vs xs,K vs∧VRs w M G vs xs∧(rs.mapM (m:=Sem) fun | .tmp t=>pure (a.tmps.getD t undef) | .cell q t=>do loadVar t (←asAddr (a.tmps.getD q undef))).run P w=.ok xs w
 | [], ts, l, K, hc, h => by
   simp only[cRes,Option.some.injEq] at hc;subst hc
   exact⟨[],[],h,rfl,rfl⟩
 | .tmp t :: r, ts, l, K, hc, h => by
   simp only[cRes] at hc
   split at hc
   ·rename_i l' hl
    simp only[Option.some.injEq] at hc;subst hc
    simp only[qh4] at h
    rw[qb2] at h
    obtain⟨vs,xs,h1,h2,h3⟩:=qig hst hr hl h
    refine⟨_,_,h1,⟨_,_,rfl,qdo hst _ _ _ (hr.rd t),h2⟩,?_⟩
    simp only[List.mapM_cons,Sem.run_bind,Sem.run_pure,Result.andThen_ok,h3]
   ·cases hc
 | .cell q t :: r, ts, l, K, hc, h => by
   simp only[cRes] at hc
   split at hc
   ·rename_i g k l' hg hk hl
    simp only[Option.some.injEq] at hc;subst hc
    have hld:∃v:AV,(ldv g k H (get af.tm q)).bnd (fun u=>u=v)∧((qh4 af H l').map fun l=>co H (match ts.head? with | some t=>coT P t | none=>.id) v::l).bnd K:=by
     simp only[qh4] at h
     split at h
     ·rename_i v hv;exact⟨v,by rw[hv];rfl,h⟩
     ·rename_i p v hv;exact⟨v,by rw[hv];exact⟨h.1,rfl⟩,h.2⟩
     ·rename_i p p' v hv;exact⟨v,by rw[hv];exact⟨h.1,h.2.1,rfl⟩,h.2.2⟩
     ·exact h.elim
    obtain⟨v,hv,h⟩:=hld
    rw[qb2] at h
    obtain⟨vs,xs,h1,h2,h3⟩:=qig hst hr hl h
    obtain⟨u,x,q1,q2,q3⟩:=qrs (P:=P) (t:=t) hst hg hk (hr.rd q) hv
    subst q1
    have hsp:(do loadVar t (←asAddr (a.tmps.getD q undef)):Sem Value).run P w=.ok x w:=by
     have hrd:=hr.rd q
     cases hp:get af.tm q<;>rw[hp] at hv hrd<;>simp only[ldv,Rs.bnd] at hv
     ·obtain⟨g',_,hx⟩:=hrd
      rw[hx] at q3 ⊢
      rw[qcr] at q3
      simp only[Sem.run_bind,asAddr,Sem.run_pure,Result.andThen_ok];exact q3
     ·obtain⟨ad,cap,us,_,hsl,_,hx⟩:=hrd
      rw[hx] at q3 ⊢
      rw[qcr] at q3
      simp only[Sem.run_bind,asAddr,Sem.run_pure,Result.andThen_ok];exact q3
     ·obtain⟨g',_,hx⟩:=hrd
      rw[hx] at q3 ⊢
      rw[qcr] at q3
      simp only[Sem.run_bind,asAddr,Sem.run_pure,Result.andThen_ok];exact q3
    refine⟨_,_,h1,⟨_,_,rfl,qdo hst _ _ _ q2,h2⟩,?_⟩
    simp only[Sem.run_bind] at hsp
    simp only[List.mapM_cons,Sem.run_bind,hsp,Result.andThen_ok,h3,Sem.run_pure]
   ·cases hc

theorem qve{fn:Func}{l:List (RV×Co)}{K:List AV->Prop}(hst:St w M G H)(hr:RelF w M G n af a)(hc:cRes P fn.results.toList fn.resultTypes.toList=some l)(h:(qh4 af H l).bnd K):
 ∃vs x,K vs∧VR w M G (one vs) x∧(results fn a.tmps).run P w=.ok x w:=by
 obtain⟨vs,xs,h1,h2,h3⟩:=qig hst hr hc h
 have hm:(fn.results.mapM (m:=Sem) fun | .tmp t=>pure (a.tmps.getD t undef) | .cell q t=>do loadVar t (←asAddr (a.tmps.getD q undef))).run P w=.ok xs.toArray w:=by
  rw[←Array.toArray_toList (xs:=fn.results)]
  rw[List.mapM_toArray]
  simp only[Sem.run_map,h3]
  rfl
 have hl:=qh h2
 refine⟨vs,(if h:xs.toArray.size=1 then xs.toArray[0] else .tuple xs.toArray),h1,?_,?_⟩
 ·match vs,h2 with
  | [],h2=>simp only[VRs] at h2;subst h2;exact⟨[],by simp,rfl⟩
  | [v], h2 =>
    obtain⟨x,r,rfl,h4,h5⟩:=h2
    simp only[VRs] at h5;subst h5
    exact h4
  | v :: v' :: r, h2 =>
    have:xs.toArray.size≠1:=by simp at hl ⊢;omega
    rw[dif_neg this]
    exact⟨xs,rfl,h2⟩
 ·simp only[results,Sem.run_bind]
  erw [hm]
  simp only[Result.andThen_ok,Sem.run_pure]

theorem qny{k:Nat}{Q:List Ent->VO->Prop}{o:VO}(hst:St w M G H)(h:fin k Q H o)(hm:m≤k):∃G',ExtM m w M G w M G'∧St w M G' (H.take k)∧Q (H.take k) o∧∀(v:AV) (x:Value),v.bd k=true->VR w M G v x->VR w M G' v x:=by
 obtain⟨h1,h2,h3,h4⟩:=h
 have hl:(H.take k).length=k:=by rw[List.length_take];omega
 have key:=qi7 (n:=0) (m:=m) (σ:=id) (af:=⟨[],[]⟩) (H':=H.take k) (af':=⟨[],[]⟩) (a:={ tmps:=#[],defers:=[] }) hst ⟨rfl,rfl,fun t=>trivial⟩
  ⟨fun i _=>rfl,by omega,fun i j _ _ e=>e,fun j e he=>.inr ⟨by rw[hl];exact(List.all_eq_true.1 h2) e (List.mem_of_getElem? he),by
   rw[Ent.ren_id]
   have hj:=(List.getElem?_eq_some_iff.1 he).1
   rw[List.getElem?_take_of_lt (by omega)] at he
   exact he⟩,fun j hj=>by simp only[id];omega,fun t=>.inl rfl,fun d hd=>(by cases hd),rfl⟩
 refine⟨_,key.1,key.2.1,h4,fun v x hb hv=>?_⟩
 have hv':VR w M G (v.ren id) x:=by rw[AV.ren_id];exact hv
 refine q1u (σ:=id) (k:=k) (fun i g hi hg=>?_) v x hb hv'
 have hi':i<(H.take k).length:=by omega
 have hq:=qnf id G (H.take k) 0 i _ (List.getElem?_eq_getElem hi')
 rw[Nat.zero_add] at hq
 have hg':G.getD (id i) {}=g:=by rw[List.getD_eq_getElem?_getD,hg];rfl
 rw[hg'] at hq
 refine⟨_,hq,?_⟩
 split<;>rfl

theorem qgd:∀{args:List AV} {i t:Nat},get (qev i args) t=if i≤t then args.getD (t-i) .junk else .junk
 | [],i,t=>by simp[qev,get]
 | a :: r, i, t => by
   simp only[qev,get]
   by_cases h:i=t
   ·subst h;simp
   ·rw[if_neg h,qgd]
    by_cases h2:i≤t
    ·rw[if_pos (by omega),if_pos h2]
     obtain⟨d,rfl⟩:∃d,t=i+1+d:=⟨t-i-1,by omega⟩
     rw[show i+1+d-(i+1)=d by omega,show i+1+d-i=d+1 by omega]
     rfl
    ·rw[if_neg (by omega),if_neg h2]
end

section
variable {P:Program} {f:FuncId} {n k:Nat} {ic:IC} {rs:List (RV×Co)} {H:List Ent} {args:List AV} {Q:List Ent->VO->Prop}

theorem qsi(h:cFun P f=some (n,ic,rs)):∃fn c,P.funcs[f]?=some fn∧fn.body=some c∧fn.ntmps=n∧qcl P n c=some ic∧cRes P fn.results.toList fn.resultTypes.toList=some rs∧okF P f=true:=by
 unfold cFun at h
 split at h
 ·rename_i fn hf
  split at h
  ·cases h
  ·rename_i hname
   split at h
   ·rename_i c hb
    split at h
    ·rename_i ic' rs' h1 h2
     simp only[Option.some.injEq,Prod.mk.injEq] at h
     obtain⟨rfl,rfl,rfl⟩:=h
     exact⟨fn,c,hf,hb,rfl,h1,h2,by simp[okF,hf,hb];simpa using hname⟩
    ·cases h
   ·cases h
 ·cases h

theorem qqy{tm:List (Nat×AV)}{l l':List AD}{H:List Ent}:∀{rs:List (RV×Co)},qh4 ⟨tm,l⟩ H rs=qh4 ⟨tm,l'⟩ H rs
 | []=>rfl
 | (.t t,c)::r=>by simp only[qh4,qqy (rs:=r) (l:=l) (l':=l')]
 | (.c g n a,c)::r=>by simp only[qh4,qqy (rs:=r) (l:=l) (l':=l')]

theorem qe(hc:cFun P f=some (n,ic,rs))(k:Nat)(hk:H.length≤k)(hl:args.length≤n)(h:VI P none n H.length ic (retq k rs Q) ⟨qev 0 args,[]⟩ H):VCalls P f H args Q:=by
 obtain⟨fn,c,hf,hb,hn,hcode,hres,hok⟩:=qsi hc
 subst hn
 refine⟨hok,fun w M G vs hst hv=>callsIn_of_wp_marks hf hb trivial ?_⟩
 have hvl:=qh hv
 have hrel:RelF w M G fn.ntmps ⟨qev 0 args,[]⟩ { tmps:=vs.toArray++Array.replicate (fn.ntmps-vs.toArray.size) undef,defers:=[] }:=by
  refine⟨by simp;omega,rfl,fun t=>?_⟩
  simp only[qgd,Nat.zero_le,if_true,Nat.sub_zero]
  by_cases ht:t<args.length
  ·obtain⟨x,hx,hr⟩:=qde hv ht
   have:(vs.toArray++Array.replicate (fn.ntmps-vs.toArray.size) undef).getD t undef=x:=by
    rw[Array.getD_eq_getD_getElem?,Array.getElem?_append_left (by simp;omega)]
    simp[hx]
   rw[this];exact hr
  ·have:args.getD t .junk=.junk:=by rw[List.getD_eq_getElem?_getD,List.getElem?_eq_none (by omega)];rfl
   rw[this];trivial
 have hwp:=h c hcode w M G _ hst hrel
 have hfw:fw none=Fence.wide:=rfl
 rw[hfw] at hwp
 refine wpIn_mono hwp fun e a' w' hp=>?_
 obtain⟨ve,af',M',G',H',h1,h2,h3,h4,h5⟩:=hp
 have hlen:G.length=H.length:=hst.len
 -- the marks
 have leave:∀(l:List AD) (ds:List Deferred) (H₁:List Ent) (G₁:List Gh) (w₁:World) (mode:FrameMode) (K:List Ent->Prop),mode≠.run->DR w₁ M' G₁ l ds->ExtM H.length w M G w₁ M' G₁->St w₁ M' G₁ H₁->(∀t,VR w₁ M' G₁ (get af'.tm t) (a'.tmps.getD t undef))->dlq l H₁ K →
  (∀(H₂:List Ent) (G₂:List Gh) (w₂:World),K H₂->ExtM H.length w M G w₂ M' G₂->Ext w₁ M' G₁ w₂ M' G₂->St w₂ M' G₂ H₂->(∀t,VR w₂ M' G₂ (get af'.tm t) (a'.tmps.getD t undef))->LeavesIn Fence.wide 0 P fn a'.tmps (Out Q w M G) [] mode w₂) →
  LeavesInM Fence.wide 0 P fn a'.tmps (Out Q w M G) ds mode w₁:=by
  intro l
  induction l with
  | nil =>
    intro ds H₁ G₁ w₁ mode K hmo hd he hs hv hq hK
    simp only[DR] at hd;subst hd
    exact hK H₁ G₁ w₁ hq he (Ext.refl _ _ _) hs hv
  | cons d l ih =>
    intro ds H₁ G₁ w₁ mode K hmo hd he hs hv hq hK
    cases d with
    | dfr f args=>exact hq.elim
    | mark i =>
      obtain⟨g,r,rfl,hg,hd⟩:=hd
      simp only[dlq] at hq
      split at hq
      ·rename_i d as hen
       obtain⟨G₂,q1,q2,q3⟩:=qbt9 hs hg (qti hen)
       refine⟨hmo,.inl ⟨g.cap,_,rfl,run_takeDeferred q1,?_⟩⟩
       exact ih r _ G₂ _ mode K hmo (qkc q3.core q3.le hd) (he.trans q3.toM) q2 (fun t=>(hv t).ext q3) hq fun H₂ G₃ w₂ r1 r2 r3 r4 r5=>hK H₂ G₃ w₂ r1 r2 (q3.trans r3) r4 r5
      ·exact hq.elim
 have done:∀(hq:dlq af'.dl H' (retk k rs Q af')),LeavesInM Fence.wide 0 P fn a'.tmps (Out Q w M G) a'.defers .returning w':=fun hq=>by
  refine leave af'.dl a'.defers H' G' w' .returning _ (by simp) h5.defers h3 h4 h5.rd hq fun H₂ G₂ w₂ q1 q2 q3 q4 q5=>?_
  obtain⟨us,x,s1,s2,s3⟩:=qve (n:=fn.ntmps) (af:=⟨af'.tm,[]⟩) (a:={ tmps:=a'.tmps,defers:=[] }) q4 ⟨h5.size,rfl,q5⟩ hres (by rw[qqy (l':=af'.dl)];exact q1)
  obtain⟨G'',r1,r2,r3,r4⟩:=qny (m:=H.length) q4 s1 hk
  exact⟨x,s3,M',G'',_,_,r3,(hlen ▸ (q2.trans r1)).toExt,r2,r4 _ _ s1.2.2.1 s2⟩
 cases ve with
 | nrm=>have h2:e=.normal:=h2;subst h2;exact done h1
 | ret=>have h2:e=.ret:=h2;subst h2;exact done h1
 | pan v =>
   obtain⟨x,rfl,hx⟩:=h2
   refine leave af'.dl a'.defers H' G' w' _ _ (by simp) h5.defers h3 h4 h5.rd h1 fun H₂ G₂ w₂ q1 q2 q3 q4 q5=>?_
   obtain⟨G'',r1,r2,r3,r4⟩:=qny (m:=H.length) q4 q1 hk
   exact⟨M',G'',_,_,x,r3,(hlen ▸ (q2.trans r1)).toExt,r2,r4 _ _ q1.2.2.1 (hx.ext q3),rfl⟩
 | ext i=>exact h1.elim
 | gto l=>exact h1.elim

def qj(P:Program)(f:FuncId)(args:List AV)(r:AV):Prop :=
 VCalls P f [] args (fun H' o=>H'=[]∧o=.val r)∧AV.bds 0 args=true∧r.bd 0=true

theorem qhp(k:Nat)(l r:List AV):AV.bds k (l++r)=(AV.bds k l&&AV.bds k r):=by
 rw[qc2,qc2,qc2,List.all_append]

theorem qd{r:AV}(hc:cFun P f=some (n,ic,rs))(hl:args.length≤n)(ha:AV.bds 0 args=true)(hr:r.bd 0=true)(h:AV.wfs args->VI P none n 0 ic (retq 0 rs fun H' o=>o=.val r) ⟨qev 0 args,[]⟩ []):qj P f args r:=by
 obtain⟨_,_,_,_,_,_,_,hok⟩:=qsi hc
 exact⟨qha hok fun hw=>qe hc 0 (Nat.le_refl _) hl ((h hw).mono fun e af H hq=>by
  cases e<;>simp only[retq] at hq ⊢
  ·exact qlk (fun H=>by simp only[retk,fin,List.take_zero,true_and];exact id) hq
  ·exact qlk (fun H=>by simp only[retk,fin,List.take_zero,true_and];exact id) hq
  ·exact qlk (fun H=>by simp only[pank,fin,List.take_zero,true_and];exact id) hq),ha,hr⟩

theorem qvm{r:AV}(h:qj P f args r)(hq:r.wf->Q H (.val r)):VCalls P f H args Q:=by
 have h1:=h.1.mono' (Q':=fun H' o=>(H'=[]∧o=.val r)∧r.wf) fun H' o hw ho=>⟨ho,by have:=ho.2;subst this;exact hw⟩
 have:=qor (H:=H) [] (Q':=Q) h1 List.nodup_nil (by simp) rfl (by simp) h.2.1 (fun H1 o ho=>by
  obtain⟨⟨rfl,rfl⟩,hwf⟩:=ho
  simp only[qbq,List.take_nil,List.map_nil,List.drop_nil,List.append_nil,VO.ren]
  rw[ren_same (m:=0) (fun i hi=>by omega) r h.2.2]
  exact hq hwf)
 rwa [qp (m:=0) (fun i hi=>by omega) args h.2.1] at this

theorem q3z{r:AV}{first caps:List AV}(h:qj P f (first++args++caps) r)(hq:r.wf->Q H (.val r)):VApp P H (.fn f first caps) args Q:=qcj (qvm h hq)
theorem qa{r:AV}(h:qj P f args r)(hq:r.wf->Q H (.val r)):VApp P H (.fn f [] []) args Q:=q3z (by simpa using h) hq
end

def runE(P:Program)(Q:VE->AF->List Ent->Prop):List GI->AF->List Ent->Prop
 | [],af,H=>Q .nrm af H
 | ⟨none,d,i⟩::r,af,H=>doD P af H i fun _ v H'=>runE P Q r (put af d v) H'
 | ⟨some (t,b),d,i⟩::r,af,H=>gd (get af.tm t) b (doD P af H i fun _ v H'=>runE P Q r (put af d v) H') (runE P Q r (put af d (.tup [])) H)

def noUs:List (GI×List Nat)->Bool
 | []=>true
 | (_,us)::r=>us.isEmpty&&noUs r

theorem qyk{P:Program}{af:AF}{H:List Ent}{i:I}{K K':Md->AV->List Ent->Prop}(h:doD P af H i K)(hk:∀t v H',K t v H'->K' t v H'):doD P af H i K':=by
 cases i with
 | call f l =>
   rcases h with ⟨r,h1,h2⟩ | ⟨r,h1,h2⟩ | ⟨r,k,e,e',h1,h2⟩ | ⟨k,e',ln,h1,h2⟩ | ⟨e',h1,h2⟩ | ⟨k,e,e',c,h1,h2⟩
   ·exact .inl ⟨r,h1,hk _ _ _ h2⟩
   ·exact .inr (.inl ⟨r,h1,hk _ _ _ h2⟩)
   ·exact .inr (.inr (.inl ⟨r,k,e,e',h1,hk _ _ _ h2⟩))
   ·exact .inr (.inr (.inr (.inl ⟨k,e',ln,h1,hk _ _ _ h2⟩)))
   ·exact .inr (.inr (.inr (.inr (.inl ⟨e',h1,hk _ _ _ h2⟩))))
   ·exact .inr (.inr (.inr (.inr (.inr ⟨k,e,e',c,h1,hk _ _ _ h2⟩))))
 | _=>exact qhu (fun p hp=>hk _ _ _ hp) h

theorem qfv{P:Program}{Q:VE->AF->List Ent->Prop}:∀{l:List (GI×List Nat)} {acc:List FP} {af:AF} {H:List Ent},noUs l=true->runE P Q (l.map (·.1)) af H->runD P Q acc l af H
 | [],acc,af,H,_,h=>h
 | (⟨none, d, i⟩, us) :: r, acc, af, H, hn, h => by
   simp only[noUs,Bool.and_eq_true,List.isEmpty_iff] at hn
   obtain⟨rfl,hn⟩:=hn
   simp only[List.map_cons,runE] at h
   simp only[runD]
   exact qyk h fun t v H' hk=>⟨trivial,qfv hn hk⟩
 | (⟨some (t, b), d, i⟩, us) :: r, acc, af, H, hn, h => by
   simp only[noUs,Bool.and_eq_true,List.isEmpty_iff] at hn
   obtain⟨rfl,hn⟩:=hn
   simp only[List.map_cons,runE] at h
   simp only[runD]
   unfold gd at h ⊢
   split at h
   ·split at h
    ·rename_i c hc hb
     rw[if_pos hb]
     exact qyk h fun t v H' hk=>⟨trivial,qfv hn hk⟩
    ·rename_i c hc hb
     rw[if_neg hb]
     exact⟨trivial,qfv hn h⟩
   ·exact⟨trivial,qfv hn h⟩
   ·exact h

inductive Kt where
 | L (r:List GI)
 | E (r:List GI)
 | D (acc:List FP) (us:List Nat) (r:List (GI×List Nat))

def yesK(P:Program)(Q:VE->AF->List Ent->Prop)(d:Option Nat)(i:I)(k:Kt)(af:AF)(H:List Ent):Prop :=
 match k with
 | .L r=>runL P Q (⟨none,d,i⟩::r) af H
 | .E r=>runE P Q (⟨none,d,i⟩::r) af H
 | .D acc us r=>runD P Q acc ((⟨none,d,i⟩,us)::r) af H
def noK(P:Program)(Q:VE->AF->List Ent->Prop)(d:Option Nat)(i:I)(k:Kt)(af:AF)(H:List Ent):Prop :=
 match k with
 | .L r=>runL P Q r (put af d (.tup [])) H
 | .E r=>runE P Q r (put af d (.tup [])) H
 | .D acc us r=>qfj acc us (fpI af H.length .off i)∧runD P Q (acc++[fpI af H.length .off i]) r (put af d (.tup [])) H
def gdK(P:Program)(Q:VE->AF->List Ent->Prop)(v:AV)(b:Bool)(d:Option Nat)(i:I)(k:Kt)(af:AF)(H:List Ent):Prop :=
 gd v b (yesK P Q d i k af H) (noK P Q d i k af H)

section
variable {P:Program} {Q:VE->AF->List Ent->Prop} {d:Option Nat} {i:I} {k:Kt} {af:AF} {H:List Ent}
theorem qciu:gdK P Q (.bool true) true d i k af H=yesK P Q d i k af H:=Eq.trans rfl rfl
theorem qcgm:gdK P Q (.bool true) false d i k af H=noK P Q d i k af H:=Eq.trans rfl rfl
theorem qcho:gdK P Q (.bool false) true d i k af H=noK P Q d i k af H:=Eq.trans rfl rfl
theorem qcnj:gdK P Q (.bool false) false d i k af H=yesK P Q d i k af H:=Eq.trans rfl rfl
theorem qbt7(b:Bool):gdK P Q (.tup []) b d i k af H=noK P Q d i k af H:=Eq.trans rfl rfl
theorem qchx(r:List GI):yesK P Q d i (.L r) af H=runL P Q (⟨none,d,i⟩::r) af H:=Eq.trans rfl rfl
theorem qcmw(r:List GI):yesK P Q d i (.E r) af H=runE P Q (⟨none,d,i⟩::r) af H:=Eq.trans rfl rfl
theorem qcfs(acc:List FP)(us:List Nat)(r:List (GI×List Nat)):yesK P Q d i (.D acc us r) af H=runD P Q acc ((⟨none,d,i⟩,us)::r) af H:=Eq.trans rfl rfl
theorem qcnq(r:List GI):noK P Q d i (.L r) af H=runL P Q r (put af d (.tup [])) H:=Eq.trans rfl rfl
theorem qcnr(r:List GI):noK P Q d i (.E r) af H=runE P Q r (put af d (.tup [])) H:=Eq.trans rfl rfl
theorem qcny(acc:List FP)(us:List Nat)(r:List (GI×List Nat)):noK P Q d i (.D acc us r) af H=(qfj acc us (fpI af H.length .off i)∧runD P Q (acc++[fpI af H.length .off i]) r (put af d (.tup [])) H):=Eq.trans rfl rfl
attribute [go_sem] qciu qcgm qcho qcnj qbt7 qchx qcmw qcfs qcnq qcnr qcny
end

section
variable {P:Program} {Q:VE->AF->List Ent->Prop}
def kvE(P:Program)(Q:VE->AF->List Ent->Prop)(d:Option Nat)(r:List GI)(af:AF)(H:List Ent)(v:AV):Prop:=runE P Q r (put af d v) H
def kpE(P:Program)(Q:VE->AF->List Ent->Prop)(d:Option Nat)(r:List GI)(af:AF)(p:AV×List Ent):Prop:=runE P Q r (put af d p.1) p.2
def ksE(P:Program)(Q:VE->AF->List Ent->Prop)(d:Option Nat)(r:List GI)(af:AF)(H:List Ent):Prop:=runE P Q r (put af d (.tup [])) H
def kcE(P:Program)(Q:VE->AF->List Ent->Prop)(d:Option Nat)(r:List GI)(af:AF)(_:Md)(v:AV)(H:List Ent):Prop:=runE P Q r (put af d v) H
theorem qb1u(d:Option Nat)(r:List GI)(af:AF)(H:List Ent)(v:AV):kvE P Q d r af H v=runE P Q r (put af d v) H:=Eq.trans rfl rfl
theorem qb52(d:Option Nat)(r:List GI)(af:AF)(v:AV)(H:List Ent):kpE P Q d r af (v,H)=runE P Q r (put af d v) H:=Eq.trans rfl rfl
theorem qbrt(d:Option Nat)(r:List GI)(af:AF)(H:List Ent):ksE P Q d r af H=runE P Q r (put af d (.tup [])) H:=Eq.trans rfl rfl
theorem qb6b(d:Option Nat)(r:List GI)(af:AF)(H:List Ent)(t:Md)(v:AV):kcE P Q d r af t v H=runE P Q r (put af d v) H:=Eq.trans rfl rfl
theorem qbd3(af:AF)(H:List Ent):runE P Q [] af H=Q .nrm af H:=Eq.trans rfl rfl
theorem qchu(d:Option Nat)(i:IV)(r:List GI)(af:AF)(H:List Ent):runE P Q (⟨none,d,.v i⟩::r) af H=(evv af H i).bnd (kvE P Q d r af H):=by
 simp only[runE,doD,evi];rw[qb2];rfl
theorem qbah(d:Option Nat)(x:Opd)(r:List GI)(af:AF)(H:List Ent):runE P Q (⟨none,d,.box x⟩::r) af H=(boxv H (gt af x)).bnd (kpE P Q d r af):=Eq.trans rfl rfl
theorem qbb2(d:Option Nat)(x:List AV)(r:List GI)(af:AF)(H:List Ent):runE P Q (⟨none,d,.alo x⟩::r) af H=runE P Q r (put af d (.ptr H.length 0)) (H++[.blk x]):=Eq.trans rfl rfl
theorem qbfi(d:Option Nat)(t e:TypeId)(r:List GI)(af:AF)(H:List Ent):runE P Q (⟨none,d,.bld t e⟩::r) af H=runE P Q r (put af d (.ptr H.length 0)) (H++[.cus (bldR t e [])]):=Eq.trans rfl rfl
theorem qb4g(d:Option Nat)(n:Nat)(c:Co)(a x:Opd)(r:List GI)(af:AF)(H:List Ent):runE P Q (⟨none,d,.st n c a x⟩::r) af H=(stv n c H (gt af x) (gt af a)).bnd (ksE P Q d r af):=by
 simp only[runE,doD,evi];rw[qb2];rfl
theorem qbdc(d:Option Nat)(n:Nat)(z:AV)(b:Nat)(l c:Opd)(r:List GI)(af:AF)(H:List Ent):runE P Q (⟨none,d,.mks n z b l c⟩::r) af H=(mksv n z b H (gt af l) (gt af c)).bnd (kpE P Q d r af):=Eq.trans rfl rfl
theorem qbjt(d:Option Nat)(n:Nat)(z:AV)(b:Nat)(c:Co)(x y:Opd)(r:List GI)(af:AF)(H:List Ent):runE P Q (⟨none,d,.app n z b c x y⟩::r) af H=(appv n b H (gt af x) (gt af y)).bnd (kpE P Q d r af):=Eq.trans rfl rfl
theorem q6r(d:Option Nat)(f:Opd)(l:List (Opd×Co))(r:List GI)(af:AF)(H:List Ent):runE P Q (⟨none,d,.call f l⟩::r) af H=DApp P H (gt af f) (gco H af l) (gco H af (rawO l)) (kcE P Q d r af):=Eq.trans rfl rfl
theorem qcjf(t:Nat)(b:Bool)(d:Option Nat)(i:I)(r:List GI)(af:AF)(H:List Ent):runE P Q (⟨some (t,b),d,i⟩::r) af H=gdK P Q (get af.tm t) b d i (.E r) af H:=Eq.trans rfl rfl
attribute [go_sem] qb1u qb52 qbrt qb6b qbd3 qchu qbah qbb2 qbfi qb4g qbdc qbjt q6r qcjf
end

theorem qbye{P:Program}{fr:Option Nat}{n m:Nat}{Q:VE->AF->List Ent->Prop}{af:AF}{H:List Ent}{l:List (GI×List Nat)}(hn:noUs l=true)(h:runE P Q (l.map (·.1)) af H):VI P fr n m (.drw l) Q af H:=q7w (qfv hn h)

section
variable {P:Program} {Q:VE->AF->List Ent->Prop}
def kv(P:Program)(Q:VE->AF->List Ent->Prop)(d:Option Nat)(r:List GI)(af:AF)(H:List Ent)(v:AV):Prop:=runL P Q r (put af d v) H
def kp(P:Program)(Q:VE->AF->List Ent->Prop)(d:Option Nat)(r:List GI)(af:AF)(p:AV×List Ent):Prop:=runL P Q r (put af d p.1) p.2
def ks(P:Program)(Q:VE->AF->List Ent->Prop)(d:Option Nat)(r:List GI)(af:AF)(H:List Ent):Prop:=runL P Q r (put af d (.tup [])) H
def kc(P:Program)(Q:VE->AF->List Ent->Prop)(d:Option Nat)(r:List GI)(af:AF)(H:List Ent)(o:VO):Prop :=
 match o with
 | .val v=>runL P Q r (put af d v) H
 | .pan v=>Q (.pan v) af H
theorem qcls(d:Option Nat)(r:List GI)(af:AF)(H:List Ent)(v:AV):kv P Q d r af H v=runL P Q r (put af d v) H:=Eq.trans rfl rfl
theorem qcnh(d:Option Nat)(r:List GI)(af:AF)(v:AV)(H:List Ent):kp P Q d r af (v,H)=runL P Q r (put af d v) H:=Eq.trans rfl rfl
theorem qcjn(d:Option Nat)(r:List GI)(af:AF)(H:List Ent):ks P Q d r af H=runL P Q r (put af d (.tup [])) H:=Eq.trans rfl rfl
theorem qcm9(d:Option Nat)(r:List GI)(af:AF)(H:List Ent)(v:AV):kc P Q d r af H (.val v)=runL P Q r (put af d v) H:=Eq.trans rfl rfl
theorem qcmp(d:Option Nat)(r:List GI)(af:AF)(H:List Ent)(v:AV):kc P Q d r af H (.pan v)=Q (.pan v) af H:=Eq.trans rfl rfl
theorem qbg1(af:AF)(H:List Ent):runL P Q [] af H=Q .nrm af H:=Eq.trans rfl rfl
theorem qcht(d:Option Nat)(i:IV)(r:List GI)(af:AF)(H:List Ent):runL P Q (⟨none,d,.v i⟩::r) af H=(evv af H i).bnd (kv P Q d r af H):=by
 simp only[runL,doI,evi];rw[qb2];rfl
theorem qbbq(d:Option Nat)(x:Opd)(r:List GI)(af:AF)(H:List Ent):runL P Q (⟨none,d,.box x⟩::r) af H=(boxv H (gt af x)).bnd (kp P Q d r af):=Eq.trans rfl rfl
theorem qbif(d:Option Nat)(x:List AV)(r:List GI)(af:AF)(H:List Ent):runL P Q (⟨none,d,.alo x⟩::r) af H=runL P Q r (put af d (.ptr H.length 0)) (H++[.blk x]):=Eq.trans rfl rfl
theorem qbh0(d:Option Nat)(t e:TypeId)(r:List GI)(af:AF)(H:List Ent):runL P Q (⟨none,d,.bld t e⟩::r) af H=runL P Q r (put af d (.ptr H.length 0)) (H++[.cus (bldR t e [])]):=Eq.trans rfl rfl
theorem qb0n(d:Option Nat)(n:Nat)(c:Co)(a x:Opd)(r:List GI)(af:AF)(H:List Ent):runL P Q (⟨none,d,.st n c a x⟩::r) af H=(stv n c H (gt af x) (gt af a)).bnd (ks P Q d r af):=by
 simp only[runL,doI,evi];rw[qb2];rfl
theorem qbad(d:Option Nat)(n:Nat)(z:AV)(b:Nat)(l c:Opd)(r:List GI)(af:AF)(H:List Ent):runL P Q (⟨none,d,.mks n z b l c⟩::r) af H=(mksv n z b H (gt af l) (gt af c)).bnd (kp P Q d r af):=Eq.trans rfl rfl
theorem qbeb(d:Option Nat)(n:Nat)(z:AV)(b:Nat)(c:Co)(x y:Opd)(r:List GI)(af:AF)(H:List Ent):runL P Q (⟨none,d,.app n z b c x y⟩::r) af H=(appv n b H (gt af x) (gt af y)).bnd (kp P Q d r af):=Eq.trans rfl rfl
theorem q8f(d:Option Nat)(f:Opd)(l:List (Opd×Co))(r:List GI)(af:AF)(H:List Ent):runL P Q (⟨none,d,.call f l⟩::r) af H=VApp P H (gt af f) (gco H af l) (kc P Q d r af):=by
 have:(kc P Q d r af)=(fun H' o=>match o with | .val v=>runL P Q r (put af d v) H' | .pan v=>Q (.pan v) af H'):=by
  funext H' o;cases o<;>rfl
 rw[this];rfl
theorem qcfj(t:Nat)(b:Bool)(d:Option Nat)(i:I)(r:List GI)(af:AF)(H:List Ent):runL P Q (⟨some (t,b),d,i⟩::r) af H=gdK P Q (get af.tm t) b d i (.L r) af H:=Eq.trans rfl rfl
end

section
variable {P:Program} {Q:VE->AF->List Ent->Prop}
def dv(P:Program)(Q:VE->AF->List Ent->Prop)(acc:List FP)(us:List Nat)(fp:FP)(d:Option Nat)(r:List (GI×List Nat))(af:AF)(H:List Ent)(v:AV):Prop:=qfj acc us fp∧runD P Q (acc++[fp]) r (put af d v) H
def dp(P:Program)(Q:VE->AF->List Ent->Prop)(acc:List FP)(us:List Nat)(fp:FP)(d:Option Nat)(r:List (GI×List Nat))(af:AF)(p:AV×List Ent):Prop:=qfj acc us fp∧runD P Q (acc++[fp]) r (put af d p.1) p.2
def ds(P:Program)(Q:VE->AF->List Ent->Prop)(acc:List FP)(us:List Nat)(fp:FP)(d:Option Nat)(r:List (GI×List Nat))(af:AF)(H:List Ent):Prop:=qfj acc us fp∧runD P Q (acc++[fp]) r (put af d (.tup [])) H
def dc(P:Program)(Q:VE->AF->List Ent->Prop)(acc:List FP)(us:List Nat)(n:Nat)(rd:List Nat)(d:Option Nat)(r:List (GI×List Nat))(af:AF)(top:Md)(v:AV)(H:List Ent):Prop:=qfj acc us (fpC n rd top)∧runD P Q (acc++[fpC n rd top]) r (put af d v) H
variable (acc:List FP) (us:List Nat)
theorem qclk(fp:FP)(d:Option Nat)(r:List (GI×List Nat))(af:AF)(H:List Ent)(v:AV):dv P Q acc us fp d r af H v=(qfj acc us fp∧runD P Q (acc++[fp]) r (put af d v) H):=Eq.trans rfl rfl
theorem qcku(fp:FP)(d:Option Nat)(r:List (GI×List Nat))(af:AF)(v:AV)(H:List Ent):dp P Q acc us fp d r af (v,H)=(qfj acc us fp∧runD P Q (acc++[fp]) r (put af d v) H):=Eq.trans rfl rfl
theorem qclz(fp:FP)(d:Option Nat)(r:List (GI×List Nat))(af:AF)(H:List Ent):ds P Q acc us fp d r af H=(qfj acc us fp∧runD P Q (acc++[fp]) r (put af d (.tup [])) H):=Eq.trans rfl rfl
theorem qcil(n:Nat)(rd:List Nat)(d:Option Nat)(r:List (GI×List Nat))(af:AF)(H:List Ent)(top:Md)(v:AV):dc P Q acc us n rd d r af top v H=(qfj acc us (fpC n rd top)∧runD P Q (acc++[fpC n rd top]) r (put af d v) H):=Eq.trans rfl rfl
theorem qbfj(af:AF)(H:List Ent):runD P Q acc [] af H=Q .nrm af H:=Eq.trans rfl rfl
theorem qci3(d:Option Nat)(i:IV)(r:List (GI×List Nat))(af:AF)(H:List Ent):runD P Q acc ((⟨none,d,.v i⟩,us)::r) af H=(evv af H i).bnd (dv P Q acc us { rd:=fpV af i } d r af H):=by
 simp only[runD,doD,evi];rw[qb2];rfl
theorem qbdy(d:Option Nat)(x:Opd)(r:List (GI×List Nat))(af:AF)(H:List Ent):runD P Q acc ((⟨none,d,.box x⟩,us)::r) af H=(boxv H (gt af x)).bnd (dp P Q acc us { wr:=[H.length],al:=true } d r af):=Eq.trans rfl rfl
theorem qbgr(d:Option Nat)(x:List AV)(r:List (GI×List Nat))(af:AF)(H:List Ent):runD P Q acc ((⟨none,d,.alo x⟩,us)::r) af H=(qfj acc us { wr:=[H.length],al:=true }∧runD P Q (acc++[{ wr:=[H.length],al:=true }]) r (put af d (.ptr H.length 0)) (H++[.blk x])):=Eq.trans rfl rfl
theorem qbau(d:Option Nat)(t e:TypeId)(r:List (GI×List Nat))(af:AF)(H:List Ent):runD P Q acc ((⟨none,d,.bld t e⟩,us)::r) af H=(qfj acc us { wr:=[H.length],al:=true }∧runD P Q (acc++[{ wr:=[H.length],al:=true }]) r (put af d (.ptr H.length 0)) (H++[.cus (bldR t e [])])):=Eq.trans rfl rfl
theorem qbx3(d:Option Nat)(n:Nat)(c:Co)(a x:Opd)(r:List (GI×List Nat))(af:AF)(H:List Ent):runD P Q acc ((⟨none,d,.st n c a x⟩,us)::r) af H=(stv n c H (gt af x) (gt af a)).bnd (ds P Q acc us { rd:=rdCo c (gt af x),wr:=ptrE (gt af a) } d r af):=by
 simp only[runD,doD,evi];rw[qb2];rfl
theorem qbga(d:Option Nat)(n:Nat)(z:AV)(b:Nat)(l c:Opd)(r:List (GI×List Nat))(af:AF)(H:List Ent):runD P Q acc ((⟨none,d,.mks n z b l c⟩,us)::r) af H=(mksv n z b H (gt af l) (gt af c)).bnd (dp P Q acc us { wr:=[H.length],al:=true } d r af):=Eq.trans rfl rfl
theorem q90(d:Option Nat)(n:Nat)(z:AV)(b:Nat)(c:Co)(x y:Opd)(r:List (GI×List Nat))(af:AF)(H:List Ent):runD P Q acc ((⟨none,d,.app n z b c x y⟩,us)::r) af H=(appv n b H (gt af x) (gt af y)).bnd (dp P Q acc us { rd:=rowE (gt af y),wr:=H.length::rowE (gt af x),al:=true } d r af):=Eq.trans rfl rfl
theorem q57(d:Option Nat)(f:Opd)(l:List (Opd×Co))(r:List (GI×List Nat))(af:AF)(H:List Ent):runD P Q acc ((⟨none,d,.call f l⟩,us)::r) af H=DApp P H (gt af f) (gco H af l) (gco H af (rawO l)) (dc P Q acc us H.length (rdPs af l) d r af):=Eq.trans rfl rfl
theorem qchb(t:Nat)(b:Bool)(d:Option Nat)(i:I)(r:List (GI×List Nat))(af:AF)(H:List Ent):runD P Q acc ((⟨some (t,b),d,i⟩,us)::r) af H=gdK P Q (get af.tm t) b d i (.D acc us r) af H:=Eq.trans rfl rfl
theorem q5u(fp:FP):qfj acc [] fp=True:=rfl
theorem q1x(j:Nat)(fp:FP):qfj acc (j::us) fp=(okFP (acc.getD j {}) fp=true∧qfj acc us fp):=rfl

theorem qb3h{f:FuncId}{args:List AV}{H:List Ent}{r:AV}(h:qj P f args r):PApp P H (.fn f [] []) args r:=qa h fun _=>⟨rfl,rfl⟩
theorem qc{f:FuncId}{args:List AV}{H:List Ent}{raws:List AV}{r:AV}{K:Md->AV->List Ent->Prop}(h:qj P f args r)(k:K .off r H):DApp P H (.fn f [] []) args raws K:=.inr (.inl ⟨r,fun H₀=>qb3h h,k⟩)
theorem qb3g(n:Nat)(rd:List Nat):fpC n rd .off={ rd }:=rfl
theorem qbaj(n:Nat)(rd:List Nat):fpC n rd .here={ rd,top:=true }:=rfl
theorem qba2(n:Nat)(rd:List Nat)(k:Nat)(e e':Ent):fpC n rd (.meth k e e')={ rd:=k::rd,wr:=[k] }:=rfl
theorem qbb4(n:Nat)(rd:List Nat)(e':Ent)(ln:Nat):fpC n rd (.grow none e' ln)={ rd,wr:=[n],al:=true }:=rfl
theorem qbho(n:Nat)(rd:List Nat)(p:Nat×Ent)(e':Ent)(ln:Nat):fpC n rd (.grow (some p) e' ln)={ rd:=p.1::rd,wr:=[n,p.1],al:=true }:=rfl
theorem qb4v(n:Nat)(rd:List Nat)(e':Ent):fpC n rd (.lay e')={ rd,wr:=[n],al:=true }:=rfl
attribute [go_sem] qb3g qbaj qba2 qbb4 qbho qb4v rawO rawI rawL
end

def cor(e:Ent)(i len:Nat):AV :=
 match e with
 | .app n es=>if es.length=len then .sl n es else .row i len
 | _=>.row i len
section
variable (H:List Ent)
theorem qom(v:AV):co H .id v=v:=by unfold co;rfl
theorem qbt(n:Nat):co H (.sl n) .nils=.sl n []:=by unfold co;rfl
theorem q7d(n m:Nat)(es:List AV):co H (.sl n) (.lit m es)=.sl m es:=by unfold co;rfl
theorem qeh(n m:Nat)(es:List AV):co H (.sl n) (.sl m es)=.sl m es:=by unfold co;rfl
theorem q7r(n i len:Nat):co H (.sl n) (.row i len)=cor (ent H i) i len:=by unfold co cor;rfl
theorem qir(l:List Co)(vs:List AV):co H (.agg l) (.agg vs)=.agg (cos H l vs):=by rw[co]
theorem qf5(vs:List AV):cos H [] vs=vs:=by cases vs<;>rw[cos]
theorem qeq(c:Co)(l:List Co)(v:AV)(vs:List AV):cos H (c::l) (v::vs)=co H c v::cos H l vs:=by rw[cos]
theorem qbwt(n:Nat)(es:List AV)(i len:Nat):cor (.app n es) i len=if es.length=len then .sl n es else .row i len:=rfl
theorem qbcx(n:Nat)(es:List AV)(i len:Nat):cor (.mrow n es) i len=.row i len:=rfl
end

theorem qcn1(A B:Prop):gd (.bool true) true A B=A:=Eq.trans rfl rfl
theorem qcnx(A B:Prop):gd (.bool true) false A B=B:=Eq.trans rfl rfl
theorem qcn6(A B:Prop):gd (.bool false) true A B=B:=Eq.trans rfl rfl
theorem qcn8(A B:Prop):gd (.bool false) false A B=A:=Eq.trans rfl rfl
theorem qcfd(b:Bool)(A B:Prop):gd (.tup []) b A B=B:=Eq.trans rfl rfl
theorem qbj1(A B:Prop):cnd (.bool true) A B=A:=by simp[cnd]
theorem q3q(A B:Prop):cnd (.bool false) A B=B:=by simp[cnd]
theorem qcj6{P:Program}{fr:Option Nat}{n m:Nat}{b:IC}{Q:VE->AF->List Ent->Prop}(af:AF)(H:List Ent):sq P fr n m b Q .nrm af H=VI P fr n m b Q af H:=Eq.trans rfl rfl
theorem qch8{P:Program}{fr:Option Nat}{n m:Nat}{b:IC}{Q:VE->AF->List Ent->Prop}(i:Nat)(af:AF)(H:List Ent):sq P fr n m b Q (.ext i) af H=Q (.ext i) af H:=Eq.trans rfl rfl
theorem qci8{P:Program}{fr:Option Nat}{n m:Nat}{b:IC}{Q:VE->AF->List Ent->Prop}(af:AF)(H:List Ent):sq P fr n m b Q .ret af H=Q .ret af H:=Eq.trans rfl rfl
theorem qcfn{P:Program}{fr:Option Nat}{n m:Nat}{b:IC}{Q:VE->AF->List Ent->Prop}(v:AV)(af:AF)(H:List Ent):sq P fr n m b Q (.pan v) af H=Q (.pan v) af H:=Eq.trans rfl rfl
theorem qbqf{id:Nat}{Q:VE->AF->List Ent->Prop}(af:AF)(H:List Ent):blq id Q .nrm af H=Q .nrm af H:=Eq.trans rfl rfl
theorem qbw0{id i:Nat}{Q:VE->AF->List Ent->Prop}(af:AF)(H:List Ent):blq id Q (.ext i) af H=if i=id then Q .nrm af H else Q (.ext i) af H:=Eq.trans rfl rfl
theorem qb92{id:Nat}{Q:VE->AF->List Ent->Prop}(af:AF)(H:List Ent):blq id Q .ret af H=Q .ret af H:=Eq.trans rfl rfl
theorem qb65{id:Nat}{Q:VE->AF->List Ent->Prop}(v:AV)(af:AF)(H:List Ent):blq id Q (.pan v) af H=Q (.pan v) af H:=Eq.trans rfl rfl
theorem qcfh{S:Type}{Inv:S->Prop}{st:S->AF×List Ent}{m:Nat}{Q:VE->AF->List Ent->Prop}(af:AF)(H:List Ent):lq Inv st m Q .nrm af H=At S Inv st m af H:=Eq.trans rfl rfl
theorem qcko{S:Type}{Inv:S->Prop}{st:S->AF×List Ent}{m i:Nat}{Q:VE->AF->List Ent->Prop}(af:AF)(H:List Ent):lq Inv st m Q (.ext i) af H=Q (.ext i) af H:=Eq.trans rfl rfl
theorem qcii{S:Type}{Inv:S->Prop}{st:S->AF×List Ent}{m:Nat}{Q:VE->AF->List Ent->Prop}(af:AF)(H:List Ent):lq Inv st m Q .ret af H=Q .ret af H:=Eq.trans rfl rfl
theorem qcm6{S:Type}{Inv:S->Prop}{st:S->AF×List Ent}{m:Nat}{Q:VE->AF->List Ent->Prop}(v:AV)(af:AF)(H:List Ent):lq Inv st m Q (.pan v) af H=Q (.pan v) af H:=Eq.trans rfl rfl
theorem qbi5{k:Nat}{rs:List (RV×Co)}{Q:List Ent->VO->Prop}(af:AF)(H:List Ent):retq k rs Q .ret af H=dlq af.dl H (retk k rs Q af):=Eq.trans rfl rfl
theorem qbgi{k:Nat}{rs:List (RV×Co)}{Q:List Ent->VO->Prop}(af:AF)(H:List Ent):retq k rs Q .nrm af H=dlq af.dl H (retk k rs Q af):=Eq.trans rfl rfl
theorem q9j{k:Nat}{rs:List (RV×Co)}{Q:List Ent->VO->Prop}(v:AV)(af:AF)(H:List Ent):retq k rs Q (.pan v) af H=dlq af.dl H (pank k Q v):=Eq.trans rfl rfl
theorem qbyx(H:List Ent)(K:List Ent->Prop):dlq [] H K=K H:=Eq.trans rfl rfl
theorem qbiy(i:Nat)(l:List AD)(H:List Ent)(K:List Ent->Prop):dlq (.mark i::l) H K=(match ent H i with
 | .lp _ _=>dlq l (H.set i .dead) K
 | _=>False):=Eq.trans rfl rfl
theorem qbct{k:Nat}{rs:List (RV×Co)}{Q:List Ent->VO->Prop}(af:AF)(H:List Ent):retk k rs Q af H=((qh4 af H rs).bnd fun l=>fin k Q H (.val (one l))):=Eq.trans rfl rfl
theorem qbkk{k:Nat}{Q:List Ent->VO->Prop}(v:AV)(H:List Ent):pank k Q v H=fin k Q H (.pan v):=Eq.trans rfl rfl

theorem qf1(v:AV):rdCo .id v=[]:=by unfold rdCo;rfl
theorem qww(n i len:Nat):rdCo (.sl n) (.row i len)=[i]:=by unfold rdCo;rfl
theorem qcz(n m:Nat)(es:List AV):rdCo (.sl n) (.sl m es)=[]:=by unfold rdCo;rfl
theorem qw1(n m:Nat)(es:List AV):rdCo (.sl n) (.lit m es)=[]:=by unfold rdCo;rfl
theorem qsw(n:Nat):rdCo (.sl n) .nils=[]:=by unfold rdCo;rfl
theorem qeg(l:List Co)(vs:List AV):rdCo (.agg l) (.agg vs)=qns l vs:=by unfold rdCo;rfl
theorem qdi(vs:List AV):qns [] vs=[]:=by unfold qns;rfl
theorem qc0(c:Co)(l:List Co)(v:AV)(vs:List AV):qns (c::l) (v::vs)=rdCo c v++qns l vs:=by rw[qns]
attribute [go_sem] qbyx qbiy qbct qbkk q9j
attribute [go_sem] AV.wf AV.wfs VO.wf
attribute [go_sem] qbfj qci3 qbdy qbgr qbau qbx3 qbga q90 q57 qchb qclk qcku qclz qcil q5u q1x fpI fpV qf1 qww qcz qw1 qsw qeg qdi qc0 rdPs ptrE rowE okFP disj nin
theorem qcbw{α:Type}(a:α)(k:α->Prop):(Rs.ret a).bnd k=k a:=Eq.trans rfl rfl
theorem qbmc{α:Type}(p:Prop)(r:Rs α)(k:α->Prop):(Rs.req p r).bnd k=(p∧r.bnd k):=Eq.trans rfl rfl
theorem qb9s{α:Type}(k:α->Prop):(Rs.bad:Rs α).bnd k=False:=Eq.trans rfl rfl
attribute [go_sem] qbg1 qcht qbbq qbif qbh0 qb0n qbad qbeb q8f qcfj qcls qcnh qcjn qcm9 qcmp qcn1 qcnx qcn6 qcn8 qcfd qbj1 q3q qcj6 qch8 qci8 qcfn qbqf qbw0 qb92 qb65 qcfh qcko qcii qcm6 qbi5 qbgi qom qbt q7d qeh q7r qir qf5 qeq qbwt qbcx evv gt get put qcbw qbmc qb9s Rs.map ent gco gts gto ldv ldc lde stv stc fadv iadv aadv idxv idav slsv slp slf slm slvv lenv eqc eqcs fitc qh2 eqv binI shrI binX binS eqb binv unv mmv extv nckv cviv cvsv cbsv slav qgi qmf tyav qb5h spl bldv qbhf mksv qm5 appE qhx appv boxv AV.ren AV.rens AV.bd AV.bds Ent.ren Ent.bd AD.ren AD.bd tk Eqk.isIface qh4 one fin VO.bd qev qex tmOK dlOK sg sg' qbq
theorem qbc6(b:Bool)(n off:Nat)(cs:List AV):fldv b n off (.agg cs)=ldc b n off cs:=rfl
attribute [go_sem] qbc6
theorem qcgw(n:Nat)(v:AV):un1 n .id v=v:=by unfold un1;split<;>first | rfl | simp_all
theorem qcl9(n k:Nat)(v:AV):un1 n (.sl k) v=v:=by unfold un1;split<;>first | rfl | simp_all
theorem qcc3(n:Nat)(a b:Co)(r:List Co)(v:AV):un1 n (.agg (a::b::r)) v=v:=by unfold un1;split<;>first | rfl | simp_all
theorem qb8v(v:AV):un1 1 (.agg [.id]) (.agg [v])=v:=rfl
attribute [go_sem] qcgw qcl9 qcc3 qb8v
theorem qck1(n:Nat)(H:List Ent)(v:AV):sto n .id H v=v:=Eq.trans (show sto n .id H v=co H .id v from rfl) (qom H v)
theorem qb0p(n:Nat)(cs:List Co)(H:List Ent)(v:AV):sto n (.agg cs) H v=co H (.agg cs) v:=rfl
theorem qcl2(n m:Nat)(H:List Ent)(v:AV):sto n (.sl m) H v=if n=1 then q12 m H v else co H (.sl m) v:=rfl
theorem q3x(m i l:Nat)(H:List Ent):q12 m H (.row i l)=.row i l:=rfl
theorem qbg4(m n:Nat)(es:List AV)(H:List Ent):q12 m H (.sl n es)=co H (.sl m) (.sl n es):=rfl
theorem q49(m n:Nat)(es:List AV)(H:List Ent):q12 m H (.lit n es)=co H (.sl m) (.lit n es):=rfl
theorem q0d(m:Nat)(H:List Ent):q12 m H .nils=co H (.sl m) .nils:=rfl
attribute [go_sem] qck1 qb0p qcl2 q3x qbg4 q49 q0d
theorem q8e(cs:List AV):(AV.agg cs).isAgg=true:=rfl
theorem q6s(k:IntKind)(n:Int):(AV.int k n).isAgg=false:=rfl
theorem q53(l:List UInt8):(AV.str l).isAgg=false:=rfl
theorem q17(b:Bool):(AV.bool b).isAgg=false:=rfl
theorem q1c:AV.nilp.isAgg=false:=rfl
theorem q11:AV.nilf.isAgg=false:=rfl
theorem q0n:AV.nili.isAgg=false:=rfl
theorem q0z:AV.nils.isAgg=false:=rfl
theorem q2o:AV.nilm.isAgg=false:=rfl
theorem qbcu(n:Nat)(l:List AV):(AV.sl n l).isAgg=false:=rfl
theorem q5l(n:Nat)(l:List AV):(AV.lit n l).isAgg=false:=rfl
theorem q28(i o:Nat):(AV.ptr i o).isAgg=false:=rfl
theorem q56(i o:Nat):(AV.row i o).isAgg=false:=rfl
theorem q0j(n:Nat)(l:List AV)(i o:Nat):(AV.eptr n l i o).isAgg=false:=rfl
theorem q1y(n k i o:Nat):(AV.rptr n k i o).isAgg=false:=rfl
theorem qbi2(f:FuncId)(a b:List AV):(AV.fn f a b).isAgg=false:=rfl
theorem q67(i:Nat):(AV.opq i).isAgg=false:=rfl
theorem qu7(t:TypeId)(v:AV):(AV.iface t v).isAgg=false:=rfl
theorem q3t(l:List AV):(AV.tup l).isAgg=false:=rfl
theorem qbke(cs:List AV):(AV.agg cs).leaf=false:=rfl
theorem qbdm(cs:List AV):(AV.tup cs).leaf=false:=rfl
theorem qbf7(k:IntKind)(n:Int):(AV.int k n).leaf=true:=rfl
theorem qbc1(l:List UInt8):(AV.str l).leaf=true:=rfl
theorem q3m(b:Bool):(AV.bool b).leaf=true:=rfl
theorem q5s:AV.nilp.leaf=true:=rfl
theorem q3h:AV.nilf.leaf=true:=rfl
theorem q63:AV.nili.leaf=true:=rfl
theorem q61:AV.nils.leaf=true:=rfl
theorem q5y:AV.nilm.leaf=true:=rfl
theorem qb5b(n:Nat)(l:List AV):(AV.sl n l).leaf=true:=rfl
theorem qbbl(n:Nat)(l:List AV):(AV.lit n l).leaf=true:=rfl
theorem qbcf(i o:Nat):(AV.ptr i o).leaf=true:=rfl
theorem qbea(i o:Nat):(AV.row i o).leaf=true:=rfl
theorem q8l(n:Nat)(l:List AV)(i o:Nat):(AV.eptr n l i o).leaf=true:=rfl
theorem q40(n k i o:Nat):(AV.rptr n k i o).leaf=true:=rfl
theorem qcdr(f:FuncId)(a b:List AV):(AV.fn f a b).leaf=true:=rfl
theorem qbc9(i:Nat):(AV.opq i).leaf=true:=rfl
theorem q05(t:TypeId)(v:AV):(AV.iface t v).leaf=true:=rfl
theorem q66(cs:List AV):(AV.agg cs).cells=cs:=rfl
theorem q6i(k:IntKind)(n:Int):(AV.int k n).cells=[.int k n]:=rfl
theorem q3y(l:List UInt8):(AV.str l).cells=[.str l]:=rfl
theorem q2p(b:Bool):(AV.bool b).cells=[.bool b]:=rfl
theorem q0a:AV.nilp.cells=[.nilp]:=rfl
theorem q0p:AV.nilf.cells=[.nilf]:=rfl
theorem q0v:AV.nili.cells=[.nili]:=rfl
theorem q18:AV.nils.cells=[.nils]:=rfl
theorem q2f:AV.nilm.cells=[.nilm]:=rfl
theorem qbjn(n:Nat)(l:List AV):(AV.sl n l).cells=[.sl n l]:=rfl
theorem q4t(n:Nat)(l:List AV):(AV.lit n l).cells=[.lit n l]:=rfl
theorem q6u(i o:Nat):(AV.ptr i o).cells=[.ptr i o]:=rfl
theorem q6k(i o:Nat):(AV.row i o).cells=[.row i o]:=rfl
theorem q2h(n:Nat)(l:List AV)(i o:Nat):(AV.eptr n l i o).cells=[.eptr n l i o]:=rfl
theorem qz2(n k i o:Nat):(AV.rptr n k i o).cells=[.rptr n k i o]:=rfl
theorem qbkb(f:FuncId)(a b:List AV):(AV.fn f a b).cells=[.fn f a b]:=rfl
theorem q7t(i:Nat):(AV.opq i).cells=[.opq i]:=rfl
theorem qv7(t:TypeId)(v:AV):(AV.iface t v).cells=[.iface t v]:=rfl
attribute [go_sem] q8e q6s q53 q17 q1c q11 q0n q0z q2o qbcu q5l q28 q56 q0j q1y qbi2 q67 qu7 q3t qbke qbdm qbf7 qbc1 q3m q5s q3h q63 q61 q5y qb5b qbbl qbcf qbea q8l q40 qcdr qbc9 q05 q66 q6i q3y q2p q0a q0p q0v q18 q2f qbjn q4t q6u q6k q2h qz2 qbkb q7t qv7
attribute [go_sem] List.length_cons List.length_nil List.nil_append List.cons_append List.append_nil List.getD_cons_zero List.getD_cons_succ List.set_cons_zero List.set_cons_succ List.take_succ_cons List.take_zero List.take_nil List.drop_succ_cons List.drop_zero List.drop_nil List.all_cons List.all_nil Bool.and_true Bool.true_and Bool.false_and Bool.and_false true_and and_true false_and and_false true_or or_true or_false false_or and_self or_self not_true_eq_false not_false_eq_true Bool.false_eq_true if_true if_false List.map_cons List.map_nil Bool.and_eq_true Int.toNat_natCast Int.natCast_nonneg
attribute [go_sem_proc] Nat.reduceEqDiff Nat.reduceAdd Nat.reduceSub Nat.reduceMul Nat.reduceLT Nat.reduceLeDiff reduceCtorEq Int.reduceToNat
end Go.V
