/- Texts of this proof, joined. -/
import Derived.Test.YtkenggenkmfopaaGreatIad
set_option linter.unusedVariables false
set_option linter.unusedSimpArgs false

/-
 The value logic, part m: code as a whole: rules of control, functions, calls out of a greater state.
-/
namespace Go.V
open Go Go.RowKit

def cDf(o:Oper):Option Opd :=
 match o.op with
 | .defer c => match c.callee with
   | .value g=>if c.args.isEmpty=true∧o.dst=none∧o.guard=none then cO g else none
   | _=>none
 | _=>none
def cDfr(P:Program)(n:Nat)(ops:Array Oper):Option (List GI×Opd) :=
 match ops.toList.getLast? with
 | some o => match cDf o, cL P ops n ops.toList.dropLast with
   | some z,some l=>some (l,z)
   | _,_=>none
 | none=>none
def cPn(o:Oper):Option Opd :=
 match o.op with
 | .panic x=>if o.dst=none∧o.guard=none then cO x else none
 | _=>none
def cPan(P:Program)(n:Nat)(ops:Array Oper):Option (List GI×Opd) :=
 match ops.toList.getLast? with
 | some o => match cPn o, cL P ops n ops.toList.dropLast with
   | some z,some l=>some (l,z)
   | _,_=>none
 | none=>none
def qb0(P:Program)(n:Nat):Code->Option IC
 | .skip=>some .skip
 | .region _ ops draw => match cL P ops n ops.toList with
   | some l=>if draw then(if P.follows .mixedOrders then(qt2 ops l).map IC.drw else none) else some (.reg false l)
   | none=>if draw then none else((cDfr P n ops).map fun p=>IC.dfr p.1 p.2).or ((cPan P n ops).map fun p=>IC.pan p.1 p.2)
 | .seq a b => match qb0 P n a, qb0 P n b with
   | some x,some y=>some (.seq x y)
   | _,_=>none
 | .cond c a b => match cO c, qb0 P n a, qb0 P n b with
   | some z,some x,some y=>some (.cond z x y)
   | _,_,_=>none
 | .block id a=>(qb0 P n a).map (IC.block id)
 | .loop a=>(qb0 P n a).map IC.loop
 | .rangeFunc f ps a b => match cO f, qb0 P n a, qb0 P n b with
   | some z,some x,some y=>some (.rng z ps.toList x y)
   | _,_,_=>none
 | .exit id=>some (.exit id)
 | .scope a=>(qb0 P n a).map IC.scope
 | .label l=>some (.label l)
 | .goto l=>some (.goto l)
 | .ret=>some .ret
 | .refuse _=>none

def VI(P:Program)(fr:Option Nat)(n m:Nat)(ic:IC)(Q:VE->AF->List Ent->Prop)(af:AF)(H:List Ent):Prop :=
 ∀c,qb0 P n c=some ic->VW P fr n m c Q af H

def sq(P:Program)(fr:Option Nat)(n m:Nat)(b:IC)(Q:VE->AF->List Ent->Prop):VE->AF->List Ent->Prop
 | .nrm,af,H=>VI P fr n m b Q af H
 | e,af,H=>Q e af H
def blq(id:Nat)(Q:VE->AF->List Ent->Prop):VE->AF->List Ent->Prop
 | .ext id',af,H=>if id'=id then Q .nrm af H else Q (.ext id') af H
 | e,af,H=>Q e af H
def cnd(v:AV)(A B:Prop):Prop :=
 match v with
 | .bool c=>(c=true->A)∧(c=false->B)
 | _=>False
@[congr] theorem qcdc{v v':AV}(h:v=v')(A B:Prop):cnd v A B=cnd v' A B:=by rw[h]

section
variable {P:Program} {fr:Option Nat} {n m:Nat} {Q Q':VE->AF->List Ent->Prop} {af:AF} {H:List Ent} {ops:Array Oper} {a b:IC}

theorem VW.mono{c:Code}(h:VW P fr n m c Q af H)(hq:∀e af H,Q e af H->Q' e af H):VW P fr n m c Q' af H :=
 fun w M G a hst hr=>wpIn_mono (h w M G a hst hr) fun e a' w' ⟨ve,af',M',G',H',h1,h2⟩=>⟨ve,af',M',G',H',hq _ _ _ h1,h2⟩
theorem VI.mono(h:VI P fr n m a Q af H)(hq:∀e af H,Q e af H->Q' e af H):VI P fr n m a Q' af H:=fun c hc=>(h c hc).mono hq

theorem qo9{c:Code}{w:World}{M:Nat->Nat->Prop}{G:List Gh}{a:Act}(h:VW P fr n m c Q af H)(hst:St w M G H)(hr:RelF w M G n af a){w₀:World}{M₀:Nat->Nat->Prop}{G₀:List Gh}(hx:ExtM m w₀ M₀ G₀ w M G):
 c.wpIn (fw fr) 0 P (VPost Q n m w₀ M₀ G₀) a w:=wpIn_mono (h w M G a hst hr) fun e a' w' hp=>hp.trans hx

theorem qn3{w:World}{M:Nat->Nat->Prop}{G:List Gh}{ve:VE}{e:Exit}(h:qbgj w M G ve e)(hn:ve≠.nrm):e≠.normal:=by
 cases ve<;>simp only[qbgj] at h
 ·exact absurd rfl hn
 all_goals first
  | (subst h;simp;done)
  | (obtain⟨x,rfl,_⟩:=h;simp)

theorem qbca(h:Q .nrm af H):VI P fr n m .skip Q af H:=by
 intro c hc
 have:c=.skip:=by
  cases c<;>simp only[qb0] at hc<;>first | rfl | (exfalso;(repeat' split at hc)<;>simp at hc)
 subst this
 exact fun w M G a hst hr=>wpIn_skip ⟨.nrm,af,M,G,H,h,rfl,ExtM.refl,hst,hr⟩

theorem qbbp(h:Q .ret af H):VI P fr n m .ret Q af H:=by
 intro c hc
 have:c=.ret:=by
  cases c<;>simp only[qb0] at hc<;>first | rfl | (exfalso;(repeat' split at hc)<;>simp at hc)
 subst this
 exact fun w M G a hst hr=>wpIn_ret ⟨.ret,af,M,G,H,h,rfl,ExtM.refl,hst,hr⟩

theorem q5p{id:Nat}(h:Q (.ext id) af H):VI P fr n m (.exit id) Q af H:=by
 intro c hc
 have:c=.exit id:=by
  cases c<;>simp only[qb0] at hc<;>first | (simp at hc;rw[hc];done) | (exfalso;(repeat' split at hc)<;>simp at hc)
 subst this
 exact fun w M G a hst hr=>wpIn_exit ⟨.ext id,af,M,G,H,h,rfl,ExtM.refl,hst,hr⟩

theorem qil{l:List GI}(h:runL P Q l af H):VI P fr n m (.reg false l) Q af H:=by
 intro c hc
 cases c<;>simp only[qb0] at hc
 case region id ops draw =>
  split at hc
  ·rename_i l' hl
   cases draw with
   | true =>
     rw[if_pos rfl] at hc
     split at hc
     ·obtain⟨x,_,hx⟩:=Option.map_eq_some_iff.1 hc
      cases hx
     ·cases hc
   | false =>
     rw[if_neg (by simp)] at hc
     simp only[Option.some.injEq,IC.reg.injEq] at hc
     obtain⟨_,rfl⟩:=hc
     exact qcds hl h
  ·exfalso;split at hc<;>simp at hc
 all_goals(exfalso;(repeat' split at hc)<;>simp at hc)

theorem qx3{l:List (GI×List Nat)}(h:runD P Q [] l af H):VI P fr n m (.drw l) Q af H:=by
 intro c hc
 cases c<;>simp only[qb0] at hc
 case region id ops draw =>
  split at hc
  ·rename_i l' hl
   cases draw with
   | true =>
     rw[if_pos rfl] at hc
     split at hc
     ·rename_i hm
      obtain⟨x,hx,hxx⟩:=Option.map_eq_some_iff.1 hc
      simp only[IC.drw.injEq] at hxx
      subst hxx
      exact qbnw hm hl hx h
     ·cases hc
   | false=>rw[if_neg (by simp)] at hc;cases hc
  ·exfalso;split at hc<;>simp at hc
 all_goals(exfalso;(repeat' split at hc)<;>simp at hc)

theorem qij(h:VI P fr n m a (sq P fr n m b Q) af H):VI P fr n m (.seq a b) Q af H:=by
 intro c hc
 cases c<;>simp only[qb0] at hc
 case seq x y =>
  split at hc
  ·rename_i x' y' hx hy
   simp only[Option.some.injEq,IC.seq.injEq] at hc
   obtain⟨rfl,rfl⟩:=hc
   intro w M G a hst hr
   refine wpIn_seq (wpIn_mono (h x hx w M G a hst hr) fun e a' w' hp=>?_)
   obtain⟨ve,af',M',G',H',h1,h2,h3,h4,h5⟩:=hp
   by_cases hn:ve=.nrm
   ·subst hn
    have h2:e=.normal:=h2
    subst h2
    exact qo9 (h1 y hy) h4 h5 h3
   ·have hne:=qn3 h2 hn
    have h1':Q ve af' H':=by cases ve<;>first | exact absurd rfl hn | exact h1
    have:VPost Q n m w M G e a' w':=⟨ve,af',M',G',H',h1',h2,h3,h4,h5⟩
    cases e<;>first | exact absurd rfl hne | exact this
  ·cases hc
 all_goals(exfalso;(repeat' split at hc)<;>simp at hc)

theorem qbak{c:Opd}(h:cnd (gt af c) (VI P fr n m a Q af H) (VI P fr n m b Q af H)):VI P fr n m (.cond c a b) Q af H:=by
 intro cc hc
 cases cc<;>simp only[qb0] at hc
 case cond z x y =>
  split at hc
  ·rename_i z' x' y' hz hx hy
   simp only[Option.some.injEq,IC.cond.injEq] at hc
   obtain⟨rfl,rfl,rfl⟩:=hc
   intro w M G a hst hr
   have hv:=qt hz hr
   unfold cnd at h
   split at h
   ·rename_i t ht
    rw[ht] at hv
    refine wpIn_cond_split hv (fun e=>h.1 e x hx w M G a hst hr) (fun e=>h.2 e y hy w M G a hst hr)
   ·exact h.elim
  ·cases hc
 all_goals(exfalso;(repeat' split at hc)<;>simp at hc)

theorem qq5{id:Nat}(h:VI P fr n m a (blq id Q) af H):VI P fr n m (.block id a) Q af H:=by
 intro c hc
 cases c<;>simp only[qb0] at hc
 case block id' x =>
  obtain⟨x',hx,hxx⟩:=Option.map_eq_some_iff.1 hc
  simp only[IC.block.injEq] at hxx
  obtain⟨rfl,rfl⟩:=hxx
  intro w M G a hst hr
  refine wpIn_block (wpIn_mono (h x hx w M G a hst hr) fun e a' w' hp=>?_)
  obtain⟨ve,af',M',G',H',h1,h2,h3,h4,h5⟩:=hp
  cases ve with
  | ext i =>
    have h2:e=.exit i:=h2
    subst h2
    simp only[blq] at h1
    simp only[Exit.inBlock]
    split at h1
    ·rename_i hi
     rw[if_pos hi]
     exact⟨.nrm,af',M',G',H',h1,rfl,h3,h4,h5⟩
    ·rename_i hi
     rw[if_neg hi]
     exact⟨.ext i,af',M',G',H',h1,rfl,h3,h4,h5⟩
  | nrm=>have h2:e=.normal:=h2;subst h2;exact⟨.nrm,af',M',G',H',h1,rfl,h3,h4,h5⟩
  | gto l=>have h2:e=.goto l:=h2;subst h2;exact⟨.gto l,af',M',G',H',h1,rfl,h3,h4,h5⟩
  | ret=>have h2:e=.ret:=h2;subst h2;exact⟨.ret,af',M',G',H',h1,rfl,h3,h4,h5⟩
  | pan v=>obtain⟨x,rfl,hx⟩:=h2;exact⟨.pan v,af',M',G',H',h1,⟨x,rfl,hx⟩,h3,h4,h5⟩
 all_goals(exfalso;(repeat' split at hc)<;>simp at hc)

/-! ### A state may be said with less -/

def AD.ren(σ:Nat->Nat):AD->AD
 | .mark i=>.mark (σ i)
 | .dfr f args=>.dfr (f.ren σ) (AV.rens σ args)
def AD.bd(k:Nat):AD->Bool
 | .mark i=>decide (i<k)
 | .dfr f args=>f.bd k&&AV.bds k args
def Ent.ren(σ:Nat->Nat):Ent->Ent
 | .blk cs=>.blk (AV.rens σ cs)
 | .app n es=>.app n (AV.rens σ es)
 | .mrow n es=>.mrow n (AV.rens σ es)
 | .lp d as=>.lp d (AV.rens σ as)
 | .cus R=>.cus R
 | .dead=>.dead
def Ent.bd(k:Nat):Ent->Bool
 | .blk cs=>AV.bds k cs
 | .app _ es=>AV.bds k es
 | .mrow _ es=>AV.bds k es
 | .lp _ as=>AV.bds k as
 | .cus _=>true
 | .dead=>true

def WkS(σ:Nat->Nat)(m:Nat)(af:AF)(H:List Ent)(af':AF)(H':List Ent):Prop :=
 (∀i,i<m->σ i=i)∧m≤H'.length∧(∀i j,i<H'.length->j<H'.length->σ i=σ j->i=j) ∧
  (∀(j:Nat) (e:Ent),H'[j]?=some e->e=.dead∨(e.bd H'.length=true∧H[σ j]?=some (e.ren σ)))∧(∀j,j<H'.length->σ j<H.length) ∧
  (∀t,get af'.tm t=.junk∨((get af'.tm t).bd H'.length=true∧get af.tm t=(get af'.tm t).ren σ)) ∧
  (∀d∈af'.dl,d.bd H'.length=true)∧af.dl=af'.dl.map (AD.ren σ)
def Wk(m:Nat)(af:AF)(H:List Ent)(af':AF)(H':List Ent):Prop:=∃σ:Nat->Nat,WkS σ m af H af' H'
end

section unmap
variable {w:World} {M:Nat->Nat->Prop} {G G':List Gh}
mutual
theorem q05{σ:Nat->Nat}{k:Nat}(hG:∀(i:Nat) (g:Gh),i<k->G[σ i]?=some g->∃g':Gh,G'[i]?=some g'∧g'.core=g.core):∀(v:AV) (x:Value),v.bd k=true->VR w M G (v.ren σ) x->VR w M G' v x
 | .bool _,x,_,h=>h
 | .int _ _,x,_,h=>h
 | .str _,x,_,h=>h
 | .nilp,x,_,h=>h
 | .nilf,x,_,h=>h
 | .nili,x,_,h=>h
 | .nils,x,_,h=>h
 | .nilm,x,_,h=>h
 | .junk,x,_,h=>trivial
 | .agg cs, x, hb, h => by
   simp only[VR,AV.ren,AV.bd] at h hb ⊢
   obtain⟨vs,rfl,h⟩:=h
   exact⟨vs,rfl,qfj hG cs vs hb h⟩
 | .tup cs, x, hb, h => by
   simp only[VR,AV.ren,AV.bd] at h hb ⊢
   obtain⟨vs,rfl,h⟩:=h
   exact⟨vs,rfl,qfj hG cs vs hb h⟩
 | .sl n es, x, hb, h => by
   simp only[VR,AV.ren,AV.bd] at h hb ⊢
   obtain⟨a,cap,us,h1,h2⟩:=h
   exact⟨a,cap,us,qfj hG es us hb h1,h2⟩
 | .lit n es, x, hb, h => by
   simp only[VR,AV.ren,AV.bd] at h hb ⊢
   obtain⟨a,us,h1,h2⟩:=h
   exact⟨a,us,qfj hG es us hb h1,h2⟩
 | .ptr i off, x, hb, h => by
   simp only[VR,AV.ren,AV.bd,decide_eq_true_eq] at h hb ⊢
   obtain⟨g,hg,rfl⟩:=h
   obtain⟨g',hg',hc⟩:=hG i g hb hg
   exact⟨g',hg',by rw[(qb7 hc).1]⟩
 | .row i len, x, hb, h => by
   simp only[VR,AV.ren,AV.bd,decide_eq_true_eq] at h hb ⊢
   obtain⟨g,hg,rfl⟩:=h
   obtain⟨g',hg',hc⟩:=hG i g hb hg
   exact⟨g',hg',by rw[(qb7 hc).1,(qb7 hc).2.1]⟩
 | .eptr n es q off, x, hb, h => by
   simp only[VR,AV.ren,AV.bd] at h hb ⊢
   obtain⟨a,cap,us,h1,h2⟩:=h
   exact⟨a,cap,us,qfj hG es us hb h1,h2⟩
 | .rptr i n q off, x, hb, h => by
   simp only[VR,AV.ren,AV.bd,decide_eq_true_eq] at h hb ⊢
   obtain⟨g,hg,rfl⟩:=h
   obtain⟨g',hg',hc⟩:=hG i g hb hg
   exact⟨g',hg',by rw[(qb7 hc).1]⟩
 | .vw i off len cap, x, hb, h => by
   simp only[VR,AV.ren,AV.bd,decide_eq_true_eq] at h hb ⊢
   obtain⟨g,hg,rfl⟩:=h
   obtain⟨g',hg',hc⟩:=hG i g hb hg
   exact⟨g',hg',by rw[(qb7 hc).1]⟩
 | .fn f first caps, x, hb, h => by
   simp only[VR,AV.ren,AV.bd,Bool.and_eq_true] at h hb ⊢
   obtain⟨xs,ys,h1,h2,h3⟩:=h
   exact⟨xs,ys,qfj hG first xs hb.1 h1,qfj hG caps ys hb.2 h2,h3⟩
 | .opq i, x, hb, h => by
   simp only[VR,AV.ren,AV.bd,decide_eq_true_eq] at h hb ⊢
   obtain⟨g,hg,rfl,h1⟩:=h
   obtain⟨g',hg',hc⟩:=hG i g hb hg
   exact⟨g',hg',by rw[(qb7 hc).2.2],by rw[(qb7 hc).2.2];exact h1⟩
 | .iface t v, x, hb, h => by
   simp only[VR,AV.ren,AV.bd] at h hb ⊢
   obtain⟨y,h1,h2⟩:=h
   exact⟨y,q05 hG v y hb h1,h2⟩
theorem qfj{σ:Nat->Nat}{k:Nat}(hG:∀(i:Nat) (g:Gh),i<k->G[σ i]?=some g->∃g':Gh,G'[i]?=some g'∧g'.core=g.core):∀(vs:List AV) (xs:List Value),AV.bds k vs=true->VRs w M G (AV.rens σ vs) xs->VRs w M G' vs xs
 | [],xs,_,h=>h
 | c :: cs, xs, hb, h => by
   simp only[VRs,AV.rens,AV.bds,Bool.and_eq_true] at h hb ⊢
   obtain⟨v,r,h0,h1,h2⟩:=h
   exact⟨v,r,h0,q05 hG c v hb.1 h1,qfj hG cs r hb.2 h2⟩
end

theorem qbn8{σ:Nat->Nat}{k:Nat}(hG:∀(i:Nat) (g:Gh),i<k->G[σ i]?=some g->∃g':Gh,G'[i]?=some g'∧g'.core=g.core):∀(l:List AD) (ds:List Deferred),(∀d∈l,d.bd k=true)->DR w M G (l.map (AD.ren σ)) ds->DR w M G' l ds
 | [],ds,_,h=>h
 | .mark i :: l, ds, hb, h => by
   obtain⟨g,r,h1,h2,h3⟩:=h
   have hi:=hb (.mark i) (by simp)
   simp only[AD.bd,decide_eq_true_eq] at hi
   obtain⟨g',hg',hc⟩:=hG i g hi h2
   exact⟨g',r,by rw[h1,(qb7 hc).2.1],hg',qbn8 hG l r (fun d hd=>hb d (by simp[hd])) h3⟩
 | .dfr f args :: l, ds, hb, h => by
   obtain⟨t,first,caps,xs,r,h1,h2,h3,h4⟩:=h
   have hi:=hb (.dfr f args) (by simp)
   simp only[AD.bd,Bool.and_eq_true] at hi
   exact⟨t,first,caps,xs,r,h1,q05 hG f _ hi.1 h2,qfj hG args xs hi.2 h3,qbn8 hG l r (fun d hd=>hb d (by simp[hd])) h4⟩

theorem q0o{σ:Nat->Nat}{k:Nat}(hG:∀(i:Nat) (g:Gh),i<k->G[σ i]?=some g->∃g':Gh,G'[i]?=some g'∧g'.core=g.core){g:Gh}{q:Nat}{es:List AV}(hb:AV.bds k es=true)(h:qlw w M G g q (AV.rens σ es)):qlw w M G' g q es:=by
 obtain⟨h1,h2,vs,t,us,h3,h4,h5,h6,h7⟩:=h
 have hl:(AV.rens σ es).length=es.length:=by rw[qrw];simp
 rw[hl] at h1 h7
 exact⟨h1,h2,vs,t,us,h3,h4,qfj hG es us hb h5,h6,h7⟩

theorem qbff{σ:Nat->Nat}{k:Nat}(hG:∀(i:Nat) (g:Gh),i<k->G[σ i]?=some g->∃g':Gh,G'[i]?=some g'∧g'.core=g.core){g:Gh}:∀{e:Ent},e.bd k=true->qib w M G g (e.ren σ)->qib w M G' g e
 | .dead,_,h=>h
 | .blk cs, hb, h => by
   obtain⟨h1,⟨vs,t,h2,h3⟩,h4⟩:=h
   exact⟨h1,⟨vs,t,h2,qfj hG cs vs hb h3⟩,h4⟩
 | .app q es, hb, h => by
   obtain⟨h1,h2,h3⟩:=h
   have hl:(AV.rens σ es).length=es.length:=by rw[qrw];simp
   rw[hl] at h3
   exact⟨h1,q0o hG hb h2,h3⟩
 | .mrow q es, hb, h => by
   obtain⟨h1,h2,h3⟩:=h
   exact⟨h1,q0o hG hb h2,h3⟩
 | .lp d as, hb, h => by
   obtain⟨h1,⟨vs,h2,h3⟩,h4⟩:=h
   exact⟨h1,⟨vs,h2,qfj hG as vs hb h3⟩,h4⟩
 | .cus R,hb,h=>h
end unmap

def wkG(σ:Nat->Nat)(G:List Gh):List Ent->Nat->List Gh
 | [],_=>[]
 | e::r,i=>(let g:=G.getD (σ i) {};match e with | .dead=>{ g with fp:=fun _=>False } | _=>g)::wkG σ G r (i+1)
theorem qqd(σ:Nat->Nat)(G:List Gh)(H:List Ent)(i:Nat):(wkG σ G H i).length=H.length:=by
 induction H generalizing i with
 | nil=>rfl
 | cons e r ih=>simp[wkG,ih]
theorem qoz(σ:Nat->Nat)(G:List Gh):∀(H:List Ent) (i j:Nat) (e:Ent),H[j]?=some e->(wkG σ G H i)[j]?=some (let g:=G.getD (σ (i+j)) {};match e with | .dead=>{ g with fp:=fun _=>False } | _=>g)
 | [],i,j,e,h=>by simp at h
 | x::r,i,0,e,h=>by simp at h;subst h;rfl
 | x :: r, i, j + 1, e, h => by
   simp only[List.getElem?_cons_succ] at h
   have:=qoz σ G r (i+1) j e h
   simp only[wkG,List.getElem?_cons_succ]
   rw[this,show i+1+j=i+(j+1) by omega]

section
variable {P:Program} {fr:Option Nat} {n m:Nat} {Q Q':VE->AF->List Ent->Prop} {af af':AF} {H H':List Ent} {ops:Array Oper} {a b:IC}

theorem qjh{σ:Nat->Nat}{w:World}{M:Nat->Nat->Prop}{G:List Gh}{a:Act}(hst:St w M G H)(hr:RelF w M G n af a)(hw:WkS σ m af H af' H'):
 ExtM m w M G w M (wkG σ G H' 0)∧St w M (wkG σ G H' 0) H'∧RelF w M (wkG σ G H' 0) n af' a:=by
 obtain⟨s1,s2,s3,s4,s5,s6,s7,s8⟩:=hw
 have hget:∀(i:Nat) (e:Ent),H'[i]?=some e->∃g,G[σ i]?=some g∧(wkG σ G H' 0)[i]?=some (match e with | .dead=>{ g with fp:=fun _=>False } | _=>g):=fun i e he=>by
  have hi:=(List.getElem?_eq_some_iff.1 he).1
  have hlt:=s5 i hi
  rw[←hst.len] at hlt
  have hx:=qoz σ G H' 0 i e he
  rw[Nat.zero_add] at hx
  refine⟨G[σ i],List.getElem?_eq_getElem hlt,?_⟩
  rw[hx]
  have:G.getD (σ i) {}=G[σ i]:=by rw[List.getD_eq_getElem?_getD,List.getElem?_eq_getElem hlt];rfl
  rw[this]
 have hgetG:∀(i:Nat) (g':Gh),(wkG σ G H' 0)[i]?=some g'->∃e g,H'[i]?=some e∧G[σ i]?=some g∧g'=(match e with | .dead=>{ g with fp:=fun _=>False } | _=>g):=fun i g' hg'=>by
  have hi:=(List.getElem?_eq_some_iff.1 hg').1
  rw[qqd] at hi
  obtain⟨g,h1,h2⟩:=hget i H'[i] (List.getElem?_eq_getElem hi)
  rw[hg'] at h2
  exact⟨H'[i],g,List.getElem?_eq_getElem hi,h1,by simpa using h2⟩
 have hcore:∀(i:Nat) (g:Gh),i<H'.length->G[σ i]?=some g->∃g':Gh,(wkG σ G H' 0)[i]?=some g'∧g'.core=g.core:=fun i g hi hg=>by
  obtain⟨g₁,h1,h2⟩:=hget i H'[i] (List.getElem?_eq_getElem hi)
  rw[hg] at h1
  simp only[Option.some.injEq] at h1;subst h1
  refine⟨_,h2,?_⟩
  split<;>rfl
 have hfp:∀(i:Nat) (g':Gh) (b:Nat),(wkG σ G H' 0)[i]?=some g'->g'.fp b->∃g,G[σ i]?=some g∧g.fp b∧i<H'.length:=fun i g' b hg' hb=>by
  obtain⟨e,g,h1,h2,h3⟩:=hgetG i g' hg'
  refine⟨g,h2,?_,(List.getElem?_eq_some_iff.1 h1).1⟩
  subst h3
  split at hb
  ·exact hb.elim
  ·exact hb
 refine⟨⟨rfl,rfl,rfl,Nat.le_refl _,fun i g hi hg=>hcore i g (by omega) (by rw[s1 i hi];exact hg),Le.refl w M,fun _ _ _=>rfl,fun b ⟨i,g',hg',hb⟩=>?_,fun _ _ h=>.inl h⟩,⟨qqd σ G H' 0,fun i g' e hg' he=>?_,fun i j g₁ g₂ b h1 h2 h3 h4=>?_,fun i g' b hg' hb=>?_,hst.Mlt,hst.one⟩,⟨hr.size,?_,fun t=>?_⟩⟩
 ·obtain⟨g,h1,h2,_⟩:=hfp i g' b hg' hb
  exact .inl ⟨_,g,h1,h2⟩
 ·obtain⟨e',g,h1,h2,h3⟩:=hgetG i g' hg'
  rw[he] at h1
  simp only[Option.some.injEq] at h1;subst h1
  rcases s4 i e he with rfl | ⟨hb,hH⟩
  ·subst h3;exact fun b hb=>hb
  ·have hk:=qbff (w:=w) (M:=M) (G':=wkG σ G H' 0) hcore hb (hst.ok (σ i) g _ h2 hH)
   cases e<;>subst h3<;>first | exact hk | exact fun b hb=>hb
 ·obtain⟨g,q1,q2,q3⟩:=hfp i g₁ b h1 h3
  obtain⟨g',r1,r2,r3⟩:=hfp j g₂ b h2 h4
  exact s3 i j q3 r3 (hst.dj _ _ _ _ b q1 r1 q2 r2)
 ·obtain⟨g,q1,q2,q3⟩:=hfp i g' b hg' hb
  exact hst.lt _ _ b q1 q2
 ·have hd:=hr.defers
  rw[s8] at hd
  exact qbn8 hcore _ _ s7 hd
 ·rcases s6 t with hj | ⟨hb,he⟩
  ·rw[hj];trivial
  ·have hv:=hr.rd t
   rw[he] at hv
   exact q05 hcore _ _ hb hv

theorem qrp{w:World}{M:Nat->Nat->Prop}{G:List Gh}{a:Act}(hst:St w M G H)(hr:RelF w M G n af a)(hw:Wk m af H af' H'):∃G',ExtM m w M G w M G'∧St w M G' H'∧RelF w M G' n af' a:=by
 obtain⟨σ,hw⟩:=hw
 exact⟨_,qjh hst hr hw⟩

theorem qrk(h:VI P fr n m a Q af' H')(hw:Wk m af H af' H'):VI P fr n m a Q af H:=by
 intro c hc w M G act hst hr
 obtain⟨G',h1,h2,h3⟩:=qrp hst hr hw
 exact qo9 (h c hc) h2 h3 h1

def At(S:Type)(Inv:S->Prop)(st:S->AF×List Ent)(m:Nat)(af:AF)(H:List Ent):Prop:=∃s,Inv s∧Wk m af H (st s).1 (st s).2

def lq{S:Type}(Inv:S->Prop)(st:S->AF×List Ent)(m:Nat)(Q:VE->AF->List Ent->Prop):VE->AF->List Ent->Prop
 | .nrm,af,H=>At S Inv st m af H
 | e,af,H=>Q e af H

theorem qks{S:Type}(Inv:S->Prop)(st:S->AF×List Ent)(h:VI P fr n m a (lq Inv st m Q) af H)(hj:∀s,Inv s->VI P fr n m b Q (st s).1 (st s).2):VI P fr n m (.seq a b) Q af H :=
 qij (h.mono fun e af H hq=>by
  cases e with
  | nrm=>obtain⟨s,h1,h2⟩:=hq;exact qrk (hj s h1) h2
  | _=>exact hq)

theorem qo{S:Type}(Inv:S->Prop)(st:S->AF×List Ent)(μ:S->Nat)(h0:At S Inv st m af H)
 (hr:∀s,Inv s->VI P fr n m a (lq (fun s'=>Inv s'∧μ s'<μ s) st m Q) (st s).1 (st s).2):VI P fr n m (.loop a) Q af H:=by
 intro c hc
 cases c<;>simp only[qb0] at hc
 case loop x =>
  obtain⟨x',hx,hxx⟩:=Option.map_eq_some_iff.1 hc
  simp only[IC.loop.injEq] at hxx
  subst hxx
  intro w M G act hst hrf
  let I:S->Act->World->Prop:=fun s a' w'=>Inv s∧∃M' G',ExtM m w M G w' M' G'∧St w' M' G' (st s).2∧RelF w' M' G' n (st s).1 a'
  have hI:∀{af₁:AF} {H₁:List Ent} {a₁:Act} {w₁:World} {M₁:Nat->Nat->Prop} {G₁:List Gh} {J:S->Prop},(∀s,J s->Inv s)->At S J st m af₁ H₁->ExtM m w M G w₁ M₁ G₁->St w₁ M₁ G₁ H₁->RelF w₁ M₁ G₁ n af₁ a₁->∃s,J s∧I s a₁ w₁:=by
   intro af₁ H₁ a₁ w₁ M₁ G₁ J hJ hat he hs hf
   obtain⟨s,h1,h2⟩:=hat
   obtain⟨G₂,q1,q2,q3⟩:=qrp hs hf h2
   exact⟨s,h1,hJ s h1,M₁,G₂,he.trans q1,q2,q3⟩
  obtain⟨s0,hs0,hI0⟩:=hI (fun _ h=>h) h0 ExtM.refl hst hrf
  -- the least measure of those states that fit
  intro b k cs hro hb hroom
  have key:∀(j:Nat) (s:S) (a₁:Act) (w₁:World),μ s=j->I s a₁ w₁->∃e a' w',VPost Q n m w M G e a' w'∧ArrivesIn (Machine.fenced P (fw fr)) P (lone (b.atR a₁ (.code x::.inLoop x::k)) cs w₁) b k cs e a' w':=by
   intro j
   induction j using Nat.strongRecOn with
   | _ j ih =>
     intro s a₁ w₁ hj ⟨hinv,M₁,G₁,he,hs,hf⟩
     obtain⟨e,a₂,w₂,hq,harr⟩:=qo9 (hr s hinv x hx) hs hf he b (.inLoop x::k) cs hro hb hroom
     obtain⟨ve,af',M',G',H',h1,h2,h3,h4,h5⟩:=hq
     by_cases hn:ve=.nrm
     ·subst hn
      have h2:e=.normal:=h2
      subst h2
      obtain⟨s',hs',hI'⟩:=hI (fun s h=>h.1) h1 h3 h4 h5
      obtain⟨e₂,a₃,w₃,hq₂,harr₂⟩:=ih (μ s') (hj ▸ hs'.2) s' a₂ w₂ rfl hI'
      exact⟨e₂,a₃,w₃,hq₂,.of_steps (StepsIn.trans harr (.one (fenced_calm hb hroom rfl) stepR_inLoop)) harr₂⟩
     ·have hne:=qn3 h2 hn
      have h1':Q ve af' H':=by cases ve<;>first | exact absurd rfl hn | exact h1
      have hp:VPost Q n m w M G e a₂ w₂:=⟨ve,af',M',G',H',h1',h2,h3,h4,h5⟩
      cases e with
      | normal=>exact absurd rfl hne
      | exit id=>exact⟨_,a₂,w₂,hp,.pass (x:=.inLoop x) rfl (fun _ _=>.inl (by simp)) harr⟩
      | goto l=>exact⟨_,a₂,w₂,hp,.pass (x:=.inLoop x) rfl (fun _ _=>.inl (by simp)) harr⟩
      | ret=>exact⟨_,a₂,w₂,hp,.pass (x:=.inLoop x) rfl (fun _ _=>.inl (by simp)) harr⟩
      | panic ch=>exact⟨_,a₂,w₂,hp,.pass (x:=.inLoop x) rfl (fun _ _=>.inl (by simp)) harr⟩
      | outgrown=>exact⟨_,a₂,w₂,hp,.pass (x:=.inLoop x) rfl (fun _ _=>.inl (by simp)) harr⟩
  obtain⟨e,a',w',hq,harr⟩:=key _ s0 act w rfl hI0
  exact⟨e,a',w',hq,.of_steps (.one (fenced_calm hb hroom rfl) stepR_loop) harr⟩
 all_goals(exfalso;(repeat' split at hc)<;>simp at hc)
end

def VO.ren(σ:Nat->Nat):VO->VO
 | .val v=>.val (v.ren σ)
 | .pan v=>.pan (v.ren σ)
def VO.bd(k:Nat):VO->Bool
 | .val v=>v.bd k
 | .pan v=>v.bd k

def qbf{α:Type}:List α->List Nat->List α->List α
 | l,i::is,e::es=>qbf (l.set i e) is es
 | l,_,_=>l

section
variable {α:Type}
theorem qer:∀(is:List Nat) (l es:List α),(qbf l is es).length=l.length
 | [],l,es=>by simp[qbf]
 | i::is,l,[]=>by simp[qbf]
 | i::is,l,e::es=>by rw[qbf,qer is];simp
theorem qhh:∀(is:List Nat) (l es:List α) (j:Nat),j∉is->(qbf l is es)[j]?=l[j]?
 | [],l,es,j,_=>by simp[qbf]
 | i::is,l,[],j,_=>by simp[qbf]
 | i :: is, l, e :: es, j, h => by
   simp only[List.mem_cons,not_or] at h
   rw[qbf,qhh is _ _ j h.2,List.getElem?_set_ne (Ne.symm h.1)]
theorem qnw:∀(is:List Nat) (l es:List α) (j i:Nat),is.Nodup->is.length=es.length->is[j]?=some i->i<l.length->(qbf l is es)[i]?=es[j]?
 | [],l,es,j,i,_,_,h,_=>by simp at h
 | x::is,l,[],j,i,_,hl,h,_=>by simp at hl
 | x :: is, l, e :: es, 0, i, hn, hl, h, hi => by
   simp only[List.getElem?_cons_zero,Option.some.injEq] at h
   subst h
   rw[List.nodup_cons] at hn
   rw[qbf,qhh is _ _ x hn.1]
   simp[hi]
 | x :: is, l, e :: es, j + 1, i, hn, hl, h, hi => by
   simp only[List.getElem?_cons_succ] at h ⊢
   rw[List.nodup_cons] at hn
   rw[qbf,qnw is _ es j i hn.2 (by simpa using hl) h (by simpa using hi)]
end

def sg(sel:List Nat)(j:Nat):Nat:=sel.getD j 0
def sg'(sel:List Nat)(len:Nat)(j:Nat):Nat:=if j<sel.length then sel.getD j 0 else len+(j-sel.length)

theorem qfb{sel:List Nat}{j:Nat}(h:j<sel.length):sel[j]?=some (sg sel j):=by
 rw[sg,List.getD_eq_getElem?_getD,List.getElem?_eq_getElem h];rfl

section
variable {w w':World} {M M':Nat->Nat->Prop} {G G':List Gh}

theorem qvu{σ:Nat->Nat}{k:Nat}(hG:∀(i:Nat) (g:Gh),i<k->G[i]?=some g->∃g':Gh,G'[σ i]?=some g'∧g'.core=g.core){g:Gh}{q:Nat}{es:List AV}(hb:AV.bds k es=true)(h:qlw w M G g q es):qlw w M G' g q (AV.rens σ es):=by
 obtain⟨h1,h2,vs,t,us,h3,h4,h5,h6,h7⟩:=h
 have hl:(AV.rens σ es).length=es.length:=by rw[qrw];simp
 rw[←hl] at h1 h7
 exact⟨h1,h2,vs,t,us,h3,h4,qc6 hG (fun b o h=>⟨h,rfl⟩) es us hb h5,h6,h7⟩

theorem quz{σ:Nat->Nat}{k:Nat}(hG:∀(i:Nat) (g:Gh),i<k->G[i]?=some g->∃g':Gh,G'[σ i]?=some g'∧g'.core=g.core){g:Gh}:∀{e:Ent},e.bd k=true->qib w M G g e->qib w M G' g (e.ren σ)
 | .dead,_,h=>h
 | .blk cs, hb, h => by
   obtain⟨h1,⟨vs,t,h2,h3⟩,h4⟩:=h
   exact⟨h1,⟨vs,t,h2,qc6 hG (fun b o h=>⟨h,rfl⟩) cs vs hb h3⟩,h4⟩
 | .app q es, hb, h => by
   obtain⟨h1,h2,h3⟩:=h
   have hl:(AV.rens σ es).length=es.length:=by rw[qrw];simp
   rw[←hl] at h3
   exact⟨h1,qvu hG hb h2,h3⟩
 | .mrow q es, hb, h => by
   obtain⟨h1,h2,h3⟩:=h
   exact⟨h1,qvu hG hb h2,h3⟩
 | .lp d as, hb, h => by
   obtain⟨h1,⟨vs,h2,h3⟩,h4⟩:=h
   exact⟨h1,⟨vs,h2,qc6 hG (fun b o h=>⟨h,rfl⟩) as vs hb h3⟩,h4⟩
 | .cus R,hb,h=>h

theorem qbgw{g:Gh}:∀{e:Ent},qib w M G g e->e.bd G.length=true
 | .dead,_=>rfl
 | .blk cs,h=>by obtain⟨_,⟨vs,t,_,h3⟩,_⟩:=h;exact qei _ _ h3
 | .app q es,h=>by obtain⟨_,⟨_,_,vs,t,us,_,_,h5,_⟩,_⟩:=h;exact qei _ _ h5
 | .mrow q es,h=>by obtain⟨_,⟨_,_,vs,t,us,_,_,h5,_⟩,_⟩:=h;exact qei _ _ h5
 | .lp d as,h=>by obtain⟨_,⟨vs,_,h3⟩,_⟩:=h;exact qei _ _ h3
 | .cus R,h=>rfl
end

section
variable {P:Program} {f:FuncId} {H H0:List Ent} {args0:List AV} {Q:List Ent->VO->Prop}

theorem ql9{sel:List Nat}{w w':World}{M M':Nat->Nat->Prop}{G G0 G1:List Gh}{H1:List Ent}(hn:sel.Nodup)(hlt:∀i∈sel,i<H.length)(hst:St w M G H)(h0l:G0.length=sel.length)
 (h0:∀(j:Nat) (g₀:Gh),G0[j]?=some g₀->∃g:Gh,G[sg sel j]?=some g∧g₀.core=g.core∧∀b,g₀.fp b->g.fp b) (hext:Ext w M G0 w' M' G1) (hst1:St w' M' G1 H1) :
 ∃ G', Ext w M G w' M' G' ∧ St w' M' G' (qbf H sel ((H1.take sel.length).map (Ent.ren (sg' sel H.length))) ++ (H1.drop sel.length).map (Ent.ren (sg' sel H.length))) ∧
   ∀(v:AV) (x:Value),VR w' M' G1 v x->VR w' M' G' (v.ren (sg' sel H.length)) x:=by
 have hlen:=hst.len
 have hlen1:=hst1.len
 have h1l:sel.length≤G1.length:=by
  rcases Nat.eq_zero_or_pos sel.length with hz | hz
  ·omega
  ·have hlast:sel.length-1<G0.length:=by omega
   obtain⟨g',hg',_⟩:=hext.core (sel.length-1) _ (List.getElem?_eq_getElem hlast)
   have:=(List.getElem?_eq_some_iff.1 hg').1
   omega
 let G':List Gh:=qbf G sel (G1.take sel.length)++G1.drop sel.length
 let L:=qbf H sel ((H1.take sel.length).map (Ent.ren (sg' sel H.length)))++(H1.drop sel.length).map (Ent.ren (sg' sel H.length))
 have hGl:(qbf G sel (G1.take sel.length)).length=H.length:=by rw[qer,hlen]
 have hLl:(qbf H sel ((H1.take sel.length).map (Ent.ren (sg' sel H.length)))).length=H.length:=qer _ _ _
 have hslt:∀j,j<sel.length->sg sel j<H.length:=fun j hj=>hlt _ (List.mem_of_getElem? (qfb hj))
 -- where the new numbers lead
 have hG1:∀j,j<G1.length->G'[sg' sel H.length j]?=G1[j]?:=fun j hj=>by
  unfold sg'
  by_cases hjs:j<sel.length
  ·rw[if_pos hjs]
   show(qbf G sel (G1.take sel.length)++_)[sg sel j]?=_
   rw[List.getElem?_append_left (by rw[hGl];exact hslt j hjs),qnw sel G _ j _ hn (by simp;omega) (qfb hjs) (by rw[hlen];exact hslt j hjs),List.getElem?_take_of_lt hjs]
  ·rw[if_neg hjs]
   show(qbf G sel (G1.take sel.length)++_)[_]?=_
   rw[List.getElem?_append_right (by rw[hGl];omega),hGl,List.getElem?_drop]
   congr 1;omega
 have hH1:∀j,j<H1.length->L[sg' sel H.length j]?=(H1[j]?).map (Ent.ren (sg' sel H.length)):=fun j hj=>by
  unfold sg'
  by_cases hjs:j<sel.length
  ·rw[if_pos hjs]
   show(qbf H sel _++_)[sg sel j]?=_
   rw[List.getElem?_append_left (by rw[hLl];exact hslt j hjs),qnw sel H _ j _ hn (by simp;omega) (qfb hjs) (hslt j hjs),List.getElem?_map,List.getElem?_take_of_lt hjs]
   rfl
  ·rw[if_neg hjs]
   show(qbf H sel _++_)[_]?=_
   rw[List.getElem?_append_right (by rw[hLl];omega),hLl,List.getElem?_map,List.getElem?_drop]
   congr 2;omega
 -- each number is an old one, or one of the call's
 have hcase:∀(i:Nat) (g:Gh),G'[i]?=some g->(∃j,j<G1.length∧i=sg' sel H.length j∧G1[j]?=some g)∨(i∉sel∧i<H.length∧G[i]?=some g):=fun i g hg=>by
  by_cases hi:i<H.length
  ·by_cases his:i∈sel
   ·obtain⟨j,hj⟩:=List.mem_iff_getElem?.1 his
    have hjl:=(List.getElem?_eq_some_iff.1 hj).1
    have he:i=sg' sel H.length j:=by
     unfold sg';rw[if_pos hjl,List.getD_eq_getElem?_getD,hj];rfl
    exact .inl ⟨j,by omega,he,by rw[←hG1 j (by omega),←he];exact hg⟩
   ·have:(qbf G sel (G1.take sel.length)++G1.drop sel.length)[i]?=some g:=hg
    rw[List.getElem?_append_left (by rw[hGl];exact hi),qhh _ _ _ _ his] at this
    exact .inr ⟨his,hi,this⟩
  ·have hl:=(List.getElem?_eq_some_iff.1 hg).1
   have hl':i<H.length+(G1.length-sel.length):=by
    have:(qbf G sel (G1.take sel.length)++G1.drop sel.length).length=H.length+(G1.length-sel.length):=by rw[List.length_append,hGl,List.length_drop]
    rw[←this];exact hl
   have he:i=sg' sel H.length (sel.length+(i-H.length)):=by
    unfold sg';rw[if_neg (by omega)];omega
   exact .inl ⟨sel.length+(i-H.length),by omega,he,by rw[←hG1 _ (by omega),←he];exact hg⟩
 have hmap:∀(i:Nat) (g:Gh),i<G1.length->G1[i]?=some g->∃g':Gh,G'[sg' sel H.length i]?=some g'∧g'.core=g.core:=fun i g hi hg=>⟨g,by rw[hG1 i hi];exact hg,rfl⟩
 have hown0:∀b,own G0 b->own G b∧∃(i:Nat) (g:Gh),i∈sel∧G[i]?=some g∧g.fp b:=fun b ⟨j,g₀,hg₀,hb⟩=>by
  obtain⟨g,h1,h2,h3⟩:=h0 j g₀ hg₀
  have hj:=(List.getElem?_eq_some_iff.1 hg₀).1
  exact⟨⟨_,g,h1,h3 b hb⟩,_,g,List.mem_of_getElem? (qfb (by omega)),h1,h3 b hb⟩
 have hout0:∀(i:Nat) (g:Gh) (b:Nat),i∉sel->G[i]?=some g->g.fp b->¬own G0 b:=fun i g b hi hg hb ho=>by
  obtain⟨_,j,g',h1,h2,h3⟩:=hown0 b ho
  exact hi (hst.dj i j g g' b hg h2 hb h3 ▸ h1)
 have hcore:∀(i:Nat) (g:Gh),G[i]?=some g->∃g':Gh,G'[i]?=some g'∧g'.core=g.core:=fun i g hg=>by
  have hi:=(List.getElem?_eq_some_iff.1 hg).1
  rw[hlen] at hi
  by_cases his:i∈sel
  ·obtain⟨j,hj⟩:=List.mem_iff_getElem?.1 his
   have hjl:=(List.getElem?_eq_some_iff.1 hj).1
   have he:i=sg' sel H.length j:=by
    unfold sg';rw[if_pos hjl,List.getD_eq_getElem?_getD,hj];rfl
   have he2:sg sel j=i:=by rw[sg,List.getD_eq_getElem?_getD,hj];rfl
   obtain⟨g₀',q1,q2,q3⟩:=h0 j _ (List.getElem?_eq_getElem (by omega:j<G0.length))
   rw[he2,hg] at q1
   simp only[Option.some.injEq] at q1;subst q1
   obtain⟨g₁,r1,r2⟩:=hext.core j _ (List.getElem?_eq_getElem (by omega:j<G0.length))
   exact⟨g₁,by rw[he,hG1 j (by omega)];exact r1,r2.trans q2⟩
  ·exact⟨g,by show(qbf G sel _++_)[i]?=_;rw[List.getElem?_append_left (by rw[hGl];exact hi),qhh _ _ _ _ his];exact hg,rfl⟩
 refine⟨G',⟨hext.os,hext.tape,hext.output,hext.size,hcore,hext.le,fun b hb ho=>hext.out b hb (fun h=>ho (hown0 b h).1),fun b ⟨i,g,hg,hb⟩=>?_,fun b o hm=>?_⟩,?_,fun v x hv=>?_⟩
 ·rcases hcase i g hg with ⟨j,hj,rfl,hgj⟩ | ⟨his,hi,hgi⟩
  ·rcases hext.new b ⟨j,g,hgj,hb⟩ with hx | hx
   ·exact .inl (hown0 b hx).1
   ·exact .inr hx
  ·exact .inl ⟨i,g,hgi,hb⟩
 ·rcases hext.Mnew b o hm with hx | hx | hx
  ·exact .inl hx
  ·exact .inr (.inl (hown0 b hx).1)
  ·exact .inr (.inr hx)
 ·refine q2j hst (by show(qbf G sel _++_).length=(qbf H sel _++_).length;simp[qer,hlen,hlen1]) (fun i g e hg he=>?_) hcore (fun i j g g' b h1 h2 h3 h4=>?_) (fun i g b hg hb=>?_) hst1.Mlt hst1.one
  ·rcases hcase i g hg with ⟨j,hj,rfl,hgj⟩ | ⟨his,hi,hgi⟩
   ·have hjH:j<H1.length:=by omega
    have he':L[sg' sel H.length j]?=some e:=he
    rw[hH1 j hjH,List.getElem?_eq_getElem hjH] at he'
    simp only[Option.map_some,Option.some.injEq] at he'
    subst he'
    have hok:=hst1.ok j g _ hgj (List.getElem?_eq_getElem hjH)
    exact .inr (quz hmap (qbgw hok) hok)
   ·have he':(qbf H sel _++_)[i]?=some e:=he
    rw[List.getElem?_append_left (by rw[hLl];exact hi),qhh _ _ _ _ his] at he'
    refine .inl ⟨hgi,he',fun b hb=>hext.out b (hst.lt i g b hgi hb) (hout0 i g b his hgi hb),hext.le,fun b o hb hm=>?_,hext.size⟩
    rcases hext.Mnew b o hm with hx | hx | hx
    ·exact hx
    ·exact absurd hx (hout0 i g b his hgi hb)
    ·have:=hst.lt i g b hgi hb;omega
  ·have key:∀(i j:Nat) (g g':Gh),i∉sel->G[i]?=some g->g.fp b->G1[j]?=some g'->g'.fp b->False:=fun i j g g' hi hg hb hg' hb'=>by
    rcases hext.new b ⟨j,g',hg',hb'⟩ with hx | hx
    ·exact hout0 i g b hi hg hb hx
    ·have:=hst.lt i g b hg hb;omega
   rcases hcase i g h1 with ⟨i',hi',rfl,hgi⟩ | ⟨his,hi,hgi⟩<;>rcases hcase j g' h2 with ⟨j',hj',rfl,hgj⟩ | ⟨hjs,hj,hgj⟩
   ·rw[hst1.dj _ _ _ _ b hgi hgj h3 h4]
   ·exact(key _ _ _ _ hjs hgj h4 hgi h3).elim
   ·exact(key _ _ _ _ his hgi h3 hgj h4).elim
   ·exact hst.dj _ _ _ _ b hgi hgj h3 h4
  ·rcases hcase i g hg with ⟨j,hj,rfl,hgj⟩ | ⟨his,hi,hgi⟩
   ·exact hst1.lt _ _ b hgj hb
   ·exact Nat.lt_of_lt_of_le (hst.lt _ _ b hgi hb) hext.size
 ·exact qpq hmap (fun b o h=>⟨h,rfl⟩) v x (qbf5 v x hv) hv

theorem qdv(sel:List Nat){Q':List Ent->VO->Prop}(h:VCalls P f H0 args0 Q)(hn:sel.Nodup)(hlt:∀i∈sel,i<H.length)(hl:sel.length=H0.length)
 (hent:∀(j:Nat) (e:Ent),H0[j]?=some e->e=.dead∨(e.bd H0.length=true∧H[sg sel j]?=some (e.ren (sg sel)))) (hargs:AV.bds H0.length args0=true)
 (hQ:∀H1 o,Q H1 o->Q' (qbf H sel ((H1.take sel.length).map (Ent.ren (sg' sel H.length)))++(H1.drop sel.length).map (Ent.ren (sg' sel H.length))) (o.ren (sg' sel H.length))):VCalls P f H (AV.rens (sg sel) args0) Q':=by
 refine⟨h.1,fun w M G vs hst hv=>?_⟩
 -- the ghosts that the call speaks of
 have hG0:∃G0,ExtM 0 w M G w M G0∧St w M G0 H0∧G0=wkG (sg sel) G H0 0:=by
  have hinj:∀i j,i<H0.length->j<H0.length->sg sel i=sg sel j->i=j:=fun i j hi hj he=>by
   have h1:=qfb (sel:=sel) (j:=i) (by omega)
   have h2:=qfb (sel:=sel) (j:=j) (by omega)
   rw[he,←h2] at h1
   exact(List.getElem?_inj (by omega) hn).1 h1
  have key:=qjh (n:=0) (m:=0) (σ:=sg sel) (af:=⟨[],[]⟩) (af':=⟨[],[]⟩) (a:={ tmps:=#[],defers:=[] }) hst ⟨rfl,rfl,fun t=>trivial⟩
   ⟨fun i hi=>by omega,Nat.zero_le _,hinj,hent,fun j hj=>hlt _ (List.mem_of_getElem? (qfb (by omega))),fun t=>.inl rfl,fun d hd=>(by cases hd),rfl⟩
  exact⟨_,key.1,key.2.1,rfl⟩
 obtain⟨G0,hx,hst0,hG0⟩:=hG0
 have hget:∀(j:Nat) (g₀:Gh),G0[j]?=some g₀->∃g:Gh,G[sg sel j]?=some g∧g₀.core=g.core∧∀b,g₀.fp b->g.fp b:=fun j g₀ hg=>by
  have hj:=(List.getElem?_eq_some_iff.1 hg).1
  rw[hst0.len] at hj
  have hlt':=hlt _ (List.mem_of_getElem? (qfb (sel:=sel) (j:=j) (by omega)))
  rw[←hst.len] at hlt'
  have hq:=qoz (sg sel) G H0 0 j _ (List.getElem?_eq_getElem hj)
  rw[Nat.zero_add] at hq
  rw[hG0,hq] at hg
  have hgd:G.getD (sg sel j) {}=G[sg sel j]:=by rw[List.getD_eq_getElem?_getD,List.getElem?_eq_getElem hlt'];rfl
  rw[hgd] at hg
  simp only[Option.some.injEq] at hg
  refine⟨G[sg sel j],List.getElem?_eq_getElem hlt',?_,fun b hb=>?_⟩
  ·rw[←hg];split<;>rfl
  ·rw[←hg] at hb
   split at hb
   ·exact hb.elim
   ·exact hb
 have hv0:VRs w M G0 args0 vs:=by
  refine qfj (σ:=sg sel) (k:=H0.length) (fun i g hi hg=>?_) args0 vs hargs hv
  have hi':i<G0.length:=by rw[hst0.len];exact hi
  obtain⟨g',q1,q2,_⟩:=hget i _ (List.getElem?_eq_getElem hi')
  rw[hg] at q1
  simp only[Option.some.injEq] at q1;subst q1
  exact⟨_,List.getElem?_eq_getElem hi',q2⟩
 refine CallsIn.mono (h.2 w M G0 vs hst0 hv0) fun e w' ho=>?_
 have h0l:G0.length=sel.length:=by rw[hst0.len,hl]
 cases e with
 | returned x =>
   obtain⟨M',G1,H1,v,q1,q2,q3,q4⟩:=ho
   obtain⟨G',r1,r2,r3⟩:=ql9 hn hlt hst h0l hget q2 q3
   exact⟨M',G',_,_,hQ _ _ q1,r1,r2,r3 _ _ q4⟩
 | panicked c =>
   obtain⟨M',G1,H1,v,x,q1,q2,q3,q4,q5⟩:=ho
   obtain⟨G',r1,r2,r3⟩:=ql9 hn hlt hst h0l hget q2 q3
   exact⟨M',G',_,_,x,hQ _ _ q1,r1,r2,r3 _ _ q4,q5⟩
 | outgrown=>exact ho
end
end Go.V
