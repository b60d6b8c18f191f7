/- Texts of this proof, joined. -/
import Derived.Test.YtkenggenkmfopaaGreatIag
import Derived.ScopeJumps
import Derived.WalkKit
import Derived.ProofKit
import Derived.OpenShut
import Derived.Carry
import Derived.ChangeSame
import Derived.Below
set_option linter.unusedVariables false
set_option linter.unusedSimpArgs false

/-
 The value logic, part r: scopes in which the run jumps back to a label; a goto.
-/
namespace Go.V
open Go Go.RowKit

def qnh:IC->Nat->Option IC
 | .seq a b, l => match qnh a l with
   | some r=>some (.seq r b)
   | none=>qnh b l
 | .label l',l=>if l' == l then some .skip else none
 | _,_=>none

theorem q3g{P:Program}{n l:Nat}:∀{c:Code} {ic:IC},qb0 P n c=some ic->(qnh ic l=none->findLabel c l=none)∧∀r,qnh ic l=some r->∃rest,findLabel c l=some rest∧qb0 P n rest=some r:=by
 intro c
 induction c with
 | seq a b iha ihb =>
   intro ic hc
   simp only[qb0] at hc
   split at hc
   ·rename_i x y hx hy
    simp only[Option.some.injEq] at hc
    subst hc
    obtain⟨a1,a2⟩:=iha hx
    obtain⟨b1,b2⟩:=ihb hy
    simp only[qnh,findLabel]
    cases hf:qnh x l with
    | none =>
      rw[a1 hf]
      exact⟨fun h=>b1 h,fun r h=>b2 r h⟩
    | some r =>
      obtain⟨rest,h1,h2⟩:=a2 r hf
      rw[h1]
      refine⟨fun h=>(by cases h),fun r' h=>?_⟩
      simp only[Option.some.injEq] at h
      subst h
      exact⟨_,rfl,by simp only[qb0,h2,hy]⟩
   ·cases hc
 | label l' =>
   intro ic hc
   simp only[qb0,Option.some.injEq] at hc
   subst hc
   simp only[qnh,findLabel]
   by_cases h:(l' == l)=true
   ·rw[if_pos h,if_pos h]
    exact⟨fun h=>(by cases h),fun r hr=>⟨.skip,rfl,by simp only[Option.some.injEq] at hr;subst hr;rfl⟩⟩
   ·rw[if_neg h,if_neg h]
    exact⟨fun _=>rfl,fun r hr=>(by cases hr)⟩
 | _ =>
   intro ic hc
   refine⟨fun _=>rfl,fun r hr=>?_⟩
   exfalso
   simp only[qb0] at hc
   repeat' split at hc
   all_goals first
    | (cases hc;done)
    | (simp only[Option.some.injEq] at hc;subst hc;simp only[qnh] at hr;cases hr;done)
    | (rcases Option.or_eq_some_iff.1 hc with hc | ⟨_,hc⟩<;>(obtain⟨y,_,hc⟩:=Option.map_eq_some_iff.1 hc;subst hc;simp only[qnh] at hr;cases hr);done)
    | (obtain⟨y,_,hc⟩:=Option.map_eq_some_iff.1 hc;subst hc;simp only[qnh] at hr;cases hr;done)

def scj{S:Type}(l:Nat)(Inv:S->Prop)(st:S->AF×List Ent)(m:Nat)(Q:VE->AF->List Ent->Prop):VE->AF->List Ent->Prop
 | .gto l',af,H=>l'=l∧At S Inv st m af H
 | e,af,H=>Q e af H

section
variable {P:Program} {fr:Option Nat} {n m:Nat} {Q:VE->AF->List Ent->Prop} {af:AF} {H:List Ent} {a:IC}

theorem q57{l:Nat}(h:Q (.gto l) af H):VI P fr n m (.goto l) Q af H:=by
 intro c hc
 have:c=.goto l:=by
  cases c<;>simp only[qb0] at hc<;>first | (simp at hc;rw[hc];done) | (exfalso;(repeat' split at hc)<;>simp at hc)
 subst this
 exact fun w M G a hst hr=>wpIn_goto ⟨.gto l,af,M,G,H,h,rfl,ExtM.refl,hst,hr⟩

theorem qba2{S:Type}(l:Nat){r:IC}(hf:qnh a l=some r)(Inv:S->Prop)(st:S->AF×List Ent)(μ:S->Nat)(h0:VI P fr n m a (scj l Inv st m Q) af H)
 (hr:∀s,Inv s->VI P fr n m r (scj l (fun s'=>Inv s'∧μ s'<μ s) st m Q) (st s).1 (st s).2):VI P fr n m (.scope a) Q af H:=by
 intro c hc
 cases c<;>simp only[qb0] at hc
 case scope x =>
  obtain⟨x',hx,hxx⟩:=Option.map_eq_some_iff.1 hc
  simp only[IC.scope.injEq] at hxx
  subst hxx
  obtain⟨rest,hrest,hcr⟩:=(q3g hx).2 r hf
  intro w M G act hst hrf b k cs hro hb hroom
  have hg:gotoIn l (.inScope x::k)=some (.code rest::.inScope x::k):=by simp[gotoIn,hrest]
  have hsc:step P (lone (b.atR act (.code (.scope x)::k)) cs w)=.next (lone (b.atR act (.code x::.inScope x::k)) cs w):=qe1
  let I:S->Act->World->Prop:=fun s a' w'=>Inv s∧∃M' G',ExtM m w M G w' M' G'∧St w' M' G' (st s).2∧RelF w' M' G' n (st s).1 a'
  have hI:∀{af₁:AF} {H₁:List Ent} {a₁:Act} {w₁:World} {M₁:Nat->Nat->Prop} {G₁:List Gh} {J:S->Prop},(∀s,J s->Inv s)->At S J st m af₁ H₁->ExtM m w M G w₁ M₁ G₁->St w₁ M₁ G₁ H₁->RelF w₁ M₁ G₁ n af₁ a₁->∃s,J s∧I s a₁ w₁:=by
   intro af₁ H₁ a₁ w₁ M₁ G₁ J hJ hat he hs hf
   obtain⟨s,h1,h2⟩:=hat
   obtain⟨G₂,q1,q2,q3⟩:=qrp hs hf h2
   exact⟨s,h1,hJ s h1,M₁,G₂,he.trans q1,q2,q3⟩
  -- how the inner code is left
  have out:∀{J:S->Prop} {e:Exit} {a₁:Act} {w₁:World} {m0:Machine},(∀s,J s->Inv s)->VPost (scj l J st m Q) n m w M G e a₁ w₁->ArrivesIn (Machine.fenced P (fw fr)) P m0 b (.inScope x::k) cs e a₁ w₁ →
   (∃e' a' w',VPost Q n m w M G e' a' w'∧ArrivesIn (Machine.fenced P (fw fr)) P m0 b k cs e' a' w')∨(∃s,J s∧I s a₁ w₁∧StepsIn (Machine.fenced P (fw fr)) P m0 (lone (b.atR a₁ (.code rest::.inScope x::k)) cs w₁)):=by
   intro J e a₁ w₁ m0 hJ hq harr
   obtain⟨ve,af',M',G',H',h1,h2,h3,h4,h5⟩:=hq
   cases ve with
   | gto l' =>
     have h2:e=.goto l':=h2
     subst h2
     obtain⟨rfl,hat⟩:=h1
     obtain⟨s,hs,hIs⟩:=hI hJ hat h3 h4 h5
     exact .inr ⟨s,hs,hIs,harr.1 _ hg⟩
   | nrm =>
     have h2:e=.normal:=h2
     subst h2
     exact .inl ⟨.normal,a₁,w₁,⟨.nrm,af',M',G',H',h1,rfl,h3,h4,h5⟩,StepsIn.trans harr (.one (fenced_calm hb hroom rfl) qjk)⟩
   | ext i =>
     have h2:e=.exit i:=h2
     subst h2
     exact .inl ⟨.exit i,a₁,w₁,⟨.ext i,af',M',G',H',h1,rfl,h3,h4,h5⟩,⟨fun k' hk=>harr.1 k' (by simpa [exitTo] using hk),fun hr hk=>harr.2 hr (by simpa [exitTo] using hk)⟩⟩
   | ret =>
     have h2:e=.ret:=h2
     subst h2
     exact .inl ⟨.ret,a₁,w₁,⟨.ret,af',M',G',H',h1,rfl,h3,h4,h5⟩,harr⟩
   | pan v =>
     obtain⟨y,rfl,hy⟩:=h2
     exact .inl ⟨_,a₁,w₁,⟨.pan v,af',M',G',H',h1,⟨y,rfl,hy⟩,h3,h4,h5⟩,harr⟩
  have key:∀(j:Nat) (s:S) (a₁:Act) (w₁:World),μ s=j->I s a₁ w₁->∃e a' w',VPost Q n m w M G e a' w'∧ArrivesIn (Machine.fenced P (fw fr)) P (lone (b.atR a₁ (.code rest::.inScope x::k)) cs w₁) b k cs e a' w':=by
   intro j
   induction j using Nat.strongRecOn with
   | _ j ih =>
     intro s a₁ w₁ hj ⟨hinv,M₁,G₁,he,hs,hf⟩
     obtain⟨e,a₂,w₂,hq,harr⟩:=qo9 (hr s hinv rest hcr) hs hf he b (.inScope x::k) cs hro hb hroom
     rcases out (fun s h=>h.1) hq harr with h | ⟨s',hs',hI',hst'⟩
     ·exact h
     ·obtain⟨e₂,a₃,w₃,hq₂,harr₂⟩:=ih (μ s') (hj ▸ hs'.2) s' a₂ w₂ rfl hI'
      exact⟨e₂,a₃,w₃,hq₂,.of_steps hst' harr₂⟩
  have hc0:(lone (b.atR act (.code (.scope x)::k)) cs w).fenced P (fw fr):=fenced_calm hb hroom rfl
  obtain⟨e,a₁,w₁,hq,harr⟩:=h0 x hx w M G act hst hrf b (.inScope x::k) cs hro hb hroom
  rcases out (fun s h=>h) hq (.of_steps (.one hc0 hsc) harr) with h | ⟨s',hs',hI',hst'⟩
  ·exact h
  ·obtain⟨e₂,a₃,w₃,hq₂,harr₂⟩:=key _ s' a₁ w₁ rfl hI'
   exact⟨e₂,a₃,w₃,hq₂,.of_steps hst' harr₂⟩
 all_goals(exfalso;(repeat' split at hc)<;>simp at hc)

theorem qbsh{S:Type}{l:Nat}{Inv:S->Prop}{st:S->AF×List Ent}(af:AF)(H:List Ent):scj l Inv st m Q .nrm af H=Q .nrm af H:=Eq.trans rfl rfl
theorem qb64{S:Type}{l i:Nat}{Inv:S->Prop}{st:S->AF×List Ent}(af:AF)(H:List Ent):scj l Inv st m Q (.ext i) af H=Q (.ext i) af H:=Eq.trans rfl rfl
theorem qbps{S:Type}{l:Nat}{Inv:S->Prop}{st:S->AF×List Ent}(af:AF)(H:List Ent):scj l Inv st m Q .ret af H=Q .ret af H:=Eq.trans rfl rfl
theorem qbws{S:Type}{l l':Nat}{Inv:S->Prop}{st:S->AF×List Ent}(af:AF)(H:List Ent):scj l Inv st m Q (.gto l') af H=(l'=l∧At S Inv st m af H):=Eq.trans rfl rfl
theorem qckh{b:IC}(l:Nat)(af:AF)(H:List Ent):sq P fr n m b Q (.gto l) af H=Q (.gto l) af H:=Eq.trans rfl rfl
theorem qbzy{id l:Nat}(af:AF)(H:List Ent):blq id Q (.gto l) af H=Q (.gto l) af H:=Eq.trans rfl rfl
theorem qcje{S:Type}{Inv:S->Prop}{st:S->AF×List Ent}{l:Nat}(af:AF)(H:List Ent):lq Inv st m Q (.gto l) af H=Q (.gto l) af H:=Eq.trans rfl rfl
attribute [go_sem] qbsh qb64 qbps qbws qckh qbzy qcje
end
theorem ti_:True:=⟨⟩
theorem vs_{p q:Prop}(h:q)(e:q->p:=by first | exact qij | exact qq5 | exact qbht):p:=e h
theorem vr_{p q:Prop}(h:q)(e:q->p:=by first | exact qil | exact qb7v (by rfl) | exact qx3 | exact q0l | exact q57 | exact qbbp | exact q5p | exact qbca | exact qbak):p:=e h
inductive Pk(c:Bool)(p:Prop):Prop where | mk
theorem qclo{P:Program}{Q:VE->AF->List Ent->Prop}{c b:Bool}{d:Option Nat}{i:I}{k:Kt}{af:AF}{H:List Ent}:Pk c (gdK P Q (.bool c) b d i k af H):=.mk
theorem qcew{c:Bool}{A B:Prop}:Pk c (cnd (.bool c) A B):=.mk
theorem cs_{c:Bool}{p x y a b:Prop}(h1:x->a)(h2:y->b)(_e:Pk c p:=by first | exact qclo | exact qcew)
 (ex:(c=true)=x:=by first | (simp only[hb_];exact rfl) | exact rfl) (ey:(c=false)=y:=by first | (simp only[hb_];exact rfl) | exact rfl)
 (ea:c=true->p=a:=by intro hc;first | (simp only[hc];exact rfl) | exact rfl) (eb:c=false->p=b:=by intro hc;first | (simp only[hc];exact rfl) | exact rfl):p:=by
 cases c
 ·rw[eb rfl];exact h2 (ey ▸ rfl)
 ·rw[ea rfl];exact h1 (ex ▸ rfl)

def q9x(rs:List (RV×Co))(Q:List Ent->VO->Prop)(af:AF)(H:List Ent):Prop :=
 (qe0 af H rs).bnd fun l=>Q H (.val (one l))
def panw(Q:List Ent->VO->Prop)(v:AV)(H:List Ent):Prop:=Q H (.pan v)
def retw(rs:List (RV×Co))(Q:List Ent->VO->Prop):VE->AF->List Ent->Prop
 | .nrm,af,H | .ret,af,H=>dlq af.dl H (q9x rs Q af)
 | .pan v,af,H=>dlq af.dl H (panw Q v)
 | _,_,_=>False

section
variable {P:Program} {f:FuncId} {n k:Nat} {ic:IC} {rs:List (RV×Co)} {H:List Ent} {args:List AV} {Q:List Ent->VO->Prop}
theorem qlh(hc:cFun P f=some (n,ic,rs))(hl:args.length≤n)(h:VI P none n H.length ic (retw rs Q) ⟨qc7 0 args,[]⟩ H):VCalls P f H args Q:=by
 obtain⟨fn,c,hf,hb,hn,hcode,hres,hok⟩:=qjp hc
 subst hn
 refine⟨hok,fun w M G vs hst hv=>callsIn_of_wp_marks hf hb trivial ?_⟩
 have hvl:=ql hv
 have hrel:RelF w M G fn.ntmps ⟨qc7 0 args,[]⟩ { tmps:=vs.toArray++Array.replicate (fn.ntmps-vs.toArray.size) undef,defers:=[] }:=by
  refine⟨by simp;omega,rfl,fun t=>?_⟩
  simp only[qdz,Nat.zero_le,if_true,Nat.sub_zero]
  by_cases ht:t<args.length
  ·obtain⟨x,hx,hr⟩:=qc1 hv ht
   have:(vs.toArray++Array.replicate (fn.ntmps-vs.toArray.size) undef).getD t undef=x:=by
    rw[Array.getD_eq_getD_getElem?,Array.getElem?_append_left (by simp;omega)]
    simp[hx]
   rw[this];exact hr
  ·have:args.getD t .junk=.junk:=by rw[List.getD_eq_getElem?_getD,List.getElem?_eq_none (by omega)];rfl
   rw[this];trivial
 have hwp:=h c hcode w M G _ hst hrel
 have hfw:fw none=Fence.wide:=rfl
 rw[hfw] at hwp
 refine wpIn_mono hwp fun e a' w' hp=>?_
 obtain⟨ve,af',M',G',H',h1,h2,h3,h4,h5⟩:=hp
 have hlen:G.length=H.length:=hst.len
 -- the marks
 have leave:∀(l:List AD) (ds:List Deferred) (H₁:List Ent) (G₁:List Gh) (w₁:World) (mode:FrameMode) (K:List Ent->Prop),mode≠.run->DR w₁ M' G₁ l ds->ExtM H.length w M G w₁ M' G₁->St w₁ M' G₁ H₁->(∀t,VR w₁ M' G₁ (get af'.tm t) (a'.tmps.getD t undef))->dlq l H₁ K →
  (∀(H₂:List Ent) (G₂:List Gh) (w₂:World),K H₂->ExtM H.length w M G w₂ M' G₂->Ext w₁ M' G₁ w₂ M' G₂->St w₂ M' G₂ H₂->(∀t,VR w₂ M' G₂ (get af'.tm t) (a'.tmps.getD t undef))->LeavesIn Fence.wide 0 P fn a'.tmps (Out Q w M G) [] mode w₂) →
  LeavesInM Fence.wide 0 P fn a'.tmps (Out Q w M G) ds mode w₁:=by
  intro l
  induction l with
  | nil =>
    intro ds H₁ G₁ w₁ mode K hmo hd he hs hv hq hK
    simp only[DR] at hd;subst hd
    exact hK H₁ G₁ w₁ hq he (Ext.refl _ _ _) hs hv
  | cons d l ih =>
    intro ds H₁ G₁ w₁ mode K hmo hd he hs hv hq hK
    cases d with
    | dfr f args=>exact hq.elim
    | mark i =>
      obtain⟨g,r,rfl,hg,hd⟩:=hd
      simp only[dlq] at hq
      split at hq
      ·rename_i d as hen
       obtain⟨G₂,q1,q2,q3⟩:=qye hs hg (qio hen)
       refine⟨hmo,.inl ⟨g.cap,_,rfl,run_takeDeferred q1,?_⟩⟩
       exact ih r _ G₂ _ mode K hmo (qg0 q3.core q3.le hd) (he.trans q3.toM) q2 (fun t=>(hv t).ext q3) hq fun H₂ G₃ w₂ r1 r2 r3 r4 r5=>hK H₂ G₃ w₂ r1 r2 (q3.trans r3) r4 r5
      ·exact hq.elim
 have done:∀(hq:dlq af'.dl H' (q9x rs Q af')),LeavesInM Fence.wide 0 P fn a'.tmps (Out Q w M G) a'.defers .returning w':=fun hq=>by
  refine leave af'.dl a'.defers H' G' w' .returning _ (by simp) h5.defers h3 h4 h5.rd hq fun H₂ G₂ w₂ q1 q2 q3 q4 q5=>?_
  obtain⟨us,x,s1,s2,s3⟩:=qms (n:=fn.ntmps) (af:=⟨af'.tm,[]⟩) (a:={ tmps:=a'.tmps,defers:=[] }) q4 ⟨h5.size,rfl,q5⟩ hres (by rw[qjy (l':=af'.dl)];exact q1)
  exact⟨x,s3,M',G₂,_,_,s1,(hlen ▸ q2).toExt,q4,s2⟩
 cases ve with
 | nrm=>have h2:e=.normal:=h2;subst h2;exact done h1
 | ret=>have h2:e=.ret:=h2;subst h2;exact done h1
 | pan v =>
   obtain⟨x,rfl,hx⟩:=h2
   refine leave af'.dl a'.defers H' G' w' _ _ (by simp) h5.defers h3 h4 h5.rd h1 fun H₂ G₂ w₂ q1 q2 q3 q4 q5=>?_
   exact⟨M',G₂,_,_,x,q1,(hlen ▸ q2).toExt,q4,hx.ext q3,rfl⟩
 | ext i=>exact h1.elim
 | gto l=>exact h1.elim

end

def endw(i:Nat)(Q:List Ent->VO->Prop):VE->AF->List Ent->Prop
 | .nrm, _, H => match ent H i with
   | .lp d as=>Q (H.set i (.lp ⟨.ready,none,d.fn,d.ps,d.asn,d.bd⟩ as)) (.val (.bool true))
   | _=>False
 | .ret, _, H => match ent H i with
   | .lp d as=>Q (H.set i (.lp ⟨.done,some .ret,d.fn,d.ps,d.asn,d.bd⟩ as)) (.val (.bool false))
   | _=>False
 | .ext id, _, H => match ent H i with
   | .lp d as=>Q (H.set i (.lp ⟨.done,some (.exit id),d.fn,d.ps,d.asn,d.bd⟩ as)) (.val (.bool false))
   | _=>False
 | _,_,_=>False
def begw(P:Program)(n m i l:Nat)(b:IC)(Q:List Ent->VO->Prop):VE->AF->List Ent->Prop
 | .nrm, af, H => match ent H i with
   | .lp ⟨.ready,j,fn,ps,x,y⟩ as=>VI P (some l) n m b (endw i Q) af (H.set i (.lp ⟨.busy,j,fn,ps,x,y⟩ as))
   | _=>False
 | _,_,_=>False

section
variable {P:Program} {n i:Nat} {H:List Ent} {a b:IC} {d:LpD} {as args:List AV} {Q:List Ent->VO->Prop}
theorem qx7(hH:ent H i=.lp d as)(hs:d.st=.ready)(hn:as.length=n)(ha:qb0 P n d.asn=some a)(hb:qb0 P n d.bd=some b)(hl:args.length=d.ps.size)(hp:∀p∈d.ps.toList,p<n)
 (h:∀l,VI P (some l) n H.length a (begw P n H.length i l b Q) ⟨qtz (qc7 0 as) d.ps.toList args,[]⟩ H):VApp P H (.opq i) args Q:=by
 intro w M G x xs hst hf hv
 obtain⟨g,hg,rfl,_⟩:=hf rfl
 obtain⟨h1,⟨vs,h2,h3⟩,h4,h5,h6,h7⟩:=hst.ok i g _ hg (qio hH)
 have hxl:=ql hv
 show AppOut P _ _ w _
 rw[h5]
 refine⟨{ target:=.fn (.yield g.blk) #[],args:=#[]++xs.toArray },w,rfl,?_⟩
 have hinv:(invoke (Target.fn (.yield g.blk) #[]) (#[]++xs.toArray)).run P w=(Instr.yield g.blk (#[]++xs.toArray)).run P w:=by
  simp[invoke]
 have hy:=run_yield (P:=P) (args:=#[]++xs.toArray) h2 (by simp;omega)
 simp only[hinv,hy]
 have hlen:G.length=H.length:=hst.len
 refine roundIn_of_wpIn trivial ?_
 have hrel:=qle (qzj h3 hn) hp hv
 have hz:((d.ps.zip (#[]++xs.toArray)).foldl (fun tmps (t,a)=>tmps.setIfInBounds t a) vs.toArray)=(d.ps.toList.zip xs).foldl (fun tmps (t,a)=>tmps.setIfInBounds t a) vs.toArray:=by
  rw[←Array.foldl_toList]
  simp
 rw[hz]
 have hwp:=h g.blk d.asn ha w M G _ hst hrel
 refine wpIn_mono hwp fun e a' w' hp'=>?_
 obtain⟨ve,af',M',G',H',q1,q2,q3,q4,q5⟩:=hp'
 cases ve<;>try exact q1.elim
 have q2:e=.normal:=q2
 subst q2
 simp only[begw] at q1
 split at q1
 ·rename_i j fn ps x y as' he
  have hi:i<G.length:=(List.getElem?_eq_some_iff.1 hg).1
  obtain⟨g',hg',hcore⟩:=q3.core i g (by omega) hg
  obtain⟨vs',r1,r2,r3,r4⟩:=qjt q4 hg' (qio he) ⟨.busy,j,fn,ps,x,y⟩ rfl rfl rfl rfl
  have hblk:g'.blk=g.blk:=(qb7 hcore).1
  rw[hblk] at r1 r3 r4
  refine⟨_,run_beginRound r1 rfl,?_⟩
  have hcode:d.bd=d.bd:=rfl
  have hx:=q3.trans r4.toM
  have hwb:=q1 d.bd hb _ M' G' a' r3 (q5.ext r4)
  refine wpIn_mono hwb fun e₂ a₂ w₂ hp₂=>?_
  obtain⟨ve₂,af₂,M₂,G₂,H₂,s1,s2,s3,s4,s5⟩:=hp₂
  have hx2:=hx.trans s3
  have done:∀(d':LpD) (as₂:List AV) (st:LoopState) (jmp:Option Code) (bv:Bool),ent H₂ i=.lp d' as₂->(st=if jmp.isNone then .ready else .done)->bv=jmp.isNone->Q (H₂.set i (.lp ⟨st,jmp,d'.fn,d'.ps,d'.asn,d'.bd⟩ as₂)) (.val (.bool bv)) →
   ∃v w₃,(Instr.endRound g.blk jmp).run P w₂=.ok v w₃∧Out Q w M G (.returned v) w₃:=by
   intro d' as₂ st jmp bv he₂ hst' hbv hq
   subst hst' hbv
   obtain⟨g₂,hg₂,hcore₂⟩:=hx2.core i g (by omega) hg
   obtain⟨vs₂,t1,t2,t3,t4⟩:=qjt s4 hg₂ (qio he₂) ⟨if jmp.isNone then .ready else .done,jmp,d'.fn,d'.ps,d'.asn,d'.bd⟩ rfl rfl rfl rfl
   have hblk₂:g₂.blk=g.blk:=(qb7 hcore₂).1
   rw[hblk₂] at t1 t3 t4
   exact⟨_,_,run_endRound jmp t1,M₂,G₂,_,_,hq,(hlen ▸ (hx2.trans t4.toM)).toExt,t3,rfl⟩
  cases ve₂ with
  | nrm =>
    have s2:e₂=.normal:=s2
    subst s2
    simp only[endw] at s1
    split at s1
    ·rename_i d' as₂ he₂
     exact done d' as₂ .ready none true he₂ rfl rfl s1
    ·exact s1.elim
  | ret =>
    have s2:e₂=.ret:=s2
    subst s2
    simp only[endw] at s1
    split at s1
    ·rename_i d' as₂ he₂
     exact done d' as₂ .done (some .ret) false he₂ rfl rfl s1
    ·exact s1.elim
  | ext id =>
    have s2:e₂=.exit id:=s2
    subst s2
    simp only[endw] at s1
    split at s1
    ·rename_i d' as₂ he₂
     exact done d' as₂ .done (some (.exit id)) false he₂ rfl rfl s1
    ·exact s1.elim
  | gto l=>exact s1.elim
  | pan v=>exact s1.elim
 ·exact q1.elim
end


/-! ### States that grow -/
def gro(n k:Nat)(i:Nat):Nat:=if i<n then i else i+k
def grow(n:Nat)(L H1:List Ent):List Ent:=(H1.take n).map (Ent.ren (gro n L.length))++L++(H1.drop n).map (Ent.ren (gro n L.length))

theorem qba3{H0 L:List Ent}:sg' (List.range H0.length) (H0++L).length=gro H0.length L.length:=by
 funext i
 unfold sg' gro
 simp only[List.length_range,List.length_append]
 by_cases h:i<H0.length
 ·rw[if_pos h,if_pos h,List.getD_eq_getElem?_getD,List.getElem?_range h];rfl
 ·rw[if_neg h,if_neg h];omega
theorem q87{H0 L H1:List Ent}(hl:H0.length≤H1.length):qds (H0++L) (List.range H0.length) H1=grow H0.length L H1:=by
 unfold qds grow
 rw[qba3,List.length_range]
 have:=qht ((H1.take H0.length).map (Ent.ren (gro H0.length L.length))) [] (H0++L) (by simp;omega)
 simp only[List.nil_append,List.length_nil,List.length_map,List.length_take,Nat.min_eq_left hl] at this
 rw[List.range_eq_range',this]
 simp

section
variable {P:Program} {H0 L:List Ent} {fv:AV} {f:FuncId} {args:List AV} {Q0 Q:List Ent->VO->Prop}
theorem qbdi(h:VApp P H0 fv args Q0)(hb:H0.all (Ent.bd H0.length)=true)(hf:fv.bd H0.length=true)(ha:AV.bds H0.length args=true)
 (hq:∀H1 o,Q0 H1 o->H0.length≤H1.length∧Q (grow H0.length L H1) (o.ren (gro H0.length L.length))):VApp P (H0++L) fv args Q :=
 q7g (List.range H0.length) h List.nodup_range (qk0 hb) hf (by rw[ren_same (m:=H0.length) (fun i hi=>qhy hi) _ hf]) ha (by rw[qs (m:=H0.length) (fun i hi=>qhy hi) _ ha]) fun H1 o ho=>by
  obtain⟨h1,h4⟩:=hq H1 o ho
  rw[q87 h1,qba3]
  exact h4
end

theorem qcdq{H:List Ent}{i:Nat}(h:H.length≤i):ent H i=.dead:=by
 induction H generalizing i with
 | nil=>rfl
 | cons e r ih => cases i with
   | zero=>simp at h
   | succ i=>exact ih (by simpa using h)
theorem qba? {H:List Ent} {i:Nat}:ent H i=(H[i]?).getD .dead:=by
 induction H generalizing i with
 | nil=>rfl
 | cons e r ih => cases i with
   | zero=>rfl
   | succ i=>rw[List.getElem?_cons_succ];exact ih
theorem qse{H0 L:List Ent}{j:Nat}(h:H0.length≤j):ent (H0++L) j=ent L (j-H0.length):=by
 rw[qba?,qba?,List.getElem?_append_right h]
theorem q5w{H:List Ent}{g:Ent->Ent}(hg:g .dead=.dead){i:Nat}:ent (H.map g) i=g (ent H i):=by
 rw[qba?,qba?,List.getElem?_map]
 cases H[i]?<;>simp[hg]
theorem qbf9{H:List Ent}{n i:Nat}(h:i<n):ent (H.take n) i=ent H i:=by
 rw[qba?,qba?,List.getElem?_take_of_lt h]
theorem qbiv{H:List Ent}{n i:Nat}:ent (H.drop n) i=ent H (n+i):=by
 rw[qba?,qba?,List.getElem?_drop]
theorem qbp{H:List Ent}{i:Nat}{e:Ent}(h:i<H.length):ent (H.set i e) i=e:=by
 rw[qba?,List.getElem?_set_self h];rfl
theorem qb9{H:List Ent}{i j:Nat}{e:Ent}(h:i≠j):ent (H.set i e) j=ent H j:=by
 rw[qba?,qba?,List.getElem?_set_ne h]
theorem qy5(σ:Nat->Nat):Ent.ren σ .dead=.dead:=rfl
section
variable {n:Nat} {L H1:List Ent}
theorem qqr(h:n≤H1.length):(grow n L H1).length=H1.length+L.length:=by
 simp only[grow,List.length_append,List.length_map,List.length_take,List.length_drop];omega
theorem qb5{i:Nat}(h:n≤H1.length)(hi:i<n):ent (grow n L H1) i=(ent H1 i).ren (gro n L.length):=by
 unfold grow
 rw[List.append_assoc,qdw (by simp;omega),q5w (qy5 _),qbf9 hi]
theorem qxt{i:Nat}(h:n≤H1.length)(hi:n≤i):ent (grow n L H1) (i+L.length)=(ent H1 i).ren (gro n L.length):=by
 unfold grow
 rw[qse (by simp;omega),q5w (qy5 _),qbiv]
 congr 2
 simp only[List.length_append,List.length_map,List.length_take];omega
theorem qbfr{i:Nat}(h:n≤H1.length):ent (grow n L H1) (gro n L.length i)=(ent H1 i).ren (gro n L.length):=by
 unfold gro
 by_cases hi:i<n
 ·simp only[hi,if_true];exact qb5 h hi
 ·simp only[hi,if_false];exact qxt h (by omega)
theorem qtj{j:Nat}(h:n≤H1.length)(hj:j<L.length):ent (grow n L H1) (n+j)=ent L j:=by
 unfold grow
 rw[List.append_assoc,qse (by simp;omega)]
 rw[qdw (by simp only[List.length_map,List.length_take];omega)]
 congr 1
 simp only[List.length_map,List.length_take];omega
end

/-! ### What every state obeys -/
theorem qzw{w:World}{M:Nat->Nat->Prop}{G:List Gh}{g:Gh}{e:Ent}(h:qib w M G g e):e.bd G.length=true:=by
 cases e with
 | dead=>rfl
 | blk cs=>obtain⟨_,⟨vs,t,_,h3⟩,_⟩:=h;exact qei _ _ h3
 | app n es=>obtain⟨_,⟨_,_,_,_,_,_,_,h5,_⟩,_⟩:=h;exact qei _ _ h5
 | mrow n es=>obtain⟨_,⟨_,_,_,_,_,_,_,h5,_⟩,_⟩:=h;exact qei _ _ h5
 | lp d as=>obtain⟨_,⟨vs,_,h3⟩,_⟩:=h;exact qei _ _ h3
 | cus R=>rfl
theorem qclg{w:World}{M:Nat->Nat->Prop}{G:List Gh}{H:List Ent}(h:St w M G H):H.all (Ent.bd H.length)=true:=by
 rw[List.all_eq_true]
 intro e he
 obtain⟨i,hi⟩:=List.mem_iff_getElem?.1 he
 have hl:=(List.getElem?_eq_some_iff.1 hi).1
 have hl2:i<G.length:=by rw[h.len];exact hl
 have hg:G[i]?=some (G[i]'hl2):=List.getElem?_eq_getElem hl2
 rw[←h.len]
 exact qzw (h.ok i _ e hg hi)
section
variable {P:Program} {fr:Option Nat} {n m:Nat} {a:IC} {Q:VE->AF->List Ent->Prop} {af:AF} {H:List Ent} {fv:AV} {f:FuncId} {args:List AV} {R:List Ent->VO->Prop}
theorem qcfa(h:H.all (Ent.bd H.length)=true->VI P fr n m a Q af H):VI P fr n m a Q af H :=
 fun c hc w M G act hst hr=>h (qclg hst) c hc w M G act hst hr
theorem qzs{w:World}{M:Nat->Nat->Prop}{G:List Gh}(hst:St w M G H){c:Co}:∀{cs:List AV} {vs:List Value} {k:Nat},VRs w M G cs vs->VRs w M G (cs.set k (co H c (cs.getD k .junk))) vs
 | [],vs,k,h=>h
 | v::cs,vs,0,⟨x,r,h1,h2,h3⟩=>⟨x,r,h1,qdo hst c v x h2,h3⟩
 | v::cs,vs,k+1,⟨x,r,h1,h2,h3⟩=>⟨x,r,h1,h2,qzs hst h3⟩
theorem qdy(j k:Nat)(c:Co){cs:List AV}(he:ent H j=.blk cs)(h:VI P fr n m a Q af (H.set j (.blk (cs.set k (co H c (cs.getD k .junk)))))):VI P fr n m a Q af H:=by
 intro z hz w M G act hst hr
 have hH:=qba he (by simp)
 obtain⟨g,hg⟩:=hst.lenH hH
 obtain⟨h1,⟨vs,t,h2,h3⟩,h4⟩:=hst.ok j g _ hg hH
 have hv:VRs w M G (cs.set k (co H c (cs.getD k .junk))) vs:=qzs hst h3
 have hs:=qik (w':=w) (M':=M) (g':=g) (e:=.blk (cs.set k (co H c (cs.getD k .junk)))) hst hg rfl (fun _ h=>h) (Nat.le_refl _) (fun _ _ _=>rfl) (Le.refl w M) (fun _ _ h=>.inl h) (by rw[qd3 _ _ _ hg];exact⟨h1,⟨vs,t,h2,hv⟩,h4⟩)
 rw[qd3 _ _ _ hg] at hs
 exact qo9 (h z hz) hs hr ExtM.refl
end
theorem qbdv{rs:List (RV×Co)}{Q:List Ent->VO->Prop}(af:AF)(H:List Ent):retw rs Q .ret af H=dlq af.dl H (q9x rs Q af):=Eq.trans rfl rfl
theorem qbgh{rs:List (RV×Co)}{Q:List Ent->VO->Prop}(af:AF)(H:List Ent):retw rs Q .nrm af H=dlq af.dl H (q9x rs Q af):=Eq.trans rfl rfl
theorem qbij{rs:List (RV×Co)}{Q:List Ent->VO->Prop}(v:AV)(af:AF)(H:List Ent):retw rs Q (.pan v) af H=dlq af.dl H (panw Q v):=Eq.trans rfl rfl
theorem q8i{rs:List (RV×Co)}{Q:List Ent->VO->Prop}(af:AF)(H:List Ent):q9x rs Q af H=((qe0 af H rs).bnd fun l=>Q H (.val (one l))):=Eq.trans rfl rfl
attribute [go_sem] qbdv qbgh qbij q8i panw begw endw
end Go.V

/-
 The value logic, part t: rows that grow from none.
-/
namespace Go.V
open Go Go.RowKit

def accV(r:Nat)(es:List AV):AV :=
 match es with
 | []=>.nils
 | _::_=>.row r es.length
def accE(n:Nat)(es:List AV):List Ent :=
 match es with
 | []=>[]
 | _::_=>[.app n es]
section
variable {r n:Nat} {es fs:List AV} {x:AV}
theorem qi:accV r []=.nils:=rfl
theorem qk:accE n []=[]:=rfl
theorem qm(h:es≠[]):accV r es=.row r es.length:=by cases es with | nil=>exact absurd rfl h | cons _ _=>rfl
theorem qn(h:es≠[]):accE n es=[.app n es]:=by cases es with | nil=>exact absurd rfl h | cons _ _=>rfl
theorem qd8:accV r (es++[x])=.row r (es.length+1):=by rw[qm (by simp)];simp
theorem qd9:accE n (es++[x])=[.app n (es++[x])]:=qn (by simp)
theorem qd1:accV r [x]=.row r 1:=rfl
theorem qd6:accE n [x]=[.app n [x]]:=rfl
end
attribute [go_sem] qi qk qd8 qd9 qd1 qd6
end Go.V

/-
 The value logic, part w: from a statement's reading of an argument to the argument as a value.
-/
namespace Go.V
open Go Go.RowKit

def MM(w:World)(b o:Nat):Prop:=∃v,w.cell? ⟨b,o,none⟩=some v∧v.oneCell'=true

theorem stM(w:World):St w (MM w) [] []:=by
 refine⟨rfl,fun i g e h=>by simp at h,fun i j g g' b h=>by simp at h,fun i g b h=>by simp at h,fun b o ⟨v,h,_⟩=>?_,fun b o v ⟨v',h,h1⟩ h2=>by rw[h] at h2;cases h2;exact h1⟩
 by_cases hb:b<w.heap.size
 ·exact hb
 ·exfalso
  unfold World.cell? at h
  simp only at h
  rw[Array.getElem?_eq_none (by omega)] at h
  simp at h

theorem qce4{w w':World}{M M':Nat->Nat->Prop}{G':List Gh}(h:Ext w M [] w' M' G'):Below w.heap.size w w' :=
 ⟨h.os,h.tape,h.output,h.size,fun k hk=>h.out k hk (fun ⟨i,g,hg,_⟩=>by simp at hg)⟩

theorem qn4{α β:Type}{f:α->Option β}:∀{l:List α} {r:List β},l.mapM f=some r->r.length=l.length∧∀(j:Nat) (y:β),r[j]?=some y->∃x,l[j]?=some x∧f x=some y
 | [], r, h => by
   simp only[List.mapM_nil,Option.pure_def,Option.some.injEq] at h
   subst h
   exact⟨rfl,fun j y hj=>by simp at hj⟩
 | a :: l, r, h => by
   simp only[List.mapM_cons,Option.bind_eq_bind,Option.pure_def] at h
   obtain⟨b,h1,h2⟩:=Option.bind_eq_some_iff.1 h
   obtain⟨r',h3,h4⟩:=Option.bind_eq_some_iff.1 h2
   simp only[Option.some.injEq] at h4
   subst h4
   obtain⟨q1,q2⟩:=qn4 h3
   refine⟨by simp[q1],fun j y hj=>?_⟩
   cases j with
   | zero=>simp at hj;subst hj;exact⟨a,rfl,h1⟩
   | succ j=>simp at hj;obtain⟨x,r1,r2⟩:=q2 j y hj;exact⟨x,by simpa using r1,r2⟩
def elA(P:Program)(T:TypeId)(ds:List AV):AV :=
 match P.underlying T with
 | some (.struct _) | some (.array _ _)=>.agg ds
 | _=>ds.headD .junk
def fieldsOf(fs:Array Field):List (TypeId×Nat):=fs.toList.map fun x=>(x.type,x.offset)
def qkb(P:Program)(n:Nat)(e:TypeId):List (TypeId×Nat):=(List.range n).map fun i=>(e,i*P.cellsOf e)
def TC(P:Program):Nat->TypeId->List AV->Prop
 | 0,_,_=>False
 | f + 1, T, cs => match P.underlying T with
   | some (.int k)=>∃n,cs=[.int k n]
   | some .string=>∃l,cs=[.str l]
   | some .bool=>∃b,cs=[.bool b]
   | some (.slice S)=>∃es,cs=[.sl (P.cellsOf S) es]∧∀e∈es,∃ds,TC P f S ds∧e=elA P S ds
   | some (.struct fs)=>cs.length=P.cellsOf T∧∀x∈fieldsOf fs,TC P f x.1 ((cs.drop x.2).take (P.cellsOf x.1))
   | some (.array n e)=>cs.length=P.cellsOf T∧∀x∈qkb P n e,TC P f x.1 ((cs.drop x.2).take (P.cellsOf x.1))
   | _=>False
def qq1(P:Program):Nat->List (TypeId×Nat)->Nat->Bool
 | o,[],n=>o == n
 | o,x::r,n=>x.2 == o&&qq1 P (o+P.cellsOf x.1) r n
def qp5(P:Program)(L:List TypeId)(T:TypeId):Bool :=
 match P.underlying T with
 | some (.int _) | some .string | some .bool=>P.cellsOf T == 1
 | some (.slice S)=>L.contains S&&P.cellsOf S != 0&&P.cellsOf T == 1
 | some (.struct fs)=>qq1 P 0 (fieldsOf fs) (P.cellsOf T)&&(fieldsOf fs).all fun x=>L.contains x.1
 | some (.array n e)=>qq1 P 0 (qkb P n e) (P.cellsOf T)&&L.contains e
 | _=>false

theorem qy2{P:Program}:∀{l:List (TypeId×Nat)} {o n:Nat},qq1 P o l n=true->o≤n
 | [],o,n,h=>by simp only[qq1,beq_iff_eq] at h;omega
 | x :: r, o, n, h => by
   simp only[qq1,Bool.and_eq_true] at h
   have:=qy2 h.2
   omega

section
variable {H:Type} {enc':TypeId×Value->H} {P:Program} {w:World} {base:Nat} {sp:Nat->Bool} {held:Bool}

theorem qrd{a:Addr}{n:Nat}{cs:List Value}(h:w.cells? base a n=some cs):cs.length=n∧∀(j:Nat) (v:Value),cs[j]?=some v->w.cell? (a.add j)=some v:=by
 unfold World.cells? at h
 split at h
 ·obtain⟨h1,h2⟩:=qn4 h
  refine⟨by simpa using h1,fun j v hj=>?_⟩
  obtain⟨x,q1,q2⟩:=h2 j v hj
  rw[List.getElem?_range (by have:=(List.getElem?_eq_some_iff.1 q1).1;simpa using this)] at q1
  simp only[Option.some.injEq] at q1
  subst q1
  exact q2
 ·cases h

theorem qtb{m:Nat}:∀{us:List Value},(∀u∈us,u.cells.size=m)->∀{j:Nat} {v:Value},(us.flatMap (·.cells.toList))[j]?=some v->∃i q u,us[i]?=some u∧u.cells.toList[q]?=some v∧j=i*m+q
 | [],_,j,v,h=>by simp at h
 | u :: us, hm, j, v, h => by
   rw[List.flatMap_cons] at h
   have hu:u.cells.toList.length=m:=by simpa using hm u (by simp)
   by_cases hj:j<m
   ·rw[List.getElem?_append_left (by omega)] at h
    exact⟨0,j,u,rfl,h,by omega⟩
   ·rw[List.getElem?_append_right (by omega),hu] at h
    obtain⟨i,q,u',h1,h2,h3⟩:=qtb (fun u hu=>hm u (by simp[hu])) h
    exact⟨i+1,q,u',h1,h2,by rw[Nat.add_mul];omega⟩

def elV(P:Program)(T:TypeId)(cs:List Value):Value :=
 match P.underlying T with
 | some (.struct _) | some (.array _ _)=>.agg cs.toArray
 | _=>cs.headD .nilIface

theorem qclm{S:TypeId}{as:List AV}{cs:List Value}(h:VRs w (MM w) [] as cs)(hl:as.all AV.leaf=true)(hn:as.length=P.cellsOf S)
 (h1:(∀fs,P.underlying S≠some (.struct fs))->(∀n e,P.underlying S≠some (.array n e))->P.cellsOf S=1) :
 VR w (MM w) [] (elA P S as) (elV P S cs)∧(elV P S cs).cells.toList=cs:=by
 unfold elA elV
 split
 ·exact⟨⟨cs,rfl,h⟩,by simp[Value.cells]⟩
 ·exact⟨⟨cs,rfl,h⟩,by simp[Value.cells]⟩
 ·rename_i g1 g2
  have:=h1 g1 g2
  match as,h,hn,hl with
  | [a], h, _, hl =>
    obtain⟨v,r,rfl,h2,h3⟩:=h
    simp only[VRs] at h3
    subst h3
    simp only[List.headD_cons]
    refine⟨h2,?_⟩
    rw[(qg5 h2 (by simpa using hl)).2]
  | [],_,hn,_=>simp only[List.length_nil] at hn;omega
  | _::_::_,_,hn,_=>simp only[List.length_cons] at hn;omega

theorem qop{L:List TypeId}{S:TypeId}(h:qp5 P L S=true)(g1:∀fs,P.underlying S≠some (.struct fs))(g2:∀n e,P.underlying S≠some (.array n e)):P.cellsOf S=1:=by
 unfold qp5 at h
 split at h
 all_goals first
  | (simp only[beq_iff_eq] at h;exact h)
  | (simp only[Bool.and_eq_true,beq_iff_eq] at h;exact h.2)
  | (rename_i hu;exact absurd hu (g1 _))
  | (rename_i hu;exact absurd hu (g2 _ _))
  | (cases h)

end

section
variable {P:Program} {f:Nat} {T S:TypeId} {k:IntKind} {cs:List AV}
theorem qoc(hT:P.underlying T=some (.int k))(h:TC P f T cs):∃n,cs=[.int k n]:=by
 cases f with
 | zero=>exact h.elim
 | succ f=>simpa only[TC,hT] using h
theorem qif(hT:P.underlying T=some .string)(h:TC P f T cs):∃l,cs=[.str l]:=by
 cases f with
 | zero=>exact h.elim
 | succ f=>simpa only[TC,hT] using h
theorem qpa(hT:P.underlying T=some (.slice S))(h:TC P f T cs):∃f' es,f=f'+1∧cs=[.sl (P.cellsOf S) es]∧∀e∈es,∃ds,TC P f' S ds∧e=elA P S ds:=by
 cases f with
 | zero=>exact h.elim
 | succ f =>
   simp only[TC,hT] at h
   obtain⟨es,h1,h2⟩:=h
   exact⟨f,es,rfl,h1,h2⟩
theorem qr5{fs:Array Field}(hT:P.underlying T=some (.struct fs))(h:TC P f T cs):∃f',f=f'+1∧cs.length=P.cellsOf T∧∀x∈fieldsOf fs,TC P f' x.1 ((cs.drop x.2).take (P.cellsOf x.1)):=by
 cases f with
 | zero=>exact h.elim
 | succ f =>
   simp only[TC,hT] at h
   exact⟨f,rfl,h⟩
theorem qhq{fs:Array Field}(hT:P.underlying T=some (.struct fs))(ds:List AV):elA P T ds=.agg ds:=by unfold elA;rw[hT]
theorem qbqf(hT:P.underlying T=some .string)(a:AV):elA P T [a]=a:=by unfold elA;rw[hT];rfl
theorem qfo{α:Type}[Inhabited α]{enc:α->AV}{f':Nat}{es:List AV}(he:∀e∈es,∃ds,TC P f' S ds∧e=elA P S ds)(h:∀ds,TC P f' S ds->∃a,elA P S ds=enc a):∃l:List α,es=l.map enc:=by
 induction es with
 | nil=>exact⟨[],rfl⟩
 | cons e es ih =>
   obtain⟨l,rfl⟩:=ih fun e he'=>he e (by simp[he'])
   obtain⟨ds,h1,rfl⟩:=he e (by simp)
   obtain⟨a,ha⟩:=h ds h1
   exact⟨a::l,by rw[ha];rfl⟩
end

section
open Go.ChangeShapes Go.WideShapes Go.ChangeAt
variable {H:Type} {enc':TypeId×Value->H} {P:Program}
theorem q2a{f:Func}{s:ChangeSpec}{qgu fresh handsOn again:Bool}{W W':World}{args:Array Value}{v:Value}{ds gs:List (DataW H)}{before pa pv:List MemPlace}
 (hW:DataW.Whole enc' P f.params.toList s.vars qgu W args.toList ds gs before)
 (hres:∀(b:Nat) (sp:Nat->Bool) (hd:Bool),DataW.TrodAll enc' P W' b sp hd f.resultTypes.toList (v.resultList f.resultTypes.size) (s.fn H (ds++gs)).results [])
 (hargs:∀sp:Nat->Bool,(∀p∈before,sp p.block=true)->DataW.TrodAll enc' P W' 0 sp true f.params.toList args.toList (s.fn H (ds++gs)).args pa)
 (hvars:∀sp:Nat->Bool,(∀p∈before,sp p.block=true)->DataW.TrodVars enc' P W' sp s.vars (s.fn H (ds++gs)).vars pv)
 (hps:before=pa++pv) (hb:Below W.heap.size W W')
 (hok:∀(j:Nat) (t:TypeId) (r:Value),f.resultTypes[j]?=some t->(v.resultList f.resultTypes.size)[j]?=some r->Value.okWide P W' .any 0 t r) :
 s.post enc' P f qgu fresh handsOn again W args v W':=by
 have hlt:∀p∈before,p.block<W.heap.size:=fun p hp=>hW.lt p hp
 have hold:∀p∈before,(fun b=>decide (b<W.heap.size)) p.block=true:=fun p hp=>by simpa using hlt p hp
 refine⟨ds,gs,before,[],pa,pv,hW,hres _ _ _,hargs _ hold,hvars _ hold,World.keptBut_mono (fun p hp=>⟨hp,?_⟩) (hb.frame (·∈before)),fun _=>?_⟩
 ·rw[hps,List.mem_append] at hp
  exact Or.inr hp
 ·obtain⟨_,_,_,_,_,hz,hn⟩:=hW
  refine⟨hok,_,_,([]++pa)++pv,⟨[]++pa,pv,trodAll_append (hargs _ (fun _ _=>rfl)) (hres _ _ _),hvars _ (fun _ _=>rfl),rfl,?_,?_⟩,?_⟩
  ·intro b off hp
   have hin:MemPlace.cell b off∈before:=by rw[hps];simpa using hp
   rw[hb.frozen (hlt _ hin)]
   exact hz b off hin
  ·intro ha
   have:=hn ha
   rw[hps] at this
   simpa using this
  ·intro p hp _
   rw[hps]
   simpa using hp
end
end Go.V

/-
 Types as data.
-/
namespace Go.V
open Go Go.RowKit

inductive Ty where
 | mk (con:List UInt8) (var:Int) (args:List Ty)

def Ty.con:Ty->List UInt8 | .mk c _ _=>c
def Ty.var:Ty->Int | .mk _ v _=>v
def Ty.args:Ty->List Ty | .mk _ _ l=>l

mutual
def encY:Ty->AV
 | .mk c v l=>.agg [.str c,.int .i64 v,.sl 3 (qh l)]
def qh:List Ty->List AV
 | []=>[]
 | x::r=>encY x::qh r
end
theorem qcy(l:List Ty):qh l=l.map encY:=by
 induction l with
 | nil=>rfl
 | cons x r ih=>simp[qh,ih]
theorem qb4(n:Ty):AV.agg [.str n.con,.int .i64 n.var,.sl 3 (qh n.args)]=encY n:=by
 cases n;simp only[encY,Ty.con,Ty.var,Ty.args]
theorem qh3(n:Ty):(encY n).cells=[.str n.con,.int .i64 n.var,.sl 3 (qh n.args)]:=by rw[←qb4];rfl

theorem Ty.ind{p:Ty->Prop}(h:∀n:Ty,(∀x∈n.args,p x)->p n):∀n,p n:=by
 intro n
 refine Ty.rec (motive_1:=p) (motive_2:=fun l=>∀x∈l,p x) (fun c v l ih=>h (.mk c v l) ih) (fun x hx=>by cases hx) (fun x r h1 h2 y hy=>?_) n
 rcases List.mem_cons.1 hy with rfl | hy
 ·exact h1
 ·exact h2 y hy

theorem q8(k:Nat):∀n,(encY n).bd k=true:=Ty.ind fun n ih=>by
 simp only[←qb4 n,AV.bd,AV.bds,qcy,qb6,Bool.true_and,Bool.and_true,List.all_map,List.all_eq_true]
 exact ih
theorem qbd(k:Nat)(l:List Ty):AV.bds k (qh l)=true:=by
 rw[qcy,qb6,List.all_map,List.all_eq_true];exact fun x _=>q8 k x
theorem qgk(σ:Nat->Nat)(n:Ty):(encY n).ren σ=encY n:=ren_same (m:=0) (fun i hi=>by omega) _ (q8 0 n)
theorem qda(σ:Nat->Nat)(l:List Ty):AV.rens σ (qh l)=qh l:=qs (m:=0) (fun i hi=>by omega) _ (qbd 0 l)
theorem qb8m(H:List Ent)(n:Ty):co H (.agg [.id,.id,.sl 3]) (encY n)=encY n:=by
 rw[←qb4];simp only[qef,qcf,qcx,qgq,qcj]
theorem qbam(n:Ty):rdCo (.agg [.id,.id,.sl 3]) (encY n)=[]:=by
 rw[←qb4];simp only[qce,qbi,qbq,qdh,qbk,List.append_nil]
theorem qi9(n:Ty):(encY n).isAgg=true:=by cases n;rfl
theorem q1n(n:Ty):(encY n).cells.all AV.leaf=true:=by cases n;rfl
theorem qg(l:List Ty):(qh l).length=l.length:=by rw[qcy];simp
theorem q06{l:List Ty}{i:Nat}(h:i<l.length):(qh l).getD i .junk=encY l[i]:=by rw[qcy,List.getD_eq_getElem?_getD,List.getElem?_map,List.getElem?_eq_getElem h];rfl
def Ty.wf(n:Ty):Prop:=n.args.length≤maxLen∧n.con.length≤maxLen∧(Lit.int .i64 n.var).wf=true∧∀x∈n.args,(encY x).wf
theorem qbby(n:Ty):(encY n).wf↔n.wf:=by
 rw[←qb4]
 simp only[AV.wf,AV.wfs,qg,Ty.wf,qi2,qcy,List.mem_map,forall_exists_index,and_imp,forall_apply_eq_imp_iff₂,and_true]
 simp only[List.length_map]
 constructor
 ·rintro⟨h1,h2,h3,h4⟩;exact⟨h3,h1,h2,h4⟩
 ·rintro⟨h1,h2,h3,h4⟩;exact⟨h2,h3,h1,h4⟩
theorem qty(n:Ty):(encY n).leaf=false:=by cases n;rfl
abbrev yc(n:Ty):List AV:=[.str n.con,.int .i64 n.var,.sl 3 (qh n.args)]
attribute [go_sem] yc
def Y0:Ty:=.mk [] 0 []
theorem qbb{l:List Ty}{i:Nat}(h:i<l.length):(qh l).getD i .junk=encY (l.getD i Y0):=by
 rw[q06 h,List.getD_eq_getElem?_getD,List.getElem?_eq_getElem h];rfl
theorem qcn{l:List Ty}{i:Nat}(h:i<l.length):l.getD i Y0∈l:=by
 rw[List.getD_eq_getElem?_getD,List.getElem?_eq_getElem h];exact List.getElem_mem h
theorem qsn{l:List Ty}{i:Nat}(h:i<l.length):l.drop i=l.getD i Y0::l.drop (i+1):=by
 rw[List.drop_eq_getElem_cons h,List.getD_eq_getElem?_getD,List.getElem?_eq_getElem h];rfl
theorem qbfq(b:Bool)(n off:Nat)(t:Ty):fldv b n off (encY t)=ldc b n off [.str t.con,.int .i64 t.var,.sl 3 (qh t.args)]:=by rw[←qb4];rfl
theorem qf9(a b:List Ty):qh a++qh b=qh (a++b):=by simp[qcy]
theorem qew(a:List Ty)(t:Ty):qh a++[encY t]=qh (a++[t]):=by simp[qcy]
attribute [go_sem] qbfq qbam q8 qbd qgk qda qb8m qi9 qh3 qb4 qty qg

structure Pd where
 cls:List UInt8
 ty:Ty
def encP(p:Pd):AV:=.agg [.str p.cls,.str p.ty.con,.int .i64 p.ty.var,.sl 3 (qh p.ty.args)]
def qeh(l:List Pd):List AV:=l.map encP
def P0:Pd:=⟨[],Y0⟩
abbrev pdc(p:Pd):List AV:=[.str p.cls,.str p.ty.con,.int .i64 p.ty.var,.sl 3 (qh p.ty.args)]
theorem qbao(p:Pd):AV.agg [.str p.cls,.str p.ty.con,.int .i64 p.ty.var,.sl 3 (qh p.ty.args)]=encP p:=rfl
theorem q2k(p:Pd):(encP p).cells=pdc p:=rfl
theorem qyl(k:Nat)(p:Pd):(encP p).bd k=true:=by simp only[encP,AV.bd,AV.bds,qbd,Bool.and_true]
theorem qry(k:Nat)(l:List Pd):AV.bds k (qeh l)=true:=by rw[qeh,qb6,List.all_map,List.all_eq_true];exact fun x _=>qyl k x
theorem qbei(σ:Nat->Nat)(p:Pd):(encP p).ren σ=encP p:=ren_same (m:=0) (fun i hi=>by omega) _ (qyl 0 p)
theorem q7o(σ:Nat->Nat)(l:List Pd):AV.rens σ (qeh l)=qeh l:=qs (m:=0) (fun i hi=>by omega) _ (qry 0 l)
theorem qbvi(H:List Ent)(p:Pd):co H (.agg [.id,.id,.id,.sl 3]) (encP p)=encP p:=by
 simp only[encP,qef,qcf,qcx,qgq,qcj]
theorem q7x(p:Pd):rdCo (.agg [.id,.id,.id,.sl 3]) (encP p)=[]:=by
 simp only[encP,qce,qbi,qbq,qdh,qbk,List.append_nil]
theorem qbc1(p:Pd):(encP p).isAgg=true:=rfl
theorem qt4(p:Pd):(encP p).leaf=false:=rfl
theorem qvp(l:List Pd):(qeh l).length=l.length:=by simp[qeh]
theorem qh5{l:List Pd}{i:Nat}(h:i<l.length):(qeh l).getD i .junk=encP (l.getD i P0):=by
 rw[qeh,List.getD_eq_getElem?_getD,List.getElem?_map,List.getElem?_eq_getElem h,List.getD_eq_getElem?_getD,List.getElem?_eq_getElem h];rfl
theorem qbh6{l:List Pd}{i:Nat}(h:i<l.length):l.getD i P0∈l:=by
 rw[List.getD_eq_getElem?_getD,List.getElem?_eq_getElem h];exact List.getElem_mem h
theorem q1k(n:Nat)(l:List Pd):(qeh l).take n=qeh (l.take n):=by simp[qeh]
theorem q25(n:Nat)(l:List Pd):(qeh l).drop n=qeh (l.drop n):=by simp[qeh]
theorem qbjp(b:Bool)(n off:Nat)(p:Pd):fldv b n off (encP p)=ldc b n off (pdc p):=rfl
theorem q0r{l:List Pd}{n:Nat}(h:(AV.sl n (qeh l)).wf):l.length≤maxLen∧∀p∈l,(encP p).wf:=by
 refine⟨by have:=h.1;rwa [qvp] at this,fun p hp=>(qi2 _).1 h.2 _ ?_⟩
 rw[qeh];exact List.mem_map_of_mem hp
attribute [go_sem] pdc qbjp q7x qyl qry qbei q7o qbvi qbc1 q2k qbao qt4 qvp q1k q25
end Go.V
