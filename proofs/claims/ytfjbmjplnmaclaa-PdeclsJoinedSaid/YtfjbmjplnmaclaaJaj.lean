/- Texts of this proof, joined. -/
import Derived.Test.YtfjbmjplnmaclaaJai
import Derived.ScopeJumps
set_option linter.unusedVariables false
set_option linter.unusedSimpArgs false

/-
 The value logic, part r: scopes in which the run jumps back to a label; a goto.
-/
namespace Go.V
open Go Go.RowKit

def qqo:IC->Nat->Option IC
 | .seq a b, l => match qqo a l with
   | some r=>some (.seq r b)
   | none=>qqo b l
 | .label l',l=>if l' == l then some .skip else none
 | _,_=>none

theorem q2j {P:Program} {n l:Nat}:∀ {c:Code} {ic:IC},qc5 P n c = some ic->(qqo ic l = none->findLabel c l = none)∧∀ r,qqo ic l = some r->∃ rest,findLabel c l = some rest∧qc5 P n rest = some r:=by
 intro c
 induction c with
 | seq a b iha ihb =>
   intro ic hc
   simp only [qc5] at hc
   split at hc
   ·rename_i x y hx hy
    simp only [Option.some.injEq] at hc
    subst hc
    obtain ⟨a1,a2⟩:=iha hx
    obtain ⟨b1,b2⟩:=ihb hy
    simp only [qqo,findLabel]
    cases hf:qqo x l with
    | none =>
      rw [a1 hf]
      exact ⟨fun h=>b1 h,fun r h=>b2 r h⟩
    | some r =>
      obtain ⟨rest,h1,h2⟩:=a2 r hf
      rw [h1]
      refine ⟨fun h=>(by cases h),fun r' h=>?_⟩
      simp only [Option.some.injEq] at h
      subst h
      exact ⟨_,rfl,by simp only [qc5,h2,hy]⟩
   ·cases hc
 | label l' =>
   intro ic hc
   simp only [qc5,Option.some.injEq] at hc
   subst hc
   simp only [qqo,findLabel]
   by_cases h:(l' == l) = true
   ·rw [if_pos h,if_pos h]
    exact ⟨fun h=>(by cases h),fun r hr=>⟨.skip,rfl,by simp only [Option.some.injEq] at hr;subst hr;rfl⟩⟩
   ·rw [if_neg h,if_neg h]
    exact ⟨fun _=>rfl,fun r hr=>(by cases hr)⟩
 | _ =>
   intro ic hc
   refine ⟨fun _=>rfl,fun r hr=>?_⟩
   exfalso
   simp only [qc5] at hc
   repeat' split at hc
   all_goals first
    | (cases hc;done)
    | (simp only [Option.some.injEq] at hc;subst hc;simp only [qqo] at hr;cases hr;done)
    | (obtain ⟨y,_,hc⟩:=Option.map_eq_some_iff.1 hc;subst hc;simp only [qqo] at hr;cases hr;done)

def scj {S:Type} (l:Nat) (Inv:S->Prop) (st:S->AF×List Ent) (m:Nat) (Q:VE->AF->List Ent->Prop):VE->AF->List Ent->Prop
 | .gto l',af,H=>l' = l∧At S Inv st m af H
 | e,af,H=>Q e af H

section
variable {P:Program} {fr:Option Nat} {n m:Nat} {Q:VE->AF->List Ent->Prop} {af:AF} {H:List Ent} {a:IC}

theorem q8y {l:Nat} (h:Q (.gto l) af H):VI P fr n m (.goto l) Q af H:=by
 intro c hc
 have:c = .goto l:=by
  cases c<;>simp only [qc5] at hc<;>first | (simp at hc;rw [hc];done) | (exfalso;(repeat' split at hc)<;>simp at hc)
 subst this
 exact fun w M G a hst hr=>wpIn_goto ⟨.gto l,af,M,G,H,h,rfl,ExtM.refl,hst,hr⟩

theorem q6i {S:Type} (l:Nat) {r:IC} (hf:qqo a l = some r) (Inv:S->Prop) (st:S->AF×List Ent) (μ:S->Nat) (h0:VI P fr n m a (scj l Inv st m Q) af H)
 (hr:∀ s,Inv s->VI P fr n m r (scj l (fun s'=>Inv s'∧μ s' < μ s) st m Q) (st s).1 (st s).2):VI P fr n m (.scope a) Q af H:=by
 intro c hc
 cases c<;>simp only [qc5] at hc
 case scope x =>
  obtain ⟨x',hx,hxx⟩:=Option.map_eq_some_iff.1 hc
  simp only [IC.scope.injEq] at hxx
  subst hxx
  obtain ⟨rest,hrest,hcr⟩:=(q2j hx).2 r hf
  intro w M G act hst hrf b k cs hro hb hroom
  have hg:gotoIn l (.inScope x :: k) = some (.code rest :: .inScope x :: k):=by simp [gotoIn,hrest]
  have hsc:step P (lone (b.atR act (.code (.scope x) :: k)) cs w) = .next (lone (b.atR act (.code x :: .inScope x :: k)) cs w):=qgb
  let I:S->Act->World->Prop:=fun s a' w'=>Inv s∧∃ M' G',ExtM m w M G w' M' G'∧St w' M' G' (st s).2∧RelF w' M' G' n (st s).1 a'
  have hI:∀ {af₁:AF} {H₁:List Ent} {a₁:Act} {w₁:World} {M₁:Nat->Nat->Prop} {G₁:List Gh} {J:S->Prop},(∀ s,J s->Inv s)->At S J st m af₁ H₁->ExtM m w M G w₁ M₁ G₁->St w₁ M₁ G₁ H₁->RelF w₁ M₁ G₁ n af₁ a₁->∃ s,J s∧I s a₁ w₁:=by
   intro af₁ H₁ a₁ w₁ M₁ G₁ J hJ hat he hs hf
   obtain ⟨s,h1,h2⟩:=hat
   obtain ⟨G₂,q1,q2,q3⟩:=qse hs hf h2
   exact ⟨s,h1,hJ s h1,M₁,G₂,he.trans q1,q2,q3⟩
  -- how the inner code is left
  have out:∀ {J:S->Prop} {e:Exit} {a₁:Act} {w₁:World} {m0:Machine},(∀ s,J s->Inv s)->VPost (scj l J st m Q) n m w M G e a₁ w₁->ArrivesIn (Machine.fenced P (fw fr)) P m0 b (.inScope x :: k) cs e a₁ w₁ →
   (∃ e' a' w',VPost Q n m w M G e' a' w'∧ArrivesIn (Machine.fenced P (fw fr)) P m0 b k cs e' a' w')∨(∃ s,J s∧I s a₁ w₁∧StepsIn (Machine.fenced P (fw fr)) P m0 (lone (b.atR a₁ (.code rest :: .inScope x :: k)) cs w₁)):=by
   intro J e a₁ w₁ m0 hJ hq harr
   obtain ⟨ve,af',M',G',H',h1,h2,h3,h4,h5⟩:=hq
   cases ve with
   | gto l' =>
     have h2:e = .goto l':=h2
     subst h2
     obtain ⟨rfl,hat⟩:=h1
     obtain ⟨s,hs,hIs⟩:=hI hJ hat h3 h4 h5
     exact .inr ⟨s,hs,hIs,harr.1 _ hg⟩
   | nrm =>
     have h2:e = .normal:=h2
     subst h2
     exact .inl ⟨.normal,a₁,w₁,⟨.nrm,af',M',G',H',h1,rfl,h3,h4,h5⟩,StepsIn.trans harr (.one (fenced_calm hb hroom rfl) qlh)⟩
   | ext i =>
     have h2:e = .exit i:=h2
     subst h2
     exact .inl ⟨.exit i,a₁,w₁,⟨.ext i,af',M',G',H',h1,rfl,h3,h4,h5⟩,⟨fun k' hk=>harr.1 k' (by simpa [exitTo] using hk),fun hr hk=>harr.2 hr (by simpa [exitTo] using hk)⟩⟩
   | ret =>
     have h2:e = .ret:=h2
     subst h2
     exact .inl ⟨.ret,a₁,w₁,⟨.ret,af',M',G',H',h1,rfl,h3,h4,h5⟩,harr⟩
   | pan v =>
     obtain ⟨y,rfl,hy⟩:=h2
     exact .inl ⟨_,a₁,w₁,⟨.pan v,af',M',G',H',h1,⟨y,rfl,hy⟩,h3,h4,h5⟩,harr⟩
  have key:∀ (j:Nat) (s:S) (a₁:Act) (w₁:World),μ s = j->I s a₁ w₁->∃ e a' w',VPost Q n m w M G e a' w'∧ArrivesIn (Machine.fenced P (fw fr)) P (lone (b.atR a₁ (.code rest :: .inScope x :: k)) cs w₁) b k cs e a' w':=by
   intro j
   induction j using Nat.strongRecOn with
   | _ j ih =>
     intro s a₁ w₁ hj ⟨hinv,M₁,G₁,he,hs,hf⟩
     obtain ⟨e,a₂,w₂,hq,harr⟩:=q9y (hr s hinv rest hcr) hs hf he b (.inScope x :: k) cs hro hb hroom
     rcases out (fun s h=>h.1) hq harr with h | ⟨s',hs',hI',hst'⟩
     ·exact h
     ·obtain ⟨e₂,a₃,w₃,hq₂,harr₂⟩:=ih (μ s') (hj ▸ hs'.2) s' a₂ w₂ rfl hI'
      exact ⟨e₂,a₃,w₃,hq₂,.of_steps hst' harr₂⟩
  have hc0:(lone (b.atR act (.code (.scope x) :: k)) cs w).fenced P (fw fr):=fenced_calm hb hroom rfl
  obtain ⟨e,a₁,w₁,hq,harr⟩:=h0 x hx w M G act hst hrf b (.inScope x :: k) cs hro hb hroom
  rcases out (fun s h=>h) hq (.of_steps (.one hc0 hsc) harr) with h | ⟨s',hs',hI',hst'⟩
  ·exact h
  ·obtain ⟨e₂,a₃,w₃,hq₂,harr₂⟩:=key _ s' a₁ w₁ rfl hI'
   exact ⟨e₂,a₃,w₃,hq₂,.of_steps hst' harr₂⟩
 all_goals (exfalso;(repeat' split at hc)<;>simp at hc)

theorem qbib {S:Type} {l:Nat} {Inv:S->Prop} {st:S->AF×List Ent} (af:AF) (H:List Ent):scj l Inv st m Q .nrm af H = Q .nrm af H:=Eq.trans rfl rfl
theorem qbov {S:Type} {l i:Nat} {Inv:S->Prop} {st:S->AF×List Ent} (af:AF) (H:List Ent):scj l Inv st m Q (.ext i) af H = Q (.ext i) af H:=Eq.trans rfl rfl
theorem qbn4 {S:Type} {l:Nat} {Inv:S->Prop} {st:S->AF×List Ent} (af:AF) (H:List Ent):scj l Inv st m Q .ret af H = Q .ret af H:=Eq.trans rfl rfl
theorem qbhm {S:Type} {l l':Nat} {Inv:S->Prop} {st:S->AF×List Ent} (af:AF) (H:List Ent):scj l Inv st m Q (.gto l') af H = (l' = l∧At S Inv st m af H):=Eq.trans rfl rfl
theorem qbxj {b:IC} (l:Nat) (af:AF) (H:List Ent):sq P fr n m b Q (.gto l) af H = Q (.gto l) af H:=Eq.trans rfl rfl
theorem qbnn {id l:Nat} (af:AF) (H:List Ent):blq id Q (.gto l) af H = Q (.gto l) af H:=Eq.trans rfl rfl
theorem qb17 {S:Type} {Inv:S->Prop} {st:S->AF×List Ent} {l:Nat} (af:AF) (H:List Ent):lq Inv st m Q (.gto l) af H = Q (.gto l) af H:=Eq.trans rfl rfl
attribute [go_sem] qbib qbov qbn4 qbhm qbxj qbnn qb17
end
theorem ti_:True:=⟨⟩
theorem vs_ {p q:Prop} (h:q) (e:q->p:=by first | exact q60 | exact q1n | exact qbd1):p:=e h
theorem vr_ {p q:Prop} (h:q) (e:q->p:=by first | exact q4d | exact qbqw (by rfl) | exact qx6 | exact q0l | exact q8y | exact qbfh | exact q8q | exact q8k | exact q7c):p:=e h
inductive Pk (c:Bool) (p:Prop):Prop where | mk
theorem qb2r {P:Program} {Q:VE->AF->List Ent->Prop} {c b:Bool} {d:Option Nat} {i:I} {k:Kt} {af:AF} {H:List Ent}:Pk c (gdK P Q (.bool c) b d i k af H):=.mk
theorem qbvk {c:Bool} {A B:Prop}:Pk c (cnd (.bool c) A B):=.mk
theorem cs_ {c:Bool} {p x y a b:Prop} (h1:x->a) (h2:y->b) (_e:Pk c p:=by first | exact qb2r | exact qbvk)
 (ex:(c = true) = x:=by first | (simp only [hb_];exact rfl) | exact rfl) (ey:(c = false) = y:=by first | (simp only [hb_];exact rfl) | exact rfl)
 (ea:c = true->p = a:=by intro hc;first | (simp only [hc];exact rfl) | exact rfl) (eb:c = false->p = b:=by intro hc;first | (simp only [hc];exact rfl) | exact rfl):p:=by
 cases c
 ·rw [eb rfl];exact h2 (ey ▸ rfl)
 ·rw [ea rfl];exact h1 (ex ▸ rfl)

def q9v (rs:List (RV×Co)) (Q:List Ent->VO->Prop) (af:AF) (H:List Ent):Prop :=
 (qgn af H rs).bnd fun l=>Q H (.val (one l))
def panw (Q:List Ent->VO->Prop) (v:AV) (H:List Ent):Prop:=Q H (.pan v)
def retw (rs:List (RV×Co)) (Q:List Ent->VO->Prop):VE->AF->List Ent->Prop
 | .nrm,af,H | .ret,af,H=>dlq af.dl H (q9v rs Q af)
 | .pan v,af,H=>dlq af.dl H (panw Q v)
 | _,_,_=>False

section
variable {P:Program} {f:FuncId} {n k:Nat} {ic:IC} {rs:List (RV×Co)} {H:List Ent} {args:List AV} {Q:List Ent->VO->Prop}
theorem qvi (hc:cFun P f = some (n,ic,rs)) (hl:args.length≤n) (h:VI P none n H.length ic (retw rs Q) ⟨qea 0 args,[]⟩ H):VCalls P f H args Q:=by
 obtain ⟨fn,c,hf,hb,hn,hcode,hres,hok⟩:=qk6 hc
 subst hn
 refine ⟨hok,fun w M G vs hst hv=>callsIn_of_wp_marks hf hb trivial ?_⟩
 have hvl:=qm hv
 have hrel:RelF w M G fn.ntmps ⟨qea 0 args,[]⟩ { tmps:=vs.toArray ++ Array.replicate (fn.ntmps - vs.toArray.size) undef,defers:=[] }:=by
  refine ⟨by simp;omega,rfl,fun t=>?_⟩
  simp only [qe5,Nat.zero_le,if_true,Nat.sub_zero]
  by_cases ht:t < args.length
  ·obtain ⟨x,hx,hr⟩:=qef hv ht
   have:(vs.toArray ++ Array.replicate (fn.ntmps - vs.toArray.size) undef).getD t undef = x:=by
    rw [Array.getD_eq_getD_getElem?,Array.getElem?_append_left (by simp;omega)]
    simp [hx]
   rw [this];exact hr
  ·have:args.getD t .junk = .junk:=by rw [List.getD_eq_getElem?_getD,List.getElem?_eq_none (by omega)];rfl
   rw [this];trivial
 have hwp:=h c hcode w M G _ hst hrel
 have hfw:fw none = Fence.wide:=rfl
 rw [hfw] at hwp
 refine wpIn_mono hwp fun e a' w' hp=>?_
 obtain ⟨ve,af',M',G',H',h1,h2,h3,h4,h5⟩:=hp
 have hlen:G.length = H.length:=hst.len
 -- the marks
 have leave:∀ (l:List AD) (ds:List Deferred) (H₁:List Ent) (G₁:List Gh) (w₁:World) (mode:FrameMode) (K:List Ent->Prop),mode≠.run->DR w₁ M' G₁ l ds->ExtM H.length w M G w₁ M' G₁->St w₁ M' G₁ H₁->(∀ t,VR w₁ M' G₁ (get af'.tm t) (a'.tmps.getD t undef))->dlq l H₁ K →
  (∀ (H₂:List Ent) (G₂:List Gh) (w₂:World),K H₂->ExtM H.length w M G w₂ M' G₂->Ext w₁ M' G₁ w₂ M' G₂->St w₂ M' G₂ H₂->(∀ t,VR w₂ M' G₂ (get af'.tm t) (a'.tmps.getD t undef))->LeavesIn Fence.wide 0 P fn a'.tmps (Out Q w M G) [] mode w₂) →
  LeavesInM Fence.wide 0 P fn a'.tmps (Out Q w M G) ds mode w₁:=by
  intro l
  induction l with
  | nil =>
    intro ds H₁ G₁ w₁ mode K hmo hd he hs hv hq hK
    simp only [DR] at hd;subst hd
    exact hK H₁ G₁ w₁ hq he (Ext.refl _ _ _) hs hv
  | cons d l ih =>
    intro ds H₁ G₁ w₁ mode K hmo hd he hs hv hq hK
    cases d with
    | dfr f args=>exact hq.elim
    | mark i =>
      obtain ⟨g,r,rfl,hg,hd⟩:=hd
      simp only [dlq] at hq
      split at hq
      ·rename_i d as hen
       obtain ⟨G₂,q1,q2,q3⟩:=qw8 hs hg (qke hen)
       refine ⟨hmo,.inl ⟨g.cap,_,rfl,run_takeDeferred q1,?_⟩⟩
       exact ih r _ G₂ _ mode K hmo (qi1 q3.core q3.le hd) (he.trans q3.toM) q2 (fun t=>(hv t).ext q3) hq fun H₂ G₃ w₂ r1 r2 r3 r4 r5=>hK H₂ G₃ w₂ r1 r2 (q3.trans r3) r4 r5
      ·exact hq.elim
 have done:∀ (hq:dlq af'.dl H' (q9v rs Q af')),LeavesInM Fence.wide 0 P fn a'.tmps (Out Q w M G) a'.defers .returning w':=fun hq=>by
  refine leave af'.dl a'.defers H' G' w' .returning _ (by simp) h5.defers h3 h4 h5.rd hq fun H₂ G₂ w₂ q1 q2 q3 q4 q5=>?_
  obtain ⟨us,x,s1,s2,s3⟩:=qpx (n:=fn.ntmps) (af:=⟨af'.tm,[]⟩) (a:={ tmps:=a'.tmps,defers:=[] }) q4 ⟨h5.size,rfl,q5⟩ hres (by rw [qld (l':=af'.dl)];exact q1)
  exact ⟨x,s3,M',G₂,_,_,s1,(hlen ▸ q2).toExt,q4,s2⟩
 cases ve with
 | nrm=>have h2:e = .normal:=h2;subst h2;exact done h1
 | ret=>have h2:e = .ret:=h2;subst h2;exact done h1
 | pan v =>
   obtain ⟨x,rfl,hx⟩:=h2
   refine leave af'.dl a'.defers H' G' w' _ _ (by simp) h5.defers h3 h4 h5.rd h1 fun H₂ G₂ w₂ q1 q2 q3 q4 q5=>?_
   exact ⟨M',G₂,_,_,x,q1,(hlen ▸ q2).toExt,q4,hx.ext q3,rfl⟩
 | ext i=>exact h1.elim
 | gto l=>exact h1.elim

end

def endw (i:Nat) (Q:List Ent->VO->Prop):VE->AF->List Ent->Prop
 | .nrm, _, H => match ent H i with
   | .lp d as=>Q (H.set i (.lp ⟨.ready,none,d.fn,d.ps,d.asn,d.bd⟩ as)) (.val (.bool true))
   | _=>False
 | .ret, _, H => match ent H i with
   | .lp d as=>Q (H.set i (.lp ⟨.done,some .ret,d.fn,d.ps,d.asn,d.bd⟩ as)) (.val (.bool false))
   | _=>False
 | .ext id, _, H => match ent H i with
   | .lp d as=>Q (H.set i (.lp ⟨.done,some (.exit id),d.fn,d.ps,d.asn,d.bd⟩ as)) (.val (.bool false))
   | _=>False
 | _,_,_=>False
def begw (P:Program) (n m i l:Nat) (b:IC) (Q:List Ent->VO->Prop):VE->AF->List Ent->Prop
 | .nrm, af, H => match ent H i with
   | .lp ⟨.ready,j,fn,ps,x,y⟩ as=>VI P (some l) n m b (endw i Q) af (H.set i (.lp ⟨.busy,j,fn,ps,x,y⟩ as))
   | _=>False
 | _,_,_=>False

section
variable {P:Program} {n i:Nat} {H:List Ent} {a b:IC} {d:LpD} {as args:List AV} {Q:List Ent->VO->Prop}
theorem qxa (hH:ent H i = .lp d as) (hs:d.st = .ready) (hn:as.length = n) (ha:qc5 P n d.asn = some a) (hb:qc5 P n d.bd = some b) (hl:args.length = d.ps.size) (hp:∀ p∈d.ps.toList,p < n)
 (h:∀ l,VI P (some l) n H.length a (begw P n H.length i l b Q) ⟨qu3 (qea 0 as) d.ps.toList args,[]⟩ H):VApp P H (.opq i) args Q:=by
 intro w M G x xs hst hf hv
 obtain ⟨g,hg,rfl,_⟩:=hf
 obtain ⟨h1,⟨vs,h2,h3⟩,h4,h5,h6,h7⟩:=hst.ok i g _ hg (qke hH)
 have hxl:=qm hv
 rw [h5]
 refine ⟨{ target:=.fn (.yield g.blk) #[],args:=#[] ++ xs.toArray },w,rfl,?_⟩
 have hinv:(invoke (Target.fn (.yield g.blk) #[]) (#[] ++ xs.toArray)).run P w = (Instr.yield g.blk (#[] ++ xs.toArray)).run P w:=by
  simp [invoke]
 have hy:=run_yield (P:=P) (args:=#[] ++ xs.toArray) h2 (by simp;omega)
 simp only [hinv,hy]
 have hlen:G.length = H.length:=hst.len
 refine roundIn_of_wpIn trivial ?_
 have hrel:=ql6 (q00 h3 hn) hp hv
 have hz:((d.ps.zip (#[] ++ xs.toArray)).foldl (fun tmps (t,a)=>tmps.setIfInBounds t a) vs.toArray) = (d.ps.toList.zip xs).foldl (fun tmps (t,a)=>tmps.setIfInBounds t a) vs.toArray:=by
  rw [← Array.foldl_toList]
  simp
 rw [hz]
 have hwp:=h g.blk d.asn ha w M G _ hst hrel
 refine wpIn_mono hwp fun e a' w' hp'=>?_
 obtain ⟨ve,af',M',G',H',q1,q2,q3,q4,q5⟩:=hp'
 cases ve<;>try exact q1.elim
 have q2:e = .normal:=q2
 subst q2
 simp only [begw] at q1
 split at q1
 ·rename_i j fn ps x y as' he
  have hi:i < G.length:=(List.getElem?_eq_some_iff.1 hg).1
  obtain ⟨g',hg',hcore⟩:=q3.core i g (by omega) hg
  obtain ⟨vs',r1,r2,r3,r4⟩:=qlv q4 hg' (qke he) ⟨.busy,j,fn,ps,x,y⟩ rfl rfl rfl rfl
  have hblk:g'.blk = g.blk:=(qc6 hcore).1
  rw [hblk] at r1 r3 r4
  refine ⟨_,run_beginRound r1 rfl,?_⟩
  have hcode:d.bd = d.bd:=rfl
  have hx:=q3.trans r4.toM
  have hwb:=q1 d.bd hb _ M' G' a' r3 (q5.ext r4)
  refine wpIn_mono hwb fun e₂ a₂ w₂ hp₂=>?_
  obtain ⟨ve₂,af₂,M₂,G₂,H₂,s1,s2,s3,s4,s5⟩:=hp₂
  have hx2:=hx.trans s3
  have done:∀ (d':LpD) (as₂:List AV) (st:LoopState) (jmp:Option Code) (bv:Bool),ent H₂ i = .lp d' as₂->(st = if jmp.isNone then .ready else .done)->bv = jmp.isNone->Q (H₂.set i (.lp ⟨st,jmp,d'.fn,d'.ps,d'.asn,d'.bd⟩ as₂)) (.val (.bool bv)) →
   ∃ v w₃,(Instr.endRound g.blk jmp).run P w₂ = .ok v w₃∧Out Q w M G (.returned v) w₃:=by
   intro d' as₂ st jmp bv he₂ hst' hbv hq
   subst hst' hbv
   obtain ⟨g₂,hg₂,hcore₂⟩:=hx2.core i g (by omega) hg
   obtain ⟨vs₂,t1,t2,t3,t4⟩:=qlv s4 hg₂ (qke he₂) ⟨if jmp.isNone then .ready else .done,jmp,d'.fn,d'.ps,d'.asn,d'.bd⟩ rfl rfl rfl rfl
   have hblk₂:g₂.blk = g.blk:=(qc6 hcore₂).1
   rw [hblk₂] at t1 t3 t4
   exact ⟨_,_,run_endRound jmp t1,M₂,G₂,_,_,hq,(hlen ▸ (hx2.trans t4.toM)).toExt,t3,rfl⟩
  cases ve₂ with
  | nrm =>
    have s2:e₂ = .normal:=s2
    subst s2
    simp only [endw] at s1
    split at s1
    ·rename_i d' as₂ he₂
     exact done d' as₂ .ready none true he₂ rfl rfl s1
    ·exact s1.elim
  | ret =>
    have s2:e₂ = .ret:=s2
    subst s2
    simp only [endw] at s1
    split at s1
    ·rename_i d' as₂ he₂
     exact done d' as₂ .done (some .ret) false he₂ rfl rfl s1
    ·exact s1.elim
  | ext id =>
    have s2:e₂ = .exit id:=s2
    subst s2
    simp only [endw] at s1
    split at s1
    ·rename_i d' as₂ he₂
     exact done d' as₂ .done (some (.exit id)) false he₂ rfl rfl s1
    ·exact s1.elim
  | gto l=>exact s1.elim
  | pan v=>exact s1.elim
 ·exact q1.elim
end


/-! ### States that grow -/
def gro (n k:Nat) (i:Nat):Nat:=if i < n then i else i + k
def grow (n:Nat) (L H1:List Ent):List Ent:=(H1.take n).map (Ent.ren (gro n L.length)) ++ L ++ (H1.drop n).map (Ent.ren (gro n L.length))

theorem q9m {H0 L:List Ent}:sg' (List.range H0.length) (H0 ++ L).length = gro H0.length L.length:=by
 funext i
 unfold sg' gro
 simp only [List.length_range,List.length_append]
 by_cases h:i < H0.length
 ·rw [if_pos h,if_pos h,List.getD_eq_getElem?_getD,List.getElem?_range h];rfl
 ·rw [if_neg h,if_neg h];omega
theorem q5a {H0 L H1:List Ent} (hl:H0.length≤H1.length):qfo (H0 ++ L) (List.range H0.length) H1 = grow H0.length L H1:=by
 unfold qfo grow
 rw [q9m,List.length_range]
 have:=qje ((H1.take H0.length).map (Ent.ren (gro H0.length L.length))) [] (H0 ++ L) (by simp;omega)
 simp only [List.nil_append,List.length_nil,List.length_map,List.length_take,Nat.min_eq_left hl] at this
 rw [List.range_eq_range',this]
 simp

section
variable {P:Program} {H0 L:List Ent} {fv:AV} {f:FuncId} {args:List AV} {Q0 Q:List Ent->VO->Prop}
theorem qbdo (h:VApp P H0 fv args Q0) (hb:H0.all (Ent.bd H0.length) = true) (hf:fv.bd H0.length = true) (ha:AV.bds H0.length args = true)
 (hq:∀ H1 o,Q0 H1 o->H0.length≤H1.length∧Q (grow H0.length L H1) (o.ren (gro H0.length L.length))):VApp P (H0 ++ L) fv args Q :=
 q9w (List.range H0.length) h List.nodup_range (qmd hb) hf (by rw [ren_same (m:=H0.length) (fun i hi=>qj4 hi) _ hf]) ha (by rw [qb9 (m:=H0.length) (fun i hi=>qj4 hi) _ ha]) fun H1 o ho=>by
  obtain ⟨h1,h4⟩:=hq H1 o ho
  rw [q5a h1,q9m]
  exact h4
end

theorem qbvt {H:List Ent} {i:Nat} (h:H.length≤i):ent H i = .dead:=by
 induction H generalizing i with
 | nil=>rfl
 | cons e r ih => cases i with
   | zero=>simp at h
   | succ i=>exact ih (by simpa using h)
theorem qb6? {H:List Ent} {i:Nat}:ent H i = (H[i]?).getD .dead:=by
 induction H generalizing i with
 | nil=>rfl
 | cons e r ih => cases i with
   | zero=>rfl
   | succ i=>rw [List.getElem?_cons_succ];exact ih
theorem qte {H0 L:List Ent} {j:Nat} (h:H0.length≤j):ent (H0 ++ L) j = ent L (j - H0.length):=by
 rw [qb6?,qb6?,List.getElem?_append_right h]
theorem q7l {H:List Ent} {g:Ent->Ent} (hg:g .dead = .dead) {i:Nat}:ent (H.map g) i = g (ent H i):=by
 rw [qb6?,qb6?,List.getElem?_map]
 cases H[i]?<;>simp [hg]
theorem qbbl {H:List Ent} {n i:Nat} (h:i < n):ent (H.take n) i = ent H i:=by
 rw [qb6?,qb6?,List.getElem?_take_of_lt h]
theorem qbbm {H:List Ent} {n i:Nat}:ent (H.drop n) i = ent H (n + i):=by
 rw [qb6?,qb6?,List.getElem?_drop]
theorem qco {H:List Ent} {i:Nat} {e:Ent} (h:i < H.length):ent (H.set i e) i = e:=by
 rw [qb6?,List.getElem?_set_self h];rfl
theorem qdg {H:List Ent} {i j:Nat} {e:Ent} (h:i≠j):ent (H.set i e) j = ent H j:=by
 rw [qb6?,qb6?,List.getElem?_set_ne h]
theorem qz5 (σ:Nat->Nat):Ent.ren σ .dead = .dead:=rfl
section
variable {n:Nat} {L H1:List Ent}
theorem qs1 (h:n≤H1.length):(grow n L H1).length = H1.length + L.length:=by
 simp only [grow,List.length_append,List.length_map,List.length_take,List.length_drop];omega
theorem qc3 {i:Nat} (h:n≤H1.length) (hi:i < n):ent (grow n L H1) i = (ent H1 i).ren (gro n L.length):=by
 unfold grow
 rw [List.append_assoc,qe7 (by simp;omega),q7l (qz5 _),qbbl hi]
theorem qyo {i:Nat} (h:n≤H1.length) (hi:n≤i):ent (grow n L H1) (i + L.length) = (ent H1 i).ren (gro n L.length):=by
 unfold grow
 rw [qte (by simp;omega),q7l (qz5 _),qbbm]
 congr 2
 simp only [List.length_append,List.length_map,List.length_take];omega
theorem qbbt {i:Nat} (h:n≤H1.length):ent (grow n L H1) (gro n L.length i) = (ent H1 i).ren (gro n L.length):=by
 unfold gro
 by_cases hi:i < n
 ·simp only [hi,if_true];exact qc3 h hi
 ·simp only [hi,if_false];exact qyo h (by omega)
theorem qwa {j:Nat} (h:n≤H1.length) (hj:j < L.length):ent (grow n L H1) (n + j) = ent L j:=by
 unfold grow
 rw [List.append_assoc,qte (by simp;omega)]
 rw [qe7 (by simp only [List.length_map,List.length_take];omega)]
 congr 1
 simp only [List.length_map,List.length_take];omega
end

/-! ### What every state obeys -/
theorem qbdu {w:World} {M:Nat->Nat->Prop} {G:List Gh} {g:Gh} {e:Ent} (h:qnh w M G g e):e.bd G.length = true:=by
 cases e with
 | dead=>rfl
 | blk cs=>obtain ⟨_,⟨vs,t,_,h3⟩,_⟩:=h;exact qfg _ _ h3
 | app n es=>obtain ⟨_,⟨_,_,_,_,_,_,_,h5,_⟩,_⟩:=h;exact qfg _ _ h5
 | mrow n es=>obtain ⟨_,⟨_,_,_,_,_,_,_,h5,_⟩,_⟩:=h;exact qfg _ _ h5
 | lp d as=>obtain ⟨_,⟨vs,_,h3⟩,_⟩:=h;exact qfg _ _ h3
 | cus R=>rfl
theorem qb2l {w:World} {M:Nat->Nat->Prop} {G:List Gh} {H:List Ent} (h:St w M G H):H.all (Ent.bd H.length) = true:=by
 rw [List.all_eq_true]
 intro e he
 obtain ⟨i,hi⟩:=List.mem_iff_getElem?.1 he
 have hl:=(List.getElem?_eq_some_iff.1 hi).1
 have hl2:i < G.length:=by rw [h.len];exact hl
 have hg:G[i]? = some (G[i]'hl2):=List.getElem?_eq_getElem hl2
 rw [← h.len]
 exact qbdu (h.ok i _ e hg hi)
section
variable {P:Program} {fr:Option Nat} {n m:Nat} {a:IC} {Q:VE->AF->List Ent->Prop} {af:AF} {H:List Ent} {fv:AV} {f:FuncId} {args:List AV} {R:List Ent->VO->Prop}
theorem qbwy (h:H.all (Ent.bd H.length) = true->VI P fr n m a Q af H):VI P fr n m a Q af H :=
 fun c hc w M G act hst hr=>h (qb2l hst) c hc w M G act hst hr
theorem q1r {w:World} {M:Nat->Nat->Prop} {G:List Gh} (hst:St w M G H) {c:Co}:∀ {cs:List AV} {vs:List Value} {k:Nat},VRs w M G cs vs->VRs w M G (cs.set k (co H c (cs.getD k .junk))) vs
 | [],vs,k,h=>h
 | v :: cs,vs,0,⟨x,r,h1,h2,h3⟩=>⟨x,r,h1,qf3 hst c v x h2,h3⟩
 | v :: cs,vs,k + 1,⟨x,r,h1,h2,h3⟩=>⟨x,r,h1,h2,q1r hst h3⟩
theorem q79 (j k:Nat) (c:Co) {cs:List AV} (he:ent H j = .blk cs) (h:VI P fr n m a Q af (H.set j (.blk (cs.set k (co H c (cs.getD k .junk)))))):VI P fr n m a Q af H:=by
 intro z hz w M G act hst hr
 have hH:=qb6 he (by simp)
 obtain ⟨g,hg⟩:=hst.lenH hH
 obtain ⟨h1,⟨vs,t,h2,h3⟩,h4⟩:=hst.ok j g _ hg hH
 have hv:VRs w M G (cs.set k (co H c (cs.getD k .junk))) vs:=q1r hst h3
 have hs:=qos (w':=w) (M':=M) (g':=g) (e:=.blk (cs.set k (co H c (cs.getD k .junk)))) hst hg rfl (fun _ h=>h) (Nat.le_refl _) (fun _ _ _=>rfl) (Le.refl w M) (fun _ _ h=>.inl h) (by rw [qjp _ _ _ hg];exact ⟨h1,⟨vs,t,h2,hv⟩,h4⟩)
 rw [qjp _ _ _ hg] at hs
 exact q9y (h z hz) hs hr ExtM.refl
end
theorem qbeo {rs:List (RV×Co)} {Q:List Ent->VO->Prop} (af:AF) (H:List Ent):retw rs Q .ret af H = dlq af.dl H (q9v rs Q af):=Eq.trans rfl rfl
theorem qbeh {rs:List (RV×Co)} {Q:List Ent->VO->Prop} (af:AF) (H:List Ent):retw rs Q .nrm af H = dlq af.dl H (q9v rs Q af):=Eq.trans rfl rfl
theorem qbcl {rs:List (RV×Co)} {Q:List Ent->VO->Prop} (v:AV) (af:AF) (H:List Ent):retw rs Q (.pan v) af H = dlq af.dl H (panw Q v):=Eq.trans rfl rfl
theorem q7g {rs:List (RV×Co)} {Q:List Ent->VO->Prop} (af:AF) (H:List Ent):q9v rs Q af H = ((qgn af H rs).bnd fun l=>Q H (.val (one l))):=Eq.trans rfl rfl
attribute [go_sem] qbeo qbeh qbcl q7g panw begw endw
end Go.V

/-
 The value logic, part t: rows that grow from none.
-/
namespace Go.V
open Go Go.RowKit

def accV (r:Nat) (es:List AV):AV :=
 match es with
 | []=>.nils
 | _ :: _=>.row r es.length
def accE (n:Nat) (es:List AV):List Ent :=
 match es with
 | []=>[]
 | _ :: _=>[.app n es]
section
variable {r n:Nat} {es fs:List AV} {x:AV}
theorem qbf:accV r [] = .nils:=rfl
theorem qbi:accE n [] = []:=rfl
theorem qbk (h:es≠[]):accV r es = .row r es.length:=by cases es with | nil=>exact absurd rfl h | cons _ _=>rfl
theorem qbl (h:es≠[]):accE n es = [.app n es]:=by cases es with | nil=>exact absurd rfl h | cons _ _=>rfl
theorem qfj:accV r (es ++ [x]) = .row r (es.length + 1):=by rw [qbk (by simp)];simp
theorem qfn:accE n (es ++ [x]) = [.app n (es ++ [x])]:=qbl (by simp)
theorem qgx:accV r [x] = .row r 1:=rfl
theorem qgu:accE n [x] = [.app n [x]]:=rfl
end
attribute [go_sem] qbf qbi qfj qfn qgx qgu
end Go.V
