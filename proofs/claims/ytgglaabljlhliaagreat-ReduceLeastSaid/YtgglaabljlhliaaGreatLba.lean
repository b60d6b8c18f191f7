/- Texts of this proof, joined. -/
import Derived.Test.YtgglaabljlhliaaGreatLau
set_option linter.unusedVariables false
set_option linter.unusedSimpArgs false

/-
 The value logic, part z, second half: a row that was written becomes one that stays.
-/
namespace Go.V
open Go Go.RowKit

section
variable {P:Program} {fr:Option Nat} {n m:Nat} {a:IC} {QV:VE->AF->List Ent->Prop} {af:AF} {H:List Ent}
theorem qkr (i:Nat) {q:Nat} {es:List AV} (he:ent H i = .mrow q es) (hf:∀ v∈es,v.flat) (h:VI P fr n m a QV af (H.set i (.app q es))):VI P fr n m a QV af H:=by
 intro c hc w M G act hst hr
 have hH:=q9 he (by simp)
 obtain ⟨g,hg⟩:=hst.lenH hH
 obtain ⟨h1,⟨h2,h3,vs,t,us,h4,h5,h6,h7,h8⟩,h9⟩:=hst.ok i g _ hg hH
 have hiG:=(List.getElem?_eq_some_iff.1 hg).1
 let M':Nat->Nat->Prop:=fun b o=>M b o∨(b = g.blk∧o < q * es.length)
 have hul:us.length = es.length:=qe h6
 have hle:Le w M w M':=fun b o hm=>⟨.inl hm,rfl⟩
 have hc0:∀ (i:Nat) (g:Gh),G[i]? = some g->∃ g':Gh,G[i]? = some g'∧g'.core = g.core:=fun i g hg=>⟨g,hg,rfl⟩
 have hone:=qf8 h6 hf
 have hst':St w M' G (H.set i (.app q es)):=by
  refine ⟨by rw [List.length_set];exact hst.len,fun j gj e hj hje=>?_,hst.dj,hst.lt,fun b o hm=>?_,fun b o v hm hv=>?_⟩
  ·by_cases hij:i = j
   ·subst hij
    rw [hg] at hj
    simp only [Option.some.injEq] at hj
    subst hj
    rw [List.getElem?_set_self (by rw [← hst.len];exact hiG)] at hje
    simp only [Option.some.injEq] at hje
    subst hje
    exact ⟨h1,⟨h2,h3,vs,t,us,h4,h5,qb3 hc0 hle h6,h7,h8⟩,fun o=>⟨fun hm=>hm.elim (fun hm=>absurd hm (h9 o)) fun hm=>hm.2,fun ho=>.inr ⟨rfl,ho⟩⟩⟩
   ·rw [List.getElem?_set_ne hij] at hje
    refine qew hc0 ⟨fun _ _=>rfl,hle,fun b o hb hm=>?_,Nat.le_refl _⟩ (hst.ok j gj e hj hje)
    rcases hm with hm | ⟨rfl,_⟩
    ·exact hm
    ·exact absurd (hst.dj j i gj g g.blk hj hg hb ((h1 _).2 rfl)) (Ne.symm hij)
  ·rcases hm with hm | ⟨rfl,_⟩
   ·exact hst.Mlt b o hm
   ·exact hst.lt i g g.blk hg ((h1 _).2 rfl)
  ·rcases hm with hm | ⟨rfl,ho⟩
   ·exact hst.one b o v hm hv
   ·rw [qdu h4 o] at hv
    have hv':(vs.take (q * es.length))[o]? = some v:=by rw [List.getElem?_take_of_lt ho];exact hv
    rw [h8] at hv'
    have hmem:=List.mem_of_getElem? hv'
    obtain ⟨u,hu,hvu⟩:=List.mem_flatMap.1 hmem
    exact hone u hu v hvu
 have hext:Ext w M G w M' G:=⟨rfl,rfl,rfl,Nat.le_refl _,hc0,hle,fun _ _ _=>rfl,fun b hb=>.inl hb,fun b o hm=>by
  rcases hm with hm | ⟨rfl,_⟩
  ·exact .inl hm
  ·exact .inr (.inl ⟨i,g,hg,(h1 _).2 rfl⟩)⟩
 exact qkz (h c hc) hst' (hr.ext hext) hext.toM
end

def dfq (z:Opd) (Q:VE->AF->List Ent->Prop):VE->AF->List Ent->Prop
 | .nrm,af,H=>∃ f first caps,gt af z = .fn f first caps∧Q .nrm ⟨af.tm,.dfr (.fn f first caps) [] :: af.dl⟩ H
 | e,af,H=>Q e af H
def qbzz (F:Fence) (k:Nat) (P:Program) (ops:Array Oper) (S:Exit->Act->World->Prop) (r:List Oper):Exit->Act->World->Prop
 | .normal,a,w=>wpListIn F k P ops S r a w
 | e,a,w=>S e a w

section
variable {P:Program} {n m:Nat} {Q:VE->AF->List Ent->Prop} {af:AF} {H:List Ent} {ops:Array Oper}
theorem qt5 {F:Fence} {k:Nat} {S:Exit->Act->World->Prop} {r:List Oper} {o:Oper} {a:Act} {N N':Act->World->Prop} (hN:∀ a w,N a w->N' a w) {x:Result Next} (h:o.uponIn F k P a N (qbzz F k P ops S r) x):o.uponIn F k P a N' S x:=by
 cases x with
 | ok v w =>
   cases v with
   | value v=>exact hN _ _ h
   | skip=>exact hN _ _ h
   | defer d=>exact hN _ _ h
   | enter f args =>
     refine ⟨h.1,CallsIn.mono h.2 fun e w' he=>?_⟩
     cases e with
     | returned v=>exact hN _ _ he
     | panicked c=>exact he
     | outgrown=>exact he
   | row s args=>exact ⟨h.1,RowsIn.mono h.2 fun v w' hv=>hN _ _ hv⟩
   | round l f t as bd =>
     refine ⟨h.1,RoundIn.mono h.2 fun e w' he=>?_⟩
     cases e with
     | returned v=>exact hN _ _ he
     | panicked c=>exact he
     | outgrown=>exact he
   | _=>exact h
 | halt hlt w =>
   cases hlt with
   | panic v=>exact h
   | _=>exact h
theorem qdg {F:Fence} {k:Nat} {S:Exit->Act->World->Prop} {r:List Oper}:∀ (l:List Oper) (a:Act) (w:World),wpListIn F k P ops (qbzz F k P ops S r) l a w->wpListIn F k P ops S (l ++ r) a w
 | [],a,w,h=>h
 | o :: l, a, w, h => by
   simp only [List.cons_append,wpListIn] at h ⊢
   split
   ·rename_i hw
    rw [if_pos hw] at h
    exact ⟨h.1,qt5 (fun a w=>qdg l a w) h.2⟩
   ·rename_i hw
    rw [if_neg hw] at h
    exact ⟨h.1,qdg l _ _ h.2⟩
theorem qrf {l:List GI} {z:Opd} (h:runL P (dfq z Q) l af H):VI P none n m (.dfr l z) Q af H:=by
 intro c hc
 cases c<;>simp only [qce] at hc
 case region id ops draw =>
  split at hc
  ·rename_i l' hl
   exfalso
   (repeat' split at hc)<;>simp at hc
  ·cases draw with
   | true=>simp at hc
   | false =>
     rw [if_neg (by simp)] at hc
     have hc:(cDfr P n ops).map (fun p=>IC.dfr p.1 p.2) = some (IC.dfr l z):=by
      cases hd:cDfr P n ops with
      | some p=>rw [hd] at hc;exact hc
      | none =>
        rw [hd] at hc
        simp only [Option.map_none,Option.none_or] at hc
        obtain ⟨p,_,hp⟩:=Option.map_eq_some_iff.1 hc
        cases hp
     obtain ⟨⟨l1,z1⟩,hq,hx⟩:=Option.map_eq_some_iff.1 hc
     simp only [IC.dfr.injEq] at hx
     obtain ⟨rfl,rfl⟩:=hx
     unfold cDfr at hq
     split at hq
     ·rename_i o hlast
      split at hq
      ·rename_i z2 l2 hz hl2
       simp only [Option.some.injEq,Prod.mk.injEq] at hq
       obtain ⟨rfl,rfl⟩:=hq
       have hops:ops.toList = ops.toList.dropLast ++ [o]:=by
        have hne:ops.toList≠[]:=fun e=>by rw [e] at hlast;cases hlast
        have:=List.dropLast_concat_getLast hne
        rw [List.getLast?_eq_some_getLast hne] at hlast
        simp only [Option.some.injEq] at hlast
        rw [hlast] at this
        exact this.symm
       unfold cDf at hz
       split at hz
       ·rename_i c hop
        split at hz
        ·rename_i g hcal
         split at hz
         ·rename_i hcond
          obtain ⟨harg,hdst,hgd⟩:=hcond
          intro w M G a hst hr
          refine wpIn_region_list ?_
          rw [hops]
          refine qdg _ a w ?_
          refine qd6 (n:=n) (m:=m) ops.toList.dropLast l2 af H w M G a hl2 hst hr h fun e a' w' hp=>?_
          obtain ⟨ve,af',M',G',H',h1,h2,h3,h4,h5⟩:=hp
          cases ve with
          | nrm =>
            have h2:e = .normal:=h2
            subst h2
            obtain ⟨f,first,caps,hf,hQ⟩:=h1
            have hv:=qh hz h5
            rw [hf] at hv
            obtain ⟨xs,ys,hxs,hys,hev⟩:=hv
            have hw:Region.wanted o (yielded ops a'.tmps) = true:=by simp [Region.wanted,hgd]
            have hargs:c.args.map a'.eval = #[]:=by
             have:c.args = #[]:=by simpa using harg
             rw [this];simp
            have hrun:(o.semAt (fw none).round a'.eval).run P w' = .ok (.defer { target:=.fn (.func f) ys.toArray,args:=xs.toArray }) w':=by
             show (Oper.semAt none a'.eval o).run P w' = _
             rw [Oper.semAt_none]
             simp only [execOp,hop,resolve,hcal,Sem.run_bind,hargs,hev]
             simp [Deferred.ofValue]
            show wpListIn (fw none) 0 P ops _ [o] a' w'
            simp only [wpListIn]
            rw [if_pos hw]
            refine ⟨fun _ _=>trivial,?_⟩
            rw [hrun]
            refine ⟨.nrm,_,M',G',H',hQ,rfl,h3,h4,⟨by simpa [Act.put,hdst] using h5.size,?_,fun t=>by simpa [Act.put,hdst] using h5.rd t⟩⟩
            have:(({ a' with defers:={ target:=.fn (.func f) ys.toArray,args:=xs.toArray } :: a'.defers }:Act).put o.dst undef).defers = { target:=.fn (.func f) ys.toArray,args:=xs.toArray } :: a'.defers:=by rw [hdst];rfl
            rw [this]
            exact ⟨.func f,xs.toArray,ys.toArray,[],a'.defers,by simp,⟨xs,ys,hxs,hys,rfl⟩,rfl,h5.defers⟩
          | ext i=>have h2:e = .exit i:=h2;subst h2;exact ⟨.ext i,af',M',G',H',h1,rfl,h3,h4,h5⟩
          | gto l=>have h2:e = .goto l:=h2;subst h2;exact ⟨.gto l,af',M',G',H',h1,rfl,h3,h4,h5⟩
          | ret=>have h2:e = .ret:=h2;subst h2;exact ⟨.ret,af',M',G',H',h1,rfl,h3,h4,h5⟩
          | pan v=>obtain ⟨x,rfl,hx⟩:=h2;exact ⟨.pan v,af',M',G',H',h1,⟨x,rfl,hx⟩,h3,h4,h5⟩
         ·cases hz
        ·cases hz
       ·cases hz
      ·cases hq
     ·cases hq
 all_goals (exfalso;(repeat' split at hc)<;>simp at hc)

def VDef (P:Program) (f:FuncId) (H:List Ent) (args:List AV) (Q:List Ent->Prop):Prop :=
 okF P f = true∧∀ (w:World) (M:Nat->Nat->Prop) (G:List Gh) (vs:List Value) (u:FrameMode),St w M G H->VRs w M G args vs →
  CallsDIn Fence.wide 0 P f vs.toArray u w fun e u' w'=>u' = u∧∃ x M' G' H',e = .returned x∧Q H'∧Ext w M G w' M' G'∧St w' M' G' H'
def defq (Q:List Ent->Prop):VE->AF->List Ent->Prop
 | .nrm,af,H | .ret,af,H=>af.dl = []∧Q H
 | _,_,_=>False
theorem qbu5 {f:FuncId} {ic:IC} {args:List AV} {Q:List Ent->Prop} (hc:cFun P f = some (n,ic,[])) (hl:args.length≤n) (h:VI P none n H.length ic (defq Q) ⟨qbr 0 args,[]⟩ H):VDef P f H args Q:=by
 obtain ⟨fn,c,hf,hb,hn,hcode,hres,hok⟩:=qed hc
 subst hn
 refine ⟨hok,fun w M G vs u hst hv=>?_⟩
 have hvl:=qe hv
 have hrel:RelF w M G fn.ntmps ⟨qbr 0 args,[]⟩ { tmps:=vs.toArray ++ Array.replicate (fn.ntmps - vs.toArray.size) undef,defers:=[] }:=by
  refine ⟨by simp;omega,rfl,fun t=>?_⟩
  simp only [qcb,Nat.zero_le,if_true,Nat.sub_zero]
  by_cases ht:t < args.length
  ·obtain ⟨x,hx,hr⟩:=qb4 hv ht
   have:(vs.toArray ++ Array.replicate (fn.ntmps - vs.toArray.size) undef).getD t undef = x:=by
    rw [Array.getD_eq_getD_getElem?,Array.getElem?_append_left (by simp;omega)]
    simp [hx]
   rw [this];exact hr
  ·have:args.getD t .junk = .junk:=by rw [List.getD_eq_getElem?_getD,List.getElem?_eq_none (by omega)];rfl
   rw [this];trivial
 have hwp:=h c hcode w M G _ hst hrel
 have hfw:fw none = Fence.wide:=rfl
 rw [hfw] at hwp
 have hlen:G.length = H.length:=hst.len
 refine (callsDIn_of_wp (R:=fun e w'=>∃ x M' G' H',e = .returned x∧Q H'∧Ext w M G w' M' G'∧St w' M' G' H') hf hb trivial (wpIn_mono hwp fun e a' w' hp=>?_)).mono fun e u' w' h=>h
 obtain ⟨ve,af',M',G',H',h1,h2,h3,h4,h5⟩:=hp
 have fin:af'.dl = []∧Q H'->a'.defers = []∧∃ v,(results fn a'.tmps).run P w' = .ok v w'∧∃ x M' G' H',Ending.returned v = .returned x∧Q H'∧Ext w M G w' M' G'∧St w' M' G' H':=fun ⟨hd,hq⟩=>by
  have hdf:=h5.defers
  rw [hd] at hdf
  have hdf:a'.defers = []:=hdf
  obtain ⟨us,x,s1,s2,s3⟩:=qee (n:=fn.ntmps) (af:=⟨af'.tm,[]⟩) (a:={ tmps:=a'.tmps,defers:=[] }) (K:=fun _=>True) h4 ⟨h5.size,rfl,h5.rd⟩ hres trivial
  exact ⟨hdf,x,s3,x,M',G',H',rfl,hq,(hlen ▸ h3).toExt,h4⟩
 cases ve with
 | nrm=>have h2:e = .normal:=h2;subst h2;exact fin h1
 | ret=>have h2:e = .ret:=h2;subst h2;exact fin h1
 | pan v=>exact h1.elim
 | ext i=>exact h1.elim
 | gto l=>exact h1.elim

def dlqD (P:Program):List AD->List Ent->(List Ent->Prop)->Prop
 | [],H,K=>K H
 | .mark _ :: _,_,_=>False
 | .dfr f args :: l,H,K=>∃ g first caps,f = .fn g first caps∧VDef P g H (first ++ args ++ caps) fun H'=>dlqD P l H' K
def retd (P:Program) (k:Nat) (rs:List (RV×Co)) (Q:List Ent->VO->Prop):VE->AF->List Ent->Prop
 | .nrm,af,H | .ret,af,H=>dlqD P af.dl H (retk k rs Q af)
 | _,_,_=>False
theorem qmx {f:FuncId} {ic:IC} {args:List AV} {rs:List (RV×Co)} {Q:List Ent->VO->Prop} (hc:cFun P f = some (n,ic,rs)) (k:Nat) (hk:H.length≤k) (hl:args.length≤n) (h:VI P none n H.length ic (retd P k rs Q) ⟨qbr 0 args,[]⟩ H):VCalls P f H args Q:=by
 obtain ⟨fn,c,hf,hb,hn,hcode,hres,hok⟩:=qed hc
 subst hn
 refine ⟨hok,fun w M G vs hst hv=>callsIn_of_wp_marks hf hb trivial ?_⟩
 have hvl:=qe hv
 have hrel:RelF w M G fn.ntmps ⟨qbr 0 args,[]⟩ { tmps:=vs.toArray ++ Array.replicate (fn.ntmps - vs.toArray.size) undef,defers:=[] }:=by
  refine ⟨by simp;omega,rfl,fun t=>?_⟩
  simp only [qcb,Nat.zero_le,if_true,Nat.sub_zero]
  by_cases ht:t < args.length
  ·obtain ⟨x,hx,hr⟩:=qb4 hv ht
   have:(vs.toArray ++ Array.replicate (fn.ntmps - vs.toArray.size) undef).getD t undef = x:=by
    rw [Array.getD_eq_getD_getElem?,Array.getElem?_append_left (by simp;omega)]
    simp [hx]
   rw [this];exact hr
  ·have:args.getD t .junk = .junk:=by rw [List.getD_eq_getElem?_getD,List.getElem?_eq_none (by omega)];rfl
   rw [this];trivial
 have hwp:=h c hcode w M G _ hst hrel
 have hfw:fw none = Fence.wide:=rfl
 rw [hfw] at hwp
 refine wpIn_mono hwp fun e a' w' hp=>?_
 obtain ⟨ve,af',M',G',H',h1,h2,h3,h4,h5⟩:=hp
 have hlen:G.length = H.length:=hst.len
 have leave:∀ (l:List AD) (ds:List Deferred) (H₁:List Ent) (M₁:Nat->Nat->Prop) (G₁:List Gh) (w₁:World) (K:List Ent->Prop),DR w₁ M₁ G₁ l ds->ExtM H.length w M G w₁ M₁ G₁->St w₁ M₁ G₁ H₁->(∀ t,VR w₁ M₁ G₁ (get af'.tm t) (a'.tmps.getD t undef))->dlqD P l H₁ K →
  (∀ (H₂:List Ent) (M₂:Nat->Nat->Prop) (G₂:List Gh) (w₂:World),K H₂->ExtM H.length w M G w₂ M₂ G₂->St w₂ M₂ G₂ H₂->(∀ t,VR w₂ M₂ G₂ (get af'.tm t) (a'.tmps.getD t undef))->LeavesIn Fence.wide 0 P fn a'.tmps (Out Q w M G) [] .returning w₂) →
  LeavesInM Fence.wide 0 P fn a'.tmps (Out Q w M G) ds .returning w₁:=by
  intro l
  induction l with
  | nil =>
    intro ds H₁ M₁ G₁ w₁ K hd he hs hv hq hK
    simp only [DR] at hd;subst hd
    exact hK H₁ M₁ G₁ w₁ hq he hs hv
  | cons d l ih =>
    intro ds H₁ M₁ G₁ w₁ K hd he hs hv hq hK
    cases d with
    | mark i=>exact hq.elim
    | dfr f args =>
      obtain ⟨t,first,caps,xs,r,rfl,h1,h2,h3⟩:=hd
      obtain ⟨g,fi,ca,rfl,hg,hdef⟩:=hq
      obtain ⟨us,ys,q1,q2,q3⟩:=h1
      simp only [Value.func.injEq] at q3
      obtain ⟨rfl,rfl,rfl⟩:=q3
      have hinv:(invoke (Target.fn (.func g) ys.toArray) (us.toArray ++ xs.toArray)).run P w₁ = .ok (.enter g ((us ++ xs ++ ys).toArray)) w₁:=by
       simp only [invoke]
       rw [qgd hg]
       simp
      refine ⟨by simp,.inr ⟨fun hh=>(by cases hh),.func g,ys.toArray,g,_,rfl,hinv,fun _ _=>trivial,?_⟩⟩
      refine (hdef w₁ M₁ G₁ _ .returning hs (qbg (qbg q1 h2) q2)).mono fun e u' w' he'=>?_
      obtain ⟨rfl,x,M₂,G₂,H₂,rfl,k1,k2,k3⟩:=he'
      exact ih r H₂ M₂ G₂ w' K (qjg k2.core k2.le h3) (he.trans k2.toM) k3 (fun t=>(hv t).ext k2) k1 hK
 have done:∀ (hq:dlqD P af'.dl H' (retk k rs Q af')),LeavesInM Fence.wide 0 P fn a'.tmps (Out Q w M G) a'.defers .returning w':=fun hq=>by
  refine leave af'.dl a'.defers H' M' G' w' _ h5.defers h3 h4 h5.rd hq fun H₂ M₂ G₂ w₂ q1 q2 q4 q5=>?_
  obtain ⟨us,x,s1,s2,s3⟩:=qee (n:=fn.ntmps) (af:=⟨af'.tm,[]⟩) (a:={ tmps:=a'.tmps,defers:=[] }) q4 ⟨h5.size,rfl,q5⟩ hres (by rw [qgr (l':=af'.dl)];exact q1)
  obtain ⟨G'',r1,r2,r3,r4⟩:=qep (m:=H.length) q4 s1 hk
  exact ⟨x,s3,M₂,G'',_,_,r3,(hlen ▸ (q2.trans r1)).toExt,r2,r4 _ _ s1.2.2.1 s2⟩
 cases ve with
 | nrm=>have h2:e = .normal:=h2;subst h2;exact done h1
 | ret=>have h2:e = .ret:=h2;subst h2;exact done h1
 | pan v=>exact h1.elim
 | ext i=>exact h1.elim
 | gto l=>exact h1.elim
theorem q9w {k:Nat} {rs:List (RV×Co)} {Q:List Ent->VO->Prop} (af:AF) (H:List Ent):retd P k rs Q .ret af H = dlqD P af.dl H (retk k rs Q af):=Eq.trans rfl rfl
theorem q7s {k:Nat} {rs:List (RV×Co)} {Q:List Ent->VO->Prop} (af:AF) (H:List Ent):retd P k rs Q .nrm af H = dlqD P af.dl H (retk k rs Q af):=Eq.trans rfl rfl
theorem q9p (H:List Ent) (K:List Ent->Prop):dlqD P [] H K = K H:=Eq.trans rfl rfl
attribute [go_sem] q9w q7s q9p
end
end Go.V
