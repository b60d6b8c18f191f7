/- Texts of this proof, joined. -/
import Derived.Test.YtlahgbhhejkgbaaKap
import Derived.Lib.SliceRun
set_option linter.unusedVariables false
set_option linter.unusedSimpArgs false

/-
 The value logic, part z, second half: a row that was written becomes one that stays.
-/
namespace Go.V
open Go Go.RowKit


def dfq (z:Opd) (Q:VE->AF->List Ent->Prop):VE->AF->List Ent->Prop
 | .nrm,af,H=>∃ f first caps,gt af z = .fn f first caps∧Q .nrm ⟨af.tm,.dfr (.fn f first caps) [] :: af.dl⟩ H
 | e,af,H=>Q e af H
def q95 (F:Fence) (k:Nat) (P:Program) (ops:Array Oper) (S:Exit->Act->World->Prop) (r:List Oper):Exit->Act->World->Prop
 | .normal,a,w=>wpListIn F k P ops S r a w
 | e,a,w=>S e a w

section
variable {P:Program} {n m:Nat} {Q:VE->AF->List Ent->Prop} {af:AF} {H:List Ent} {ops:Array Oper}
theorem qmw {F:Fence} {k:Nat} {S:Exit->Act->World->Prop} {r:List Oper} {o:Oper} {a:Act} {N N':Act->World->Prop} (hN:∀ a w,N a w->N' a w) {x:Result Next} (h:o.uponIn F k P a N (q95 F k P ops S r) x):o.uponIn F k P a N' S x:=by
 cases x with
 | ok v w =>
   cases v with
   | value v=>exact hN _ _ h
   | skip=>exact hN _ _ h
   | defer d=>exact hN _ _ h
   | enter f args =>
     refine ⟨h.1,CallsIn.mono h.2 fun e w' he=>?_⟩
     cases e with
     | returned v=>exact hN _ _ he
     | panicked c=>exact he
     | outgrown=>exact he
   | row s args=>exact ⟨h.1,RowsIn.mono h.2 fun v w' hv=>hN _ _ hv⟩
   | round l f t as bd =>
     refine ⟨h.1,RoundIn.mono h.2 fun e w' he=>?_⟩
     cases e with
     | returned v=>exact hN _ _ he
     | panicked c=>exact he
     | outgrown=>exact he
   | _=>exact h
 | halt hlt w =>
   cases hlt with
   | panic v=>exact h
   | _=>exact h
theorem qc8 {F:Fence} {k:Nat} {S:Exit->Act->World->Prop} {r:List Oper}:∀ (l:List Oper) (a:Act) (w:World),wpListIn F k P ops (q95 F k P ops S r) l a w->wpListIn F k P ops S (l ++ r) a w
 | [],a,w,h=>h
 | o :: l, a, w, h => by
   simp only [List.cons_append,wpListIn] at h ⊢
   split
   ·rename_i hw
    rw [if_pos hw] at h
    exact ⟨h.1,qmw (fun a w=>qc8 l a w) h.2⟩
   ·rename_i hw
    rw [if_neg hw] at h
    exact ⟨h.1,qc8 l _ _ h.2⟩
theorem qrj {l:List GI} {z:Opd} (h:runL P (dfq z Q) l af H):VI P none n m (.dfr l z) Q af H:=by
 intro c hc
 cases c<;>simp only [qbe] at hc
 case region id ops draw =>
  split at hc
  ·rename_i l' hl
   exfalso
   (repeat' split at hc)<;>simp at hc
  ·cases draw with
   | true=>simp at hc
   | false =>
     rw [if_neg (by simp)] at hc
     obtain ⟨⟨l1,z1⟩,hq,hx⟩:=Option.map_eq_some_iff.1 hc
     simp only [IC.dfr.injEq] at hx
     obtain ⟨rfl,rfl⟩:=hx
     unfold cDfr at hq
     split at hq
     ·rename_i o hlast
      split at hq
      ·rename_i z2 l2 hz hl2
       simp only [Option.some.injEq,Prod.mk.injEq] at hq
       obtain ⟨rfl,rfl⟩:=hq
       have hops:ops.toList = ops.toList.dropLast ++ [o]:=by
        have hne:ops.toList≠[]:=fun e=>by rw [e] at hlast;cases hlast
        have:=List.dropLast_concat_getLast hne
        rw [List.getLast?_eq_some_getLast hne] at hlast
        simp only [Option.some.injEq] at hlast
        rw [hlast] at this
        exact this.symm
       unfold cDf at hz
       split at hz
       ·rename_i c hop
        split at hz
        ·rename_i g hcal
         split at hz
         ·rename_i hcond
          obtain ⟨harg,hdst,hgd⟩:=hcond
          intro w M G a hst hr
          refine wpIn_region_list ?_
          rw [hops]
          refine qc8 _ a w ?_
          refine qdn (n:=n) (m:=m) ops.toList.dropLast l2 af H w M G a hl2 hst hr h fun e a' w' hp=>?_
          obtain ⟨ve,af',M',G',H',h1,h2,h3,h4,h5⟩:=hp
          cases ve with
          | nrm =>
            have h2:e = .normal:=h2
            subst h2
            obtain ⟨f,first,caps,hf,hQ⟩:=h1
            have hv:=qe hz h5
            rw [hf] at hv
            obtain ⟨xs,ys,hxs,hys,hev⟩:=hv
            have hw:Region.wanted o (yielded ops a'.tmps) = true:=by simp [Region.wanted,hgd]
            have hargs:c.args.map a'.eval = #[]:=by
             have:c.args = #[]:=by simpa using harg
             rw [this];simp
            have hrun:(o.semAt (fw none).round a'.eval).run P w' = .ok (.defer { target:=.fn (.func f) ys.toArray,args:=xs.toArray }) w':=by
             show (Oper.semAt none a'.eval o).run P w' = _
             rw [Oper.semAt_none]
             simp only [execOp,hop,resolve,hcal,Sem.run_bind,hargs,hev]
             simp [Deferred.ofValue]
            show wpListIn (fw none) 0 P ops _ [o] a' w'
            simp only [wpListIn]
            rw [if_pos hw]
            refine ⟨fun _ _=>trivial,?_⟩
            rw [hrun]
            refine ⟨.nrm,_,M',G',H',hQ,rfl,h3,h4,⟨by simpa [Act.put,hdst] using h5.size,?_,fun t=>by simpa [Act.put,hdst] using h5.rd t⟩⟩
            have:(({ a' with defers:={ target:=.fn (.func f) ys.toArray,args:=xs.toArray } :: a'.defers }:Act).put o.dst undef).defers = { target:=.fn (.func f) ys.toArray,args:=xs.toArray } :: a'.defers:=by rw [hdst];rfl
            rw [this]
            exact ⟨.func f,xs.toArray,ys.toArray,[],a'.defers,by simp,⟨xs,ys,hxs,hys,rfl⟩,rfl,h5.defers⟩
          | ext i=>have h2:e = .exit i:=h2;subst h2;exact ⟨.ext i,af',M',G',H',h1,rfl,h3,h4,h5⟩
          | gto l=>have h2:e = .goto l:=h2;subst h2;exact ⟨.gto l,af',M',G',H',h1,rfl,h3,h4,h5⟩
          | ret=>have h2:e = .ret:=h2;subst h2;exact ⟨.ret,af',M',G',H',h1,rfl,h3,h4,h5⟩
          | pan v=>obtain ⟨x,rfl,hx⟩:=h2;exact ⟨.pan v,af',M',G',H',h1,⟨x,rfl,hx⟩,h3,h4,h5⟩
         ·cases hz
        ·cases hz
       ·cases hz
      ·cases hq
     ·cases hq
 all_goals (exfalso;(repeat' split at hc)<;>simp at hc)

def VDef (P:Program) (f:FuncId) (H:List Ent) (args:List AV) (Q:List Ent->Prop):Prop :=
 okF P f = true∧∀ (w:World) (M:Nat->Nat->Prop) (G:List Gh) (vs:List Value) (u:FrameMode),St w M G H->VRs w M G args vs →
  CallsDIn Fence.wide 0 P f vs.toArray u w fun e u' w'=>u' = u∧∃ x M' G' H',e = .returned x∧Q H'∧Ext w M G w' M' G'∧St w' M' G' H'
def defq (Q:List Ent->Prop):VE->AF->List Ent->Prop
 | .nrm,af,H | .ret,af,H=>af.dl = []∧Q H
 | _,_,_=>False
theorem q38 {f:FuncId} {ic:IC} {args:List AV} {Q:List Ent->Prop} (hc:cFun P f = some (n,ic,[])) (hl:args.length≤n) (h:VI P none n H.length ic (defq Q) ⟨qbg 0 args,[]⟩ H):VDef P f H args Q:=by
 obtain ⟨fn,c,hf,hb,hn,hcode,hres,hok⟩:=qdk hc
 subst hn
 refine ⟨hok,fun w M G vs u hst hv=>?_⟩
 have hvl:=qb hv
 have hrel:RelF w M G fn.ntmps ⟨qbg 0 args,[]⟩ { tmps:=vs.toArray ++ Array.replicate (fn.ntmps - vs.toArray.size) undef,defers:=[] }:=by
  refine ⟨by simp;omega,rfl,fun t=>?_⟩
  simp only [qbq,Nat.zero_le,if_true,Nat.sub_zero]
  by_cases ht:t < args.length
  ·obtain ⟨x,hx,hr⟩:=qbm hv ht
   have:(vs.toArray ++ Array.replicate (fn.ntmps - vs.toArray.size) undef).getD t undef = x:=by
    rw [Array.getD_eq_getD_getElem?,Array.getElem?_append_left (by simp;omega)]
    simp [hx]
   rw [this];exact hr
  ·have:args.getD t .junk = .junk:=by rw [List.getD_eq_getElem?_getD,List.getElem?_eq_none (by omega)];rfl
   rw [this];trivial
 have hwp:=h c hcode w M G _ hst hrel
 have hfw:fw none = Fence.wide:=rfl
 rw [hfw] at hwp
 have hlen:G.length = H.length:=hst.len
 refine (callsDIn_of_wp (R:=fun e w'=>∃ x M' G' H',e = .returned x∧Q H'∧Ext w M G w' M' G'∧St w' M' G' H') hf hb trivial (wpIn_mono hwp fun e a' w' hp=>?_)).mono fun e u' w' h=>h
 obtain ⟨ve,af',M',G',H',h1,h2,h3,h4,h5⟩:=hp
 have fin:af'.dl = []∧Q H'->a'.defers = []∧∃ v,(results fn a'.tmps).run P w' = .ok v w'∧∃ x M' G' H',Ending.returned v = .returned x∧Q H'∧Ext w M G w' M' G'∧St w' M' G' H':=fun ⟨hd,hq⟩=>by
  have hdf:=h5.defers
  rw [hd] at hdf
  have hdf:a'.defers = []:=hdf
  obtain ⟨us,x,s1,s2,s3⟩:=qd0 (n:=fn.ntmps) (af:=⟨af'.tm,[]⟩) (a:={ tmps:=a'.tmps,defers:=[] }) (K:=fun _=>True) h4 ⟨h5.size,rfl,h5.rd⟩ hres trivial
  exact ⟨hdf,x,s3,x,M',G',H',rfl,hq,(hlen ▸ h3).toExt,h4⟩
 cases ve with
 | nrm=>have h2:e = .normal:=h2;subst h2;exact fin h1
 | ret=>have h2:e = .ret:=h2;subst h2;exact fin h1
 | pan v=>exact h1.elim
 | ext i=>exact h1.elim
 | gto l=>exact h1.elim

def dlqD (P:Program):List AD->List Ent->(List Ent->Prop)->Prop
 | [],H,K=>K H
 | .mark _ :: _,_,_=>False
 | .dfr f args :: l,H,K=>∃ g first caps,f = .fn g first caps∧VDef P g H (first ++ args ++ caps) fun H'=>dlqD P l H' K
def retd (P:Program) (k:Nat) (rs:List (RV×Co)) (Q:List Ent->VO->Prop):VE->AF->List Ent->Prop
 | .nrm,af,H | .ret,af,H=>dlqD P af.dl H (retk k rs Q af)
 | _,_,_=>False
theorem qjg {f:FuncId} {ic:IC} {args:List AV} {rs:List (RV×Co)} {Q:List Ent->VO->Prop} (hc:cFun P f = some (n,ic,rs)) (k:Nat) (hk:H.length≤k) (hl:args.length≤n) (h:VI P none n H.length ic (retd P k rs Q) ⟨qbg 0 args,[]⟩ H):VCalls P f H args Q:=by
 obtain ⟨fn,c,hf,hb,hn,hcode,hres,hok⟩:=qdk hc
 subst hn
 refine ⟨hok,fun w M G vs hst hv=>callsIn_of_wp_marks hf hb trivial ?_⟩
 have hvl:=qb hv
 have hrel:RelF w M G fn.ntmps ⟨qbg 0 args,[]⟩ { tmps:=vs.toArray ++ Array.replicate (fn.ntmps - vs.toArray.size) undef,defers:=[] }:=by
  refine ⟨by simp;omega,rfl,fun t=>?_⟩
  simp only [qbq,Nat.zero_le,if_true,Nat.sub_zero]
  by_cases ht:t < args.length
  ·obtain ⟨x,hx,hr⟩:=qbm hv ht
   have:(vs.toArray ++ Array.replicate (fn.ntmps - vs.toArray.size) undef).getD t undef = x:=by
    rw [Array.getD_eq_getD_getElem?,Array.getElem?_append_left (by simp;omega)]
    simp [hx]
   rw [this];exact hr
  ·have:args.getD t .junk = .junk:=by rw [List.getD_eq_getElem?_getD,List.getElem?_eq_none (by omega)];rfl
   rw [this];trivial
 have hwp:=h c hcode w M G _ hst hrel
 have hfw:fw none = Fence.wide:=rfl
 rw [hfw] at hwp
 refine wpIn_mono hwp fun e a' w' hp=>?_
 obtain ⟨ve,af',M',G',H',h1,h2,h3,h4,h5⟩:=hp
 have hlen:G.length = H.length:=hst.len
 have leave:∀ (l:List AD) (ds:List Deferred) (H₁:List Ent) (M₁:Nat->Nat->Prop) (G₁:List Gh) (w₁:World) (K:List Ent->Prop),DR w₁ M₁ G₁ l ds->ExtM H.length w M G w₁ M₁ G₁->St w₁ M₁ G₁ H₁->(∀ t,VR w₁ M₁ G₁ (get af'.tm t) (a'.tmps.getD t undef))->dlqD P l H₁ K →
  (∀ (H₂:List Ent) (M₂:Nat->Nat->Prop) (G₂:List Gh) (w₂:World),K H₂->ExtM H.length w M G w₂ M₂ G₂->St w₂ M₂ G₂ H₂->(∀ t,VR w₂ M₂ G₂ (get af'.tm t) (a'.tmps.getD t undef))->LeavesIn Fence.wide 0 P fn a'.tmps (Out Q w M G) [] .returning w₂) →
  LeavesInM Fence.wide 0 P fn a'.tmps (Out Q w M G) ds .returning w₁:=by
  intro l
  induction l with
  | nil =>
    intro ds H₁ M₁ G₁ w₁ K hd he hs hv hq hK
    simp only [DR] at hd;subst hd
    exact hK H₁ M₁ G₁ w₁ hq he hs hv
  | cons d l ih =>
    intro ds H₁ M₁ G₁ w₁ K hd he hs hv hq hK
    cases d with
    | mark i=>exact hq.elim
    | dfr f args =>
      obtain ⟨t,first,caps,xs,r,rfl,h1,h2,h3⟩:=hd
      obtain ⟨g,fi,ca,rfl,hg,hdef⟩:=hq
      obtain ⟨us,ys,q1,q2,q3⟩:=h1
      simp only [Value.func.injEq] at q3
      obtain ⟨rfl,rfl,rfl⟩:=q3
      have hinv:(invoke (Target.fn (.func g) ys.toArray) (us.toArray ++ xs.toArray)).run P w₁ = .ok (.enter g ((us ++ xs ++ ys).toArray)) w₁:=by
       simp only [invoke]
       rw [qeo hg]
       simp
      refine ⟨by simp,.inr ⟨fun hh=>(by cases hh),.func g,ys.toArray,g,_,rfl,hinv,fun _ _=>trivial,?_⟩⟩
      refine (hdef w₁ M₁ G₁ _ .returning hs (qq (qq q1 h2) q2)).mono fun e u' w' he'=>?_
      obtain ⟨rfl,x,M₂,G₂,H₂,rfl,k1,k2,k3⟩:=he'
      exact ih r H₂ M₂ G₂ w' K (qdt k2.core k2.le h3) (he.trans k2.toM) k3 (fun t=>(hv t).ext k2) k1 hK
 have done:∀ (hq:dlqD P af'.dl H' (retk k rs Q af')),LeavesInM Fence.wide 0 P fn a'.tmps (Out Q w M G) a'.defers .returning w':=fun hq=>by
  refine leave af'.dl a'.defers H' M' G' w' _ h5.defers h3 h4 h5.rd hq fun H₂ M₂ G₂ w₂ q1 q2 q4 q5=>?_
  obtain ⟨us,x,s1,s2,s3⟩:=qd0 (n:=fn.ntmps) (af:=⟨af'.tm,[]⟩) (a:={ tmps:=a'.tmps,defers:=[] }) q4 ⟨h5.size,rfl,q5⟩ hres (by rw [qew (l':=af'.dl)];exact q1)
  obtain ⟨G'',r1,r2,r3,r4⟩:=qdj (m:=H.length) q4 s1 hk
  exact ⟨x,s3,M₂,G'',_,_,r3,(hlen ▸ (q2.trans r1)).toExt,r2,r4 _ _ s1.2.2.1 s2⟩
 cases ve with
 | nrm=>have h2:e = .normal:=h2;subst h2;exact done h1
 | ret=>have h2:e = .ret:=h2;subst h2;exact done h1
 | pan v=>exact h1.elim
 | ext i=>exact h1.elim
 | gto l=>exact h1.elim
theorem qvx {k:Nat} {rs:List (RV×Co)} {Q:List Ent->VO->Prop} (af:AF) (H:List Ent):retd P k rs Q .ret af H = dlqD P af.dl H (retk k rs Q af):=Eq.trans rfl rfl
theorem qxa {k:Nat} {rs:List (RV×Co)} {Q:List Ent->VO->Prop} (af:AF) (H:List Ent):retd P k rs Q .nrm af H = dlqD P af.dl H (retk k rs Q af):=Eq.trans rfl rfl
theorem qwg (H:List Ent) (K:List Ent->Prop):dlqD P [] H K = K H:=Eq.trans rfl rfl
attribute [go_sem] qvx qxa qwg
end

def nlq (t:Nat) (x:Opd) (Q:VE->AF->List Ent->Prop):VE->AF->List Ent->Prop
 | .nrm,af,H=>∃ n es,gt af x = .sl n es∧∀ b:Bool,(b = true->es = [])->Q .nrm (put af (some t) (.bool b)) H
 | e,af,H=>Q e af H
section
variable {P:Program} {n m:Nat} {Q:VE->AF->List Ent->Prop} {af:AF} {H:List Ent} {ops:Array Oper}
theorem qtl:∀ {l:List Oper} {gl:List GI} {g:GI},cL P ops n l = some (gl ++ [g])->∃ r o,l = r ++ [o]∧cL P ops n r = some gl∧cGI P ops n o = some g
 | [],gl,g,h=>by simp [cL] at h
 | o :: r, gl, g, h => by
   simp only [cL] at h
   split at h
   ·rename_i a l' ha hl
    simp only [Option.some.injEq] at h
    cases gl with
    | nil =>
      simp only [List.nil_append,List.cons.injEq] at h
      obtain ⟨rfl,rfl⟩:=h
      cases r with
      | nil=>exact ⟨[],o,rfl,rfl,ha⟩
      | cons o2 r2 =>
        simp only [cL] at hl
        split at hl<;>simp at hl
    | cons b gl' =>
      simp only [List.cons_append,List.cons.injEq] at h
      obtain ⟨rfl,rfl⟩:=h
      obtain ⟨r',o',rfl,h1,h2⟩:=qtl hl
      exact ⟨o :: r',o',rfl,by simp only [cL,ha,h1],h2⟩
   ·cases h
theorem qti {t:TypeId} (h:eqT P t = .slice):∃ u,P.underlying t = some (.slice u):=by
 unfold eqT at h
 split at h
 case h_3 u hu=>exact ⟨u,hu⟩
 case h_6=>(repeat' split at h)<;>simp at h
 all_goals cases h
theorem qbas {o:Oper} {x:Opd} (h:cI P o = some (.v (.bin .eql .slice x (.c .nils)))):∃ t xo yo yt,o.op = .binOp .eql t xo yo yt∧cO xo = some x∧cO yo = some (.c .nils)∧eqT P t = .slice:=by
 unfold cI at h
 split at h
 case h_11 op t xo yo yt ho =>
  split at h
  ·rename_i a b ha hb
   split at h
   ·cases h
   ·simp only [Option.some.injEq,I.v.injEq,IV.bin.injEq] at h
    obtain ⟨rfl,h2,rfl,rfl⟩:=h
    exact ⟨t,xo,yo,yt,ho,ha,hb,h2⟩
  ·cases h
 all_goals exfalso
 all_goals first | (simp [Option.map_eq_some_iff] at h;done) | ((repeat' split at h)<;>simp [Option.map_eq_some_iff] at h;done) | skip
 unfold qui at h
 (repeat' split at h)<;>simp [Option.map_eq_some_iff] at h
theorem qrc {l:List GI} {t:Nat} {x:Opd} (h:runL P (nlq t x Q) l af H):VI P none n m (.reg false (l ++ [⟨none,some t,.v (.bin .eql .slice x (.c .nils))⟩])) Q af H:=by
 intro c hc
 cases c<;>simp only [qbe] at hc
 case region id ops draw =>
  split at hc
  ·rename_i l' hl
   cases draw with
   | true =>
     rw [if_pos rfl] at hc
     split at hc
     ·obtain ⟨x,_,hx⟩:=Option.map_eq_some_iff.1 hc
      cases hx
     ·cases hc
   | false =>
     rw [if_neg (by simp)] at hc
     simp only [Option.some.injEq,IC.reg.injEq] at hc
     obtain ⟨_,rfl⟩:=hc
     obtain ⟨r,o,hops,h1,h2⟩:=qtl hl
     unfold cGI at h2
     split at h2
     case h_2=>cases h2
     rename_i g i hg hi
     split at h2
     case isFalse=>cases h2
     rename_i hd
     simp only [Option.some.injEq,GI.mk.injEq] at h2
     obtain ⟨rfl,hdst,rfl⟩:=h2
     have hgd:o.guard = none:=by
      cases hq:o.guard with
      | none=>rfl
      | some p=>rw [hq] at hg;obtain ⟨j,b⟩:=p;simp only [cG] at hg;split at hg<;>simp at hg
     intro w M G a hst hr
     refine wpIn_region_list ?_
     rw [hops]
     refine qc8 _ a w ?_
     refine qdn (n:=n) (m:=m) r l af H w M G a h1 hst hr h fun e a' w' hp=>?_
     obtain ⟨ve,af',M',G',H',h1,h2,h3,h4,h5⟩:=hp
     cases ve with
     | nrm =>
       have h2:e = .normal:=h2
       subst h2
       obtain ⟨k,es,hx,hQ⟩:=h1
       obtain ⟨ty,xo,yo,yt,ho,hxo,hyo,hty⟩:=qbas hi
       obtain ⟨u,hu⟩:=qti hty
       have hvx:=qe hxo h5
       have hvy:VR w' M' G' .nils (a'.eval yo):=qe hyo h5
       rw [hx] at hvx
       obtain ⟨ad,cap,us,hus,hsl,hxv⟩:=hvx
       have hvy:a'.eval yo = .slice none 0 0:=hvy
       have hrun:(o.semAt (fw none).round a'.eval).run P w' = .ok (.value (.bool ad.isNone)) w':=by
        show (Oper.semAt none a'.eval o).run P w' = _
        rw [Oper.semAt_none]
        simp only [execOp,ho,hxv,hvy,Sem.run_bind,qi (u:=.slice ad us.length cap) (v:=.slice none 0 0) (by simp) (by simp),Lib.run_eql_slice_nil w' ty u ad us.length cap 0 0 hu,Result.andThen_ok,Sem.run_pure]
       have hw:Region.wanted o (yielded ops a'.tmps) = true:=by simp [Region.wanted,hgd]
       show wpListIn (fw none) 0 P ops _ [o] a' w'
       simp only [wpListIn]
       rw [if_pos hw]
       refine ⟨fun _ _=>trivial,?_⟩
       rw [hrun]
       refine ⟨.nrm,_,M',G',H',hQ ad.isNone fun hb=>?_,rfl,h3,h4,?_⟩
       ·cases ad with
        | some _=>cases hb
        | none =>
          obtain ⟨q1,_,_,q4⟩:=hsl
          simp only at q4
          have hl:=qb hus
          cases es with
          | nil=>rfl
          | cons _ _=>rw [List.length_cons] at hl;omega
       ·have:=h5.put (v:=.bool ad.isNone) (x:=.bool ad.isNone) rfl hd
        rw [hdst] at this
        rw [hdst]
        exact this
     | ext i=>have h2:e = .exit i:=h2;subst h2;exact ⟨.ext i,af',M',G',H',h1,rfl,h3,h4,h5⟩
     | gto l=>have h2:e = .goto l:=h2;subst h2;exact ⟨.gto l,af',M',G',H',h1,rfl,h3,h4,h5⟩
     | ret=>have h2:e = .ret:=h2;subst h2;exact ⟨.ret,af',M',G',H',h1,rfl,h3,h4,h5⟩
     | pan v=>obtain ⟨x,rfl,hx⟩:=h2;exact ⟨.pan v,af',M',G',H',h1,⟨x,rfl,hx⟩,h3,h4,h5⟩
  ·exfalso;split at hc<;>simp at hc
 all_goals (exfalso;(repeat' split at hc)<;>simp at hc)
theorem qwx {w:World} {M:Nat->Nat->Prop} {G:List Gh} {x:Value} (k:Nat) (h:VR w M G .nils x):VR w M G (.lit k []) x:=by
 have h:x = .slice none 0 0:=h
 subst h
 exact ⟨none,[],rfl,⟨Nat.le_refl _,Nat.zero_le _,(by simp),rfl⟩,rfl⟩
theorem qpj {f:FuncId} {args:List AV} {k:Nat} {Q':List Ent->VO->Prop} {Q:List Ent->VO->Prop} (h:VCalls P f H args Q') (h1:∀ H' o,Q' H' o->Q H' o∨(o = .val .nils∧Q H' (.val (.lit k [])))):VCalls P f H args Q:=by
 refine ⟨h.1,fun w M G vs hst hv=>(h.2 w M G vs hst hv).mono fun e w' he=>?_⟩
 cases e with
 | returned x =>
   obtain ⟨M',G',H',v,q1,q2,q3,q4⟩:=he
   rcases h1 _ _ q1 with q | ⟨hv,q⟩
   ·exact ⟨M',G',H',v,q,q2,q3,q4⟩
   ·simp only [VO.val.injEq] at hv
    subst hv
    exact ⟨M',G',H',_,q,q2,q3,qwx k q4⟩
 | panicked ch =>
   obtain ⟨M',G',H',v,x,q1,q2,q3,q4,rfl⟩:=he
   rcases h1 _ _ q1 with q | ⟨hv,q⟩
   ·exact ⟨M',G',H',v,x,q,q2,q3,q4,rfl⟩
   ·cases hv
 | outgrown=>exact he.elim
end
section
variable {P:Program} {fr:Option Nat} {n m:Nat} {a:IC} {Q:VE->AF->List Ent->Prop} {af:AF} {H:List Ent} {w:World} {M:Nat->Nat->Prop} {G:List Gh}
theorem quk {S:Type} {Inv:S->Prop} {st:S->AF×List Ent} (hat:At S Inv st m af H) (h:∀ s,Inv s->VI P fr n m a Q (st s).1 (st s).2):VI P fr n m a Q af H:=by
 obtain ⟨s,h1,h2⟩:=hat
 exact q70 (h s h1) h2
end
theorem q1b {t:Nat} {x:Opd} {Q:VE->AF->List Ent->Prop} {af:AF} {H:List Ent}:nlq t x Q .nrm af H = ∃ n es,gt af x = .sl n es∧∀ b:Bool,(b = true->es = [])->Q .nrm (put af (some t) (.bool b)) H:=rfl
attribute [go_sem] q1b
end Go.V
