/- Texts of this proof, joined. -/
import Derived.Test.YtgglaabljlhliaaGreatLba
import Derived.RecoverIn
set_option linter.unusedVariables false
set_option linter.unusedSimpArgs false

/-
 The value logic: panics, and functions that recover.
-/
namespace Go.V
open Go Go.RowKit

def panq (z:Opd) (Q:VE->AF->List Ent->Prop):VE->AF->List Ent->Prop
 | .nrm,af,H=>∃ t v,gt af z = .iface t v∧Q (.pan (.iface t v)) af H
 | e,af,H=>Q e af H

section
variable {P:Program} {n m:Nat} {Q:VE->AF->List Ent->Prop} {af:AF} {H:List Ent} {ops:Array Oper}
theorem qbj0 {P:Program} (t:TypeId) (v:Value) (w:World):(Instr.panic (.iface t v)).run P w = .halt (.panic (.iface t v)) w:=rfl
theorem q2j {l:List GI} {z:Opd} (h:runL P (panq z Q) l af H):VI P none n m (.pan l z) Q af H:=by
 intro c hc
 cases c<;>simp only [qce] at hc
 case region id ops draw =>
  split at hc
  ·rename_i l' hl
   exfalso
   (repeat' split at hc)<;>simp at hc
  ·cases draw with
   | true=>simp at hc
   | false =>
     rw [if_neg (by simp)] at hc
     have hc:(cPan P n ops).map (fun p=>IC.pan p.1 p.2) = some (IC.pan l z):=by
      cases hd:cDfr P n ops with
      | some p=>rw [hd] at hc;simp at hc
      | none=>rw [hd] at hc;simpa using hc
     obtain ⟨⟨l1,z1⟩,hq,hx⟩:=Option.map_eq_some_iff.1 hc
     simp only [IC.pan.injEq] at hx
     obtain ⟨rfl,rfl⟩:=hx
     unfold cPan at hq
     split at hq
     ·rename_i o hlast
      split at hq
      ·rename_i z2 l2 hz hl2
       simp only [Option.some.injEq,Prod.mk.injEq] at hq
       obtain ⟨rfl,rfl⟩:=hq
       have hops:ops.toList = ops.toList.dropLast ++ [o]:=by
        have hne:ops.toList≠[]:=fun e=>by rw [e] at hlast;cases hlast
        have:=List.dropLast_concat_getLast hne
        rw [List.getLast?_eq_some_getLast hne] at hlast
        simp only [Option.some.injEq] at hlast
        rw [hlast] at this
        exact this.symm
       unfold cPn at hz
       split at hz
       ·rename_i x hop
        split at hz
        ·rename_i hcond
         obtain ⟨hdst,hgd⟩:=hcond
         intro w M G a hst hr
         refine wpIn_region_list ?_
         rw [hops]
         refine qdg _ a w ?_
         refine qd6 (n:=n) (m:=m) ops.toList.dropLast l2 af H w M G a hl2 hst hr h fun e a' w' hp=>?_
         obtain ⟨ve,af',M',G',H',h1,h2,h3,h4,h5⟩:=hp
         cases ve with
         | nrm =>
           have h2:e = .normal:=h2
           subst h2
           obtain ⟨t,v,hf,hQ⟩:=h1
           have hv:=qh hz h5
           rw [hf] at hv
           have hv':=hv
           obtain ⟨u,hu,hev⟩:=hv
           have hw:Region.wanted o (yielded ops a'.tmps) = true:=by simp [Region.wanted,hgd]
           have hrun:(o.semAt (fw none).round a'.eval).run P w' = .halt (.panic (.iface t u)) w':=by
            show (Oper.semAt none a'.eval o).run P w' = _
            rw [Oper.semAt_none]
            simp only [execOp,hop,hev,Sem.run_bind,qbj0]
            rfl
           show wpListIn (fw none) 0 P ops _ [o] a' w'
           simp only [wpListIn]
           rw [if_pos hw]
           refine ⟨fun _ _=>trivial,?_⟩
           rw [hrun]
           exact ⟨.pan (.iface t v),_,M',G',H',hQ,⟨_,rfl,by rw [← hev];exact hv'⟩,h3,h4,h5⟩
         | ext i=>have h2:e = .exit i:=h2;subst h2;exact ⟨.ext i,af',M',G',H',h1,rfl,h3,h4,h5⟩
         | gto l=>have h2:e = .goto l:=h2;subst h2;exact ⟨.gto l,af',M',G',H',h1,rfl,h3,h4,h5⟩
         | ret=>have h2:e = .ret:=h2;subst h2;exact ⟨.ret,af',M',G',H',h1,rfl,h3,h4,h5⟩
         | pan v=>obtain ⟨x,rfl,hx⟩:=h2;exact ⟨.pan v,af',M',G',H',h1,⟨x,rfl,hx⟩,h3,h4,h5⟩
        ·cases hz
       ·cases hz
      ·cases hq
     ·cases hq
 all_goals (exfalso;(repeat' split at hc)<;>simp at hc)
end

def recM:FrameMode->Value×FrameMode
 | .panicking ({ v,recovered:=false,goexit:=false } :: older)=>(v,.panicking ({ v,recovered:=true } :: older))
 | u=>(.nilIface,u)
theorem qor {c₀:Frame} {cs:List Frame}:match recoverD (c₀ :: cs) with
 | some (v,cs')=>v = (recM c₀.mode).1∧cs' = { c₀ with mode:=(recM c₀.mode).2 } :: cs
 | none=>(recM c₀.mode).1 = .nilIface∧(recM c₀.mode).2 = c₀.mode:=by
 cases hm:c₀.mode with
 | run=>simp [recoverD,recM,hm]
 | returning=>simp [recoverD,recM,hm]
 | panicking ch =>
   cases ch with
   | nil=>simp [recoverD,recM,hm]
   | cons e r =>
     obtain ⟨v,rec,ge⟩:=e
     cases rec<;>cases ge<;>simp [recoverD,recM,hm]

def cRec (n:Nat) (o:Oper):Option Nat :=
 match o.op with
 | .call c => match c.callee with
   | .builtin .recover=>if c.args.isEmpty = true∧o.guard = none then (match o.dst with | some d=>if d < n then some d else none | none=>none) else none
   | _=>none
 | _=>none
def qbfs:I->Bool
 | .call _ _=>false
 | _=>true
def qww (g:GI):Bool:=g.g.isNone && qbfs g.i
def qrp (P:Program) (f:FuncId):Option (Nat×Nat×List GI×IC) :=
 match P.funcs[f]? with
 | some fn => if fn.name == "runtime.NumGoroutine" then none else match fn.body, cRes P fn.results.toList fn.resultTypes.toList with
   | some (.seq (.region _ ops false) c), some [] => match ops.toList with
     | o :: r => match cRec fn.ntmps o, cL P ops fn.ntmps r, qce P fn.ntmps c with
       | some d,some l,some ic=>if l.all qww then some (fn.ntmps,d,l,ic) else none
       | _,_,_=>none
     | []=>none
   | _,_=>none
 | none=>none
def qp6 (P:Program) (f:FuncId) (pv:AV) (H:List Ent) (args:List AV) (Q:List Ent->Prop):Prop :=
 okF P f = true∧∀ (w:World) (M:Nat->Nat->Prop) (G:List Gh) (vs:List Value) (u:FrameMode),St w M G H->VRs w M G args vs->VR w M G pv (recM u).1 →
  CallsDIn Fence.wide 0 P f vs.toArray u w fun e u' w'=>u' = (recM u).2∧∃ x M' G' H',e = .returned x∧Q H'∧Ext w M G w' M' G'∧St w' M' G' H'

section
variable {P:Program} {n m:Nat} {Q:VE->AF->List Ent->Prop} {af:AF} {H:List Ent} {ops:Array Oper}
theorem qsr {f:FuncId} {n d:Nat} {l:List GI} {ic:IC} (h:qrp P f = some (n,d,l,ic)):∃ fn id ops o r c,P.funcs[f]? = some fn∧fn.body = some (.seq (.region id ops false) c)∧cRes P fn.results.toList fn.resultTypes.toList = some []∧ops.toList = o :: r ∧
 fn.ntmps = n∧cRec n o = some d∧cL P ops n r = some l∧qce P n c = some ic∧l.all qww = true∧okF P f = true:=by
 unfold qrp at h
 split at h
 ·rename_i fn hf
  split at h
  ·cases h
  ·rename_i hname
   split at h
   ·rename_i id ops c hb hres
    split at h
    ·rename_i o r ho
     split at h
     ·rename_i d' l' ic' h1 h2 h3
      split at h
      ·rename_i hall
       simp only [Option.some.injEq,Prod.mk.injEq] at h
       obtain ⟨rfl,rfl,rfl,rfl⟩:=h
       refine ⟨fn,id,ops,o,r,c,hf,hb,hres,ho,rfl,h1,h2,h3,hall,?_⟩
       unfold okF
       rw [hf]
       simp only [hb]
       simp at hname ⊢
       exact hname
      ·cases h
     ·cases h
    ·cases h
   ·cases h
 ·cases h
theorem qnx {R:Exit->Act->List Frame->World->Prop} {cs:List Frame}:∀ (lo:List Oper) (l:List GI) (k:Nat) (af:AF) (H:List Ent) (w:World) (M:Nat->Nat->Prop) (G:List Gh) (a:Act),(∀ j,lo[j]? = ops[k + j]?)->cL P ops n lo = some l->l.all qww = true →
 St w M G H->RelF w M G n af a->runL P Q l af H->(∀ af' H' w' M' G' a',Q .nrm af' H'->Ext w M G w' M' G'->St w' M' G' H'->RelF w' M' G' n af' a'->R .normal a' cs w')->wpOpsSIn Fence.wide 0 P ops R (List.range' k lo.length) a cs w
 | [], l, k, af, H, w, M, G, a, hk, hl, hp, hst, hr, h, hR => by
   simp only [cL,Option.some.injEq] at hl
   subst hl
   exact hR _ _ _ _ _ _ h (Ext.refl _ _ _) hst hr
 | o :: lo, l, k, af, H, w, M, G, a, hk, hl, hp, hst, hr, h, hR => by
   simp only [cL] at hl
   split at hl
   ·rename_i g l' hg hl'
    simp only [Option.some.injEq] at hl
    subst hl
    simp only [List.all_cons,Bool.and_eq_true,qww] at hp
    obtain ⟨⟨hgn,hnc⟩,hp⟩:=hp
    obtain ⟨gg,d,i⟩:=g
    simp only [Option.isNone_iff_eq_none] at hgn
    subst hgn
    unfold cGI at hg
    split at hg
    ·rename_i g' i' hgg hii
     split at hg
     ·rename_i hd
      simp only [Option.some.injEq,GI.mk.injEq] at hg
      obtain ⟨rfl,rfl,rfl⟩:=hg
      have hni:∀ f l,i'≠.call f l:=fun f l e=>by rw [e] at hnc;cases hnc
      have hgo:o.guard = none:=by
       cases hq:o.guard with
       | none=>rfl
       | some p =>
         obtain ⟨j,b⟩:=p
         rw [hq] at hgg
         simp only [cG] at hgg
         split at hgg<;>cases hgg
      have hw:Region.wanted o (yielded ops a.tmps) = true:=by simp [Region.wanted,hgo]
      have h':(evi af H i').bnd fun p=>runL P Q l' (put af o.dst p.1) p.2:=by
       cases i'<;>first | exact h | exact absurd rfl (hni _ _)
      obtain ⟨v,H',x,w',M',G',q1,q2,q3,q4,q5⟩:=qxg (k:=fun v H'=>runL P Q l' (put af o.dst v) H') hii hni hst hr h'
      have ho:ops[k]? = some o:=by have:=hk 0;simpa using this.symm
      have next:=qnx (R:=R) (cs:=cs) lo l' (k + 1) _ H' w' M' G' (a.put o.dst x) (fun j=>by have:=hk (j + 1);simpa [Nat.add_assoc,Nat.add_comm 1] using this) hl' hp q3 ((hr.ext q2).put q4 hd) q1 fun af' H'' w'' M'' G'' a'' z1 z2 z3 z4=>hR _ _ _ _ _ _ z1 (q2.trans z2) z3 z4
      simp only [List.length_cons,List.range'_succ,wpOpsSIn,ho]
      refine ⟨fun _ _=>trivial,?_⟩
      rw [if_pos hw]
      rcases q5 with q5 | ⟨q5,rfl⟩
      ·rw [q5];exact next
      ·rw [q5];exact next
     ·cases hg
    ·cases hg
   ·cases hl

theorem qxs {f:FuncId} {d:Nat} {l:List GI} {ic:IC} {args:List AV} {pv:AV} {Q:List Ent->Prop} (hc:qrp P f = some (n,d,l,ic)) (hl:args.length≤n) (h:runL P (sq P none n H.length ic (defq Q)) l (put ⟨qbr 0 args,[]⟩ (some d) pv) H):qp6 P f pv H args Q:=by
 obtain ⟨fn,id,ops,o,r,c,hf,hb,hres,ho,hn,hrec,hcl,hcode,hall,hok⟩:=qsr hc
 subst hn
 refine ⟨hok,fun w M G vs u hst hv hpv=>?_⟩
 have hvl:=qe hv
 have hrel:RelF w M G fn.ntmps ⟨qbr 0 args,[]⟩ { tmps:=vs.toArray ++ Array.replicate (fn.ntmps - vs.toArray.size) undef,defers:=[] }:=by
  refine ⟨by simp;omega,rfl,fun t=>?_⟩
  simp only [qcb,Nat.zero_le,if_true,Nat.sub_zero]
  by_cases ht:t < args.length
  ·obtain ⟨x,hx,hr⟩:=qb4 hv ht
   have:(vs.toArray ++ Array.replicate (fn.ntmps - vs.toArray.size) undef).getD t undef = x:=by
    rw [Array.getD_eq_getD_getElem?,Array.getElem?_append_left (by simp;omega)]
    simp [hx]
   rw [this];exact hr
  ·have:args.getD t .junk = .junk:=by rw [List.getD_eq_getElem?_getD,List.getElem?_eq_none (by omega)];rfl
   rw [this];trivial
 have hlen:G.length = H.length:=hst.len
 refine callsDIn_of_wpSIn hf hb trivial fun c₀ cs hu=>?_
 generalize ({ tmps:=vs.toArray ++ Array.replicate (fn.ntmps - vs.toArray.size) undef,defers:=[] }:Act) = a0 at *
 refine wpSIn_seq (wpSIn_region ?_)
 have hsz:ops.size = r.length + 1:=by rw [← Array.length_toList,ho];rfl
 have ho0:ops[0]? = some o:=by
  have:ops.toList[0]? = some o:=by rw [ho];rfl
  simpa using this
 rw [List.range_eq_range',hsz,List.range'_succ]
 -- what recover does
 unfold cRec at hrec
 split at hrec
 ·rename_i cc hop
  split at hrec
  ·rename_i hcal
   split at hrec
   ·rename_i hcond
    obtain ⟨harg,hgd⟩:=hcond
    split at hrec
    ·rename_i d' hdst
     split at hrec
     ·rename_i hdn
      simp only [Option.some.injEq] at hrec
      subst hrec
      have hargs:∀ ρ:Operand->Value,cc.args.map ρ = #[]:=fun ρ=>by
       have:cc.args = #[]:=by simpa using harg
       rw [this];simp
      have hw:∀ a:Act,Region.wanted o (yielded ops a.tmps) = true:=fun a=>by simp [Region.wanted,hgd]
      have hrun:∀ a:Act,(execOp a.eval o).run P w = .ok .recover w:=fun a=>by
       simp only [execOp,hop,resolve,hcal,Sem.run_bind,hargs]
       rfl
      simp only [wpOpsSIn,ho0]
      refine ⟨fun _ _=>trivial,?_⟩
      rw [if_pos (hw _),hrun]
      simp only
      have hput:RelF w M G fn.ntmps (put ⟨qbr 0 args,[]⟩ (some d') pv) (a0.put o.dst (recM u).1):=by
       rw [hdst]
       exact hrel.put hpv (by simpa using hdn)
      have go:∀ cs',cs' = { c₀ with mode:=(recM u).2 } :: cs->wpOpsSIn Fence.wide 0 P ops (Exit.thenS (c.wpSIn Fence.wide 0 P (bodyPostS P fn c₀ cs fun e u' w'=>u' = (recM u).2∧∃ x M' G' H',e = .returned x∧Q H'∧Ext w M G w' M' G'∧St w' M' G' H')) (bodyPostS P fn c₀ cs fun e u' w'=>u' = (recM u).2∧∃ x M' G' H',e = .returned x∧Q H'∧Ext w M G w' M' G'∧St w' M' G' H')) (List.range' (0 + 1) r.length) (a0.put o.dst (recM u).1) cs' w:=by
       rintro cs' rfl
       refine qnx r l 1 _ H w M G _ (fun j=>?_) hcl hall hst hput h fun af' H' w' M' G' a' z1 z2 z3 z4=>?_
       ·have:ops.toList[j + 1]? = r[j]?:=by rw [ho];rfl
        rw [← this,Nat.add_comm 1 j];simp
       ·refine wpSIn_of_wpIn rfl ?_
        have hlen':G'.length = H'.length:=z3.len
        have hwp:=z1 c hcode w' M' G' a' z3 z4
        have hfw:fw none = Fence.wide:=rfl
        rw [hfw] at hwp
        refine wpIn_mono hwp fun e a'' w'' hp=>?_
        obtain ⟨ve,af'',M'',G'',H'',y1,y2,y3,y4,y5⟩:=hp
        have fin:af''.dl = []∧Q H''->a''.defers = []∧∃ u',{ c₀ with mode:=(recM u).2 } :: cs = { c₀ with mode:=u' } :: cs∧∃ v,(results fn a''.tmps).run P w'' = .ok v w''∧u' = (recM u).2∧∃ x M' G' H',Ending.returned v = .returned x∧Q H'∧Ext w M G w'' M' G'∧St w'' M' G' H':=fun ⟨hd,hq⟩=>by
         have hdf:=y5.defers
         rw [hd] at hdf
         have hdf:a''.defers = []:=hdf
         obtain ⟨us,x,s1,s2,s3⟩:=qee (n:=fn.ntmps) (af:=⟨af''.tm,[]⟩) (a:={ tmps:=a''.tmps,defers:=[] }) (K:=fun _=>True) y4 ⟨y5.size,rfl,y5.rd⟩ hres trivial
         exact ⟨hdf,(recM u).2,rfl,x,s3,rfl,x,M'',G'',H'',rfl,hq,(hlen ▸ (z2.toM.trans y3)).toExt,y4⟩
        cases ve with
        | nrm=>have y2:e = .normal:=y2;subst y2;exact fin y1
        | ret=>have y2:e = .ret:=y2;subst y2;exact fin y1
        | pan v=>exact y1.elim
        | ext i=>exact y1.elim
        | gto l=>exact y1.elim
      have hspec:=qor (c₀:=c₀) (cs:=cs)
      rw [hu] at hspec
      cases hrd:recoverD (c₀ :: cs) with
      | none =>
        rw [hrd] at hspec
        obtain ⟨h1,h2⟩:=hspec
        have:=go (c₀ :: cs) (by rw [h2,← hu])
        rw [h1] at this
        exact this
      | some p =>
        obtain ⟨x,cs'⟩:=p
        rw [hrd] at hspec
        obtain ⟨h1,h2⟩:=hspec
        have:=go cs' h2
        rw [← h1] at this
        exact this
     ·cases hrec
    ·cases hrec
   ·cases hrec
  ·cases hrec
 ·cases hrec

def retr (P:Program) (k:Nat) (rs:List (RV×Co)) (Q:List Ent->VO->Prop):VE->AF->List Ent->Prop
 | .nrm,af,H | .ret,af,H=>∃ g first caps,af.dl = [.dfr (.fn g first caps) []]∧qp6 P g .nili H (first ++ caps) fun H'=>retk k rs Q af H'
 | .pan v,af,H=>∃ g first caps,af.dl = [.dfr (.fn g first caps) []]∧qp6 P g v H (first ++ caps) fun H'=>retk k rs Q af H'
 | _,_,_=>False
theorem qx1 {f:FuncId} {ic:IC} {args:List AV} {rs:List (RV×Co)} {Q:List Ent->VO->Prop} (hc:cFun P f = some (n,ic,rs)) (k:Nat) (hk:H.length≤k) (hl:args.length≤n) (h:VI P none n H.length ic (retr P k rs Q) ⟨qbr 0 args,[]⟩ H):VCalls P f H args Q:=by
 obtain ⟨fn,c,hf,hb,hn,hcode,hres,hok⟩:=qed hc
 subst hn
 refine ⟨hok,fun w M G vs hst hv=>callsIn_of_wp_marks hf hb trivial ?_⟩
 have hvl:=qe hv
 have hrel:RelF w M G fn.ntmps ⟨qbr 0 args,[]⟩ { tmps:=vs.toArray ++ Array.replicate (fn.ntmps - vs.toArray.size) undef,defers:=[] }:=by
  refine ⟨by simp;omega,rfl,fun t=>?_⟩
  simp only [qcb,Nat.zero_le,if_true,Nat.sub_zero]
  by_cases ht:t < args.length
  ·obtain ⟨x,hx,hr⟩:=qb4 hv ht
   have:(vs.toArray ++ Array.replicate (fn.ntmps - vs.toArray.size) undef).getD t undef = x:=by
    rw [Array.getD_eq_getD_getElem?,Array.getElem?_append_left (by simp;omega)]
    simp [hx]
   rw [this];exact hr
  ·have:args.getD t .junk = .junk:=by rw [List.getD_eq_getElem?_getD,List.getElem?_eq_none (by omega)];rfl
   rw [this];trivial
 have hwp:=h c hcode w M G _ hst hrel
 have hfw:fw none = Fence.wide:=rfl
 rw [hfw] at hwp
 refine wpIn_mono hwp fun e a' w' hp=>?_
 obtain ⟨ve,af',M',G',H',h1,h2,h3,h4,h5⟩:=hp
 have hlen:G.length = H.length:=hst.len
 have leave:∀ (u:FrameMode) (pv:AV),u≠.run->settle (recM u).2 = .returning->VR w' M' G' pv (recM u).1->(∃ g first caps,af'.dl = [.dfr (.fn g first caps) []]∧qp6 P g pv H' (first ++ caps) fun H'=>retk k rs Q af' H')->LeavesInM Fence.wide 0 P fn a'.tmps (Out Q w M G) a'.defers u w':=by
  intro u pv hur hset hpv ⟨g,first,caps,hdl,hg,hdef⟩
  have hd:=h5.defers
  rw [hdl] at hd
  obtain ⟨t,fst,cps,xs,rr,hde,k1,k2,k3⟩:=hd
  obtain ⟨us,ys,q1,q2,q3⟩:=k1
  simp only [Value.func.injEq] at q3
  obtain ⟨rfl,rfl,rfl⟩:=q3
  have hxs:xs = []:=by simpa [VRs] using k2
  subst hxs
  have hrr:rr = []:=k3
  subst hrr
  rw [hde]
  have hinv:(invoke (Target.fn (.func g) ys.toArray) (us.toArray ++ ([]:List Value).toArray)).run P w' = .ok (.enter g ((us ++ ys).toArray)) w':=by
   simp only [invoke]
   rw [qgd hg]
   simp
  refine ⟨hur,.inr ⟨fun hh=>(by cases hh),.func g,ys.toArray,g,_,rfl,hinv,fun _ _=>trivial,?_⟩⟩
  refine (hdef w' M' G' _ u h4 (qbg q1 q2) hpv).mono fun e u' w₂ he'=>?_
  obtain ⟨rfl,x,M₂,G₂,H₂,rfl,y1,y2,y3⟩:=he'
  simp only
  rw [hset]
  show LeavesIn Fence.wide 0 P fn a'.tmps (Out Q w M G) [] .returning w₂
  obtain ⟨us',x',s1,s2,s3⟩:=qee (n:=fn.ntmps) (af:=⟨af'.tm,[]⟩) (a:={ tmps:=a'.tmps,defers:=[] }) y3 ⟨h5.size,rfl,fun t=>(h5.rd t).ext y2⟩ hres (by rw [qgr (l':=af'.dl)];exact y1)
  obtain ⟨G'',r1,r2,r3,r4⟩:=qep (m:=H.length) y3 s1 hk
  exact ⟨x',s3,M₂,G'',_,_,r3,(hlen ▸ ((h3.trans y2.toM).trans r1)).toExt,r2,r4 _ _ s1.2.2.1 s2⟩
 cases ve with
 | nrm=>have h2:e = .normal:=h2;subst h2;exact leave .returning .nili (by simp) rfl (by trivial) h1
 | ret=>have h2:e = .ret:=h2;subst h2;exact leave .returning .nili (by simp) rfl (by trivial) h1
 | pan v =>
   obtain ⟨x,rfl,hx⟩:=h2
   exact leave (.panicking [{ v:=x,recovered:=false }]) v (by simp) rfl hx h1
 | ext i=>exact h1.elim
 | gto l=>exact h1.elim
end
end Go.V
