/- A text of this proof. -/
import Derived.Test.YtkenggenkmfopaaGreatIah
import Derived.Lib.Join
set_option linter.unusedVariables false
set_option linter.unusedSimpArgs false

/-
 The value logic, part u: functions of which a qzk says that they add blocks alone.
-/
namespace Go.V
open Go Go.RowKit

theorem q2w:∀ls:List (List UInt8),(ls.map fun l=>Value.string ⟨l.toArray⟩).flatMap (·.cells.toList)=ls.map fun l=>Value.string ⟨l.toArray⟩
 | []=>rfl
 | l::ls=>by rw[List.map_cons,List.flatMap_cons,q2w ls];rfl
theorem qr0(k:Nat):∀ls:List (List UInt8),AV.bds k (ls.map AV.str)=true
 | []=>rfl
 | l::ls=>qr0 k ls
theorem qzx(σ:Nat->Nat)(ls:List (List UInt8)):AV.rens σ (ls.map AV.str)=ls.map AV.str:=qs (m:=0) (fun i hi=>by omega) _ (qr0 0 ls)
theorem qmn(ls:List (List UInt8)):(ls.map AV.str).length=ls.length:=by simp
theorem qux{ls:List (List UInt8)}{i:Nat}(h:i<ls.length):(ls.map AV.str).getD i .junk=.str (ls.getD i []):=by
 rw[List.getD_eq_getElem?_getD,List.getElem?_map,List.getElem?_eq_getElem h,List.getD_eq_getElem?_getD,List.getElem?_eq_getElem h];rfl
theorem qi7{ls:List (List UInt8)}{i:Nat}(h:i<ls.length):ls.drop i=ls.getD i []::ls.drop (i+1):=by
 rw[List.drop_eq_getElem_cons h,List.getD_eq_getElem?_getD,List.getElem?_eq_getElem h];rfl
attribute [go_sem] qr0 qzx qmn
/-! ### Results as they are -/
def rawR(l:List (RV×Co)):List (RV×Co):=l.map fun p=>(p.1,.id)
section
variable {P:Program} {w:World} {M:Nat->Nat->Prop} {G:List Gh} {n m:Nat} {af:AF} {H:List Ent} {a:Act}
theorem qm7(hst:St w M G H)(hr:RelF w M G n af a):∀{rs:List ResultVar} {ts:List TypeId} {l:List (RV×Co)} {K:List AV->Prop},cRes P rs ts=some l->(qe0 af H (rawR l)).bnd K →
 ∃vs xs,K vs∧VRs w M G vs xs∧(rs.mapM (m:=Sem) fun | .tmp t=>pure (a.tmps.getD t undef) | .cell q t=>do loadVar t (←asAddr (a.tmps.getD q undef))).run P w=.ok xs w
 | [], ts, l, K, hc, h => by
   simp only[cRes,Option.some.injEq] at hc;subst hc
   exact⟨[],[],h,rfl,rfl⟩
 | .tmp t :: r, ts, l, K, hc, h => by
   simp only[cRes] at hc
   split at hc
   ·rename_i l' hl
    simp only[Option.some.injEq] at hc;subst hc
    simp only[rawR,List.map_cons,qe0,qgq] at h
    rw[qbx] at h
    obtain⟨vs,xs,h1,h2,h3⟩:=qm7 hst hr hl h
    refine⟨_,_,h1,⟨_,_,rfl,hr.rd t,h2⟩,?_⟩
    simp only[List.mapM_cons,Sem.run_bind,Sem.run_pure,Result.andThen_ok,h3]
   ·cases hc
 | .cell q t :: r, ts, l, K, hc, h => by
   simp only[cRes] at hc
   split at hc
   ·rename_i g k l' hg hk hl
    simp only[Option.some.injEq] at hc;subst hc
    have hld:∃v:AV,(ldv g k H (get af.tm q)).bnd (fun u=>u=v)∧((qe0 af H (rawR l')).map fun l=>v::l).bnd K:=by
     simp only[rawR,List.map_cons,qe0,qgq] at h
     split at h
     ·rename_i v hv;exact⟨v,by rw[hv];rfl,h⟩
     ·rename_i p v hv;exact⟨v,by rw[hv];exact⟨h.1,rfl⟩,h.2⟩
     ·rename_i p p' v hv;exact⟨v,by rw[hv];exact⟨h.1,h.2.1,rfl⟩,h.2.2⟩
     ·exact h.elim
    obtain⟨v,hv,h⟩:=hld
    rw[qbx] at h
    obtain⟨vs,xs,h1,h2,h3⟩:=qm7 hst hr hl h
    obtain⟨u,x,q1,q2,q3⟩:=qoh (P:=P) (t:=t) hst hg hk (hr.rd q) hv
    subst q1
    have hsp:(do loadVar t (←asAddr (a.tmps.getD q undef)):Sem Value).run P w=.ok x w:=by
     have hrd:=hr.rd q
     cases hp:get af.tm q<;>rw[hp] at hv hrd<;>simp only[ldv,Rs.bnd] at hv
     ·obtain⟨g',_,hx⟩:=hrd
      rw[hx] at q3 ⊢
      rw[qbo] at q3
      simp only[Sem.run_bind,asAddr,Sem.run_pure,Result.andThen_ok];exact q3
     ·obtain⟨ad,cap,us,_,hsl,_,hx⟩:=hrd
      rw[hx] at q3 ⊢
      rw[qbo] at q3
      simp only[Sem.run_bind,asAddr,Sem.run_pure,Result.andThen_ok];exact q3
     ·obtain⟨g',_,hx⟩:=hrd
      rw[hx] at q3 ⊢
      rw[qbo] at q3
      simp only[Sem.run_bind,asAddr,Sem.run_pure,Result.andThen_ok];exact q3
    refine⟨_,_,h1,⟨_,_,rfl,q2,h2⟩,?_⟩
    simp only[Sem.run_bind] at hsp
    simp only[List.mapM_cons,Sem.run_bind,hsp,Result.andThen_ok,h3,Sem.run_pure]
   ·cases hc

theorem qm0{fn:Func}{l:List (RV×Co)}{K:List AV->Prop}(hst:St w M G H)(hr:RelF w M G n af a)(hc:cRes P fn.results.toList fn.resultTypes.toList=some l)(h:(qe0 af H (rawR l)).bnd K):
 ∃vs x,K vs∧VR w M G (one vs) x∧(results fn a.tmps).run P w=.ok x w:=by
 obtain⟨vs,xs,h1,h2,h3⟩:=qm7 hst hr hc h
 have hm:(fn.results.mapM (m:=Sem) fun | .tmp t=>pure (a.tmps.getD t undef) | .cell q t=>do loadVar t (←asAddr (a.tmps.getD q undef))).run P w=.ok xs.toArray w:=by
  rw[←Array.toArray_toList (xs:=fn.results)]
  rw[List.mapM_toArray]
  simp only[Sem.run_map,h3]
  rfl
 have hl:=ql h2
 refine⟨vs,(if h:xs.toArray.size=1 then xs.toArray[0] else .tuple xs.toArray),h1,?_,?_⟩
 ·match vs,h2 with
  | [],h2=>simp only[VRs] at h2;subst h2;exact⟨[],by simp,rfl⟩
  | [v], h2 =>
    obtain⟨x,r,rfl,h4,h5⟩:=h2
    simp only[VRs] at h5;subst h5
    exact h4
  | v :: v' :: r, h2 =>
    have:xs.toArray.size≠1:=by simp at hl ⊢;omega
    rw[dif_neg this]
    exact⟨xs,rfl,h2⟩
 ·simp only[results,Sem.run_bind]
  erw [hm]
  simp only[Result.andThen_ok,Sem.run_pure]
end
section
variable {P:Program} {f:FuncId} {n k:Nat} {ic:IC} {rs:List (RV×Co)} {H:List Ent} {args:List AV} {Q:List Ent->VO->Prop}
theorem qf4(hc:cFun P f=some (n,ic,rs))(k:Nat)(hk:H.length≤k)(hl:args.length≤n)(h:VI P none n H.length ic (retq k (rawR rs) Q) ⟨qc7 0 args,[]⟩ H):VCalls P f H args Q:=by
 obtain⟨fn,c,hf,hb,hn,hcode,hres,hok⟩:=qjp hc
 subst hn
 refine⟨hok,fun w M G vs hst hv=>callsIn_of_wp_marks hf hb trivial ?_⟩
 have hvl:=ql hv
 have hrel:RelF w M G fn.ntmps ⟨qc7 0 args,[]⟩ { tmps:=vs.toArray++Array.replicate (fn.ntmps-vs.toArray.size) undef,defers:=[] }:=by
  refine⟨by simp;omega,rfl,fun t=>?_⟩
  simp only[qdz,Nat.zero_le,if_true,Nat.sub_zero]
  by_cases ht:t<args.length
  ·obtain⟨x,hx,hr⟩:=qc1 hv ht
   have:(vs.toArray++Array.replicate (fn.ntmps-vs.toArray.size) undef).getD t undef=x:=by
    rw[Array.getD_eq_getD_getElem?,Array.getElem?_append_left (by simp;omega)]
    simp[hx]
   rw[this];exact hr
  ·have:args.getD t .junk=.junk:=by rw[List.getD_eq_getElem?_getD,List.getElem?_eq_none (by omega)];rfl
   rw[this];trivial
 have hwp:=h c hcode w M G _ hst hrel
 have hfw:fw none=Fence.wide:=rfl
 rw[hfw] at hwp
 refine wpIn_mono hwp fun e a' w' hp=>?_
 obtain⟨ve,af',M',G',H',h1,h2,h3,h4,h5⟩:=hp
 have hlen:G.length=H.length:=hst.len
 -- the marks
 have leave:∀(l:List AD) (ds:List Deferred) (H₁:List Ent) (G₁:List Gh) (w₁:World) (mode:FrameMode) (K:List Ent->Prop),mode≠.run->DR w₁ M' G₁ l ds->ExtM H.length w M G w₁ M' G₁->St w₁ M' G₁ H₁->(∀t,VR w₁ M' G₁ (get af'.tm t) (a'.tmps.getD t undef))->dlq l H₁ K →
  (∀(H₂:List Ent) (G₂:List Gh) (w₂:World),K H₂->ExtM H.length w M G w₂ M' G₂->Ext w₁ M' G₁ w₂ M' G₂->St w₂ M' G₂ H₂->(∀t,VR w₂ M' G₂ (get af'.tm t) (a'.tmps.getD t undef))->LeavesIn Fence.wide 0 P fn a'.tmps (Out Q w M G) [] mode w₂) →
  LeavesInM Fence.wide 0 P fn a'.tmps (Out Q w M G) ds mode w₁:=by
  intro l
  induction l with
  | nil =>
    intro ds H₁ G₁ w₁ mode K hmo hd he hs hv hq hK
    simp only[DR] at hd;subst hd
    exact hK H₁ G₁ w₁ hq he (Ext.refl _ _ _) hs hv
  | cons d l ih =>
    intro ds H₁ G₁ w₁ mode K hmo hd he hs hv hq hK
    cases d with
    | dfr f args=>exact hq.elim
    | mark i =>
      obtain⟨g,r,rfl,hg,hd⟩:=hd
      simp only[dlq] at hq
      split at hq
      ·rename_i d as hen
       obtain⟨G₂,q1,q2,q3⟩:=qye hs hg (qio hen)
       refine⟨hmo,.inl ⟨g.cap,_,rfl,run_takeDeferred q1,?_⟩⟩
       exact ih r _ G₂ _ mode K hmo (qg0 q3.core q3.le hd) (he.trans q3.toM) q2 (fun t=>(hv t).ext q3) hq fun H₂ G₃ w₂ r1 r2 r3 r4 r5=>hK H₂ G₃ w₂ r1 r2 (q3.trans r3) r4 r5
      ·exact hq.elim
 have done:∀(hq:dlq af'.dl H' (retk k (rawR rs) Q af')),LeavesInM Fence.wide 0 P fn a'.tmps (Out Q w M G) a'.defers .returning w':=fun hq=>by
  refine leave af'.dl a'.defers H' G' w' .returning _ (by simp) h5.defers h3 h4 h5.rd hq fun H₂ G₂ w₂ q1 q2 q3 q4 q5=>?_
  obtain⟨us,x,s1,s2,s3⟩:=qm0 (n:=fn.ntmps) (af:=⟨af'.tm,[]⟩) (a:={ tmps:=a'.tmps,defers:=[] }) q4 ⟨h5.size,rfl,q5⟩ hres (by rw[qjy (l':=af'.dl)];exact q1)
  obtain⟨G'',r1,r2,r3,r4⟩:=qhe (m:=H.length) q4 s1 hk
  exact⟨x,s3,M',G'',_,_,r3,(hlen ▸ (q2.trans r1)).toExt,r2,r4 _ _ s1.2.2.1 s2⟩
 cases ve with
 | nrm=>have h2:e=.normal:=h2;subst h2;exact done h1
 | ret=>have h2:e=.ret:=h2;subst h2;exact done h1
 | pan v =>
   obtain⟨x,rfl,hx⟩:=h2
   refine leave af'.dl a'.defers H' G' w' _ _ (by simp) h5.defers h3 h4 h5.rd h1 fun H₂ G₂ w₂ q1 q2 q3 q4 q5=>?_
   obtain⟨G'',r1,r2,r3,r4⟩:=qhe (m:=H.length) q4 q1 hk
   exact⟨M',G'',_,_,x,r3,(hlen ▸ (q2.trans r1)).toExt,r2,r4 _ _ q1.2.2.1 (hx.ext q3),rfl⟩
 | ext i=>exact h1.elim
 | gto l=>exact h1.elim

end
attribute [go_sem] rawR
theorem qow{P:Program}{f:FuncId}{args:List AV}{r r':AV}(h:qp P f args r)(e:r=r'):qp P f args r':=e ▸ h
end Go.V
