/- A text of this proof. -/
import Derived.Test.YtkenggenkmfopaaGreatFam
import Derived.MapKept
set_option linter.unusedVariables false
set_option linter.unusedSimpArgs false

/-
 The value logic: maps whose keys are integers.
-/
namespace Go.V
open Go Go.RowKit

def qgb:List (Int×AV)->Int->Option (Nat×AV)
 | [],_=>none
 | (a,v)::r,k=>if a=k then some (0,v) else(qgb r k).map fun p=>(p.1+1,p.2)
def updM(l:List (Int×AV))(k:Int)(v:AV):List (Int×AV):=match qgb l k with
 | some (j,_)=>l.set j (k,v)
 | none=>l++[(k,v)]
def delM(l:List (Int×AV))(k:Int):List (Int×AV):=match qgb l k with
 | some (j,_)=>l.eraseIdx j
 | none=>l
def qh0(w:World)(M:Nat->Nat->Prop):List (Int×AV)->List MapEntry->Prop
 | [],[]=>True
 | (k,v)::l,e::es=>(e.key=.int .i64 k∧VR w M [] v e.val)∧qh0 w M l es
 | _,_=>False
def mapR(l:List (Int×AV)):World->(Nat->Nat->Prop)->Gh->Prop:=fun w M g =>
 g.val=.map (some g.blk)∧(∀b,g.fp b↔b=g.blk)∧(∀o,¬M g.blk o)∧∃(es:Array MapEntry) (clock:Nat),w.heap[g.blk]?=some (.map es clock)∧qh0 w M l es.toList
abbrev mapE(l:List (Int×AV)):Ent:=.cus (mapR l)
section
variable {w w':World} {M M':Nat->Nat->Prop}
theorem qka(hM:∀b o,M b o->M' b o∧w'.cell? ⟨b,o,none⟩=w.cell? ⟨b,o,none⟩):∀{l:List (Int×AV)} {es:List MapEntry},qh0 w M l es->qh0 w' M' l es
 | [],[],_=>trivial
 | (k,v)::l,e::es,⟨⟨h1,h2⟩,h3⟩=>⟨⟨h1,qoe (G:=[]) (G':=[]) (fun i g h=>by simp at h) hM h2⟩,qka hM h3⟩
 | [],e::es,h=>h.elim
 | (k,v)::l,[],h=>h.elim
theorem qt8{l:List (Int×AV)}{g:Gh}(hfp:∀b,g.fp b↔b=g.blk):Stab (mapR l) g:=by
 rintro w M w' M' ha ⟨h1,h2,h3,es,clock,h4,h5⟩
 refine⟨h1,h2,fun o hm=>h3 o (ha.fresh _ o ((hfp _).2 rfl) hm),es,clock,?_,qka ha.le h5⟩
 rw[ha.same _ ((hfp _).2 rfl)];exact h4
theorem q30:∀{l:List (Int×AV)} {es:List MapEntry},qh0 w M l es->l.length=es.length
 | [],[],_=>rfl
 | (k,v)::l,e::es,⟨_,h⟩=>by rw[List.length_cons,List.length_cons,q30 h]
 | [],e::es,h=>h.elim
 | (k,v)::l,[],h=>h.elim
theorem qhl{k:Int}:∀(l:List (Int×AV)) (es:List MapEntry) (i:Nat),qh0 w M l es->(match qgb l k with
 | none=>Instr.findNow (.int .i64) (.int .i64 k) es i=some none
 | some (j,v)=>∃e,Instr.findNow (.int .i64) (.int .i64 k) es i=some (some (i+j,e.val))∧es[j]?=some e∧e.key=.int .i64 k∧VR w M [] v e.val)
 | [],[],i,_=>rfl
 | (a, v) :: l, e :: es, i, ⟨⟨h1, h2⟩, h3⟩ => by
   rw[qgb]
   by_cases ha:a=k
   ·rw[if_pos ha]
    subst ha
    exact⟨e,by simp[Instr.findNow,Instr.sameNow,h1],rfl,h1,h2⟩
   ·rw[if_neg ha]
    have hne:(k == a)=false:=by simpa using fun h=>ha h.symm
    have ih:=qhl (k:=k) l es (i+1) h3
    have hstep:Instr.findNow (.int .i64) (.int .i64 k) (e::es) i=Instr.findNow (.int .i64) (.int .i64 k) es (i+1):=by
     simp[Instr.findNow,Instr.sameNow,h1,hne]
    cases hl:qgb l k with
    | none=>rw[hl] at ih;rw[Option.map_none,hstep];exact ih
    | some p =>
      obtain⟨j,u⟩:=p
      rw[hl] at ih
      obtain⟨e',q1,q2,q3,q4⟩:=ih
      rw[Option.map_some,hstep]
      exact⟨e',by rw[q1];congr 3;omega,by simpa using q2,q3,q4⟩
 | [],e::es,i,h=>h.elim
 | (k,v)::l,[],i,h=>h.elim
theorem qsg{k:Int}{v:AV}{e':MapEntry}(hk:e'.key=.int .i64 k)(hv:VR w M [] v e'.val):∀{l:List (Int×AV)} {es:List MapEntry} (j:Nat),qh0 w M l es->qh0 w M (l.set j (k,v)) (es.set j e')
 | [],[],j,_=>trivial
 | (a,u)::l,e::es,0,⟨_,h⟩=>⟨⟨hk,hv⟩,h⟩
 | (a,u)::l,e::es,j+1,⟨h0,h⟩=>⟨h0,qsg hk hv j h⟩
 | [],e::es,j,h=>h.elim
 | (k,v)::l,[],j,h=>h.elim
theorem qr4{k:Int}{v:AV}{e':MapEntry}(hk:e'.key=.int .i64 k)(hv:VR w M [] v e'.val):∀{l:List (Int×AV)} {es:List MapEntry},qh0 w M l es->qh0 w M (l++[(k,v)]) (es++[e'])
 | [],[],_=>⟨⟨hk,hv⟩,trivial⟩
 | (a,u)::l,e::es,⟨h0,h⟩=>⟨h0,qr4 hk hv h⟩
 | [],e::es,h=>h.elim
 | (k,v)::l,[],h=>h.elim
theorem ql6:∀{l:List (Int×AV)} {es:List MapEntry} (j:Nat),qh0 w M l es->qh0 w M (l.eraseIdx j) (es.eraseIdx j)
 | [],[],j,_=>trivial
 | (a,u)::l,e::es,0,⟨_,h⟩=>h
 | (a,u)::l,e::es,j+1,⟨h0,h⟩=>⟨h0,ql6 j h⟩
 | [],e::es,j,h=>h.elim
 | (k,v)::l,[],j,h=>h.elim
end
section
variable {P:Program} {H:List Ent} {Q:List Ent->VO->Prop} {t kt et:TypeId} {l:List (Int×AV)} {i:Nat} {k:Int} {v:AV}
theorem qcim{w:World}{M:Nat->Nat->Prop}{G:List Gh}{v:AV}{x:Value}(h:VR w M [] v x):VR w M G v x :=
 qoe (G:=[]) (fun i g h=>by simp at h) (fun b o h=>⟨h,rfl⟩) h
theorem qci0{w:World}{M:Nat->Nat->Prop}{G:List Gh}{v:AV}{x:Value}(hb:v.bd 0=true)(h:VR w M G v x):VR w M [] v x:=by
 have:=qog (σ:=id) (m:=0) (G':=[]) (fun i g hi hg=>by omega) (fun b o h=>⟨h,rfl⟩) v x hb h
 rwa [ren_same (σ:=id) (m:=0) (fun _ _=>rfl) v hb] at this
theorem qcc6(hq:Q (H++[mapE []]) (.val (.opq H.length))):VApp P H (mkV (.make t)) [] Q:=by
 intro w M G x vs hst _ hv
 have hv:vs=[]:=hv
 subst hv
 let g:Gh:={ blk:=w.heap.size,val:=.map (some w.heap.size),fp:=fun b=>b=w.heap.size }
 have hlen:G.length=H.length:=hst.len
 have hold:∀b,b<w.heap.size->(w.alloc (.map #[] 0)).heap[b]?=w.heap[b]?:=fun b hb=>Below.heap_alloc _ _ _ hb
 have hnew:(w.alloc (.map #[] 0)).heap[w.heap.size]?=some (.map #[] 0):=by
  show(w.heap.push (.map #[] 0))[w.heap.size]?=_
  simp
 refine⟨.map (some w.heap.size),w.alloc (.map #[] 0),rfl,M,G++[g],_,.opq H.length,hq,?_,?_,?_⟩
 ·exact qfz hst rfl rfl rfl (by simp) hold (fun _ _ h=>h) (fun _ _ h=>.inl h) (fun b hb=>by
   have hb:b=w.heap.size:=hb
   omega)
 ·refine qg8 hst (by simp) hold (fun _ _ h=>h) (fun _ _ h=>.inl h) (fun b o h=>by have:=hst.Mlt b o h;simp;omega) (fun b hb=>by
   have hb:b=w.heap.size:=hb
   subst hb;simp) ?_
  refine⟨⟨rfl,fun b=>Iff.rfl,fun o hm=>by have:=hst.Mlt _ o hm;simp[g] at this,#[],0,hnew,trivial⟩,qt8 fun b=>Iff.rfl⟩
 ·refine⟨g,?_,rfl,rfl⟩
  rw[←hlen,getElem?_snoc];simp
theorem qql{w:World}{M:Nat->Nat->Prop}{G:List Gh}(hst:St w M G H)(he:ent H i=mapE l){x:Value}(hx:VR w M G (.opq i) x):
 ∃(g:Gh) (es:Array MapEntry) (clock:Nat),G[i]?=some g∧x=.map (some g.blk)∧(∀b,g.fp b↔b=g.blk)∧(∀o,¬M g.blk o)∧w.heap[g.blk]?=some (.map es clock)∧qh0 w M l es.toList:=by
 obtain⟨g,hg,rfl,_⟩:=hx
 obtain⟨⟨h1,h2,h3,es,clock,h4,h5⟩,_⟩:=hst.ok i g _ hg (qbj he (by simp))
 exact⟨g,es,clock,hg,h1,h2,h3,h4,h5⟩
theorem q8u(ht:P.underlying t=some (.map kt et))(hk:P.underlying kt=some (.int .i64)){z:AV}(hz:qf7 P et=some z)(ok:Bool)(he:ent H i=mapE l)
 (hq:Q H (.val (if ok=true then .tup [((qgb l k).map (·.2)).getD z,.bool (qgb l k).isSome] else((qgb l k).map (·.2)).getD z))):VApp P H (mkV (.look t ok)) [.opq i,.int .i64 k] Q:=by
 intro w M G x vs hst _ hv
 obtain⟨x0,r,rfl,h0,x1,r1,rfl,h1,h2⟩:=hv
 have h2:r1=[]:=h2
 subst h2
 obtain⟨g,es,clock,hg,rfl,hfp,hM,hb,hes⟩:=qql hst he h0
 obtain⟨rfl,hkw⟩:=h1
 obtain⟨zv,z1,z2,z3⟩:=qdy (P:=P) (w:=w) (M:=M) (G:=G) hz
 have hf:=qhl (k:=k) l es.toList 0 hes
 have hkey:MapKept.IsKey (.int .i64) (.int .i64 k):=rfl
 have key:∃u,(Instr.lookup t (.map (some g.blk)) (.int .i64 k) ok).run P w=.ok (if ok=true then .tuple #[u,.bool (qgb l k).isSome] else u) w∧VR w M G (((qgb l k).map (·.2)).getD z) u:=by
  cases hl:qgb l k with
  | none =>
    rw[hl] at hf
    refine⟨zv,?_,z2⟩
    simp[Instr.lookup,run_underlying ht,MapKept.run_getObj_map hb,MapKept.run_checkKey hk hkey,MapKept.run_findKey hk hf,z1,Result.andThen]
  | some p =>
    obtain⟨j,v⟩:=p
    rw[hl] at hf
    obtain⟨e,f1,f2,f3,f4⟩:=hf
    refine⟨e.val,?_,qcim f4⟩
    simp[Instr.lookup,run_underlying ht,MapKept.run_getObj_map hb,MapKept.run_checkKey hk hkey,MapKept.run_findKey hk f1,Result.andThen]
 obtain⟨u,k1,k2⟩:=key
 have hin:AppG P (mkV (.look t ok)) x [Value.map (some g.blk),.int .i64 k].toArray w (Out Q w M G):=by
  unfold AppG
  rw[qiz]
  refine⟨_,w,k1,M,G,H,_,hq,Ext.refl _ _ _,hst,?_⟩
  cases ok with
  | true=>exact⟨[u,.bool (qgb l k).isSome],rfl,u,_,rfl,k2,_,_,rfl,rfl,rfl⟩
  | false=>exact k2
 exact hin
theorem que{w:World}{M:Nat->Nat->Prop}{G:List Gh}(hst:St w M G H){g:Gh}{es:Array MapEntry}{clock:Nat}{o:Obj}(hg:G[i]?=some g)(hfp:∀b,g.fp b↔b=g.blk)(hM:∀o,¬M g.blk o)(hb:w.heap[g.blk]?=some (.map es clock))(hval:g.val=.map (some g.blk))
 {es':Array MapEntry} {clock':Nat} {l':List (Int×AV)} (ho:o=.map es' clock') (hes:qh0 w M l' es'.toList):Ext w M G { w with heap:=w.heap.setIfInBounds g.blk o } M G∧St { w with heap:=w.heap.setIfInBounds g.blk o } M G (H.set i (mapE l')):=by
 obtain⟨s1,s2⟩:=MapKept.heap_set (o':=o) hb
 have hsz:w.heap.size≤({ w with heap:=w.heap.setIfInBounds g.blk o }:World).heap.size:=by simp
 have hold:∀b,b<w.heap.size->¬g.fp b->({ w with heap:=w.heap.setIfInBounds g.blk o }:World).heap[b]?=w.heap[b]?:=fun b _ hn=>s2 b fun hh=>hn ((hfp b).2 hh)
 have hle:Le w M { w with heap:=w.heap.setIfInBounds g.blk o } M:=fun b o' hm=>⟨hm,World.cell?_of_block (w:=w) (s2 b fun hh=>hM o' (hh ▸ hm))⟩
 have hG:G.set i g=G:=by
  apply List.ext_getElem?
  intro j
  by_cases hij:i=j
  ·subst hij
   rw[List.getElem?_set_self (List.getElem?_eq_some_iff.1 hg).1,hg]
  ·rw[List.getElem?_set_ne hij]
 have e1:=ql3 (w':={ w with heap:=w.heap.setIfInBounds g.blk o }) (M':=M) (g':=g) hst hg rfl (fun _ h=>h) rfl rfl rfl hsz hold hle (fun _ _ h=>.inl h)
 have e2:=qg1 (w':={ w with heap:=w.heap.setIfInBounds g.blk o }) (M':=M) (g':=g) (e:=mapE l') hst hg rfl (fun _ h=>h) hsz hold hle (fun _ _ h=>.inl h) ⟨⟨hval,hfp,hM,es',clock',by rw[←ho];exact s1,qka hle hes⟩,qt8 hfp⟩
 rw[hG] at e1 e2
 exact⟨e1,e2⟩
theorem q7l{w:World}{M:Nat->Nat->Prop}{G:List Gh}(hst:St w M G H)(he:ent H i=mapE l){g:Gh}(hg:G[i]?=some g):g.val=.map (some g.blk):=by
 obtain⟨⟨h1,_⟩,_⟩:=hst.ok i g _ hg (qbj he (by simp))
 exact h1
theorem qbkx(ht:P.underlying t=some (.map kt et))(hk:P.underlying kt=some (.int .i64))(hvb:v.bd 0=true)(he:ent H i=mapE l)
 (hq:Q (H.set i (mapE (updM l k v))) (.val (.tup []))):VApp P H (mkV (.upd t)) [.opq i,.int .i64 k,v] Q:=by
 intro w M G x vs hst _ hv
 obtain⟨x0,r,rfl,h0,x1,r1,rfl,h1,x2,r2,rfl,h2,h3⟩:=hv
 have h3:r2=[]:=h3
 subst h3
 obtain⟨g,es,clock,hg,rfl,hfp,hM,hb,hes⟩:=qql hst he h0
 have hval:=q7l hst he hg
 obtain⟨rfl,hkw⟩:=h1
 have h2:=qci0 hvb h2
 have hf:=qhl (k:=k) l es.toList 0 hes
 have hkey:MapKept.IsKey (.int .i64) (.int .i64 k):=rfl
 have key:∃(es':Array MapEntry) (clock':Nat),(Instr.mapUpdate t (.map (some g.blk)) (.int .i64 k) x2).run P w=.ok () { w with heap:=w.heap.setIfInBounds g.blk (.map es' clock') }∧qh0 w M (updM l k v) es'.toList:=by
  unfold updM
  cases hl:qgb l k with
  | none =>
    rw[hl] at hf
    refine⟨es.push { key:=.int .i64 k,val:=x2,born:=clock },clock+1,?_,?_⟩
    ·simp[Instr.mapUpdate,run_underlying ht,MapKept.run_getObj_map hb,MapKept.run_checkKey hk hkey,MapKept.run_findKey hk hf,MapKept.run_setObj_map _ hb,Result.andThen]
    ·rw[Array.toList_push]
     exact qr4 rfl h2 hes
  | some p =>
    obtain⟨j,u⟩:=p
    rw[hl] at hf
    obtain⟨e,f1,f2,f3,f4⟩:=hf
    rw[Nat.zero_add] at f1
    have hj:es[j]?=some e:=by simpa using f2
    refine⟨es.modify j fun e=>{ e with key:=.int .i64 k,val:=x2 },clock,?_,?_⟩
    ·simp[Instr.mapUpdate,run_underlying ht,MapKept.run_getObj_map hb,MapKept.run_checkKey hk hkey,MapKept.run_findKey hk f1,hj,f3,MapKept.run_keyThatStays hkey,MapKept.run_setObj_map _ hb,Result.andThen]
    ·have hm:(es.modify j fun e=>{ e with key:=.int .i64 k,val:=x2 }).toList=es.toList.set j { e with key:=.int .i64 k,val:=x2 }:=by
      apply List.ext_getElem?
      intro q
      rw[Array.getElem?_toList,Array.getElem?_modify,List.getElem?_set,Array.getElem?_toList]
      by_cases hq:j=q
      ·subst hq
       have hjl:j<es.toList.length:=(List.getElem?_eq_some_iff.1 f2).1
       rw[if_pos rfl,hj,if_pos rfl,if_pos hjl];rfl
      ·rw[if_neg hq,if_neg hq]
     rw[hm]
     exact qsg rfl h2 j hes
 obtain⟨es',clock',k1,k2⟩:=key
 obtain⟨e1,e2⟩:=que (o:=.map es' clock') hst hg hfp hM hb hval rfl k2
 refine⟨undef,_,?_,M,G,_,_,hq,e1,e2,qlm⟩
 show(do Instr.mapUpdate t (.map (some g.blk)) (.int .i64 k) x2;pure undef:Sem Value).run P w=_
 rw[Sem.run_bind,k1]
 rfl
theorem qcj4(ht:P.underlying t=some (.map kt et))(hk:P.underlying kt=some (.int .i64))(he:ent H i=mapE l)
 (hq:Q (H.set i (mapE (delM l k))) (.val (.tup []))):VApp P H (mkV (.del t)) [.opq i,.int .i64 k] Q:=by
 intro w M G x vs hst _ hv
 obtain⟨x0,r,rfl,h0,x1,r1,rfl,h1,h2⟩:=hv
 have h2:r1=[]:=h2
 subst h2
 obtain⟨g,es,clock,hg,rfl,hfp,hM,hb,hes⟩:=qql hst he h0
 have hval:=q7l hst he hg
 obtain⟨rfl,hkw⟩:=h1
 have hf:=qhl (k:=k) l es.toList 0 hes
 have hkey:MapKept.IsKey (.int .i64) (.int .i64 k):=rfl
 have key:∃(es':Array MapEntry),(Builtin.delete_ #[t] t #[.map (some g.blk),.int .i64 k]).run P w=.ok (.tuple #[]) { w with heap:=w.heap.setIfInBounds g.blk (.map es' clock) }∧qh0 w M (delM l k) es'.toList:=by
  unfold delM
  cases hl:qgb l k with
  | none =>
    rw[hl] at hf
    refine⟨es,?_,hes⟩
    simp[Builtin.delete_,run_underlying ht,MapKept.run_getObj_map hb,MapKept.run_checkKey hk hkey,MapKept.run_findKey hk hf,MapKept.run_setObj_map _ hb,Result.andThen]
  | some p =>
    obtain⟨j,u⟩:=p
    rw[hl] at hf
    obtain⟨e,f1,f2,f3,f4⟩:=hf
    rw[Nat.zero_add] at f1
    refine⟨es.eraseIdxIfInBounds j,?_,?_⟩
    ·simp[Builtin.delete_,run_underlying ht,MapKept.run_getObj_map hb,MapKept.run_checkKey hk hkey,MapKept.run_findKey hk f1,MapKept.run_setObj_map _ hb,Result.andThen]
    ·have hjl:j<es.size:=by have:=(List.getElem?_eq_some_iff.1 f2).1;simpa using this
     have hm:(es.eraseIdxIfInBounds j).toList=es.toList.eraseIdx j:=by
      unfold Array.eraseIdxIfInBounds
      rw[dif_pos hjl,Array.toList_eraseIdx]
     rw[hm]
     exact ql6 j hes
 obtain⟨es',k1,k2⟩:=key
 obtain⟨e1,e2⟩:=que (o:=.map es' clock) hst hg hfp hM hb hval rfl k2
 exact⟨.tuple #[],_,k1,M,G,_,_,hq,e1,e2,qlm⟩
end
end Go.V
