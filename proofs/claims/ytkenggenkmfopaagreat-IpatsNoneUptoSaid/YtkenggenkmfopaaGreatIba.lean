/- Texts of this proof, joined. -/
import Derived.Test.YtkenggenkmfopaaGreatIaz
import Derived.Test.YtkenggenkmfopaaGreatIat
set_option linter.unusedVariables false
set_option linter.unusedSimpArgs false

/- slices.Insert of a pair, in the logic of values -/
set_option maxRecDepth 100000
namespace Go.Proofs
open Go Go.RowKit Go.V Go.Lib Go.Shelf

theorem qqe:∀(us:List Value) (i:Nat),(∀u∈us,u.cells.size=4)->(us.flatMap (·.cells.toList)).take (i*4)=(us.take i).flatMap (·.cells.toList)
 | [],i,_=>by simp
 | u::us,0,_=>by simp
 | u :: us, i + 1, h => by
   have hu:u.cells.toList.length=4:=by rw[Array.length_toList];exact h u (by simp)
   rw[List.flatMap_cons,List.take_succ_cons,List.flatMap_cons,←qqe us i fun x hx=>h x (by simp[hx]),show(i+1)*4=u.cells.toList.length+i*4 by rw[hu];omega,List.take_append,List.take_of_length_le (Nat.le_add_right _ _),Nat.add_sub_cancel_left]
theorem qpf:∀(us:List Value) (i:Nat),(∀u∈us,u.cells.size=4)->(us.flatMap (·.cells.toList)).drop (i*4)=(us.drop i).flatMap (·.cells.toList)
 | [],i,_=>by simp
 | u::us,0,_=>by simp
 | u :: us, i + 1, h => by
   have hu:u.cells.toList.length=4:=by rw[Array.length_toList];exact h u (by simp)
   rw[List.flatMap_cons,List.drop_succ_cons,←qpf us i fun x hx=>h x (by simp[hx]),show(i+1)*4=u.cells.toList.length+i*4 by rw[hu];omega,List.drop_append]
   simp
theorem qbf3{w w':World}{M:Nat->Nat->Prop}{g:Gh}{es es':List AV}{us':List Value}{B C:Nat}{cells:List Value}{t:TypeId}(hst:St w M [g] [.mrow 4 es])
 (hos:w'.os=w.os) (htape:w'.tape=w.tape) (hout:w'.output=w.output) (hsz:w.heap.size≤w'.heap.size) (hold:∀k,k<w.heap.size->k≠g.blk->w'.heap[k]?=w.heap[k]?)
 (hB:(B=g.blk)∨(w.heap.size≤B)) (hBl:B<w'.heap.size) (hh:w'.heap[B]?=some (.cells cells.toArray t (0,0))) (hcl:cells.length=C*4) (hn:es'.length≤C) (hC:C≤maxLen)
 (hv:VRs w M [g] es' us') (hu:∀u∈us',u.cells.size=4) (ht:cells.take (es'.length*4)=us'.flatMap (·.cells.toList)) (hb:AV.bds 0 es'=true) :
 Out (fun H' o=>H'=[.dead,.mrow 4 es']∧o=.val (.row 1 es'.length)) w M [g] (.returned (.slice (some ⟨B,0,none⟩) es'.length C)) w':=by
 obtain⟨h1,h2,h9⟩:=hst.ok 0 g _ rfl rfl
 have hgl:=hst.lt 0 g g.blk rfl ((h1 _).2 rfl)
 have hMb:∀b o,M b o->b≠g.blk:=fun b o hm hb=>h9 o (hb ▸ hm)
 have hle:Le w M w' M:=fun b o hm=>⟨hm,World.cell?_of_block (w:=w) (hold b (hst.Mlt b o hm) (hMb b o hm))⟩
 have hown:∀b,own [g] b↔b=g.blk:=fun b=>⟨fun ⟨j,gj,hj,hb⟩=>by
  cases j with
  | zero=>simp at hj;subst hj;exact(h1 b).1 hb
  | succ j=>simp at hj,fun h=>⟨0,g,rfl,(h1 b).2 h⟩⟩
 let g0:Gh:={ g with fp:=fun _=>False }
 let g1:Gh:={ blk:=B,cap:=C,fp:=fun b=>b=B }
 have hget:∀(j:Nat) (gj:Gh),[g0,g1][j]?=some gj->(j=0∧gj=g0)∨(j=1∧gj=g1):=fun j gj hj=>by
  cases j with
  | zero=>simp at hj;exact .inl ⟨rfl,hj.symm⟩
  | succ j => cases j with
    | zero=>simp at hj;exact .inr ⟨rfl,hj.symm⟩
    | succ j=>simp at hj
 have hv':VRs w' M [g0,g1] es' us':=by
  have:=qc6 (σ:=id) (m:=0) (w':=w') (M':=M) (G':=[g0,g1]) (fun i g hi hg=>by omega) hle es' us' hb hv
  rwa [qs (σ:=id) (m:=0) (fun _ _=>rfl) es' hb] at this
 refine⟨M,[g0,g1],_,_,⟨rfl,rfl⟩,⟨hos,htape,hout,hsz,fun i gi hi=>?_,hle,fun b hb hn=>hold b hb fun h=>hn ((hown b).2 h),fun b ⟨j,gj,hj,hb⟩=>?_,fun b o hm=>.inl hm⟩,
  ⟨rfl,fun i gi e hi he=>?_,fun i j ga gb b hi hj ha hb'=>?_,fun i gi b hi hb'=>?_,fun b o hm=>Nat.lt_of_lt_of_le (hst.Mlt b o hm) hsz,fun b o v hm hv=>hst.one b o v hm ((hle b o hm).2 ▸ hv)⟩,?_⟩
 ·cases i with
  | zero=>simp at hi;subst hi;exact⟨g0,rfl,rfl⟩
  | succ i=>simp at hi
 ·rcases hget j gj hj with ⟨rfl,rfl⟩ | ⟨rfl,rfl⟩
  ·exact hb.elim
  ·have hb:b=B:=hb
   subst hb
   rcases hB with h | h
   ·exact .inl ((hown _).2 h)
   ·exact .inr h
 ·rcases hget i gi hi with ⟨rfl,rfl⟩ | ⟨rfl,rfl⟩
  ·simp at he;subst he;exact fun b hb=>hb
  ·simp at he;subst he
   refine⟨fun b=>Iff.rfl,⟨hn,hC,cells,t,us',hh,hcl,hv',hu,by rw[Nat.mul_comm];exact ht⟩,fun o hm=>?_⟩
   rcases hB with h | h
   ·exact hMb B o hm h
   ·have:=hst.Mlt B o hm;omega
 ·rcases hget i ga hi with ⟨rfl,rfl⟩ | ⟨rfl,rfl⟩<;>rcases hget j gb hj with ⟨rfl,rfl⟩ | ⟨rfl,rfl⟩
  ·rfl
  ·exact ha.elim
  ·exact hb'.elim
  ·rfl
 ·rcases hget i gi hi with ⟨rfl,rfl⟩ | ⟨rfl,rfl⟩
  ·exact hb'.elim
  ·have hb':b=B:=hb'
   omega
 ·exact⟨g1,rfl,rfl⟩
theorem qblx:okF Tryz.prog 108=true:=by unfold okF;rw[Tryz.func108];rfl
theorem qbjc{es:List AV}{x:AV}{i:Nat}(hi:i≤es.length)(hl:es.length≤1000000)(hx:x.cells.length=4∧x.flat)(hb:AV.bds 0 (x::es)=true)(hes:∀e∈es,e.flat):
 VCalls Tryz.prog 108 [.mrow 4 es] [.row 0 es.length,.int .i64 i,.lit 4 [x]] fun H' o=>H'=[.dead,.mrow 4 (es.take i++x::es.drop i)]∧o=.val (.row 1 (es.length+1)):=by
 refine⟨qblx,fun w M G vs hst hv=>?_⟩
 have hlen:=hst.len
 obtain⟨g,rfl⟩:∃g,G=[g]:=by
  cases G with
  | nil=>simp at hlen
  | cons g r => cases r with
    | nil=>exact⟨g,rfl⟩
    | cons _ _=>simp at hlen
 obtain⟨v0,r0,rfl,⟨g',hg',rfl⟩,v1,r1,rfl,⟨rfl,hw1⟩,v2,r2,rfl,⟨a,xs0,hxs,hsl,rfl⟩,rfl⟩:=hv
 simp at hg'
 subst hg'
 obtain⟨u,ur,rfl,hu,hur⟩:=hxs
 simp only[VRs] at hur
 subst hur
 obtain⟨_,_,hus,hmem⟩:=hsl
 obtain⟨ad,rfl⟩:∃ad,a=some ad:=by
  cases a with
  | none=>exact absurd hmem (by simp)
  | some ad=>exact⟨ad,rfl⟩
 obtain⟨hsp,hmem⟩:ad.spot=none∧Mem w M ad.block ad.off ([u].flatMap (·.cells.toList)):=by
  rcases hmem with h | h
  ·simp at h
  ·exact h
 rw[List.flatMap_cons,List.flatMap_nil,List.append_nil] at hmem
 have hxl:u.cells.toList.length=4:=by rw[Array.length_toList];exact hus u (by simp)
 have hvs:∀j v,u.cells.toList[j]?=some v->w.cell? ⟨ad.block,ad.off+j,none⟩=some v:=fun j v hj=>(hmem j v hj).1
 have h1v:=qix hu hx.2
 have had:ad=⟨ad.block,ad.off,none⟩:=by cases ad;simp at hsp;simp[hsp]
 obtain⟨h1,⟨h2,h3,cells,t,us,h4,h5,h6,h7,h8⟩,h9⟩:=hst.ok 0 g _ rfl rfl
 have hul:us.length=es.length:=ql h6
 have hvb:ad.block≠g.blk:=fun h=>by
  obtain⟨v,hv⟩:∃v,u.cells.toList[0]?=some v:=⟨_,List.getElem?_eq_getElem (by omega)⟩
  exact h9 _ (h ▸ (hmem 0 v hv).2)
 have hgl:=hst.lt 0 g g.blk rfl ((h1 _).2 rfl)
 have hc4:cells.toArray.size=g.cap*4:=by rw[List.size_toArray];exact h5
 have ht4:cells.take (es.length*4)=us.flatMap (·.cells.toList):=by rw[Nat.mul_comm];exact h8
 have hone:=qfi h6 hes
 have h1c:∀v∈cells.take (es.length*4),v.oneCell'=true:=fun v hv=>by
  rw[ht4] at hv
  obtain⟨y,hy,hvy⟩:=List.mem_flatMap.1 hv
  exact hone y hy v hvy
 have hcs:∀j v,(cells.take (es.length*4))[j]?=some v->w.cell? ⟨g.blk,j,none⟩=some v:=fun j v hj=>by
  rw[qec h4 j]
  rw[List.getElem?_take] at hj
  split at hj
  ·exact hj
  ·cases hj
 have hcl:(cells.take (es.length*4)).length=es.length*4:=by rw[List.length_take,h5];exact Nat.min_eq_left (Nat.mul_le_mul_right 4 h2)
 -- what is new
 have hv':VRs w M [g] (es.take i++x::es.drop i) (us.take i++u::us.drop i):=qbw (qep h6 i) ⟨u,us.drop i,rfl,hu,qfd h6 i⟩
 have hu':∀y∈us.take i++u::us.drop i,y.cells.size=4:=fun y hy=>by
  rcases List.mem_append.1 hy with hy | hy
  ·exact h7 y (List.mem_of_mem_take hy)
  ·rcases List.mem_cons.1 hy with rfl | hy
   ·exact hus y (by simp)
   ·exact h7 y (List.mem_of_mem_drop hy)
 have hl':(es.take i++x::es.drop i).length=es.length+1:=by rw[List.length_append,List.length_cons,List.length_take,List.length_drop];omega
 have hfl:(us.take i++u::us.drop i).flatMap (·.cells.toList)=(cells.take (es.length*4)).take (i*4)++u.cells.toList++(cells.take (es.length*4)).drop (i*4):=by
  rw[ht4,qqe us i h7,qpf us i h7,List.flatMap_append,List.flatMap_cons,List.append_assoc]
 have hb':AV.bds 0 (es.take i++x::es.drop i)=true:=by
  rw[qb6,List.all_eq_true] at hb ⊢
  intro v hv
  rcases List.mem_append.1 hv with hv | hv
  ·exact hb v (by simp[List.mem_of_mem_take hv])
  ·rcases List.mem_cons.1 hv with rfl | hv
   ·exact hb v (by simp)
   ·exact hb v (by simp[List.mem_of_mem_drop hv])
 have key:∀{w':World} {B C:Nat} {cl:List Value} {t':TypeId},w'.os=w.os->w'.tape=w.tape->w'.output=w.output->w.heap.size≤w'.heap.size->(∀k,k<w.heap.size->k≠g.blk->w'.heap[k]?=w.heap[k]?) →
  ((B=g.blk)∨(w.heap.size≤B))->B<w'.heap.size->w'.heap[B]?=some (.cells cl.toArray t' (0,0))->cl.length=C*4->es.length+1≤C->C≤maxLen->cl.take ((es.length+1)*4)=(cells.take (es.length*4)).take (i*4)++u.cells.toList++(cells.take (es.length*4)).drop (i*4) →
  Out (fun H' o=>H'=[.dead,.mrow 4 (es.take i++x::es.drop i)]∧o=.val (.row 1 (es.length+1))) w M [g] (.returned (.slice (some ⟨B,0,none⟩) (es.length+1) C)) w':=fun k1 k2 k3 k4 k5 k6 k7 k8 k9 k10 k11 k12=>by
  have:=qbf3 hst k1 k2 k3 k4 k5 k6 k7 k8 k9 (by rw[hl'];exact k10) k11 hv' hu' (by rw[hl',hfl];exact k12) hb'
  rw[hl'] at this
  exact this
 have hm63:g.cap≤9223372036854775807:=by unfold maxLen at h3;omega
 rw[had]
 simp only[List.length_cons,List.length_nil,Nat.zero_add]
 by_cases hin:i=es.length
 ·subst hin
  by_cases hroom:es.length+1≤g.cap
  ·refine(callsIn_wide.2 (qng g.blk es.length g.cap ad.block ad.off 1 cells.toArray t u.cells.toList w h4 hc4 hroom hm63 hxl hvs h1v)).mono fun e w' he=>?_
   obtain⟨rfl,rfl⟩:=he
   refine key rfl rfl rfl (by simp[World.setRow]) (fun k hk hne=>setRow_other w g.blk k _ hne) (.inl rfl) (by simpa [World.setRow] using hgl) (setRow_heap w g.blk cells.toArray _ t (0,0) h4) ?_ hroom h3 ?_
   ·simp only[List.length_append,List.length_take,List.length_drop,h5,hxl];omega
   ·have e3:(cells.take (es.length*4)++u.cells.toList).length=(es.length+1)*4:=by rw[List.length_append,hcl,hxl];omega
    simp only[List.take_take,Nat.min_self]
    rw[List.take_append_of_le_length (by rw[e3];exact Nat.le_refl _),List.take_of_length_le (by rw[e3];exact Nat.le_refl _),List.drop_of_length_le (by rw[hcl];exact Nat.le_refl _),List.append_nil]
  ·refine(callsIn_wide.2 (qom g.blk es.length g.cap ad.block ad.off 1 (cells.take (es.length*4)) u.cells.toList w h2 (by omega) hl hcl hcs hxl hvs h1v)).mono fun e w' he=>?_
   obtain⟨rfl,rfl⟩:=he
   have hG1:=grownCap_ge w (es.length+1) g.cap 155
   have hG2:=grownCap_le_maxLen w (es.length+1) g.cap 155 (by unfold maxLen;omega)
   generalize grownCap w (es.length+1) g.cap 155=C at hG1 hG2 ⊢
   obtain⟨cl,hcl'⟩:∃cl:List Value,((cells.take (es.length*4)).toArray++u.cells.toList.toArray++Builtin.zeroCells zPv (C-(es.length+1)))=cl.toArray:=⟨_,rfl⟩
   have hz4:zPv.size=4:=rfl
   have hcll:cl.length=C*4:=by
    have:=congrArg Array.size hcl'
    rw[Array.size_append,Array.size_append,List.size_toArray,List.size_toArray,hcl,hxl,size_zeroCells,hz4,List.size_toArray] at this
    omega
   have hclt:cl.take ((es.length+1)*4)=cells.take (es.length*4)++u.cells.toList:=by
    have h:=congrArg Array.toList hcl'
    rw[Array.toList_append,Array.toList_append] at h
    simp only at h
    rw[←h]
    have e3:(cells.take (es.length*4)++u.cells.toList).length=(es.length+1)*4:=by rw[List.length_append,hcl,hxl];omega
    rw[List.take_append_of_le_length (by rw[e3];exact Nat.le_refl _),List.take_of_length_le (by rw[e3];exact Nat.le_refl _)]
   rw[hcl']
   refine key rfl rfl rfl ?_ (fun k hk _=>?_) (.inr (Nat.le_refl _)) ?_ (B:=w.heap.size) (C:=C) (cl:=cl) (t':=155) ?_ hcll hG1 hG2 ?_
   ·show w.heap.size≤(w.heap.push _).size
    simp
   ·show(w.heap.push _)[k]?=_
    simp[Array.getElem?_push,Nat.ne_of_lt hk]
   ·show w.heap.size<(w.heap.push _).size
    simp
   ·show(w.heap.push _)[w.heap.size]?=_
    simp
   ·rw[hclt,List.take_take,Nat.min_self,List.drop_of_length_le (by rw[hcl];exact Nat.le_refl _),List.append_nil]
 ·by_cases hroom:es.length+1≤g.cap
  ·refine(callsIn_wide.2 (qtg g.blk es.length g.cap i ad.block ad.off 1 cells.toArray t u.cells.toList w (by omega) h4 hc4 hroom hm63 hvb h1c hxl hvs h1v)).mono fun e w' he=>?_
   obtain⟨rfl,cur',rfl,hs',ht'⟩:=he
   refine key rfl rfl rfl (by simp[World.setRow]) (fun k hk hne=>setRow_other w.drew g.blk k _ hne) (.inl rfl) (by simpa [World.setRow] using hgl) (setRow_heap w.drew g.blk cells.toArray cur' t (0,0) h4) (by rw[Array.length_toList];exact hs') hroom h3 ?_
   rw[ht',List.take_take,Nat.min_eq_left (by omega)]
  ·refine(callsIn_wide.2 (qx0 g.blk es.length g.cap i ad.block ad.off 1 (cells.take (es.length*4)) u.cells.toList w (by omega) h2 (by omega) hl hcl hcs h1c hxl hvs h1v)).mono fun e w' he=>?_
   obtain⟨rfl,⟨k1,k2,k3,k4,k5⟩,cur',k6,k7,k8⟩:=he
   exact key k1 k2 k3 (by omega) (fun k hk _=>k5 k hk) (.inr (Nat.le_refl _)) (by omega) k6 (by rw[Array.length_toList];exact k7) (grownCap_ge w _ _ _) (grownCap_le_maxLen w _ _ _ (by unfold maxLen;omega)) k8
set_option maxRecDepth 100000

theorem qvq{x:AV}(hx:x.cells.length=4∧x.flat):VCalls Tryz.prog 108 [] [.nils,.int .i64 0,.lit 4 [x]] fun H' o=>H'=[.mrow 4 [x]]∧o=.val (.row 0 1):=by
 refine⟨qblx,fun w M G vs hst hv=>?_⟩
 have hlen:=hst.len
 obtain rfl:G=[]:=by
  cases G with
  | nil=>rfl
  | cons g r=>simp at hlen
 obtain⟨v0,r0,rfl,rfl,v1,r1,rfl,⟨rfl,hw1⟩,v2,r2,rfl,⟨a,xs0,hxs,hsl,rfl⟩,rfl⟩:=hv
 obtain⟨u,ur,rfl,hu,hur⟩:=hxs
 simp only[VRs] at hur
 subst hur
 obtain⟨_,_,hus,hmem⟩:=hsl
 obtain⟨ad,rfl⟩:∃ad,a=some ad:=by
  cases a with
  | none=>exact absurd hmem (by simp)
  | some ad=>exact⟨ad,rfl⟩
 obtain⟨hsp,hmem⟩:ad.spot=none∧Mem w M ad.block ad.off ([u].flatMap (·.cells.toList)):=by
  rcases hmem with h | h
  ·simp at h
  ·exact h
 rw[List.flatMap_cons,List.flatMap_nil,List.append_nil] at hmem
 have hxl:u.cells.toList.length=4:=by rw[Array.length_toList];exact hus u (by simp)
 have hvs:∀j v,u.cells.toList[j]?=some v->w.cell? ⟨ad.block,ad.off+j,none⟩=some v:=fun j v hj=>(hmem j v hj).1
 have h1v:=qix hu hx.2
 have had:ad=⟨ad.block,ad.off,none⟩:=by cases ad;simp at hsp;simp[hsp]
 rw[had]
 simp only[List.length_cons,List.length_nil,Nat.zero_add]
 refine(callsIn_wide.2 (q3a ad.block ad.off 1 u.cells.toList w hxl hvs h1v)).mono fun e w' he=>?_
 obtain⟨rfl,rfl⟩:=he
 have hG1:=grownCap_ge w 1 0 155
 have hG2:=grownCap_le_maxLen w 1 0 155 (by unfold maxLen;omega)
 generalize grownCap w 1 0 155=C at hG1 hG2 ⊢
 obtain⟨cl,hcl'⟩:∃cl:List Value,(u.cells.toList.toArray++Builtin.zeroCells (Value.agg #[.int .i64 0,.string .empty,.int .i64 0,.slice none 0 0]).cells (C-1))=cl.toArray:=⟨_,rfl⟩
 have hz4:(Value.agg #[.int .i64 0,.string .empty,.int .i64 0,.slice none 0 0]).cells.size=4:=rfl
 have hcll:cl.length=C*4:=by
  have:=congrArg Array.size hcl'
  rw[Array.size_append,List.size_toArray,hxl,size_zeroCells,hz4,List.size_toArray] at this
  omega
 have hclt:cl.take 4=u.cells.toList:=by
  have h:=congrArg Array.toList hcl'
  rw[Array.toList_append] at h
  simp only at h
  rw[←h,List.take_append_of_le_length (by rw[hxl];exact Nat.le_refl _),List.take_of_length_le (by rw[hxl];exact Nat.le_refl _)]
 rw[hcl']
 let g1:Gh:={ blk:=w.heap.size,cap:=C,fp:=fun b=>b=w.heap.size }
 have hsz:(w.drew.alloc (.cells cl.toArray 155)).heap.size=w.heap.size+1:=by show(w.heap.push _).size=_;simp
 have hold:∀b,b<w.heap.size->(w.drew.alloc (.cells cl.toArray 155)).heap[b]?=w.heap[b]?:=fun b hb=>by show(w.heap.push _)[b]?=_;simp[Array.getElem?_push,Nat.ne_of_lt hb]
 have hnew:(w.drew.alloc (.cells cl.toArray 155)).heap[w.heap.size]?=some (.cells cl.toArray 155 (0,0)):=by show(w.heap.push _)[w.heap.size]?=_;simp
 have hle:Le w M (w.drew.alloc (.cells cl.toArray 155)) M:=fun b o hm=>⟨hm,World.cell?_of_block (w:=w) (hold b (hst.Mlt b o hm))⟩
 have hu':VR (w.drew.alloc (.cells cl.toArray 155)) M [g1] x u:=qsx (fun i g hg=>by simp at hg) hle hu
 have hE:qib (w.drew.alloc (.cells cl.toArray 155)) M ([]++[g1]) g1 (.mrow 4 [x]):=by
  refine⟨fun b=>Iff.rfl,⟨hG1,hG2,cl,_,[u],hnew,hcll,⟨u,[],rfl,hu',rfl⟩,hus,?_⟩,fun o hm=>?_⟩
  ·rw[List.flatMap_cons,List.flatMap_nil,List.append_nil];exact hclt
  ·have:=hst.Mlt _ o hm
   exact Nat.lt_irrefl _ this
 refine⟨M,[g1],_,_,⟨rfl,rfl⟩,?_,?_,⟨g1,rfl,rfl⟩⟩
 ·exact qgh (g:=g1) hst rfl rfl rfl (by omega) hold (fun _ _ h=>h) (fun _ _ h=>.inl h) (fun b hb=>by have hb:b=w.heap.size:=hb;omega)
 ·exact qhg (g:=g1) hst (by omega) hold (fun _ _ h=>h) (fun _ _ h=>.inl h) (fun b o hm=>by have:=hst.Mlt b o hm;omega) (fun b hb=>by have hb:b=w.heap.size:=hb;omega) hE
end Go.Proofs

/- substitutions: found, got -/
set_option maxRecDepth 4000
namespace Go.Proofs.YtkenggenkmfopaaGreat
open Go Go.RowKit Go.V

theorem qhm(v:Int):qgy [] v=.tup [.int .i64 0,.bool false]:=rfl
theorem qb5o(v:Int):qp Tryz.prog 155 [.sl 4 [],.int .i64 v,.fn 156 [] []] (qgy [] v):=by
 refine qe c0ct (by simp) (by simp only[go_sem]) rfl fun hw=>?_
 rw[qhm]
 repeat'(first|refine vs_ ?_|((first|refine vr_ ?_|(refine cs_ ?_ ?_<;>intro hc)|refine cj_ ?_|simp (disch:=omega) only[qa,qc])<;>try refine ev_ ?_)|with_reducible exact ti_)
 refine qo (S:=Unit) (fun _=>True) (fun _=>(⟨[(0,.sl 4 []),(1,.int .i64 v),(2,.fn 156 [] []),(8,.int .i64 0),(9,.int .i64 0),(10,.int .i64 0)],[]⟩,[])) (fun _=>0) ?_ fun x hx=>?_
 ·refine qj () [] trivial rfl (by simp) ?_ ?_ ?_<;>(try refine ev_ ?_)<;>(try with_reducible exact ti_)<;>(try simp (disch:=omega) only[qc,and_true,true_and])
 ·repeat'(first|refine vs_ ?_|((first|refine vr_ ?_|(refine cs_ ?_ ?_<;>intro hc)|refine cj_ ?_|simp (disch:=omega) only[qa,qc])<;>try refine ev_ ?_)|with_reducible exact ti_)
  ·exact absurd hc (by omega)
  ·exact⟨rfl,rfl⟩
def subH(s:List Pr):List Ent:=if s=[] then [.blk [.nils]] else [.blk [.row 1 s.length],qcu s]
theorem qmo:subH []=[.blk [.nils]]:=rfl
theorem qsw{s:List Pr}(h:s≠[]):subH s=[.blk [.row 1 s.length],qcu s]:=by rw[subH,if_neg h]
abbrev subE(s:List Pr):Ent:=bun (subH s)
theorem qi3{Q:List Ent->VO->Prop}{H':List Ent}{r:AV}(h0:ent H' 0=.blk [.nils])(hl:0<H'.length)(hr:r.bd 0=true)(h:Q [subE []] (.val r)):qc9 Q H' (.val r) :=
 ⟨[.blk [.nils]],[0],rfl,by simp,by simp,⟨⟨hl,rfl,by rw[h0];rfl⟩,trivial⟩,qgg (Nat.zero_le _) _ hr,h⟩
theorem qe7{Q:List Ent->VO->Prop}{H':List Ent}{s:List Pr}{r:AV}(k:Nat)(hs:s≠[])(h0:ent H' 0=.blk [.row k s.length])(h1:ent H' k=qcu s)(hk:0<k)(hl:k<H'.length)(hr:r.bd 0=true)(h:Q [subE s] (.val r)):qc9 Q H' (.val r) :=
 ⟨[.blk [.row 1 s.length],qcu s],[0,k],rfl,by simp,by simp;omega,⟨⟨by omega,rfl,by rw[h0];rfl⟩,⟨hl,qja s 2,by rw[h1];simp only[qcu,Ent.ren,qm3]⟩,trivial⟩,qgg (Nat.zero_le _) _ hr,by rwa [subE,qsw hs] at h⟩
theorem qhc(σ:Nat->Nat)(s:List Pr):(qcu s).ren σ=qcu s:=by simp only[qcu,Ent.ren,qm3]
theorem qcs:∀{H:List Ent} {i:Nat} {e:Ent},ent H i=e->i<H.length->H.set i e=H
 | [],i,e,_,hl=>by simp at hl
 | x::r,0,e,h,_=>by rw[←h];rfl
 | x :: r, i + 1, e, h, hl => by
   have h':ent r i=e:=h
   rw[List.set_cons_succ,qcs h' (by simpa using hl)]
theorem qbhj(v:Int):VCalls Tryz.prog 107 [.blk [.nils]] [.ptr 0 0,.int .i64 v] fun H' o=>H'=[.blk [.nils]]∧o=.val (qgy [] v):=by
 refine qd c0cu 1 (by simp) (by simp) ?_
 rw[qhm]
 repeat'(first|refine vs_ ?_|((first|refine vr_ ?_|refine qb (qb5o _) fun _=>?_|simp (disch:=omega) only[qhm]|(refine cs_ ?_ ?_<;>intro hc)|refine cj_ ?_)<;>try refine ev_ ?_)|with_reducible exact ti_)
theorem qb9h{s:List Pr}(ho:risR s)(hl:s.length≤100000)(v:Int):VCalls Tryz.prog 107 [.blk [.row 1 s.length],qcu s] [.ptr 0 0,.int .i64 v] fun H' o=>H'=[.blk [.row 1 s.length],qcu s]∧o=.val (qgy s v):=by
 refine qd c0cu 2 (by simp) (by simp[qcu,Ent.bd,qem]) ?_
 rw[qgy]
 repeat'(first|refine vs_ ?_|((first|refine vr_ ?_|refine qcw 1 (qbpq ho hl v) ?_ (qja s 0) (qja s 0)|simp (disch:=omega) only[qgy]|(refine cs_ ?_ ?_<;>intro hc)|refine cj_ ?_)<;>try refine ev_ ?_)|with_reducible exact ti_)
section
variable {H:List Ent} {Q:List Ent->VO->Prop} {K:Md->AV->List Ent->Prop} {raws:List AV} {s:List Pr}
theorem qvg(v:Int)(hq:Q H (.val (qgy [] v)))(h0:ent H 0=.blk [.nils]:=by rfl)(hl':0<H.length:=by simp):VApp Tryz.prog H (.fn 107 [] []) [.ptr 0 0,.int .i64 v] Q:=by
 refine qb1 ?_
 rw[List.nil_append,List.append_nil]
 refine qbr [0] (qbhj v) (by simp) ⟨⟨by omega,rfl,h0⟩,trivial⟩ rfl rfl fun H1 o ho=>?_
 obtain⟨rfl,rfl⟩:=ho
 have:qds H [0] [.blk [.nils]]=H:=by
  show(H.set 0 (.blk [.nils]))++[]=H
  rw[List.append_nil,qcs h0 hl']
 rw[this]
 exact hq
theorem qkc(ho:risR s)(hl:s.length≤100000)(v:Int)(hq:Q H (.val (qgy s v)))(h0:ent H 0=.blk [.row 1 s.length]:=by rfl)(h1:ent H 1=qcu s:=by rfl)(hl':1<H.length:=by simp):VApp Tryz.prog H (.fn 107 [] []) [.ptr 0 0,.int .i64 v] Q:=by
 refine qb1 ?_
 rw[List.nil_append,List.append_nil]
 refine qbr [0,1] (qb9h ho hl v) (by simp) ⟨⟨by omega,rfl,h0⟩,⟨hl',qja s 2,by rw[h1,qhc]⟩,trivial⟩ rfl rfl fun H1 o ho=>?_
 obtain⟨rfl,rfl⟩:=ho
 have:qds H [0,1] [.blk [.row 1 s.length],qcu s]=H:=by
  show((H.set 0 (.blk [.row 1 s.length])).set 1 ((qcu s).ren _))++[]=H
  rw[List.append_nil,qhc,qcs h0 (by omega),qcs h1 hl']
 rw[this]
 exact hq
end
set_option maxRecDepth 4000

def getV(s:List Pr)(v:Int):AV:=.tup [encY ((q6 v s).getD Y0),.bool (q6 v s).isSome]
theorem qb03(k:Nat)(s:List Pr)(v:Int):(getV s v).bd k=true:=by simp only[getV,AV.bd,AV.bds,q8,Bool.and_true,Bool.true_and]
theorem qcbt(v:Int):VCalls Tryz.prog 123 [.blk [.nils]] [.ptr 0 0,.int .i64 v] (qc9 fun H' o=>H'=[subE []]∧o=.val (getV [] v)):=by
 refine qd c0cs 1 (by simp) (by simp) ?_
 repeat'(first|refine vs_ ?_|((first|refine vr_ ?_|refine qvg v ?_|simp (disch:=omega) only[qhm]|(refine cs_ ?_ ?_<;>intro hc)|refine cj_ ?_|simp (disch:=omega) only[qa,qc])<;>try refine ev_ ?_)|with_reducible exact ti_)
 all_goals exact qi3 rfl (by simp) rfl ⟨rfl,rfl⟩
theorem qcf9{s:List Pr}(hs:s≠[])(ho:risR s)(hl:s.length≤100000)(v:Int):VCalls Tryz.prog 123 [.blk [.row 1 s.length],qcu s] [.ptr 0 0,.int .i64 v] (qc9 fun H' o=>H'=[subE s]∧o=.val (getV s v)):=by
 refine qd c0cs 2 (by simp) (by simp[qcu,Ent.bd,qem]) ?_
 have hlk:=ql3 (v:=v) ho
 have hf:qgy s v=.tup [.int .i64 (ahdR v s),.bool (q6 v s).isSome]:=rfl
 by_cases hin:ahdR v s<s.length∧(s.getD (ahdR v s) R0).v=v
 ·rw[if_pos hin] at hlk
  have hp:=qc3 hin.1
  have hi:=hin.1
  rw[hlk,Option.isSome_some] at hf
  have hg:getV s v=.tup [encY (s.getD (ahdR v s) R0).ty,.bool true]:=by rw[getV,hlk];rfl
  rw[hg]
  clear hin
  repeat'(first|refine vs_ ?_|(refine vr_ ?_<;>try simp only[hp,go_sem,↓reduceIte])|((first|simp (disch:=omega) only[hf]|simp (disch:=omega) only[hp]|(refine cs_ ?_ ?_<;>intro hc)|refine cj_ ?_|simp (disch:=omega) only[qa,qc]|refine qkc ho hl v ?_)<;>try refine ev_ ?_)|with_reducible exact ti_)
  all_goals exact qe7 1 hs rfl rfl (by simp) (by simp) (by first | rfl | simp only[AV.bd,AV.bds,q8,Bool.and_true]) ⟨rfl,rfl⟩
 ·rw[if_neg hin] at hlk
  rw[hlk,Option.isSome_none] at hf
  have hg:getV s v=.tup [encY Y0,.bool false]:=by rw[getV,hlk];rfl
  rw[hg]
  repeat'(first|refine vs_ ?_|((first|refine vr_ ?_|refine qkc ho hl v ?_|simp (disch:=omega) only[hf]|(refine cs_ ?_ ?_<;>intro hc)|refine cj_ ?_|simp (disch:=omega) only[qa,qc])<;>try refine ev_ ?_)|with_reducible exact ti_)
  all_goals exact qe7 1 hs rfl rfl (by simp) (by simp) (by first | rfl | simp only[AV.bd,AV.bds,q8,Bool.and_true]) ⟨rfl,rfl⟩
theorem qyr{s:List Pr}(ho:risR s)(hl:s.length≤100000)(v:Int):VM Tryz.prog 123 (subE s) (subE s) [.ptr 0 0,.int .i64 v] (getV s v):=by
 by_cases hs:s=[]
 ·subst hs
  exact qek (by rw[qmo];exact qcbt v) rfl
 ·exact qek (by have:=qcf9 hs ho hl v;rwa [←qsw hs] at this) rfl
set_option maxRecDepth 4000

abbrev insF:FuncId:=108
theorem qn2(p:Pr):(encR p).cells.length=4∧(encR p).flat:=⟨rfl,.inl ⟨rfl,rfl⟩⟩
theorem qpo(l:List Pr):∀e∈qck l,e.flat:=fun e he=>by
 obtain⟨p,_,rfl⟩:=List.mem_map.1 he
 exact(qn2 p).2
section
variable {H:List Ent} {K:Md->AV->List Ent->Prop} {args raws:List AV} {s:List Pr} {p:Pr}
theorem qb60(j:Nat){i:Nat}(hi:i≤s.length)(hl:s.length≤100000)(h1:ent H j=qcu s):Gro Tryz.prog H (.fn insF [] []) [.row j s.length,.int .i64 i,.lit 4 [encR p]] (some (j,qcu s)) (qcu (s.take i++p::s.drop i)) (s.length+1):=by
 refine⟨fun q hq=>by cases hq;exact⟨by simp,h1⟩,fun H₀ h0=>?_⟩
 have h0:ent H₀ j=qcu s:=h0 _ rfl
 have hl':=(List.getElem?_eq_some_iff.1 (qba h0 (by simp))).1
 have hv:=qbjc (es:=qck s) (x:=encR p) (i:=i) (by rw[qf8];exact hi) (by rw[qf8];omega) (qn2 p) (by simp only[AV.bds,qlb,qem,Bool.and_true]) (qpo s)
 rw[qf8] at hv
 refine qb1 ?_
 rw[List.nil_append,List.append_nil]
 refine qbr [j] hv (by simp) ⟨⟨hl',qja s 1,by rw[h0,qhc]⟩,trivial⟩ (by simp[AV.bds,AV.bd,qlb]) (by simp only[AV.rens,AV.ren,qsa];rfl) fun H1 o ho=>?_
 obtain⟨rfl,rfl⟩:=ho
 have he:qck (s.take i++p::s.drop i)=(qck s).take i++encR p::(qck s).drop i:=by simp[qck]
 refine⟨?_,?_⟩
 ·rw[←he]
  show(H₀.set j .dead)++[(qcu (s.take i++p::s.drop i)).ren _]=(H₀.set j .dead)++[_]
  rw[qhc]
 ·show VO.val (.row (H₀.length+(1-1)) _)=_
  simp
theorem qbmi:Gro Tryz.prog H (.fn insF [] []) [.nils,.int .i64 0,.lit 4 [encR p]] none (qcu [p]) 1:=by
 refine⟨fun q hq=>(by cases hq),fun H₀ h0=>?_⟩
 refine qb1 ?_
 rw[List.nil_append,List.append_nil]
 refine qbr [] (qvq (qn2 p)) (by simp) trivial (by simp[AV.bds,AV.bd,qlb]) (by simp only[AV.rens,AV.ren,qsa]) fun H1 o ho=>?_
 obtain⟨rfl,rfl⟩:=ho
 refine⟨?_,?_⟩
 ·show H₀++[(qcu [p]).ren _]=H₀++[_]
  rw[qhc]
 ·show VO.val (.row (H₀.length+(0-0)) _)=_
  simp
theorem qcel(j:Nat){i:Nat}(hi:i≤s.length)(hl:s.length≤100000)(hq:K (.grow (some (j,qcu s)) (qcu (s.take i++p::s.drop i)) (s.length+1)) (.row H.length (s.length+1)) (H.set j .dead++[qcu (s.take i++p::s.drop i)]))(h1:ent H j=qcu s:=by rfl)(hr:raws=[.row j s.length,.int .i64 i,.lit 4 [encR p]]:=by rfl):
 DApp Tryz.prog H (.fn insF [] []) args raws K:=by
 subst hr
 exact .inr (.inr (.inr (.inl ⟨_,_,_,qb60 j hi hl h1,hq⟩)))
theorem qcg8(hq:K (.grow none (qcu [p]) 1) (.row H.length 1) (H++[qcu [p]]))(hr:raws=[.nils,.int .i64 0,.lit 4 [encR p]]:=by rfl):DApp Tryz.prog H (.fn insF [] []) args raws K:=by
 subst hr
 exact .inr (.inr (.inr (.inl ⟨_,_,_,qbmi,hq⟩)))
end
theorem qzv{s:List Pr}{v:Int}{t:Ty}(h:qq t=false):setR s v t=(s,1):=by rw[setR,if_neg (by simp[h])]
theorem qbc2{s:List Pr}{v:Int}{t u:Ty}(h:qq t=true)(hl:q6 v s=some u):setR s v t=(s,6):=by rw[setR,if_pos h,hl]
theorem qzu{s:List Pr}{v:Int}{t:Ty}(h:qq t=true)(hl:q6 v s=none):setR s v t=(insR v t s,0):=by rw[setR,if_pos h,hl]
theorem qbxf(v:Int){t:Ty}(h1:szY t≤20000)(h2:dpY t≤300):VCalls Tryz.prog 69 [.blk [.nils]] [.ptr 0 0,.int .i64 v,encY t] (qc9 fun H' o=>H'=[subE (setR [] v t).1]∧o=.val (.int .i64 (setR [] v t).2)):=by
 have hLg:=qee h1 h2
 have hcp:=qfg t (by omega)
 by_cases hlg:qq t=true
 ·rw[qzu hlg rfl]
  rw[hlg] at hLg
  refine qd c0cr 3 (by simp) (by simp) ?_
  repeat'(first|refine vs_ ?_|((first|refine vr_ ?_|refine qb hLg fun _=>?_|refine qb hcp fun _=>?_|refine qvg v ?_|refine qcg8 (p:=⟨v,t⟩) ?_|refine qf hLg ?_|refine qf hcp ?_|simp (disch:=omega) only[qhm]|(refine cs_ ?_ ?_<;>intro hc)|refine cj_ ?_)<;>try refine ev_ ?_)|with_reducible exact ti_)
  all_goals exact qe7 (s:=insR v t []) 2 (by simp[qrj]) rfl rfl (by simp) (by simp) rfl ⟨rfl,rfl⟩
 ·have hlg:qq t=false:=by simpa using hlg
  rw[qzv hlg]
  rw[hlg] at hLg
  refine qd c0cr 1 (by simp) (by simp) ?_
  repeat'(first|refine vs_ ?_|((first|refine vr_ ?_|refine qb hLg fun _=>?_|refine qf hLg ?_|(refine cs_ ?_ ?_<;>intro hc)|refine cj_ ?_)<;>try refine ev_ ?_)|with_reducible exact ti_)
  all_goals exact qi3 rfl (by simp) rfl ⟨rfl,rfl⟩
theorem qceq{s:List Pr}(hs:s≠[])(ho:risR s)(hl:s.length≤100000)(v:Int){t:Ty}(h1:szY t≤20000)(h2:dpY t≤300):VCalls Tryz.prog 69 [.blk [.row 1 s.length],qcu s] [.ptr 0 0,.int .i64 v,encY t] (qc9 fun H' o=>H'=[subE (setR s v t).1]∧o=.val (.int .i64 (setR s v t).2)):=by
 have hLg:=qee h1 h2
 have hcp:=qfg t (by omega)
 have hA:=qst v s
 by_cases hlg:qq t=true
 ·cases hlk:q6 v s with
  | some u =>
    have hf:qgy s v=.tup [.int .i64 (ahdR v s),.bool true]:=by rw[qgy,hlk];rfl
    rw[qbc2 hlg hlk]
    rw[hlg] at hLg
    refine qd c0cr 2 (by simp) (by simp) ?_
    repeat'(first|refine vs_ ?_|((first|refine vr_ ?_|refine qb hLg fun _=>?_|refine qkc ho hl v ?_|refine qf hLg ?_|simp (disch:=omega) only[hf]|(refine cs_ ?_ ?_<;>intro hc)|refine cj_ ?_)<;>try refine ev_ ?_)|with_reducible exact ti_)
    all_goals exact qe7 1 hs rfl rfl (by simp) (by simp) rfl ⟨rfl,rfl⟩
  | none =>
    have hf:qgy s v=.tup [.int .i64 (ahdR v s),.bool false]:=by rw[qgy,hlk];rfl
    rw[qzu hlg hlk]
    rw[hlg] at hLg
    refine qd c0cr 4 (by simp) (by simp) ?_
    repeat'(first|refine vs_ ?_|((first|refine vr_ ?_|refine qb hLg fun _=>?_|refine qb hcp fun _=>?_|refine qkc ho hl v ?_|refine qcel 1 (p:=⟨v,t⟩) hA hl ?_|refine qf hLg ?_|refine qf hcp ?_|simp (disch:=omega) only[hf]|(refine cs_ ?_ ?_<;>intro hc)|refine cj_ ?_)<;>try refine ev_ ?_)|with_reducible exact ti_)
    all_goals exact qe7 (s:=insR v t s) 3 (by simp[insR]) (by rw[qsk];rfl) rfl (by simp) (by simp) rfl ⟨rfl,rfl⟩
 ·have hlg:qq t=false:=by simpa using hlg
  rw[qzv hlg]
  rw[hlg] at hLg
  refine qd c0cr 2 (by simp) (by simp) ?_
  repeat'(first|refine vs_ ?_|((first|refine vr_ ?_|refine qb hLg fun _=>?_|refine qf hLg ?_|(refine cs_ ?_ ?_<;>intro hc)|refine cj_ ?_)<;>try refine ev_ ?_)|with_reducible exact ti_)
  all_goals exact qe7 1 hs rfl rfl (by simp) (by simp) rfl ⟨rfl,rfl⟩
theorem qld{s:List Pr}(ho:risR s)(hl:s.length≤100000)(v:Int){t:Ty}(h1:szY t≤20000)(h2:dpY t≤300):VM Tryz.prog 69 (subE s) (subE (setR s v t).1) [.ptr 0 0,.int .i64 v,encY t] (.int .i64 (setR s v t).2):=by
 by_cases hs:s=[]
 ·subst hs
  exact qek (by rw[qmo];exact qbxf v h1 h2) (by simp[AV.bds,AV.bd,q8])
 ·exact qek (by have:=qceq hs ho hl v h1 h2;rwa [←qsw hs] at this) (by simp[AV.bds,AV.bd,q8])

/-! a receiver: there, or none -/
def svA(b:Bool)(k:Nat):AV:=if b then .ptr k 0 else .nilp
theorem qx9(b:Bool)(k:Nat)(σ:Nat->Nat):(svA b k).ren σ=svA b (σ k):=by cases b<;>rfl
theorem qba1(b:Bool)(k n:Nat)(h:k<n):(svA b k).bd n=true:=by
 cases b
 ·rfl
 ·show decide (k<n)=true
  exact decide_eq_true h
theorem qbfb(b:Bool)(k:Nat):(svA b k).leaf=true:=by cases b<;>rfl
theorem q82(b:Bool)(k:Nat):(svA b k).cells=[svA b k]:=by cases b<;>rfl
theorem qbsi(b:Bool)(k:Nat):(svA b k).isAgg=false:=by cases b<;>rfl
attribute [go_sem] qx9 qbfb q82 qbsi
attribute [go_sem] qba1
abbrev qb97:Ent:=.cus (fun _ _ _=>True)
theorem qccz{P:Program}{f:FuncId}{xs:List AV}{r:AV}(h:VM P f qb97 qb97 xs r)(ha:AV.bds 0 xs=true)(hr:r.bd 0=true):qp P f xs r:=by
 refine⟨⟨h.1,fun w M G vs hst hv=>?_⟩,ha,hr⟩
 have hlen:=hst.len
 obtain rfl:G=[]:=by
  cases G with
  | nil=>rfl
  | cons g r=>simp at hlen
 let g0:Gh:={ blk:=0,cap:=0,fp:=fun _=>False }
 have hst':St w M ([]++[g0]) ([]++[qb97]):=qhg (g:=g0) hst (Nat.le_refl _) (fun _ _=>rfl) (fun _ _ h=>h) (fun _ _ h=>.inl h) hst.Mlt (fun b hb=>False.elim hb) ⟨trivial,fun _ _ _ _ _ _=>trivial⟩
 have hv':VRs w M [g0] xs vs:=by
  have:=qc6 (σ:=id) (m:=0) (G':=[g0]) (fun i g hi hg=>by omega) (fun b o h=>⟨h,rfl⟩) xs vs ha hv
  rwa [qs (σ:=id) (m:=0) (fun _ _=>rfl) xs ha] at this
 have hno:∀b,¬own [g0] b:=fun b ⟨j,gj,hj,hf⟩=>by
  cases j with
  | zero=>simp at hj;subst hj;exact hf
  | succ j=>simp at hj
 refine CallsIn.mono (h.2 w M [g0] vs hst' hv') fun e w' ho=>?_
 cases e with
 | returned x =>
   obtain⟨M',G',H',v,⟨rfl,hvr⟩,hx,hs,hv2⟩:=ho
   obtain rfl:v=r:=by simpa using hvr
   refine⟨M',[],[],v,⟨rfl,rfl⟩,⟨hx.os,hx.tape,hx.output,hx.size,fun i g h=>by simp at h,hx.le,fun b hb _=>hx.out b hb (hno b),fun b hb=>?_,fun b o hm=>?_⟩,⟨rfl,fun i g e h=>by simp at h,fun i j g g' b h=>by simp at h,fun i g b h=>by simp at h,hs.Mlt,hs.one⟩,?_⟩
   ·obtain⟨j,gj,hj,_⟩:=hb
    simp at hj
   ·rcases hx.Mnew b o hm with h | h | h
    ·exact .inl h
    ·exact absurd h (hno b)
    ·exact .inr (.inr h)
   ·have:=qpq (σ:=id) (m:=0) (G':=[]) (fun i g hi hg=>by omega) (fun b o h=>⟨h,rfl⟩) v x hr hv2
    rwa [ren_same (σ:=id) (m:=0) (fun _ _=>rfl) v hr] at this
 | panicked ch =>
   obtain⟨M',G',H',v,x,⟨_,hvr⟩,_⟩:=ho
   cases hvr
 | outgrown=>exact ho
/-! runs of it -/
def brun(s:List Pr):List Ty->Int->Int->Int×List Ty
 | [],b,_=>(b,[])
 | x::r,b,k=>((brun s r (bput s x b k).1 k).1,(bput s x b k).2::(brun s r (bput s x b k).1 k).2)
theorem qy7(s:List Pr):∀(l:List Ty) (b k:Int),(brun s l b k).2.length=l.length
 | [],_,_=>rfl
 | x::r,b,k=>by rw[brun,List.length_cons,List.length_cons,qy7 s r]
theorem qu9(s:List Pr)(x:Ty)(k:Int):∀(l:List Ty) (b:Int),brun s (l++[x]) b k=((bput s x (brun s l b k).1 k).1,(brun s l b k).2++[(bput s x (brun s l b k).1 k).2])
 | [],b=>by simp[brun]
 | y::r,b=>by rw[List.cons_append,brun,qu9 s x k r,brun];rfl
theorem qof(s:List Pr)(k:Int)(r:List Ty):∀(l:List Ty) (b:Int),(∀j,j<l.length->0≤(brun s (l.take j) b k).1)->qdr s (l++r) b k=((qdr s r (brun s l b k).1 k).1,(qdr s r (brun s l b k).1 k).2.map ((brun s l b k).2 ++ ·))
 | [],b,_=>by simp[brun]
 | x :: l, b, h => by
   have h0:=h 0 (by simp)
   rw[List.take_zero,brun] at h0
   have h1:=qof s k r l (bput s x b k).1 fun j hj=>by
    have:=h (j+1) (by simpa using hj)
    rwa [List.take_succ_cons,brun] at this
   rw[List.cons_append,qdr,if_neg (by omega),h1,brun]
   simp only[Option.map_map]
   rfl
theorem q91{s:List Pr}{l:List Ty}{b k:Int}(h:∀j,j<l.length->0≤(brun s (l.take j) b k).1):qdr s l b k=((brun s l b k).1,some (brun s l b k).2):=by
 have:=qof s k [] l b h
 rw[List.append_nil] at this
 rw[this,qdr];simp
theorem q26{s:List Pr}{l:List Ty}{b k:Int}{i:Nat}(hi:i<l.length)(h:∀j,j<i->0≤(brun s (l.take j) b k).1)(hn:(brun s (l.take i) b k).1<0):qdr s l b k=((brun s (l.take i) b k).1,none):=by
 have h2:(l.take i).length=i:=by rw[List.length_take];omega
 have:=qof s k (l.drop i) (l.take i) b fun j hj=>by
  rw[h2] at hj
  rw[List.take_take,Nat.min_eq_left (by omega)]
  exact h j hj
 rw[List.take_append_drop] at this
 rw[this,List.drop_eq_getElem_cons hi,qdr,if_pos hn];rfl
theorem qzf{s:List Pr}(hs:okR s)(k:Int):∀(l:List Ty) (b:Int),(∀j,j<l.length->0≤(brun s (l.take j) b k).1)->-4096≤b->b≤4096->-4096≤(brun s l b k).1∧(brun s l b k).1≤4096
 | [],b,_,h0,h1=>⟨h0,h1⟩
 | x :: r, b, h, h0, h1 => by
   have hb:=h 0 (by simp)
   have hb:0≤b:=hb
   have:=qyv hs x b k hb h1
   rw[brun]
   exact qzf hs k r _ (fun j hj=>by
    have:=h (j+1) (by simpa using hj)
    rwa [List.take_succ_cons,brun] at this) this.1 this.2
def gE(o:List Ty)(n:Nat):List AV:=qh o++List.replicate (n-o.length) zY
theorem qblk{o:List Ty}{n:Nat}(h:o.length≤n):(gE o n).length=n:=by rw[gE,List.length_append,qg,List.length_replicate];omega
theorem gE_0(n:Nat):gE [] n=List.replicate n zY:=rfl
theorem qblj(o:List Ty):gE o o.length=qh o:=by rw[gE,Nat.sub_self,List.replicate_zero,List.append_nil]
theorem qbln{o:List Ty}{n:Nat}(h:o.length<n)(x:Ty):(gE o n).set o.length (encY x)=gE (o++[x]) n:=by
 obtain⟨k,hk⟩:∃k,n-o.length=k+1:=⟨n-o.length-1,by omega⟩
 have hk2:n-(o++[x]).length=k:=by rw[List.length_append,List.length_singleton];omega
 rw[gE,gE,hk,hk2,List.replicate_succ,←qew,List.set_append_right _ _ (by rw[qg];omega),qg,Nat.sub_self,List.set_cons_zero,List.append_assoc]
 rfl
theorem qx2(k:Nat)(o:List Ty)(n:Nat):AV.bds k (gE o n)=true:=by
 rw[gE,qk8,qbd,qb6]
 simp[zY,AV.bd,AV.bds]
theorem qp6(σ:Nat->Nat)(o:List Ty)(n:Nat):AV.rens σ (gE o n)=gE o n:=qs (m:=0) (fun i hi=>by omega) _ (qx2 0 o n)
attribute [go_sem] qx2 qp6
end Go.Proofs.YtkenggenkmfopaaGreat
