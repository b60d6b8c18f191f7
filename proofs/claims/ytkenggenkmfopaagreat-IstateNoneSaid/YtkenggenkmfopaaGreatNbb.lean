/- Texts of this proof, joined. -/
import Derived.Test.YtkenggenkmfopaaGreatNba
import Derived.Test.YtkenggenkmfopaaGreatNas
set_option linter.unusedVariables false
set_option linter.unusedSimpArgs false

/- slices.Insert of a pair, in the logic of values -/
set_option maxRecDepth 100000
namespace Go.Proofs
open Go Go.RowKit Go.V Go.Lib Go.Shelf

theorem qlc:∀ (us:List Value) (i:Nat),(∀ u∈us,u.cells.size = 4)->(us.flatMap (·.cells.toList)).take (i * 4) = (us.take i).flatMap (·.cells.toList)
 | [],i,_=>by simp
 | u :: us,0,_=>by simp
 | u :: us, i + 1, h => by
   have hu:u.cells.toList.length = 4:=by rw [Array.length_toList];exact h u (by simp)
   rw [List.flatMap_cons,List.take_succ_cons,List.flatMap_cons,← qlc us i fun x hx=>h x (by simp [hx]),show (i + 1) * 4 = u.cells.toList.length + i * 4 by rw [hu];omega,List.take_append,List.take_of_length_le (Nat.le_add_right _ _),Nat.add_sub_cancel_left]
theorem qlt:∀ (us:List Value) (i:Nat),(∀ u∈us,u.cells.size = 4)->(us.flatMap (·.cells.toList)).drop (i * 4) = (us.drop i).flatMap (·.cells.toList)
 | [],i,_=>by simp
 | u :: us,0,_=>by simp
 | u :: us, i + 1, h => by
   have hu:u.cells.toList.length = 4:=by rw [Array.length_toList];exact h u (by simp)
   rw [List.flatMap_cons,List.drop_succ_cons,← qlt us i fun x hx=>h x (by simp [hx]),show (i + 1) * 4 = u.cells.toList.length + i * 4 by rw [hu];omega,List.drop_append]
   simp
theorem q5m {w w':World} {M:Nat->Nat->Prop} {g:Gh} {es es':List AV} {us':List Value} {B C:Nat} {cells:List Value} {t:TypeId} (hst:St w M [g] [.mrow 4 es])
 (hos:w'.os = w.os) (htape:w'.tape = w.tape) (hout:w'.output = w.output) (hsz:w.heap.size≤w'.heap.size) (hold:∀ k,k < w.heap.size->k≠g.blk->w'.heap[k]? = w.heap[k]?)
 (hB:(B = g.blk)∨(w.heap.size≤B)) (hBl:B < w'.heap.size) (hh:w'.heap[B]? = some (.cells cells.toArray t (0,0))) (hcl:cells.length = C * 4) (hn:es'.length≤C) (hC:C≤maxLen)
 (hv:VRs w M [g] es' us') (hu:∀ u∈us',u.cells.size = 4) (ht:cells.take (es'.length * 4) = us'.flatMap (·.cells.toList)) (hb:AV.bds 0 es' = true) :
 Out (fun H' o=>H' = [.dead,.mrow 4 es']∧o = .val (.row 1 es'.length)) w M [g] (.returned (.slice (some ⟨B,0,none⟩) es'.length C)) w':=by
 obtain ⟨h1,h2,h9⟩:=hst.ok 0 g _ rfl rfl
 have hgl:=hst.lt 0 g g.blk rfl ((h1 _).2 rfl)
 have hMb:∀ b o,M b o->b≠g.blk:=fun b o hm hb=>h9 o (hb ▸ hm)
 have hle:Le w M w' M:=fun b o hm=>⟨hm,World.cell?_of_block (w:=w) (hold b (hst.Mlt b o hm) (hMb b o hm))⟩
 have hown:∀ b,own [g] b ↔ b = g.blk:=fun b=>⟨fun ⟨j,gj,hj,hb⟩=>by
  cases j with
  | zero=>simp at hj;subst hj;exact (h1 b).1 hb
  | succ j=>simp at hj,fun h=>⟨0,g,rfl,(h1 b).2 h⟩⟩
 let g0:Gh:={ g with fp:=fun _=>False }
 let g1:Gh:={ blk:=B,cap:=C,fp:=fun b=>b = B }
 have hget:∀ (j:Nat) (gj:Gh),[g0,g1][j]? = some gj->(j = 0∧gj = g0)∨(j = 1∧gj = g1):=fun j gj hj=>by
  cases j with
  | zero=>simp at hj;exact .inl ⟨rfl,hj.symm⟩
  | succ j => cases j with
    | zero=>simp at hj;exact .inr ⟨rfl,hj.symm⟩
    | succ j=>simp at hj
 have hv':VRs w' M [g0,g1] es' us':=by
  have:=qb5 (σ:=id) (m:=0) (w':=w') (M':=M) (G':=[g0,g1]) (fun i g hi hg=>by omega) hle es' us' hb hv
  rwa [ql (σ:=id) (m:=0) (fun _ _=>rfl) es' hb] at this
 refine ⟨M,[g0,g1],_,_,⟨rfl,rfl⟩,⟨hos,htape,hout,hsz,fun i gi hi=>?_,hle,fun b hb hn=>hold b hb fun h=>hn ((hown b).2 h),fun b ⟨j,gj,hj,hb⟩=>?_,fun b o hm=>.inl hm⟩,
  ⟨rfl,fun i gi e hi he=>?_,fun i j ga gb b hi hj ha hb'=>?_,fun i gi b hi hb'=>?_,fun b o hm=>Nat.lt_of_lt_of_le (hst.Mlt b o hm) hsz,fun b o v hm hv=>hst.one b o v hm ((hle b o hm).2 ▸ hv)⟩,?_⟩
 ·cases i with
  | zero=>simp at hi;subst hi;exact ⟨g0,rfl,rfl⟩
  | succ i=>simp at hi
 ·rcases hget j gj hj with ⟨rfl,rfl⟩ | ⟨rfl,rfl⟩
  ·exact hb.elim
  ·have hb:b = B:=hb
   subst hb
   rcases hB with h | h
   ·exact .inl ((hown _).2 h)
   ·exact .inr h
 ·rcases hget i gi hi with ⟨rfl,rfl⟩ | ⟨rfl,rfl⟩
  ·simp at he;subst he;exact fun b hb=>hb
  ·simp at he;subst he
   refine ⟨fun b=>Iff.rfl,⟨hn,hC,cells,t,us',hh,hcl,hv',hu,by rw [Nat.mul_comm];exact ht⟩,fun o hm=>?_⟩
   rcases hB with h | h
   ·exact hMb B o hm h
   ·have:=hst.Mlt B o hm;omega
 ·rcases hget i ga hi with ⟨rfl,rfl⟩ | ⟨rfl,rfl⟩<;>rcases hget j gb hj with ⟨rfl,rfl⟩ | ⟨rfl,rfl⟩
  ·rfl
  ·exact ha.elim
  ·exact hb'.elim
  ·rfl
 ·rcases hget i gi hi with ⟨rfl,rfl⟩ | ⟨rfl,rfl⟩
  ·exact hb'.elim
  ·have hb':b = B:=hb'
   omega
 ·exact ⟨g1,rfl,rfl⟩
theorem q77:okF Tryz.prog 108 = true:=by unfold okF;rw [Tryz.func108];rfl
theorem q3a {es:List AV} {x:AV} {i:Nat} (hi:i≤es.length) (hl:es.length≤1000000) (hx:x.cells.length = 4∧x.flat) (hb:AV.bds 0 (x :: es) = true) (hes:∀ e∈es,e.flat) :
 VCalls Tryz.prog 108 [.mrow 4 es] [.row 0 es.length,.int .i64 i,.lit 4 [x]] fun H' o=>H' = [.dead,.mrow 4 (es.take i ++ x :: es.drop i)]∧o = .val (.row 1 (es.length + 1)):=by
 refine ⟨q77,fun w M G vs hst hv=>?_⟩
 have hlen:=hst.len
 obtain ⟨g,rfl⟩:∃ g,G = [g]:=by
  cases G with
  | nil=>simp at hlen
  | cons g r => cases r with
    | nil=>exact ⟨g,rfl⟩
    | cons _ _=>simp at hlen
 obtain ⟨v0,r0,rfl,⟨g',hg',rfl⟩,v1,r1,rfl,⟨rfl,hw1⟩,v2,r2,rfl,⟨a,xs0,hxs,hsl,rfl⟩,rfl⟩:=hv
 simp at hg'
 subst hg'
 obtain ⟨u,ur,rfl,hu,hur⟩:=hxs
 simp only [VRs] at hur
 subst hur
 obtain ⟨_,_,hus,hmem⟩:=hsl
 obtain ⟨ad,rfl⟩:∃ ad,a = some ad:=by
  cases a with
  | none=>exact absurd hmem (by simp)
  | some ad=>exact ⟨ad,rfl⟩
 obtain ⟨hsp,hmem⟩:ad.spot = none∧Mem w M ad.block ad.off ([u].flatMap (·.cells.toList)):=by
  rcases hmem with h | h
  ·simp at h
  ·exact h
 rw [List.flatMap_cons,List.flatMap_nil,List.append_nil] at hmem
 have hxl:u.cells.toList.length = 4:=by rw [Array.length_toList];exact hus u (by simp)
 have hvs:∀ j v,u.cells.toList[j]? = some v->w.cell? ⟨ad.block,ad.off + j,none⟩ = some v:=fun j v hj=>(hmem j v hj).1
 have h1v:=qgh hu hx.2
 have had:ad = ⟨ad.block,ad.off,none⟩:=by cases ad;simp at hsp;simp [hsp]
 obtain ⟨h1,⟨h2,h3,cells,t,us,h4,h5,h6,h7,h8⟩,h9⟩:=hst.ok 0 g _ rfl rfl
 have hul:us.length = es.length:=qe h6
 have hvb:ad.block≠g.blk:=fun h=>by
  obtain ⟨v,hv⟩:∃ v,u.cells.toList[0]? = some v:=⟨_,List.getElem?_eq_getElem (by omega)⟩
  exact h9 _ (h ▸ (hmem 0 v hv).2)
 have hgl:=hst.lt 0 g g.blk rfl ((h1 _).2 rfl)
 have hc4:cells.toArray.size = g.cap * 4:=by rw [List.size_toArray];exact h5
 have ht4:cells.take (es.length * 4) = us.flatMap (·.cells.toList):=by rw [Nat.mul_comm];exact h8
 have hone:=qdx h6 hes
 have h1c:∀ v∈cells.take (es.length * 4),v.oneCell' = true:=fun v hv=>by
  rw [ht4] at hv
  obtain ⟨y,hy,hvy⟩:=List.mem_flatMap.1 hv
  exact hone y hy v hvy
 have hcs:∀ j v,(cells.take (es.length * 4))[j]? = some v->w.cell? ⟨g.blk,j,none⟩ = some v:=fun j v hj=>by
  rw [qc4 h4 j]
  rw [List.getElem?_take] at hj
  split at hj
  ·exact hj
  ·cases hj
 have hcl:(cells.take (es.length * 4)).length = es.length * 4:=by rw [List.length_take,h5];exact Nat.min_eq_left (Nat.mul_le_mul_right 4 h2)
 -- what is new
 have hv':VRs w M [g] (es.take i ++ x :: es.drop i) (us.take i ++ u :: us.drop i):=qbc (qdg h6 i) ⟨u,us.drop i,rfl,hu,qdy h6 i⟩
 have hu':∀ y∈us.take i ++ u :: us.drop i,y.cells.size = 4:=fun y hy=>by
  rcases List.mem_append.1 hy with hy | hy
  ·exact h7 y (List.mem_of_mem_take hy)
  ·rcases List.mem_cons.1 hy with rfl | hy
   ·exact hus y (by simp)
   ·exact h7 y (List.mem_of_mem_drop hy)
 have hl':(es.take i ++ x :: es.drop i).length = es.length + 1:=by rw [List.length_append,List.length_cons,List.length_take,List.length_drop];omega
 have hfl:(us.take i ++ u :: us.drop i).flatMap (·.cells.toList) = (cells.take (es.length * 4)).take (i * 4) ++ u.cells.toList ++ (cells.take (es.length * 4)).drop (i * 4):=by
  rw [ht4,qlc us i h7,qlt us i h7,List.flatMap_append,List.flatMap_cons,List.append_assoc]
 have hb':AV.bds 0 (es.take i ++ x :: es.drop i) = true:=by
  rw [qcn,List.all_eq_true] at hb ⊢
  intro v hv
  rcases List.mem_append.1 hv with hv | hv
  ·exact hb v (by simp [List.mem_of_mem_take hv])
  ·rcases List.mem_cons.1 hv with rfl | hv
   ·exact hb v (by simp)
   ·exact hb v (by simp [List.mem_of_mem_drop hv])
 have key:∀ {w':World} {B C:Nat} {cl:List Value} {t':TypeId},w'.os = w.os->w'.tape = w.tape->w'.output = w.output->w.heap.size≤w'.heap.size->(∀ k,k < w.heap.size->k≠g.blk->w'.heap[k]? = w.heap[k]?) →
  ((B = g.blk)∨(w.heap.size≤B))->B < w'.heap.size->w'.heap[B]? = some (.cells cl.toArray t' (0,0))->cl.length = C * 4->es.length + 1≤C->C≤maxLen->cl.take ((es.length + 1) * 4) = (cells.take (es.length * 4)).take (i * 4) ++ u.cells.toList ++ (cells.take (es.length * 4)).drop (i * 4) →
  Out (fun H' o=>H' = [.dead,.mrow 4 (es.take i ++ x :: es.drop i)]∧o = .val (.row 1 (es.length + 1))) w M [g] (.returned (.slice (some ⟨B,0,none⟩) (es.length + 1) C)) w':=fun k1 k2 k3 k4 k5 k6 k7 k8 k9 k10 k11 k12=>by
  have:=q5m hst k1 k2 k3 k4 k5 k6 k7 k8 k9 (by rw [hl'];exact k10) k11 hv' hu' (by rw [hl',hfl];exact k12) hb'
  rw [hl'] at this
  exact this
 have hm63:g.cap≤9223372036854775807:=by unfold maxLen at h3;omega
 rw [had]
 simp only [List.length_cons,List.length_nil,Nat.zero_add]
 by_cases hin:i = es.length
 ·subst hin
  by_cases hroom:es.length + 1≤g.cap
  ·refine (callsIn_wide.2 (qkr g.blk es.length g.cap ad.block ad.off 1 cells.toArray t u.cells.toList w h4 hc4 hroom hm63 hxl hvs h1v)).mono fun e w' he=>?_
   obtain ⟨rfl,rfl⟩:=he
   refine key rfl rfl rfl (by simp [World.setRow]) (fun k hk hne=>setRow_other w g.blk k _ hne) (.inl rfl) (by simpa [World.setRow] using hgl) (setRow_heap w g.blk cells.toArray _ t (0,0) h4) ?_ hroom h3 ?_
   ·simp only [List.length_append,List.length_take,List.length_drop,h5,hxl];omega
   ·have e3:(cells.take (es.length * 4) ++ u.cells.toList).length = (es.length + 1) * 4:=by rw [List.length_append,hcl,hxl];omega
    simp only [List.take_take,Nat.min_self]
    rw [List.take_append_of_le_length (by rw [e3];exact Nat.le_refl _),List.take_of_length_le (by rw [e3];exact Nat.le_refl _),List.drop_of_length_le (by rw [hcl];exact Nat.le_refl _),List.append_nil]
  ·refine (callsIn_wide.2 (qkw g.blk es.length g.cap ad.block ad.off 1 (cells.take (es.length * 4)) u.cells.toList w h2 (by omega) hl hcl hcs hxl hvs h1v)).mono fun e w' he=>?_
   obtain ⟨rfl,rfl⟩:=he
   have hG1:=grownCap_ge w (es.length + 1) g.cap 155
   have hG2:=grownCap_le_maxLen w (es.length + 1) g.cap 155 (by unfold maxLen;omega)
   generalize grownCap w (es.length + 1) g.cap 155 = C at hG1 hG2 ⊢
   obtain ⟨cl,hcl'⟩:∃ cl:List Value,((cells.take (es.length * 4)).toArray ++ u.cells.toList.toArray ++ Builtin.zeroCells zPv (C - (es.length + 1))) = cl.toArray:=⟨_,rfl⟩
   have hz4:zPv.size = 4:=rfl
   have hcll:cl.length = C * 4:=by
    have:=congrArg Array.size hcl'
    rw [Array.size_append,Array.size_append,List.size_toArray,List.size_toArray,hcl,hxl,size_zeroCells,hz4,List.size_toArray] at this
    omega
   have hclt:cl.take ((es.length + 1) * 4) = cells.take (es.length * 4) ++ u.cells.toList:=by
    have h:=congrArg Array.toList hcl'
    rw [Array.toList_append,Array.toList_append] at h
    simp only at h
    rw [← h]
    have e3:(cells.take (es.length * 4) ++ u.cells.toList).length = (es.length + 1) * 4:=by rw [List.length_append,hcl,hxl];omega
    rw [List.take_append_of_le_length (by rw [e3];exact Nat.le_refl _),List.take_of_length_le (by rw [e3];exact Nat.le_refl _)]
   rw [hcl']
   refine key rfl rfl rfl ?_ (fun k hk _=>?_) (.inr (Nat.le_refl _)) ?_ (B:=w.heap.size) (C:=C) (cl:=cl) (t':=155) ?_ hcll hG1 hG2 ?_
   ·show w.heap.size≤(w.heap.push _).size
    simp
   ·show (w.heap.push _)[k]? = _
    simp [Array.getElem?_push,Nat.ne_of_lt hk]
   ·show w.heap.size < (w.heap.push _).size
    simp
   ·show (w.heap.push _)[w.heap.size]? = _
    simp
   ·rw [hclt,List.take_take,Nat.min_self,List.drop_of_length_le (by rw [hcl];exact Nat.le_refl _),List.append_nil]
 ·by_cases hroom:es.length + 1≤g.cap
  ·refine (callsIn_wide.2 (qoj g.blk es.length g.cap i ad.block ad.off 1 cells.toArray t u.cells.toList w (by omega) h4 hc4 hroom hm63 hvb h1c hxl hvs h1v)).mono fun e w' he=>?_
   obtain ⟨rfl,cur',rfl,hs',ht'⟩:=he
   refine key rfl rfl rfl (by simp [World.setRow]) (fun k hk hne=>setRow_other w.drew g.blk k _ hne) (.inl rfl) (by simpa [World.setRow] using hgl) (setRow_heap w.drew g.blk cells.toArray cur' t (0,0) h4) (by rw [Array.length_toList];exact hs') hroom h3 ?_
   rw [ht',List.take_take,Nat.min_eq_left (by omega)]
  ·refine (callsIn_wide.2 (qqi g.blk es.length g.cap i ad.block ad.off 1 (cells.take (es.length * 4)) u.cells.toList w (by omega) h2 (by omega) hl hcl hcs h1c hxl hvs h1v)).mono fun e w' he=>?_
   obtain ⟨rfl,⟨k1,k2,k3,k4,k5⟩,cur',k6,k7,k8⟩:=he
   exact key k1 k2 k3 (by omega) (fun k hk _=>k5 k hk) (.inr (Nat.le_refl _)) (by omega) k6 (by rw [Array.length_toList];exact k7) (grownCap_ge w _ _ _) (grownCap_le_maxLen w _ _ _ (by unfold maxLen;omega)) k8
set_option maxRecDepth 100000

theorem qo6 {x:AV} (hx:x.cells.length = 4∧x.flat):VCalls Tryz.prog 108 [] [.nils,.int .i64 0,.lit 4 [x]] fun H' o=>H' = [.mrow 4 [x]]∧o = .val (.row 0 1):=by
 refine ⟨q77,fun w M G vs hst hv=>?_⟩
 have hlen:=hst.len
 obtain rfl:G = []:=by
  cases G with
  | nil=>rfl
  | cons g r=>simp at hlen
 obtain ⟨v0,r0,rfl,rfl,v1,r1,rfl,⟨rfl,hw1⟩,v2,r2,rfl,⟨a,xs0,hxs,hsl,rfl⟩,rfl⟩:=hv
 obtain ⟨u,ur,rfl,hu,hur⟩:=hxs
 simp only [VRs] at hur
 subst hur
 obtain ⟨_,_,hus,hmem⟩:=hsl
 obtain ⟨ad,rfl⟩:∃ ad,a = some ad:=by
  cases a with
  | none=>exact absurd hmem (by simp)
  | some ad=>exact ⟨ad,rfl⟩
 obtain ⟨hsp,hmem⟩:ad.spot = none∧Mem w M ad.block ad.off ([u].flatMap (·.cells.toList)):=by
  rcases hmem with h | h
  ·simp at h
  ·exact h
 rw [List.flatMap_cons,List.flatMap_nil,List.append_nil] at hmem
 have hxl:u.cells.toList.length = 4:=by rw [Array.length_toList];exact hus u (by simp)
 have hvs:∀ j v,u.cells.toList[j]? = some v->w.cell? ⟨ad.block,ad.off + j,none⟩ = some v:=fun j v hj=>(hmem j v hj).1
 have h1v:=qgh hu hx.2
 have had:ad = ⟨ad.block,ad.off,none⟩:=by cases ad;simp at hsp;simp [hsp]
 rw [had]
 simp only [List.length_cons,List.length_nil,Nat.zero_add]
 refine (callsIn_wide.2 (qul ad.block ad.off 1 u.cells.toList w hxl hvs h1v)).mono fun e w' he=>?_
 obtain ⟨rfl,rfl⟩:=he
 have hG1:=grownCap_ge w 1 0 155
 have hG2:=grownCap_le_maxLen w 1 0 155 (by unfold maxLen;omega)
 generalize grownCap w 1 0 155 = C at hG1 hG2 ⊢
 obtain ⟨cl,hcl'⟩:∃ cl:List Value,(u.cells.toList.toArray ++ Builtin.zeroCells (Value.agg #[.int .i64 0,.string .empty,.int .i64 0,.slice none 0 0]).cells (C - 1)) = cl.toArray:=⟨_,rfl⟩
 have hz4:(Value.agg #[.int .i64 0,.string .empty,.int .i64 0,.slice none 0 0]).cells.size = 4:=rfl
 have hcll:cl.length = C * 4:=by
  have:=congrArg Array.size hcl'
  rw [Array.size_append,List.size_toArray,hxl,size_zeroCells,hz4,List.size_toArray] at this
  omega
 have hclt:cl.take 4 = u.cells.toList:=by
  have h:=congrArg Array.toList hcl'
  rw [Array.toList_append] at h
  simp only at h
  rw [← h,List.take_append_of_le_length (by rw [hxl];exact Nat.le_refl _),List.take_of_length_le (by rw [hxl];exact Nat.le_refl _)]
 rw [hcl']
 let g1:Gh:={ blk:=w.heap.size,cap:=C,fp:=fun b=>b = w.heap.size }
 have hsz:(w.drew.alloc (.cells cl.toArray 155)).heap.size = w.heap.size + 1:=by show (w.heap.push _).size = _;simp
 have hold:∀ b,b < w.heap.size->(w.drew.alloc (.cells cl.toArray 155)).heap[b]? = w.heap[b]?:=fun b hb=>by show (w.heap.push _)[b]? = _;simp [Array.getElem?_push,Nat.ne_of_lt hb]
 have hnew:(w.drew.alloc (.cells cl.toArray 155)).heap[w.heap.size]? = some (.cells cl.toArray 155 (0,0)):=by show (w.heap.push _)[w.heap.size]? = _;simp
 have hle:Le w M (w.drew.alloc (.cells cl.toArray 155)) M:=fun b o hm=>⟨hm,World.cell?_of_block (w:=w) (hold b (hst.Mlt b o hm))⟩
 have hu':VR (w.drew.alloc (.cells cl.toArray 155)) M [g1] x u:=qjs (fun i g hg=>by simp at hg) hle hu
 have hE:qf4 (w.drew.alloc (.cells cl.toArray 155)) M ([] ++ [g1]) g1 (.mrow 4 [x]):=by
  refine ⟨fun b=>Iff.rfl,⟨hG1,hG2,cl,_,[u],hnew,hcll,⟨u,[],rfl,hu',rfl⟩,hus,?_⟩,fun o hm=>?_⟩
  ·rw [List.flatMap_cons,List.flatMap_nil,List.append_nil];exact hclt
  ·have:=hst.Mlt _ o hm
   exact Nat.lt_irrefl _ this
 refine ⟨M,[g1],_,_,⟨rfl,rfl⟩,?_,?_,⟨g1,rfl,rfl⟩⟩
 ·exact qen (g:=g1) hst rfl rfl rfl (by omega) hold (fun _ _ h=>h) (fun _ _ h=>.inl h) (fun b hb=>by have hb:b = w.heap.size:=hb;omega)
 ·exact qe8 (g:=g1) hst (by omega) hold (fun _ _ h=>h) (fun _ _ h=>.inl h) (fun b o hm=>by have:=hst.Mlt b o hm;omega) (fun b hb=>by have hb:b = w.heap.size:=hb;omega) hE
end Go.Proofs
