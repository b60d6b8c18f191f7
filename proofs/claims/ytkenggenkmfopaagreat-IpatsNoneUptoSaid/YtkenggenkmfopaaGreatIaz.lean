/- Texts of this proof, joined. -/
import Derived.Test.YtkenggenkmfopaaGreatIax
import Derived.Test.YtkenggenkmfopaaGreatProg
import Derived.Test.YtkenggenkmfopaaGreatIaq
import Derived.Shelf.Spec.SlicesInsert
import Derived.Lib.AppendZerosOnto
import Derived.Deep.AppendSrc
set_option linter.unusedVariables false
set_option linter.unusedSimpArgs false

/- substitutions: the search -/
set_option maxRecDepth 4000
namespace Go.Proofs.YtkenggenkmfopaaGreat
open Go Go.RowKit Go.V

def cmpI(a b:Int):Int:=if a<b then -1 else if b<a then 1 else 0
theorem qcku(p:Pr)(v:Int):qp Tryz.prog 156 [encR p,.int .i64 v] (.int .i64 (cmpI p.v v)):=by
 refine qe c0cv (by simp) (by simp only[go_sem]) rfl fun hw=>?_
 repeat'(first|refine vs_ ?_|((first|refine vr_ ?_|(refine cs_ ?_ ?_<;>intro hc)|refine cj_ ?_)<;>try refine ev_ ?_)|with_reducible exact ti_)
 ·rw[cmpI,if_pos (by assumption)]
 ·rw[cmpI,if_neg (by omega),if_pos (by omega)]
 ·rw[cmpI,if_neg (by omega),if_neg (by omega)]
theorem qy6(a b:Int):(cmpI a b<0)=(a<b):=by
 rw[cmpI];refine propext ?_
 split
 ·omega
 ·split<;>omega
theorem qut(a b:Int):(cmpI a b=0)=(a=b):=by
 rw[cmpI];refine propext ?_
 split
 ·omega
 ·split<;>omega
def qgy(s:List Pr)(v:Int):AV:=.tup [.int .i64 (ahdR v s),.bool (q6 v s).isSome]
theorem qcly{i j:Nat}(h:i+j≤1000000000):IntKind.i64.wrap ((IntKind.u64.wrap (IntKind.i64.wrap ((i:Int)+(j:Int)))).fdiv (2 ^ 1))=(((i+j) / 2:Nat):Int):=by
 have e1:IntKind.i64.wrap ((i:Int)+(j:Int))=(i:Int)+j:=qz (by omega) (by omega)
 have e2:IntKind.u64.wrap ((i:Int)+(j:Int))=(i:Int)+j:=qk5 (by omega) (by omega)
 rw[e1,e2,show(2:Int) ^ 1=2 from rfl,Int.fdiv_eq_ediv_of_nonneg _ (by omega),qz (by omega) (by omega)]
 omega
abbrev qcu(s:List Pr):Ent:=.mrow 4 (qck s)
theorem qja(s:List Pr)(k:Nat):(qcu s).bd k=true:=qem k s
theorem qbpq{s:List Pr}(hs:risR s)(hl:s.length≤100000)(v:Int):VM Tryz.prog 155 (qcu s) (qcu s) [.row 0 s.length,.int .i64 v,.fn 156 [] []] (qgy s v):=by
 refine qd c0ct 1 (by simp) (by simp) ?_
 have hA:=qst v s
 have hml:s.length≤maxLen:=by unfold maxLen;omega
 repeat'(first|refine vs_ ?_|((first|refine vr_ ?_|(refine cs_ ?_ ?_<;>intro hc)|refine cj_ ?_|simp (disch:=omega) only[qa,qc])<;>try refine ev_ ?_)|with_reducible exact ti_)
 refine qo (S:=Nat×Nat) (fun x=>x.1≤ahdR v s∧ahdR v s≤x.2∧x.2≤s.length) (fun x=>(⟨[(0,.row 0 s.length),(1,.int .i64 v),(2,.fn 156 [] []),(8,.int .i64 s.length),(9,.int .i64 x.1),(10,.int .i64 x.2)],[]⟩,[qcu s])) (fun x=>x.2-x.1) ?_ fun x hx=>?_
 ·refine qj (0,s.length) [0] ⟨Nat.zero_le _,hA,Nat.le_refl _⟩ rfl (by simp) ?_ ?_ ?_<;>(try refine ev_ ?_)<;>(try with_reducible exact ti_)<;>(try simp (disch:=omega) only[qc,and_true,true_and])
 ·obtain⟨i,j⟩:=x
  obtain⟨h1,h2,h3⟩:=hx
  dsimp only at h1 h2 h3
  have hh:=qcly (i:=i) (j:=j) (by omega)
  by_cases hlt:i<j
  ·have hm:(i+j) / 2<s.length:=by omega
   have hp:=qc3 hm
   have hlo:(s.getD ((i+j) / 2) R0).v<v->(i+j) / 2+1≤ahdR v s:=fun h=>by
    by_cases hk:(i+j) / 2<ahdR v s
    ·omega
    ·have:=q65 (v:=v) hs ((i+j) / 2) (by omega) hm;omega
   have hhi:¬(s.getD ((i+j) / 2) R0).v<v->ahdR v s≤(i+j) / 2:=fun h=>by
    by_cases hk:(i+j) / 2<ahdR v s
    ·exact absurd (qba0 v s _ hk) h
    ·omega
   have hw1:IntKind.i64.wrap ((((i+j) / 2:Nat):Int)+1)=(((i+j) / 2+1:Nat):Int):=by rw[qz (by omega) (by omega)];omega
   repeat'(first|refine vs_ ?_|(refine vr_ ?_<;>try simp only[hh,hp,hw1,Int.toNat_natCast,qy6,go_sem,↓reduceIte])|((first|simp (disch:=omega) only[hh,Int.toNat_natCast]|simp (disch:=omega) only[hp]|simp (disch:=omega) only[qy6]|(refine cs_ ?_ ?_<;>intro hc)|refine cj_ ?_|simp (disch:=omega) only[qa,qc]|refine qb (qcku _ _) fun _=>?_)<;>try refine ev_ ?_)|with_reducible exact ti_)
   all_goals try(exfalso;omega)
   ·refine qj ((i+j) / 2+1,j) [0] ⟨⟨hlo (by assumption),h2,h3⟩,by dsimp only;omega⟩ rfl (by simp) ?_ ?_ ?_<;>(try refine ev_ ?_)<;>(try with_reducible exact ti_)<;>(try simp (disch:=omega) only[qc,and_true,true_and])
   ·refine qj (i,(i+j) / 2) [0] ⟨⟨h1,hhi (by assumption),by dsimp only;omega⟩,by dsimp only;omega⟩ rfl (by simp) ?_ ?_ ?_<;>(try refine ev_ ?_)<;>(try with_reducible exact ti_)<;>(try simp (disch:=omega) only[qc,and_true,true_and])
  ·have hij:i=ahdR v s:=by omega
   by_cases hin:i<s.length
   ·have hp:=qc3 hin
    have hf:qgy s v=.tup [.int .i64 i,.bool (decide ((s.getD i R0).v=v))]:=by
     rw[qgy,ql3 hs,←hij]
     by_cases hv:(s.getD i R0).v=v
     ·rw[if_pos ⟨hin,hv⟩,decide_eq_true hv];rfl
     ·rw[if_neg (fun h=>hv h.2),decide_eq_false hv];rfl
    rw[hf]
    repeat'(first|refine vs_ ?_|(refine vr_ ?_<;>try simp only[hp,qut,go_sem,↓reduceIte])|((first|simp (disch:=omega) only[hp]|simp (disch:=omega) only[qut]|(refine cs_ ?_ ?_<;>intro hc)|refine cj_ ?_|simp (disch:=omega) only[qa,qc]|refine qb (qcku _ _) fun _=>?_)<;>try refine ev_ ?_)|with_reducible exact ti_)
    all_goals try(exfalso;omega)
   ·have hf:qgy s v=.tup [.int .i64 i,.bool false]:=by
     rw[qgy,ql3 hs,←hij,if_neg (fun h=>hin h.1)];rfl
    rw[hf]
    repeat'(first|refine vs_ ?_|((first|refine vr_ ?_|(refine cs_ ?_ ?_<;>intro hc)|refine cj_ ?_|simp (disch:=omega) only[qa,qc])<;>try refine ev_ ?_)|with_reducible exact ti_)
    all_goals try(exfalso;omega)
end Go.Proofs.YtkenggenkmfopaaGreat

/- slices.Insert of a pair: what it does -/
set_option maxRecDepth 100000
namespace Go.V
open Go Go.RowKit Go.Proofs Go.Lib Go.Shelf
set_option linter.unusedSectionVars false

section
variable {P:Program}
theorem qes(w:World)(dT sT ty elem:TypeId)(g o dLen dCap:Nat)(a:Addr)(sLen sCap:Nat)(cur:Array Value)(t:TypeId)(q k:Nat)(cs:List Value)
 (hu:P.underlying dT=some (.slice elem)) (hs:(P.info? elem).map (·.size)=some k) (hg:w.heap[g]?=some (.cells cur t (0,0))) (hq:q=Nat.min sLen dLen) (hn:cs.length=q*k)
 (hsrc:∀j v,cs[j]?=some v->w.cell? (a.add j)=some v) (hfit:o+cs.length≤cur.size) (h1:∀v∈cs,v.oneCell'=true) :
 (Builtin.copy_ #[dT,sT] ty #[.slice (some ⟨g,o,none⟩) dLen dCap,.slice (some a) sLen sCap]).run P w =
  .ok (goInt q) (w.setRow g (cur.toList.take o++cs++cur.toList.drop (o+cs.length)).toArray):=by
 have hst:=run_storeCells_at P g o t cs 0 cur w hg (by simpa using hfit) h1
 cases hi:P.info? elem with
 | none=>simp[hi] at hs
 | some i =>
   have hik:i.size=k:=by simpa [hi] using hs
   have hl:=run_firstCells_some (P:=P) w k q a sLen sCap cs hn hsrc
   simp only[Nat.add_zero] at hst
   simp[Builtin.copy_,run_underlying hu,Builtin.lenOf,sizeOf,typeInfo,hi,hik,←hq,hl,hst]
theorem qlz(w:World)(t ty e:TypeId)(i:TypeInfo)(ht:P.underlying t=some (.slice e))(hi:P.info? e=some i)
 (g sLen sCap:Nat) (cur:Array Value) (t0:TypeId) (hg:w.heap[g]?=some (.cells cur t0 (0,0)))
 (a:Addr) (m c:Nat) (news:List Value) (hl:news.length=m*i.size) (hnews:∀j u,news[j]?=some u->w.cell? (a.add j)=some u) (h1:∀u∈news,u.oneCell'=true)
 (hroom:sLen+m≤sCap) (hfit:sLen*i.size+news.length≤cur.size) :
 (Builtin.append_ #[t,t] ty #[.slice (some ⟨g,0,none⟩) sLen sCap,.slice (some a) m c]).run P w =
  .ok (.slice (some ⟨g,0,none⟩) (sLen+m) sCap) (w.setRow g (cur.toList.take (sLen*i.size)++news++cur.toList.drop (sLen*i.size+news.length)).toArray):=by
 have hf:=run_firstCells_some (P:=P) w i.size m a m c news hl hnews
 have hst:=run_storeCells_at P g (sLen*i.size) t0 news 0 cur w hg (by simpa using hfit) h1
 simp only[Nat.add_zero] at hst
 simp[Builtin.append_,run_underlying ht,sizeOf,typeInfo,hi,Builtin.lenOf,hroom,hf,Addr.add_lit,hst]
theorem qlx(w:World)(tS tR e:TypeId)(ht:P.underlying tS=some (.slice e))(size:Nat)(hz:∀w,(Go.sizeOf e).run P w=.ok size w)
 (a b:Addr) (la ca lb cb:Nat) (hne:a.block≠b.block) (tA tB:TypeId) (kA kB:Nat)
 (hsa:w.shape? a.block=some (tA,kA)) (hsb:w.shape? b.block=some (tB,kB)) (hkA:kA≠0)
 (hfb:w.frozen? b=false) (hfe:w.frozen? { block:=b.block,off:=kB }=false) :
 (Extern.SlicesOverlaps.overlaps #[tS,tS] #[tR] #[.slice (some a) la ca,.slice (some b) lb cb]).run P w=.ok (.bool false) w:=by
 have hnb:(a.block != b.block)=true:=by simpa using hne
 have hnb':(a.block == b.block)=false:=by simpa using hne
 change Sem.run P (α:=Value) (do
  let some t := (#[tS, tS] : Array TypeId)[0]? | stuck "slices.overlaps: no parameter types"
  let .slice elem ← underlying t | stuck "slices.overlaps: slice type expected"
  let size ←sizeOf elem
  match (some a:Option Addr),(some b:Option Addr) with
  | some a, some b =>
    if la=0∨lb=0∨size=0 then pure (Value.bool false)
    else if a.block != b.block&&(←frozen a)&&(←frozen b) then unsupported .addressObserved
    else do
     if a.block != b.block then do
      noView a;noView b
      if ← mayBeOne a b then return Value.bool ((← choose (.extern "sameAddr.stringBytes" 2)) == 1)
     pure (Value.bool (a.block == b.block&&a.off<b.off+lb*size&&b.off<a.off+la*size))
  | _,_=>pure (Value.bool false)) w=_
 by_cases h0:la=0∨lb=0∨size=0
 ·simp[run_underlying ht,hz,h0]
 ·cases kA with
  | zero=>exact absurd rfl hkA
  | succ kA =>
    cases hf1:w.frozen? a<;>cases hf2:w.frozen? { block:=a.block,off:=kA+1 } <;>
     simp[run_underlying ht,hz,h0,hnb,hnb',frozen,noView,viewAt,mayBeOne,stringish,shape,Sem.run,hsa,hsb,hfb,hfe,hf1,hf2]
end
end Go.V
namespace Go.Proofs
open Go Go.RowKit Go.V Go.Lib Go.Shelf
theorem qjl:(Tryz.prog.info? 155).map (fun i=>(i.zero,i.size,i.bytes))=some (some (.agg #[.int .i64 0,.string .empty,.int .i64 0,.slice none 0 0]),4,56):=by kernel_rfl
theorem qti:Tryz.prog.follows .mixedOrders=true:=by kernel_rfl
set_option maxHeartbeats 1000000 in
theorem q3a(vb voff vc:Nat)(xs:List Value)(w:World)(hvl:xs.length=4)(hvs:∀j v,xs[j]?=some v->w.cell? ⟨vb,voff+j,none⟩=some v)(h1v:∀v∈xs,v.oneCell'=true):
 Calls Tryz.prog 108 #[.slice none 0 0,.int .i64 0,.slice (some ⟨vb,voff,none⟩) 1 vc] w fun e w' =>
  e=.returned (.slice (some ⟨w.heap.size,0,none⟩) 1 (grownCap w 1 0 155)) ∧
  w'=w.drew.alloc (.cells (xs.toArray++Builtin.zeroCells (Value.agg #[.int .i64 0,.string .empty,.int .i64 0,.slice none 0 0]).cells (grownCap w 1 0 155-1)) 155):=by
 obtain⟨i0,hi0,hz0,hzs,hzb⟩:=info_parts qjl
 have mixed:=qti
 have hrun:∀ty,(Builtin.append_ #[32,32] ty #[.slice none 0 0,.slice (some ⟨vb,voff,none⟩) 1 vc]).run Tryz.prog w=_:=fun ty =>
  run_append_nil w 32 ty 155 i0 _ Tryz.underlying32 hi0 hz0 ⟨vb,voff,none⟩ 1 vc xs (by rw[hvl,hzs]) (fun j v hj=>by rw[Addr.add_lit];exact hvs j v hj) (by omega) (by omega) (by rw[hzb];omega)
 go_enter Tryz.func108,Tryz.ntmps108
 go_wp2_with (at_builtin;refine Lib.wpList_append_run _ rfl _ _ _ _ rfl _ _ rfl rfl _ _ (hrun _) ?_)
 go_ret
 exact⟨rfl,rfl⟩
end Go.Proofs

/- slices.Insert of a pair: its other roads -/
set_option maxRecDepth 100000
namespace Go.Proofs
open Go Go.RowKit Go.V Go.Lib Go.Shelf

abbrev zPv:Array Value:=(Value.agg #[.int .i64 0,.string .empty,.int .i64 0,.slice none 0 0]).cells
set_option maxHeartbeats 1000000 in
theorem qng(b n c vb voff vc:Nat)(cur:Array Value)(t0:TypeId)(xs:List Value)(w:World)(hg:w.heap[b]?=some (.cells cur t0 (0,0)))(hc:cur.size=c*4)(hroom:n+1≤c)(hc63:c≤9223372036854775807)
 (hvl:xs.length=4) (hvs:∀j v,xs[j]?=some v->w.cell? ⟨vb,voff+j,none⟩=some v) (h1v:∀v∈xs,v.oneCell'=true) :
 Calls Tryz.prog 108 #[.slice (some ⟨b,0,none⟩) n c,.int .i64 n,.slice (some ⟨vb,voff,none⟩) 1 vc] w fun e w' =>
  e=.returned (.slice (some ⟨b,0,none⟩) (n+1) c)∧w'=w.setRow b (cur.toList.take (n*4)++xs++cur.toList.drop (n*4+4)).toArray:=by
 obtain⟨i0,hi0,hz0,hzs,hzb⟩:=info_parts qjl
 have mixed:=qti
 have hrun:∀ty,(Builtin.append_ #[32,32] ty #[.slice (some ⟨b,0,none⟩) n c,.slice (some ⟨vb,voff,none⟩) 1 vc]).run Tryz.prog w=_:=fun ty =>
  qlz w 32 ty 155 i0 Tryz.underlying32 hi0 b n c cur t0 hg ⟨vb,voff,none⟩ 1 vc xs (by rw[hvl,hzs]) (fun j v hj=>by rw[Addr.add_lit];exact hvs j v hj) h1v hroom (by rw[hvl,hzs,hc];omega)
 rw[hvl,hzs] at hrun
 go_enter Tryz.func108,Tryz.ntmps108
 go_wp2_with (at_builtin;refine Lib.wpList_append_run _ rfl _ _ _ _ rfl _ _ rfl rfl _ _ (hrun _) ?_)
 go_ret
 exact⟨rfl,by rw[List.append_assoc]⟩
set_option maxHeartbeats 1000000 in
theorem qom(b n c vb voff vc:Nat)(cs xs:List Value)(w:World)(hnc:n≤c)(hroom:c<n+1)(hbig:n≤1000000)(hcl:cs.length=n*4)(hcs:∀j v,cs[j]?=some v->w.cell? ⟨b,j,none⟩=some v)
 (hvl:xs.length=4) (hvs:∀j v,xs[j]?=some v->w.cell? ⟨vb,voff+j,none⟩=some v) (h1v:∀v∈xs,v.oneCell'=true) :
 Calls Tryz.prog 108 #[.slice (some ⟨b,0,none⟩) n c,.int .i64 n,.slice (some ⟨vb,voff,none⟩) 1 vc] w fun e w' =>
  e=.returned (.slice (some ⟨w.heap.size,0,none⟩) (n+1) (grownCap w (n+1) c 155)) ∧
  w'=w.drew.alloc (.cells (cs.toArray++xs.toArray++Builtin.zeroCells zPv (grownCap w (n+1) c 155-(n+1))) 155):=by
 obtain⟨i0,hi0,hz0,hzs,hzb⟩:=info_parts qjl
 have mixed:=qti
 have hrun:∀ty,(Builtin.append_ #[32,32] ty #[.slice (some ⟨b,0,none⟩) n c,.slice (some ⟨vb,voff,none⟩) 1 vc]).run Tryz.prog w=_:=fun ty =>
  Go.run_append_grow w 32 ty 155 i0 _ Tryz.underlying32 hi0 hz0 ⟨b,0,none⟩ n c cs (by rw[hcl,hzs]) (fun j v hj=>by rw[Addr.add_lit,Nat.zero_add];exact hcs j v hj) ⟨vb,voff,none⟩ 1 vc xs (by rw[hvl,hzs]) (fun j v hj=>by rw[Addr.add_lit];exact hvs j v hj) hroom (by omega) (by rw[hzb];exact growslice_fits hroom (by omega))
 go_enter Tryz.func108,Tryz.ntmps108
 go_wp2_with (at_builtin;refine Lib.wpList_append_run _ rfl _ _ _ _ rfl _ _ rfl rfl _ _ (hrun _) ?_)
 all_goals(go_ret;exact⟨rfl,rfl⟩)
set_option maxHeartbeats 4000000 in
theorem qtg(b n c i vb voff vc:Nat)(cur:Array Value)(t0:TypeId)(xs:List Value)(w:World)(hi:i<n)(hg:w.heap[b]?=some (.cells cur t0 (0,0)))(hc:cur.size=c*4)(hroom:n+1≤c)(hc63:c≤9223372036854775807)(hvb:vb≠b)
 (h1c:∀v∈cur.toList.take (n*4),v.oneCell'=true) (hvl:xs.length=4) (hvs:∀j v,xs[j]?=some v->w.cell? ⟨vb,voff+j,none⟩=some v) (h1v:∀v∈xs,v.oneCell'=true) :
 Calls Tryz.prog 108 #[.slice (some ⟨b,0,none⟩) n c,.int .i64 i,.slice (some ⟨vb,voff,none⟩) 1 vc] w fun e w' =>
  e=.returned (.slice (some ⟨b,0,none⟩) (n+1) c)∧∃cur',w'=w.drew.setRow b cur'∧cur'.size=c*4∧cur'.toList.take ((n+1)*4)=cur.toList.take (i*4)++xs++(cur.toList.take (n*4)).drop (i*4):=by
 obtain⟨i0,hi0,hz0,hzs,hzb⟩:=info_parts qjl
 have mixed:=qti
 have hsz:(Tryz.prog.info? 155).map (·.size)=some 4:=by rw[hi0];simp[hzs]
 have hsO:∀w,(Go.sizeOf 155).run Tryz.prog w=.ok 4 w:=fun w=>by simp[Go.sizeOf,typeInfo,hi0,hzs]
 obtain⟨x0,hx0⟩:∃v,xs[0]?=some v:=⟨_,List.getElem?_eq_getElem (by omega)⟩
 have hv0:=hvs 0 x0 hx0
 obtain⟨tA,kA,hsa,hkA⟩:∃tA kA,w.shape? vb=some (tA,kA)∧kA≠0:=by
  unfold World.cell? at hv0
  unfold World.shape?
  simp only at hv0
  split at hv0
  ·rename_i cs' t' f' hh
   refine⟨_,_,by simp[hh];exact⟨rfl,rfl⟩,?_⟩
   intro h0
   simp[h0] at hv0
  ·cases hv0
 have hsb:w.shape? b=some (t0,cur.size):=by simp[World.shape?,hg]
 have hfr:∀k,w.frozen? ⟨b,k,none⟩=false:=fun k=>by simp[World.frozen?,hg]
 have hov:∀lb cb,(callFunc 157 #[.slice (some ⟨vb,voff,none⟩) 1 vc,.slice (some ⟨b,(i+1)*4,none⟩) lb cb]).run Tryz.prog w=.ok (.value (.bool false)) w:=fun lb cb=>by
  rw[run_callFunc_extern Tryz.func157 (by kernel_rfl) (by kernel_rfl) (by kernel_rfl) (e:=Extern.SlicesOverlaps.overlaps #[32,32] #[4]) (by kernel_rfl),
   qlx w 32 4 155 Tryz.underlying32 4 hsO ⟨vb,voff,none⟩ ⟨b,(i+1)*4,none⟩ 1 vc lb cb hvb tA t0 kA cur.size hsa hsb hkA (hfr _) (hfr _)]
  rfl
 have hl:cur.toList.length=c*4:=by rw[Array.length_toList];exact hc
 obtain⟨cs,hcs⟩:∃cs,cs=(cur.toList.take (n*4)).drop (i*4):=⟨_,rfl⟩
 have hcl:cs.length=(n-i)*4:=by rw[hcs,List.length_drop,List.length_take,hl,Nat.sub_mul];omega
 have hcget:∀j v,cs[j]?=some v->w.drew.cell? ⟨b,i*4+j,none⟩=some v:=fun j v hj=>by
  have hjl:=(List.getElem?_eq_some_iff.1 hj).1
  rw[hcs,List.getElem?_drop,List.getElem?_take_of_lt (by omega)] at hj
  have:w.drew.heap[b]?=some (.cells cur t0 (0,0)):=hg
  simp[World.cell?,this]
  simpa using hj
 have h1s:∀v∈cs,v.oneCell'=true:=fun v hv=>h1c v (by rw[hcs] at hv;exact List.mem_of_mem_drop hv)
 obtain⟨cur1,hc1⟩:∃cur1:Array Value,cur1=(cur.toList.take ((i+1)*4)++cs++cur.toList.drop ((i+1)*4+cs.length)).toArray:=⟨_,rfl⟩
 have hcp1:∀ty dc sc,(Builtin.copy_ #[32,32] ty #[.slice (some ⟨b,(i+1)*4,none⟩) (n-i) dc,.slice (some ⟨b,i*4,none⟩) (n+1-i) sc]).run Tryz.prog w.drew=.ok (goInt ((n-i:Nat):Int)) (w.drew.setRow b cur1):=fun ty dc sc=>by
  rw[hc1]
  exact qes w.drew _ _ ty 155 b ((i+1)*4) (n-i) dc ⟨b,i*4,none⟩ (n+1-i) sc cur t0 (n-i) 4 cs Tryz.underlying32 hsz hg (by simp only[Nat.min_def];split<;>omega) hcl
   (fun j v hj=>by rw[Addr.add_lit];exact hcget j v hj) (by rw[hcl,hc,Nat.sub_mul];omega) h1s
 have hg1:(w.drew.setRow b cur1).heap[b]?=some (.cells cur1 t0 (0,0)):=setRow_heap w.drew b cur cur1 t0 (0,0) hg
 have hs1:cur1.toList.length=c*4:=by
  rw[hc1]
  simp only[List.length_append,List.length_take,List.length_drop,hl,hcl,Nat.sub_mul]
  omega
 obtain⟨cur2,hc2⟩:∃cur2:Array Value,cur2=(cur1.toList.take (i*4)++xs++cur1.toList.drop (i*4+xs.length)).toArray:=⟨_,rfl⟩
 have hcp2:∀ty dc,(Builtin.copy_ #[32,32] ty #[.slice (some ⟨b,i*4,none⟩) (n+1-i) dc,.slice (some ⟨vb,voff,none⟩) 1 vc]).run Tryz.prog (w.drew.setRow b cur1)=.ok (goInt 1) (w.drew.setRow b cur2):=fun ty dc=>by
  have h:=qes (P:=Tryz.prog) (w.drew.setRow b cur1) 32 32 ty 155 b (i*4) (n+1-i) dc ⟨vb,voff,none⟩ 1 vc cur1 t0 1 4 xs Tryz.underlying32 hsz hg1 (by simp only[Nat.min_def];split<;>omega) (by rw[hvl])
   (fun j v hj=>by
    rw[Addr.add_lit,World.cell?_of_block (w:=w.drew) (setRow_other w.drew b vb cur1 hvb)]
    exact hvs j v hj) (by rw[←Array.length_toList,hs1,hvl];omega) h1v
  rw[←hc2,setRow_setRow] at h
  exact h
 have h2s:cur2.size=c*4:=by
  rw[hc2,List.size_toArray]
  simp only[List.length_append,List.length_take,List.length_drop,hs1,hvl]
  omega
 have h2t:cur2.toList.take ((n+1)*4)=cur.toList.take (i*4)++xs++(cur.toList.take (n*4)).drop (i*4):=by
  rw[hc2,←hcs]
  have e1:cur1.toList.take (i*4)=cur.toList.take (i*4):=by
   rw[hc1,List.append_assoc,List.take_append_of_le_length (by rw[List.length_take,hl];omega),List.take_take]
   congr 1;omega
  have e2:cur1.toList.drop (i*4+xs.length)=cs++cur.toList.drop ((i+1)*4+cs.length):=by
   rw[hc1,List.append_assoc,List.drop_append_of_le_length (by rw[List.length_take,hl,hvl];omega),List.drop_of_length_le (by rw[List.length_take,hl,hvl];omega),List.nil_append]
  rw[e1,e2]
  have e3:(cur.toList.take (i*4)++xs++cs).length=(n+1)*4:=by
   simp only[List.length_append,List.length_take,hl,hvl,hcl,Nat.sub_mul];omega
  rw[←List.append_assoc,List.take_append_of_le_length (by rw[e3];exact Nat.le_refl _),List.take_of_length_le (by rw[e3];exact Nat.le_refl _)]
 have hw1:IntKind.i64.wrap ((i:Int)+1)=(i:Int)+1:=by rw[IntKind.wrap_i64];omega
 have hw2:IntKind.i64.wrap ((n:Int)+1)=(n:Int)+1:=by rw[IntKind.wrap_i64];omega
 have hz2:¬((i:Int)=(n:Int)):=by omega
 have hz3:¬((c:Int)<(n:Int)+1):=by omega
 have htn:((i:Int)+1).toNat=i+1:=by omega
 have hb1:(0:Int)≤(i:Int)+1:=by omega
 have hin:i≤n:=by omega
 have hb2:¬(c=i+1):=by omega
 have hb3:(i:Int)≤(n:Int)+1:=by omega
 have hb4:¬(c=i):=by omega
 clear hc1 hc2 hcs hcl hcget hs1 hg1
 go_enter Tryz.func108,Tryz.ntmps108
 go_wp2_with (simp only[hov])
 go_region_law_o (refine step_copy_runI rfl _ _ 32 32 rfl (.slice (some ⟨b,(i+1)*4,none⟩) (n-i) (c-(i+1))) (.slice (some ⟨b,i*4,none⟩) (n+1-i) (c-i)) (by simp[Act.eval,Act.put]) (by simp[Act.eval,Act.put]) (hcp1 3 (c-(i+1)) (c-i)) ?_)
 go_wp2_with (at_builtin;refine wpList_copy_runI _ rfl _ _ 32 32 rfl _ _ rfl rfl (hcp2 _ _) ?_)
 go_ret
 exact⟨rfl,cur2,rfl,h2s,h2t⟩
set_option maxRecDepth 100000

set_option maxHeartbeats 4000000 in
theorem qx0(b n c i vb voff vc:Nat)(cs xs:List Value)(w:World)(hi:i<n)(hnc:n≤c)(hroom:c<n+1)(hbig:n≤1000000)(hcl:cs.length=n*4)(hcs:∀j v,cs[j]?=some v->w.cell? ⟨b,j,none⟩=some v)
 (h1c:∀v∈cs,v.oneCell'=true) (hvl:xs.length=4) (hvs:∀j v,xs[j]?=some v->w.cell? ⟨vb,voff+j,none⟩=some v) (h1v:∀v∈xs,v.oneCell'=true) :
 Calls Tryz.prog 108 #[.slice (some ⟨b,0,none⟩) n c,.int .i64 i,.slice (some ⟨vb,voff,none⟩) 1 vc] w fun e w' =>
  e=.returned (.slice (some ⟨w.heap.size,0,none⟩) (n+1) (grownCap w (n+1) c 155)) ∧
  (w'.os=w.os∧w'.tape=w.tape∧w'.output=w.output∧w'.heap.size=w.heap.size+1∧∀k,k<w.heap.size->w'.heap[k]?=w.heap[k]?) ∧
  ∃cur':Array Value,w'.heap[w.heap.size]?=some (.cells cur' 155 (0,0))∧cur'.size=grownCap w (n+1) c 155*4∧cur'.toList.take ((n+1)*4)=cs.take (i*4)++xs++cs.drop (i*4):=by
 obtain⟨i0,hi0,hz0,hzs,hzb⟩:=info_parts qjl
 have mixed:=qti
 have hsz:(Tryz.prog.info? 155).map (·.size)=some 4:=by rw[hi0];simp[hzs]
 have hz2:¬((i:Int)=(n:Int)):=by omega
 have hz3:(c:Int)<(n:Int)+1:=by omega
 have hbw:b<w.heap.size:=block_lt_of_cell (hcs 0 _ (List.getElem?_eq_getElem (by omega)))
 have hvw:vb<w.heap.size:=block_lt_of_cell (hvs 0 _ (List.getElem?_eq_getElem (by omega)))
 have hkk:(n:Int)+1-(i:Int)=((n+1-i:Nat):Int):=by omega
 have hik:i+(n+1-i)=n+1:=by omega
 have hold:(Builtin.firstCells i0.size i (.slice (some ⟨b,0,none⟩) i c)).run Tryz.prog w.drew=.ok (cs.take (i*4)).toArray w.drew:=by
  rw[hzs]
  exact run_firstCells_some w.drew 4 i ⟨b,0,none⟩ i c (cs.take (i*4)) (by rw[List.length_take];omega) (fun j v hj=>by
   rw[Addr.add_lit,Nat.zero_add]
   rw[List.getElem?_take] at hj
   split at hj
   ·exact hcs j v hj
   ·cases hj)
 obtain⟨G,hG⟩:∃G,G=grownCap w (n+1) c 155:=⟨_,rfl⟩
 have hGn:n+1≤G:=by rw[hG];exact grownCap_ge w _ _ _
 have hG63:G≤9223372036854775807:=by
  have:=grownCap_le_maxLen w (n+1) c 155 (by unfold maxLen;omega)
  rw[←hG] at this
  unfold maxLen at this
  omega
 obtain⟨ROW,hROW⟩:∃ROW:Array Value,ROW=(cs.take (i*4)).toArray++Builtin.zeroCells zPv (n+1-i)++Builtin.zeroCells zPv (G-(n+1)):=⟨_,rfl⟩
 have hrz:∀ty,(Builtin.append_ #[32,3] ty #[.slice (some ⟨b,0,none⟩) i c,.int .i64 ((n:Int)+1-(i:Int))]).run Tryz.prog w =
  .ok (.slice (some ⟨w.heap.size,0,none⟩) (n+1) G) (w.drew.alloc (.cells ROW 155)):=fun ty=>by
  have h:=Lib.run_append_grow_zeros w 32 3 ty 155 i0 _ .i64 .i64 Tryz.underlying32 Tryz.underlying3 hi0 hz0 (some ⟨b,0,none⟩) i c (cs.take (i*4)) hold (n+1-i) (by omega) (by omega) (by omega) (by omega) (by rw[hzb];omega) (by rw[hzb,hik];exact growslice_fits hroom (by omega))
  rw[hik,←hG,←hROW] at h
  rw[hkk]
  exact h
 have hz4:zPv.size=4:=rfl
 have hRs:ROW.toList.length=G*4:=by
  rw[hROW]
  simp only[Array.length_toList,Array.size_append,List.size_toArray,List.length_take,size_zeroCells,hz4,hcl]
  omega
 have hRt:ROW.toList.take (i*4)=cs.take (i*4):=by
  rw[hROW,Array.toList_append,Array.toList_append,List.append_assoc,List.take_append_of_le_length (by rw[List.length_take];omega),List.take_take,Nat.min_self]
 obtain⟨N,hN⟩:∃N,N=w.heap.size:=⟨_,rfl⟩
 obtain⟨cur1,hc1⟩:∃cur1:Array Value,cur1=(ROW.toList.take (i*4)++xs++ROW.toList.drop (i*4+xs.length)).toArray:=⟨_,rfl⟩
 have hs1:cur1.toList.length=G*4:=by
  rw[hc1]
  simp only[List.length_append,List.length_take,List.length_drop,hRs,hvl]
  omega
 obtain⟨ds,hds⟩:∃ds,ds=cs.drop (i*4):=⟨_,rfl⟩
 have hdl:ds.length=(n-i)*4:=by rw[hds,List.length_drop,hcl,Nat.sub_mul]
 obtain⟨cur2,hc2⟩:∃cur2:Array Value,cur2=(cur1.toList.take ((i+1)*4)++ds++cur1.toList.drop ((i+1)*4+ds.length)).toArray:=⟨_,rfl⟩
 have h2s:cur2.size=G*4:=by
  rw[hc2,List.size_toArray]
  simp only[List.length_append,List.length_take,List.length_drop,hs1,hdl,Nat.sub_mul]
  omega
 have h2t:cur2.toList.take ((n+1)*4)=cs.take (i*4)++xs++cs.drop (i*4):=by
  have e1:cur1.toList.take ((i+1)*4)=cs.take (i*4)++xs:=by
   have hlen:(cs.take (i*4)++xs).length=(i+1)*4:=by rw[List.length_append,List.length_take,hvl];omega
   rw[hc1,hRt,List.take_append_of_le_length (by rw[hlen];exact Nat.le_refl _),List.take_of_length_le (by rw[hlen];exact Nat.le_refl _)]
  rw[hc2,e1,←hds]
  have e3:(cs.take (i*4)++xs++ds).length=(n+1)*4:=by
   simp only[List.length_append,List.length_take,hvl,hcl,hdl,Nat.sub_mul];omega
  rw[List.take_append_of_le_length (by rw[e3];exact Nat.le_refl _),List.take_of_length_le (by rw[e3];exact Nat.le_refl _)]
 -- the two copies
 have hnew:(w.drew.alloc (.cells ROW 155)).heap[N]?=some (.cells ROW 155 (0,0)):=by
  show(w.heap.push (Obj.cells ROW 155 (0,0)))[N]?=_
  rw[hN];simp
 have hgo:∀k,k<N->(w.drew.alloc (.cells ROW 155)).heap[k]?=w.heap[k]?:=fun k hk=>by
  rw[hN] at hk
  show(w.heap.push (Obj.cells ROW 155 (0,0)))[k]?=_
  simp[Array.getElem?_push,Nat.ne_of_lt hk]
 have hcpA:∀(W:World),W.heap=(w.drew.alloc (.cells ROW 155)).heap->∀ty dc,(Builtin.copy_ #[32,32] ty #[.slice (some ⟨N,i*4,none⟩) (n+1-i) dc,.slice (some ⟨vb,voff,none⟩) 1 vc]).run Tryz.prog W=.ok (goInt 1) (W.setRow N cur1):=fun W hW ty dc=>by
  rw[hc1]
  exact qes W _ _ ty 155 N (i*4) (n+1-i) dc ⟨vb,voff,none⟩ 1 vc ROW 155 1 4 xs Tryz.underlying32 hsz (by rw[hW];exact hnew) (by simp only[Nat.min_def];split<;>omega) (by rw[hvl])
   (fun j v hj=>by
    rw[Addr.add_lit,World.cell?_of_block (w:=w) (by rw[hW];exact hgo vb (by omega))]
    exact hvs j v hj) (by rw[←Array.length_toList,hRs,hvl];omega) h1v
 have hcpB:∀(W W0:World),W0.heap=(w.drew.alloc (.cells ROW 155)).heap->W.heap=(W0.setRow N cur1).heap->∀ty dc sc,(Builtin.copy_ #[32,32] ty #[.slice (some ⟨N,(i+1)*4,none⟩) (n-i) dc,.slice (some ⟨b,i*4,none⟩) (n-i) sc]).run Tryz.prog W=.ok (goInt ((n-i:Nat):Int)) (W.setRow N cur2):=fun W W0 hW0 hW ty dc sc=>by
  rw[hc2]
  exact qes W _ _ ty 155 N ((i+1)*4) (n-i) dc ⟨b,i*4,none⟩ (n-i) sc cur1 155 (n-i) 4 ds Tryz.underlying32 hsz (by rw[hW];exact setRow_heap W0 N ROW cur1 _ (0,0) (by rw[hW0];exact hnew)) (by simp[Nat.min_def]) hdl
   (fun j v hj=>by
    rw[Addr.add_lit,World.cell?_of_block (w:=w) (by rw[hW,setRow_other W0 N b cur1 (by omega),hW0];exact hgo b (by omega))]
    rw[hds,List.getElem?_drop] at hj
    exact hcs _ v hj) (by rw[←Array.length_toList,hs1,hdl,Nat.sub_mul];omega) (fun v hv=>h1c v (by rw[hds] at hv;exact List.mem_of_mem_drop hv))
 have hw1:IntKind.i64.wrap ((i:Int)+1)=(i:Int)+1:=by rw[IntKind.wrap_i64];omega
 have hw2:IntKind.i64.wrap ((n:Int)+1)=(n:Int)+1:=by rw[IntKind.wrap_i64];omega
 have htn:((i:Int)+1).toNat=i+1:=by omega
 have hb1:(0:Int)≤(i:Int)+1:=by omega
 have hin:i≤n:=by omega
 have hb2:¬(c=i+1)∨c=i+1:=by omega
 have hb3:(i:Int)≤(n:Int)+1:=by omega
 have hb4:¬(c=i):=by omega
 have hGi:¬(G=i):=by omega
 have hGim:¬(G=i+1):=by omega
 have hNs:w.heap.size=N:=hN.symm
 rw[←hG]
 rw[hNs] at hrz ⊢
 have hcpA':=hcpA (World.drew (World.alloc w (.cells ROW 155))) rfl
 have hcpB':=hcpB (World.drew (World.setRow (World.drew (World.alloc w (.cells ROW 155))) N cur1)) (World.drew (World.alloc w (.cells ROW 155))) rfl rfl
 clear hcpA hcpB hc1 hc2 hds hdl hs1 hRs hRt hROW hold hkk hik hcl hb2 hN hG
 go_enter Tryz.func108,Tryz.ntmps108
 go_wp2_with (first
  | (at_builtin;refine Lib.wpList_append_run _ rfl _ _ _ _ rfl _ _ rfl rfl _ _ (hrz _) ?_)
  | (at_builtin;refine wpList_copy_runI _ rfl _ _ 32 32 rfl _ _ rfl rfl (hcpA' _ _) ?_))
 go_region_law_o (refine step_copy_runI rfl _ _ 32 32 rfl (.slice (some ⟨N,(i+1)*4,none⟩) (n-i) (G-(i+1))) (.slice (some ⟨b,i*4,none⟩) (n-i) (c-i)) (by simp[Act.eval,Act.put]) (by simp[Act.eval,Act.put]) (hcpB' 3 (G-(i+1)) (c-i)) ?_)
 go_wp2
 go_ret
 refine⟨rfl,⟨rfl,rfl,rfl,?_,fun k hk=>?_⟩,cur2,?_,h2s,h2t⟩
 ·have e:∀(u:World) (cs:Array Value),(u.setRow N cs).heap.size=u.heap.size:=fun u cs=>by unfold World.setRow;simp
  rw[e]
  show(World.setRow (World.drew (World.alloc w (.cells ROW 155))) N cur1).heap.size=N+1
  rw[e]
  show(w.heap.push (Obj.cells ROW 155 (0,0))).size=N+1
  simp[hNs]
 ·have hkN:k≠N:=by omega
  rw[setRow_other _ N k cur2 hkN]
  show(World.setRow (World.drew (World.alloc w (.cells ROW 155))) N cur1).heap[k]?=_
  rw[setRow_other _ N k cur1 hkN]
  show(w.heap.push (Obj.cells ROW 155 (0,0)))[k]?=_
  simp[Array.getElem?_push,hNs,hkN]
 ·refine setRow_heap _ N cur1 cur2 _ (0,0) ?_
  show(World.setRow (World.drew (World.alloc w (.cells ROW 155))) N cur1).heap[N]?=_
  refine setRow_heap _ N ROW cur1 _ (0,0) ?_
  show(w.heap.push (Obj.cells ROW 155 (0,0)))[N]?=_
  rw[←hNs];simp
end Go.Proofs
