/- Texts of this proof, joined. -/
import Derived.Test.YtkenggenkmfopaaGreatIab
import Derived.Laws.BytesArg
set_option linter.unusedVariables false
set_option linter.unusedSimpArgs false

/-
 The value logic, part g: literals, and the rest of the operations that yield a value.
-/
namespace Go.V
open Go Go.RowKit

section
variable {P:Program} {w:World} {M:Nat->Nat->Prop} {G:List Gh} {H:List Ent} {n:Nat} {af:AF} {a:Act} {k:AV->Prop}

theorem qclz{o:Oper}{op:UnOp}{t:TypeId}{x:Operand}{y:Opd}(ho:o.op=.unOp op t x)(hy:cO x=some y)(hr:RelF w M G n af a)(h:(evv af H (.un op y)).bnd k):Yd P w M G a o k:=by
 have hv:=qt hy hr
 refine Yd.of (s:=Op.unary op (a.eval x)) (by simp only[execOp,ho]) ?_
 simp only[evv] at h
 cases hg:gt af y<;>simp only[hg,unv,Rs.bnd] at h<;>rw[hg] at hv<;>simp only[VR] at hv
 ·cases op<;>simp only[Rs.bnd] at h
  exact⟨_,_,h,rfl,by rw[hv];simp[Op.unary]⟩
 ·obtain⟨hv,hw⟩:=hv
  cases op<;>simp only[Rs.bnd] at h
  exact⟨_,_,h,⟨rfl,qk6 _ _⟩,by rw[hv];simp[Op.unary,Op.intArith]⟩

theorem qcjz{o:Oper}{x:Operand}{y:Opd}{i:Nat}(ho:o.op=.extract x i)(hy:cO x=some y)(hr:RelF w M G n af a)(h:(evv af H (.ext y i)).bnd k):Yd P w M G a o k:=by
 have hv:=qt hy hr
 refine Yd.of (s:=Instr.extract (a.eval x) i) (by simp only[execOp,ho]) ?_
 simp only[evv] at h
 cases hg:gt af y<;>simp only[hg,extv,Rs.bnd] at h
 rw[hg] at hv
 obtain⟨vs,he,hvs⟩:=hv
 obtain⟨z,h1,h2⟩:=qc1 hvs h.1
 refine⟨_,z,h.2,h2,?_⟩
 simp[Instr.extract,he,h1]

theorem qcgv{o:Oper}{x:Operand}{y:Opd}(ho:o.op=.nilCheck x)(hy:cO x=some y)(hr:RelF w M G n af a)(h:(evv af H (.nck y)).bnd k):Yd P w M G a o k:=by
 have hv:=qt hy hr
 simp only[evv] at h
 cases hg:gt af y<;>simp only[hg,nckv,Rs.bnd] at h<;>rw[hg] at hv
 ·obtain⟨g,h1,h2⟩:=hv
  exact⟨_,_,h,⟨g,h1,rfl⟩,by simp[execOp,ho,h2]⟩
 ·obtain⟨ad,cap,us,h1,h2,h3,h4⟩:=hv
  exact⟨_,_,h,⟨ad,cap,us,h1,h2,h3,rfl⟩,by simp[execOp,ho,h4]⟩
 ·obtain⟨g,h1,h2⟩:=hv
  exact⟨_,_,h,⟨g,h1,rfl⟩,by simp[execOp,ho,h2]⟩
 ·obtain⟨xs,ys,h1,h2,h3⟩:=hv
  exact⟨_,_,h,⟨xs,ys,h1,h2,rfl⟩,by simp[execOp,ho,h3]⟩

theorem qcfh{o:Oper}{s d:TypeId}{kk kk':IntKind}{x:Operand}{y:Opd}(ho:o.op=.convert s d x)(hs:P.underlying s=some (.int kk'))(hd:P.underlying d=some (.int kk))(hy:cO x=some y)(hr:RelF w M G n af a)
 (h:(evv af H (.cvi kk y)).bnd k):Yd P w M G a o k:=by
 have hv:=qt hy hr
 refine Yd.of (s:=convert s d (a.eval x)) (by simp only[execOp,ho]) ?_
 simp only[evv] at h
 cases hg:gt af y<;>simp only[hg,cviv,Rs.bnd] at h
 rw[hg] at hv
 exact⟨_,_,h,⟨rfl,qk6 _ _⟩,by rw[hv.1];simp[convert,run_underlying hs,run_underlying hd,Conv.intToInt]⟩

theorem qcfw{o:Oper}{s d:TypeId}{x:Operand}{y:Opd}(ho:o.op=.convert s d x)(hs:P.underlying s=some .string)(hd:P.underlying d=some .string)(hy:cO x=some y)(hr:RelF w M G n af a)
 (h:(evv af H (.cvs y)).bnd k):Yd P w M G a o k:=by
 have hv:=qt hy hr
 refine Yd.of (s:=convert s d (a.eval x)) (by simp only[execOp,ho]) ?_
 simp only[evv] at h
 cases hg:gt af y<;>simp only[hg,cvsv,Rs.bnd] at h
 rw[hg] at hv
 exact⟨_,_,h,⟨rfl,hv.2⟩,by rw[hv.1];simp[convert,run_underlying hs,run_underlying hd]⟩

theorem qzd{es:List AV}{us:List Value}(h:VRs w M G es us)(hb:es.all qgp=true):∃ns:List Int,us=ns.map (Value.int .u8)∧es.map qm8=ns.map fun n=>UInt8.ofNat n.toNat:=by
 induction es generalizing us with
 | nil=>simp only[VRs] at h;subst h;exact⟨[],rfl,rfl⟩
 | cons e r ih =>
   obtain⟨v,us',rfl,hv,hr⟩:=h
   simp only[List.all_cons,Bool.and_eq_true] at hb
   obtain⟨ns,rfl,h2⟩:=ih hr hb.2
   have h1:=hb.1
   unfold qgp at h1
   split at h1
   ·rename_i n
    exact⟨n::ns,by rw[hv.1];rfl,by rw[List.map_cons,h2];rfl⟩
   ·cases h1
theorem qnv:∀ns:List Int,(ns.map (Value.int .u8)).flatMap (·.cells.toList)=ns.map (Value.int .u8)
 | []=>rfl
 | n::r=>by rw[List.map_cons,List.flatMap_cons,qnv r];rfl
theorem q4k{s d e:TypeId}{es:List AV}{us:List Value}{ad:Option Addr}{cap:Nat}(hs:P.underlying s=some (.slice e))(he:P.underlying e=some (.int .u8))(hd:P.underlying d=some .string)
 (hv:VRs w M G es us) (hok:SlOK w M 1 us ad cap) (hb:es.all qgp=true):(convert s d (.slice ad us.length cap)).run P w=.ok (.string ⟨(es.map qm8).toArray⟩) w:=by
 obtain⟨ns,rfl,h2⟩:=qzd hv hb
 rw[run_convert_bytes_string w s d e _ _ cap hs he hd,h2]
 obtain⟨h3,h4,h5,h6⟩:=hok
 cases ad with
 | none =>
   simp only at h6
   subst h6
   have:ns=[]:=List.eq_nil_of_length_eq_zero (by simpa using h3)
   subst this
   rfl
 | some x =>
   have hl:(loadCells x (ns.map (Value.int .u8)).length).run P w=.ok (ns.map (Value.int .u8)).toArray w:=by
    rcases h6 with h6 | ⟨h6,h7⟩
    ·have:ns=[]:=by simpa using h6
     subst this
     simp[loadCells,loadCellsFrom]
    ·rw[qnv] at h7
     have:=qe5 (P:=P) (w:=w) (b:=x.block) (o:=x.off) (vs:=ns.map (Value.int .u8)) (fun j v hj=>(h7 j v hj).1) 0 (ns.map (Value.int .u8)).length (by simp)
     have hx:x=⟨x.block,x.off+0,none⟩:=by cases x;simp at h6;subst h6;rfl
     rw[←hx,List.drop_zero,List.take_length] at this
     exact this
   rw[run_bytesToString w x _ cap ns hl,foldl_push_bytes]
   simp[ByteArray.empty,ByteArray.emptyWithCapacity]
   try rfl
theorem qbjq{cs:List AV}{vs:List Value}(h:VRs w M G cs vs){off len:Nat}(hl:off+len≤cs.length)(hb:(tk off len cs).all qgp=true):
 ∃ns:List Int,ns.length=len∧(∀j,j<len->vs[off+j]?=(ns.map (Value.int .u8))[j]?)∧(tk off len cs).map qm8=ns.map fun n=>UInt8.ofNat n.toNat:=by
 obtain⟨ns,h1,h2⟩:=qzd (qep (qfd h off) len) hb
 have hvl:=ql h
 have hnl:ns.length=len:=by
  have:=congrArg List.length h1
  simp only[List.length_take,List.length_drop,List.length_map] at this
  omega
 refine⟨ns,hnl,fun j hj=>?_,h2⟩
 rw[←h1,List.getElem?_take_of_lt hj,List.getElem?_drop]
theorem qckx{o:Oper}{s d e:TypeId}{x:Operand}{y:Opd}(ho:o.op=.convert s d x)(hs:P.underlying s=some (.slice e))(he:P.underlying e=some (.int .u8))(hd:P.underlying d=some .string)(hy:cO x=some y)(hst:St w M G H)(hr:RelF w M G n af a)
 (h:(evv af H (.cbs y)).bnd k):Yd P w M G a o k:=by
 have hv:=qdo hst (.sl 1) _ _ (qt hy hr)
 refine Yd.of (s:=convert s d (a.eval x)) (by simp only[execOp,ho]) ?_
 simp only[evv] at h
 generalize co H (.sl 1) (gt af y)=v at h hv
 unfold cbsv at h
 split at h
 ·rename_i i off len cap
  split at h
  ·rename_i cs hen
   obtain⟨⟨h1,hlen,h2⟩,h3⟩:=h
   obtain⟨g,hg,hx⟩:=hv
   obtain⟨_,⟨vs,t,hh,hvs⟩,_⟩:=hst.ok i g _ hg (qba hen (by simp))
   obtain⟨ns,hnl,hns,hby⟩:=qbjq hvs h1 h2
   refine⟨_,_,h3,⟨rfl,?_⟩,?_⟩
   ·rw[hby,List.length_map,hnl];exact hlen
   rw[hx,run_convert_bytes_string w s d e _ len cap hs he hd,hby]
   have hcl:∀j v,(ns.map (Value.int .u8))[j]?=some v->w.cell? ⟨g.blk,off+j,none⟩=some v:=fun j v hj=>by
    have hjl:=(List.getElem?_eq_some_iff.1 hj).1
    simp only[List.length_map] at hjl
    rw[qec hh,hns j (by omega)];exact hj
   have:=qe5 (P:=P) (w:=w) (b:=g.blk) (o:=off) (vs:=ns.map (Value.int .u8)) hcl 0 (ns.map (Value.int .u8)).length (by simp)
   rw[Nat.add_zero,List.drop_zero,List.take_length,List.length_map,hnl] at this
   rw[run_bytesToString w ⟨g.blk,off,none⟩ len cap ns this,foldl_push_bytes]
   simp[ByteArray.empty,ByteArray.emptyWithCapacity]
   try rfl
  ·exact h.elim
 ·rename_i es
  obtain⟨h1,h2⟩:=h
  obtain⟨ad,cap,us,k1,k2,k3⟩:=hv
  have hlen:=ql k1
  exact⟨_,_,h2,⟨rfl,by rw[List.length_map,←hlen];exact Nat.le_trans k2.1 k2.2.1⟩,by rw[k3];exact q4k hs he hd k1 k2 h1⟩
 ·rename_i es
  obtain⟨h1,h2⟩:=h
  obtain⟨ad,us,k1,k2,k3⟩:=hv
  have hlen:=ql k1
  exact⟨_,_,h2,⟨rfl,by rw[List.length_map,←hlen];exact Nat.le_trans k2.1 k2.2.1⟩,by rw[k3];exact q4k hs he hd k1 k2 h1⟩
 ·simp only[VR] at hv
  exact⟨_,_,h,⟨rfl,Nat.zero_le _⟩,by rw[hv,run_convert_bytes_nil w s e hs he 0 0 d hd];rfl⟩
 ·exact h.elim
theorem qcg9{o:Oper}{t e:TypeId}{x lo:Operand}{y l:Opd}{len:Nat}(ho:o.op=.slice t x (some lo) none none)(hu:P.underlying t=some (.array len e))(hm:qcb P e=some 1)
 (hy:cO x=some y) (hl:cO lo=some l) (hr:RelF w M G n af a) (h:(evv af H (.sla len y l)).bnd k):Yd P w M G a o k:=by
 refine Yd.of (s:=Instr.sliceAt t (a.eval x) (some (a.eval lo)) none none) (by simp only[execOp,ho];rfl) ?_
 have hv:=qt hy hr
 have hvl:=qt hl hr
 simp only[evv] at h
 cases hx:gt af y<;>cases hz:gt af l<;>simp only[hx,hz,slav,Rs.bnd] at h
 rename_i i off kk z
 obtain⟨⟨g0,g1⟩,h⟩:=h
 rw[hx] at hv;rw[hz] at hvl
 obtain⟨g,hg,hxe⟩:=hv
 refine⟨_,_,h,⟨g,hg,rfl⟩,?_⟩
 have g2:z≤((len:Nat):Int):=by omega
 have g3:¬(len=z.toNat):=by omega
 have hs:(Instr.sureAddr (.pointer (some ⟨g.blk,off,none⟩))).run P w=.ok ⟨g.blk,off,none⟩ w:=by simp[Instr.sureAddr]
 simp only[Instr.sliceAt,run_underlying hu,Sem.run_bind,Result.andThen_ok,Instr.sliceBounds,Sem.run_pure,qw hm,hvl.1,hxe,Option.isSome_none,Bool.false_eq_true,if_false,q9 g0 g2,hs,if_neg g3,Nat.mul_one,Addr.add]
 have e1:(if z.toNat=0 then(⟨g.blk,off,none⟩:Addr) else ⟨g.blk,off+z.toNat,none⟩)=⟨g.blk,off+z.toNat,none⟩:=by
  split
  ·rename_i hz0;rw[hz0];rfl
  ·rfl
 rw[e1]

theorem qcfe{o:Oper}{t:TypeId}{d:TypeDesc}{x:Operand}{y:Opd}{c:Co}(ho:o.op=.makeInterface t x)(hu:P.underlying t=some d)(hd:∀ms,d≠.interface ms)(hy:cO x=some y)(hst:St w M G H)(hr:RelF w M G n af a)
 (h:(evv af H (.mki t y c)).bnd k):Yd P w M G a o k:=by
 have hv:=qt hy hr
 refine Yd.of (s:=Instr.makeInterface t (a.eval x)) (by simp only[execOp,ho]) ?_
 simp only[evv,Rs.bnd] at h
 refine⟨_,_,h,⟨a.eval x,qdo hst c _ _ hv,rfl⟩,?_⟩
 simp only[Instr.makeInterface,Sem.run_bind,run_underlying hu,Result.andThen_ok]
 cases d<;>first | rfl | exact absurd rfl (hd _)

theorem qgc{t:TypeId}{z:Value}(h:(P.info? t).bind (·.zero)=some z):(zeroValue t).run P w=.ok z w:=by
 cases hi:P.info? t with
 | none=>simp[hi] at h
 | some i=>simp[hi] at h;simp[zeroValue,typeInfo,hi,h]
theorem qex{t:TypeId}{z:AV}(h:qgt P t=some z):∃v,(zeroValue t).run P w=.ok v w∧VR w M G z v∧z.flat:=by
 unfold qgt at h
 split at h
 ·rename_i v hv
  exact⟨v,qgc hv,qtq h⟩
 ·cases h

theorem qcjp{o:Oper}{t st:TypeId}{d:TypeDesc}{x:Operand}{y:Opd}{z:AV}(ho:o.op=.typeAssert x st t true)(hu:P.underlying t=some d)(hd:∀ms,d≠.interface ms)(hz:qgt P t=some z)(hy:cO x=some y)(hr:RelF w M G n af a)
 (h:(evv af H (.tya t z y)).bnd k):Yd P w M G a o k:=by
 have hv:=qt hy hr
 obtain⟨zv,hz1,hz2,_⟩:=qex (w:=w) (M:=M) (G:=G) hz
 refine Yd.of (s:=Instr.typeAssert (a.eval x) st t true) (by simp only[execOp,ho]) ?_
 simp only[evv] at h
 cases hg:gt af y<;>simp only[hg,tyav,Rs.bnd] at h<;>rw[hg] at hv
 ·simp only[VR] at hv
  refine⟨_,.tuple #[zv,.bool false],h,⟨[zv,.bool false],rfl,zv,_,rfl,hz2,_,_,rfl,rfl,rfl⟩,?_⟩
  simp only[Instr.typeAssert,Sem.run_bind,run_underlying hu,Result.andThen_ok,hv]
  cases d<;>first | exact absurd rfl (hd _) | simp[hz1]
 ·rename_i t' v
  obtain⟨yv,h1,h2⟩:=hv
  by_cases htt:t'=t
  ·rw[if_pos htt] at h
   simp only[Rs.bnd] at h
   refine⟨_,.tuple #[yv,.bool true],h,⟨[yv,.bool true],rfl,yv,_,rfl,h1,_,_,rfl,rfl,rfl⟩,?_⟩
   simp only[Instr.typeAssert,Sem.run_bind,run_underlying hu,Result.andThen_ok,h2]
   cases d<;>first | exact absurd rfl (hd _) | simp[htt]
  ·rw[if_neg htt] at h
   simp only[Rs.bnd] at h
   refine⟨_,.tuple #[zv,.bool false],h,⟨[zv,.bool false],rfl,zv,_,rfl,hz2,_,_,rfl,rfl,rfl⟩,?_⟩
   simp only[Instr.typeAssert,Sem.run_bind,run_underlying hu,Result.andThen_ok,h2]
   cases d<;>first | exact absurd rfl (hd _) | simp[htt,hz1]

/-! ### Literals -/

theorem ql4{α:Type}(A B:List α)(c:α){p:Nat}(h:A.length=p):(A++c::B).take (p+1)=A++[c]∧∀q,(A++c::B).drop (p+1+q)=B.drop q:=by
 subst h
 constructor
 ·rw[List.take_append,List.take_of_length_le (by omega),show A.length+1-A.length=1 by omega];rfl
 ·intro q
  rw[List.drop_append,List.drop_of_length_le (by omega),show A.length+1+q-A.length=q+1 by omega];rfl

theorem qbiq(l:List Value)(off:Nat):∀(j:Nat) (cells:Array Value),off+j+l.length≤cells.size →
 ((l.zipIdx j).foldl (fun cs (c,j)=>cs.setIfInBounds (off+j) c) cells).toList=cells.toList.take (off+j)++(l++cells.toList.drop (off+j+l.length)):=by
 induction l with
 | nil=>intro j cells h;simp
 | cons c l ih =>
   intro j cells h
   simp only[List.zipIdx_cons,List.foldl_cons]
   rw[ih (j+1) _ (by simp at h ⊢;omega)]
   simp only[List.length_cons] at h
   simp only[Array.toList_setIfInBounds,List.length_cons]
   have h1:off+j<cells.toList.length:=by simp;omega
   have hs:cells.toList.set (off+j) c=cells.toList.take (off+j)++c::cells.toList.drop (off+j+1):=by rw[List.set_eq_take_append_cons_drop,if_pos h1]
   have hA:(cells.toList.take (off+j)).length=off+j:=by rw[List.length_take];omega
   rw[hs,show off+(j+1)=off+j+1 by omega,(ql4 _ _ _ hA).1,(ql4 _ _ _ hA).2 l.length,List.drop_drop]
   simp only[List.append_assoc,List.nil_append,List.cons_append]
   rw[show off+j+1+l.length=off+j+(l.length+1) by omega]

theorem qu1{place:Nat->Option (Nat×Nat)}{i off m:Nat}{v:Value}{rest:List (Nat×Value)}{cells:Array Value}(hp:place i=some (off,m))(hv:v.cells.size=m)(ho:off+m≤cells.size):
 ∃c':Array Value,Instr.fill place cells ((i,v)::rest)=Instr.fill place c' rest∧c'.toList=cells.toList.take off++(v.cells.toList++cells.toList.drop (off+m)):=by
 refine⟨v.cells.zipIdx.foldl (fun cs (c,j)=>cs.setIfInBounds (off+j) c) cells,?_,?_⟩
 ·rw[Instr.fill,hp]
  have:¬((v.cells.size≠m||decide (off+v.cells.size > cells.size))=true):=by simp[hv];omega
  simp only[this,if_false,Bool.false_eq_true]
 ·have:=qbiq v.cells.toList off 0 cells (by simp[hv];omega)
  rw[←Array.foldl_toList,Array.toList_zipIdx]
  simpa [hv] using this

theorem qkx{places:Nat->Option (Nat×Nat)}{place:Nat->Option (Nat×Nat)}(hpl:∀i x,places i=some x->place i=some x):∀(parts:List (Nat×Operand)) (l:List (Nat×Nat×Opd)) (zs:List AV) (cells:Array Value),
 qp4 P places parts=some l->RelF w M G n af a->VRs w M G zs cells.toList->(bldv af l zs).bnd k →
 ∃c' v,Instr.fill place cells (parts.map fun(i,x)=>(i,a.eval x))=some c'∧k v∧VR w M G v (.agg c')
 | [], l, zs, cells, hc, hr, hz, h => by
   simp[qp4] at hc;subst hc
   simp only[bldv,Rs.bnd] at h
   exact⟨cells,_,rfl,h,cells.toList,by simp,hz⟩
 | (i, x) :: r, l, zs, cells, hc, hr, hz, h => by
   simp only[qp4] at hc
   split at hc
   ·rename_i off m b l' h1 h2 h3
    simp at hc;subst hc
    simp only[bldv,Rs.bnd] at h
    obtain⟨⟨h4,h5,h6⟩,h⟩:=h
    have hv:=qd4 (qt h2 hr) h6
    have hvl:=ql hv
    have hzl:=ql hz
    have hvs:(a.eval x).cells.size=m:=by simpa [h4] using hvl
    have hzl':cells.size=zs.length:=by simpa using hzl
    obtain⟨c',e1,e2⟩:=qu1 (rest:=r.map fun(i,x)=>(i,a.eval x)) (hpl i _ h1) hvs (by rw[hzl'];exact h5)
    have hz':VRs w M G (spl off (gt af b).cells zs) c'.toList:=by
     rw[e2,spl,h4]
     exact qbw (qep hz off) (qbw hv (qfd hz _))
    obtain⟨c'',v,e3,e4,e5⟩:=qkx hpl r l' _ c' h3 hr hz' h
    exact⟨c'',v,by simp only[List.map_cons];rw[e1];exact e3,e4,e5⟩
   ·cases hc

theorem qo8(fs:List Field)(hs:∀f∈fs,∃m,qcb P f.type=some m):∃l:List (Nat×Nat),(fs.mapM (fun f=>do pure (f.offset,←sizeOf f.type):Field->Sem (Nat×Nat))).run P w=.ok l w∧∀(i:Nat) (f:Field) (m:Nat),fs[i]?=some f->qcb P f.type=some m->l[i]?=some (f.offset,m):=by
 induction fs with
 | nil=>exact⟨[],by simp,by simp⟩
 | cons f fs ih =>
   obtain⟨m,hm⟩:=hs f (by simp)
   obtain⟨l,h1,h2⟩:=ih (fun g hg=>hs g (by simp[hg]))
   refine⟨(f.offset,m)::l,?_,?_⟩
   ·simp only[List.mapM_cons,Sem.run_bind,qw hm,Result.andThen_ok,Sem.run_pure,h1]
   ·intro i g m' hi hg
    cases i with
    | zero=>simp at hi;subst hi;rw[hm] at hg;cases hg;simp
    | succ i=>simp at hi;simpa using h2 i g m' hi hg

theorem qch1{o:Oper}{t:TypeId}{parts:Array (Nat×Operand)}{zs:List AV}{l:List (Nat×Nat×Opd)}(ho:o.op=.build t parts)(hz:qgt P t=some (.agg zs))(hl:qp4 P (qk1 P t) parts.toList=some l)
 (hsz:qv7 P t=true) (hr:RelF w M G n af a) (h:(evv af H (.bld zs l)).bnd k):Yd P w M G a o k:=by
 obtain⟨zv,hz1,hz2,_⟩:=qex (w:=w) (M:=M) (G:=G) hz
 obtain⟨vs,rfl,hzv⟩:=hz2
 refine Yd.of (s:=Instr.build t (parts.map fun(i,x)=>(i,a.eval x))) (by simp only[execOp,ho]) ?_
 simp only[evv] at h
 have hpt:(parts.map fun(i,x)=>(i,a.eval x)).toList=parts.toList.map fun(i,x)=>(i,a.eval x):=by simp
 unfold qv7 at hsz
 cases hu:P.underlying t with
 | none=>simp[hu] at hsz
 | some d =>
   cases d<;>simp only[hu,Bool.false_eq_true] at hsz
   case struct fs =>
    obtain⟨sl,hs1,hs2⟩:=qo8 (P:=P) (w:=w) fs.toList (fun f hf=>Option.isSome_iff_exists.1 (List.all_eq_true.1 hsz f hf))
    obtain⟨c',v,e1,e2,e3⟩:=qkx (places:=qk1 P t) (place:=(sl.toArray[·]?)) (fun i x hx=>by
     simp only[qk1,hu] at hx
     split at hx
     ·rename_i f hf
      simp at hx
      obtain⟨m,hm,rfl⟩:=hx
      simpa using hs2 i f m (by simpa using hf) hm
     ·cases hx) parts.toList l zs vs.toArray hl hr (by simpa using hzv) h
    refine⟨v,_,e2,e3,?_⟩
    have hmap:(fs.mapM (fun f=>do pure (f.offset,←sizeOf f.type):Field->Sem (Nat×Nat))).run P w=.ok sl.toArray w:=by
     rw[Array.mapM_eq_mapM_toList,Sem.run_map,hs1]
     rfl
    simp only[Instr.build,Sem.run_bind,hz1,Result.andThen_ok,run_underlying hu,hmap,Value.cells,hpt,e1,Sem.run_pure]
   case array len e =>
    obtain⟨m,hm⟩:=Option.isSome_iff_exists.1 hsz
    obtain⟨c',v,e1,e2,e3⟩:=qkx (places:=qk1 P t) (place:=fun i=>some (i*m,m)) (fun i x hx=>by
     simp only[qk1,hu,hm] at hx
     simpa using hx) parts.toList l zs vs.toArray hl hr (by simpa using hzv) h
    refine⟨v,_,e2,e3,?_⟩
    simp only[Instr.build,Sem.run_bind,hz1,Result.andThen_ok,run_underlying hu,qw hm,Value.cells,hpt,e1,Sem.run_pure]
end

section
variable {P:Program} {w:World} {M:Nat->Nat->Prop} {G:List Gh} {H:List Ent} {n:Nat} {af:AF} {a:Act} {k:AV->List Ent->Prop}

theorem qcg(w:World)(o:Obj):(w.alloc o).heap[w.heap.size]?=some o:=by
 show(w.heap.push o)[w.heap.size]?=_
 rw[Array.getElem?_push,if_pos rfl]

def Do(P:Program)(w:World)(M:Nat->Nat->Prop)(G:List Gh)(a:Act)(o:Oper)(k:AV->List Ent->Prop):Prop :=
 ∃v H' x w' M' G',k v H'∧Ext w M G w' M' G'∧St w' M' G' H'∧VR w' M' G' v x∧((execOp a.eval o).run P w=.ok (.value x) w'∨((execOp a.eval o).run P w=.ok .skip w'∧x=undef))

theorem Do.of{o:Oper}{s:Sem Value}(he:execOp a.eval o=(do pure (.value (←s))))
 (h:∃v H' x w' M' G',k v H'∧Ext w M G w' M' G'∧St w' M' G' H'∧VR w' M' G' v x∧s.run P w=.ok x w'):Do P w M G a o k:=by
 obtain⟨v,H',x,w',M',G',h1,h2,h3,h4,h5⟩:=h
 exact⟨v,H',x,w',M',G',h1,h2,h3,h4,.inl (by rw[he];simp only[Sem.run_bind,h5,Result.andThen_ok,Sem.run_pure])⟩

theorem Do.of_yd{o:Oper}{k':AV->Prop}(hst:St w M G H)(h:Yd P w M G a o k')(hk:∀v,k' v->k v H):Do P w M G a o k:=by
 obtain⟨v,x,h1,h2,h3⟩:=h
 exact⟨v,H,x,w,M,G,hk v h1,Ext.refl _ _ _,hst,h2,.inl h3⟩

theorem q0g(hst:St w M G H){cs:List AV}{vs:List Value}{t:TypeId}(hv:VRs w M G cs vs):
 ∃g:Gh,g.blk=w.heap.size∧St (w.alloc (.cells vs.toArray t)) M (G++[g]) (H++[.blk cs])∧Ext w M G (w.alloc (.cells vs.toArray t)) M (G++[g]):=by
 refine⟨{ blk:=w.heap.size,fp:=fun b=>b=w.heap.size },rfl,?_,?_⟩
 ·refine qhg hst (by simp) (fun b hb=>Below.heap_alloc _ _ _ hb) (fun _ _ h=>h) (fun _ _ h=>.inl h) (fun b o h=>by have:=hst.Mlt b o h;simp;omega) (fun b hb=>by subst hb;simp) ?_
  refine⟨fun b=>Iff.rfl,⟨vs,t,qcg _ _,?_⟩,fun o hm=>by have:=hst.Mlt _ o hm;simp at this⟩
  exact qca (qhv G _) (fun b o hm=>⟨hm,World.cell?_of_block (w:=w) (Below.heap_alloc _ _ _ (hst.Mlt b o hm))⟩) hv
 ·exact qgh hst rfl rfl rfl (by simp) (fun b hb=>Below.heap_alloc _ _ _ hb) (fun _ _ h=>h) (fun _ _ h=>.inl h) (fun b hb=>by subst hb;exact Nat.le_refl _)

theorem qts{T e:TypeId}{l:List UInt8}{g:Gh}:Stab (bldR T e l) g:=by
 rintro w M w' M' ha ⟨p,v,h1,h2,h3,h4,h5,h6,h7⟩
 refine⟨p,v,(ha.same _ ((h3 _).2 (.inl rfl))).trans h1,h2,h3,fun b o hb hm=>h4 b o hb (ha.fresh b o hb hm),h5,h6,?_⟩
 rcases h7 with h7 | ⟨gb,cap,cur,rfl,q1,q2,q3⟩
 ·exact .inl h7
 ·exact .inr ⟨gb,cap,cur,rfl,q1,(ha.same _ ((h3 _).2 (.inr rfl))).trans q2,q3⟩
theorem qbcy(hst:St w M G H){t e:TypeId}:
 ∃g:Gh,g.blk=w.heap.size∧St (w.alloc (.cells (Value.agg #[.pointer none,.slice none 0 0]).cells t)) M (G++[g]) (H++[.cus (bldR t e [])])∧Ext w M G (w.alloc (.cells (Value.agg #[.pointer none,.slice none 0 0]).cells t)) M (G++[g]):=by
 refine⟨{ blk:=w.heap.size,fp:=fun b=>b=w.heap.size },rfl,?_,?_⟩
 ·refine qhg hst (by simp) (fun b hb=>Below.heap_alloc _ _ _ hb) (fun _ _ h=>h) (fun _ _ h=>.inl h) (fun b o h=>by have:=hst.Mlt b o h;simp;omega) (fun b hb=>by subst hb;simp) ?_
  refine⟨⟨.pointer none,.slice none 0 0,qcg _ _,.inl rfl,fun b=>⟨fun h=>.inl h,fun h=>?_⟩,fun b o hb hm=>by subst hb;have:=hst.Mlt _ o hm;simp at this,by simp[Value.ownBlock],rfl,.inl ⟨rfl,rfl⟩⟩,qts⟩
  rcases h with h | h
  ·exact h
  ·simp[Value.ownBlock] at h
 ·exact qgh hst rfl rfl rfl (by simp) (fun b hb=>Below.heap_alloc _ _ _ hb) (fun _ _ h=>h) (fun _ _ h=>.inl h) (fun b hb=>by subst hb;exact Nat.le_refl _)

theorem qky{t:TypeId}{v:Value}:(newVar t v).run P w=.ok ⟨w.heap.size,0,none⟩ (w.alloc (.cells v.cells t)):=by
 simp[newVar,newRow]

theorem qceh{o:Oper}{t:TypeId}{x:Operand}{y:Opd}(ho:o.op=.box t x)(hy:cO x=some y)(hst:St w M G H)(hr:RelF w M G n af a)(h:(evi af H (.box y)).bnd fun p=>k p.1 p.2):Do P w M G a o k:=by
 refine Do.of (s:=Instr.box t (a.eval x)) (by simp only[execOp,ho]) ?_
 simp only[evi,boxv,Rs.bnd] at h
 obtain⟨h1,h⟩:=h
 have hv:=qd4 (qt hy hr) (by rcases h1 with h1 | h1<;>simp[h1])
 obtain⟨g,hg,h2,h3⟩:=q0g (t:=t) hst hv
 rw[Array.toArray_toList] at h2 h3
 refine⟨_,_,.pointer (some ⟨w.heap.size,0,none⟩),_,_,_,h,h3,h2,⟨g,?_,by rw[hg]⟩,?_⟩
 ·rw[←hst.len,getElem?_snoc];simp
 ·simp only[Instr.box,Sem.run_bind,qky,Result.andThen_ok,Sem.run_pure]

theorem qchr{o:Oper}{t:TypeId}{z:AV}(ho:o.op=.alloc t)(hz:qgt P t=some z)(hst:St w M G H)(h:(evi af H (.alo z.cells)).bnd fun p=>k p.1 p.2):Do P w M G a o k:=by
 refine Do.of (s:=Instr.alloc t true (.tuple #[])) (by simp only[execOp,ho]) ?_
 simp only[evi,Rs.bnd] at h
 obtain⟨zv,hz1,hz2,hz3⟩:=qex (w:=w) (M:=M) (G:=G) hz
 have hv:=qd4 hz2 (by rcases hz3 with h1 | h1<;>simp[h1])
 obtain⟨g,hg,h2,h3⟩:=q0g (t:=t) hst hv
 rw[Array.toArray_toList] at h2 h3
 refine⟨_,_,.pointer (some ⟨w.heap.size,0,none⟩),_,_,_,h,h3,h2,⟨g,?_,by rw[hg]⟩,?_⟩
 ·rw[←hst.len,getElem?_snoc];simp
 ·simp only[Instr.alloc,Sem.run_bind,hz1,qky,Result.andThen_ok,Sem.run_pure]

theorem q55{t e:TypeId}(h:bldT P t=some e):(P.info? t).bind (·.zero)=some (.agg #[.pointer none,.slice none 0 0]):=by
 unfold bldT at h
 repeat' split at h
 all_goals first | (cases h;done) | skip
 have hc:∀cs:Array Value,cs.toList=[Value.pointer none,Value.slice none 0 0]->cs = #[Value.pointer none,Value.slice none 0 0]:=fun cs h=>Array.ext' (by rw[h])
 have:=hc _ (by assumption)
 subst this
 assumption
theorem qcgr{o:Oper}{t e:TypeId}(ho:o.op=.alloc t)(hz:bldT P t=some e)(hst:St w M G H)(h:(evi af H (.bld t e)).bnd fun p=>k p.1 p.2):Do P w M G a o k:=by
 refine Do.of (s:=Instr.alloc t true (.tuple #[])) (by simp only[execOp,ho]) ?_
 simp only[evi,Rs.bnd] at h
 have hz1:=qgc (w:=w) (q55 hz)
 obtain⟨g,hg,h2,h3⟩:=qbcy (t:=t) (e:=e) hst
 refine⟨_,_,.pointer (some ⟨w.heap.size,0,none⟩),_,_,_,h,h3,h2,⟨g,?_,by rw[hg]⟩,?_⟩
 ·rw[←hst.len,getElem?_snoc];simp
 ·simp only[Instr.alloc,Sem.run_bind,hz1,qky,Result.andThen_ok,Sem.run_pure]

/-! ### Stores -/

theorem qhf(w:World)(b o:Nat)(v:Value){vs:List Value}{t:TypeId}{fz:Nat×Nat}(h:w.heap[b]?=some (.cells vs.toArray t fz)):(w.setCell ⟨b,o,none⟩ v).heap[b]?=some (.cells (vs.set o v).toArray t fz):=by
 simp[World.setCell,Array.getElem?_modify,h]

theorem qd5{b o:Nat}{t:TypeId}:∀(us:List Value) (i:Nat) (w:World) (vs:List Value),w.heap[b]?=some (.cells vs.toArray t (0,0))->o+i+us.length≤vs.length->(∀u∈us,u.oneCell'=true) →
 ∃ w', (storeCells ⟨b, o, none⟩ us i).run P w = .ok () w' ∧ w'.heap[b]? = some (.cells (vs.take (o + i) ++ (us ++ vs.drop (o + i + us.length))).toArray t (0, 0)) ∧ w'.os = w.os ∧ w'.tape = w.tape ∧ w'.output = w.output ∧ w'.heap.size = w.heap.size ∧
   ∀c,c≠b->w'.heap[c]?=w.heap[c]?
 | [],i,w,vs,h,hl,h1=>⟨w,by simp[storeCells],by simpa using h,rfl,rfl,rfl,rfl,fun _ _=>rfl⟩
 | u :: us, i, w, vs, h, hl, h1 => by
   simp only[List.length_cons] at hl
   have hlt:o+i<vs.length:=by omega
   have hc:w.cell? ⟨b,o+i,none⟩=some vs[o+i]:=by rw[qec h];simp[hlt]
   have hf:w.frozen? ⟨b,o+i,none⟩=false:=by simp[World.frozen?,h]
   have hs:=qhf w b (o+i) u h
   obtain⟨w',e1,e2,e3,e4,e5,e6,e7⟩:=qd5 (b:=b) (o:=o) (t:=t) us (i+1) _ _ hs (by simp;omega) (fun v hv=>h1 v (by simp[hv]))
   refine⟨w',?_,?_,e3,e4,e5,by rw[e6];simp,fun c hcb=>by rw[e7 c hcb];exact Below.heap_setCell _ _ _ _ hcb⟩
   ·simp only[storeCells,Sem.run_bind,qen,run_store P w _ u .plain (h1 u (by simp)),hc,hf,Bool.false_eq_true,if_false,Result.andThen_ok]
    exact e1
   ·rw[e2]
    congr 3
    have hset:vs.set (o+i) u=vs.take (o+i)++u::vs.drop (o+i+1):=by rw[List.set_eq_take_append_cons_drop,if_pos hlt]
    have hA:(vs.take (o+i)).length=o+i:=by rw[List.length_take];omega
    rw[hset,show o+(i+1)=o+i+1 by omega,(ql4 _ _ _ hA).1,(ql4 _ _ _ hA).2 us.length,List.drop_drop]
    simp only[List.append_assoc,List.nil_append,List.cons_append,List.length_cons]
    rw[show o+i+1+us.length=o+i+(us.length+1) by omega]

theorem qhj{t tt:TypeId}{b o m:Nat}{v:Value}{vs:List Value}(hm:qcb P t=some m)(hv:v.cells.size=m)(h:w.heap[b]?=some (.cells vs.toArray tt (0,0)))(ho:o+m≤vs.length)(h1:∀u∈v.cells.toList,u.oneCell'=true):
 ∃ w', (storeVar t ⟨b, o, none⟩ v).run P w = .ok () w' ∧ w'.heap[b]? = some (.cells (vs.take o ++ (v.cells.toList ++ vs.drop (o + m))).toArray tt (0, 0)) ∧ w'.os = w.os ∧ w'.tape = w.tape ∧ w'.output = w.output ∧ w'.heap.size = w.heap.size ∧
   ∀c,c≠b->w'.heap[c]?=w.heap[c]?:=by
 have hl:v.cells.toList.length=m:=by simpa using hv
 obtain⟨w',e1,e2,e3⟩:=qd5 (P:=P) (b:=b) (o:=o) (t:=tt) v.cells.toList 0 w vs h (by omega) h1
 refine⟨w',?_,by simpa [hv] using e2,e3⟩
 simp only[storeVar,Sem.run_bind,qw hm,Result.andThen_ok,Sem.run_ite,hv,ne_eq,not_true_eq_false,if_false,e1]

theorem qu3{m off:Nat}{v:AV}{x:Value}{cs:List AV}{vs:List Value}{kk:List AV->Prop}(hm:0<m)(hx:VR w M G v x)(hv:VRs w M G cs vs)(h:(stc m off v cs).bnd kk):
 ∃cs',kk cs'∧x.cells.size=m∧off+m≤vs.length∧(∀u∈x.cells.toList,u.oneCell'=true)∧VRs w M G cs' (vs.take off++(x.cells.toList++vs.drop (off+m)))∧cs'.length=cs.length:=by
 have hl:=ql hv
 unfold stc at h
 by_cases h1:m=1
 ·rw[if_pos h1] at h
  simp only[Rs.bnd] at h
  obtain⟨⟨h2,h3⟩,h⟩:=h
  obtain⟨h4,h5⟩:=qg5 hx h3
  subst h1
  refine⟨_,h,by simp[h5],by omega,by simp[h5,h4],?_,by simp⟩
  rw[h5]
  have:vs.take off++([x]++vs.drop (off+1))=vs.set off x:=by rw[List.set_eq_take_append_cons_drop,if_pos (by omega)];rfl
  simp only[List.toList_toArray]
  rw[this]
  exact qba5 hv hx off
 ·rw[if_neg h1] at h
  simp only[Rs.bnd] at h
  obtain⟨⟨h2,h3,h4,h5⟩,h⟩:=h
  have hc:=qd4 hx (.inl h2)
  have hcl:=ql hc
  refine⟨_,h,by simpa [h3] using hcl,by omega,qmv hc h5,qbw (qep hv off) (qbw hc (qfd hv _)),?_⟩
  simp[h3];omega

theorem qou(cs:Array Value):(Value.agg cs).cells=cs:=rfl

theorem q32{us:List Value}{m' kq off' mm:Nat}{u0 u':Value}{xs T:List Value}(hm:∀u∈us,u.cells.size=m')(hu0:us[kq]?=some u0)(hxs:xs.length=mm)(hoff:off'+mm≤m')
 (hcells:u'.cells.toList=u0.cells.toList.take off'++(xs++u0.cells.toList.drop (off'+mm))) :
 (us.flatMap (·.cells.toList)++T).take (kq*m'+off')++(xs++(us.flatMap (·.cells.toList)++T).drop (kq*m'+off'+mm))=(us.set kq u').flatMap (·.cells.toList)++T:=by
 obtain⟨hkq,hu⟩:=List.getElem?_eq_some_iff.1 hu0
 have hsp:us=us.take kq++u0::us.drop (kq+1):=by rw[←hu];simp
 have hfl:us.flatMap (·.cells.toList)=(us.take kq).flatMap (·.cells.toList)++(u0.cells.toList++(us.drop (kq+1)).flatMap (·.cells.toList)):=by
  conv=>lhs;rw[hsp]
  rw[List.flatMap_append,List.flatMap_cons]
 have hfl':(us.set kq u').flatMap (·.cells.toList)=(us.take kq).flatMap (·.cells.toList)++(u'.cells.toList++(us.drop (kq+1)).flatMap (·.cells.toList)):=by
  rw[List.set_eq_take_append_cons_drop,if_pos hkq,List.flatMap_append,List.flatMap_cons]
 have hA:((us.take kq).flatMap (·.cells.toList)).length=kq*m':=by
  rw[qbz (fun u hu=>hm u (List.mem_of_mem_take hu)),List.length_take,Nat.min_eq_left (by omega)]
 have hU:u0.cells.toList.length=m':=by have:=hm u0 (List.mem_of_getElem? hu0);simpa using this
 rw[hfl,hfl',hcells]
 generalize (us.take kq).flatMap (·.cells.toList)=A at *
 generalize (us.drop (kq+1)).flatMap (·.cells.toList)=B at *
 generalize u0.cells.toList=U at *
 have t1:(A++(U++B)++T).take (kq*m'+off')=A++U.take off':=by
  rw[List.append_assoc,List.take_append,hA,List.take_of_length_le (by omega),show kq*m'+off'-kq*m'=off' by omega,List.append_assoc,List.take_append_of_le_length (by omega)]
 have t2:(A++(U++B)++T).drop (kq*m'+off'+mm)=U.drop (off'+mm)++(B++T):=by
  rw[List.append_assoc,List.drop_append,hA,List.drop_of_length_le (by omega),show kq*m'+off'+mm-kq*m'=off'+mm by omega,List.append_assoc,List.drop_append_of_le_length (by omega)];rfl
 rw[t1,t2]
 simp[List.append_assoc]

theorem qpz{g:Gh}{m' kq off' mm:Nat}{es:List AV}{e':AV}{u':Value}{xs vs us:List Value}{tt:TypeId}{w':World}(hle:Le w M w' M)(r1:es.length≤g.cap)(r2:g.cap≤maxLen)(r4:vs.length=g.cap*m')
 (r5:VRs w M G es us) (r6:∀u∈us,u.cells.size=m') (r7:vs.take (m'*es.length)=us.flatMap (·.cells.toList)) {u0:Value} (hu0:us[kq]?=some u0) (he':VR w M G e' u') (hu':u'.cells.size=m') (hxs:xs.length=mm) (hoff:off'+mm≤m')
 (hcells:u'.cells.toList=u0.cells.toList.take off'++(xs++u0.cells.toList.drop (off'+mm)))
 (e2:w'.heap[g.blk]?=some (.cells (vs.take (kq*m'+off')++(xs++vs.drop (kq*m'+off'+mm))).toArray tt (0,0))):qlw w' M G g m' (es.set kq e'):=by
 have hul:=ql r5
 have hvs:vs=us.flatMap (·.cells.toList)++vs.drop (m'*es.length):=by rw[←r7,List.take_append_drop]
 have hsp:=q32 (T:=vs.drop (m'*es.length)) r6 hu0 hxs hoff hcells
 rw[←hvs] at hsp
 rw[hsp] at e2
 have hmem:∀u∈us.set kq u',u.cells.size=m':=fun u hu=>by
  rcases List.mem_or_eq_of_mem_set hu with hu | rfl
  ·exact r6 u hu
  ·exact hu'
 have hfl:=qbz hmem
 rw[List.length_set] at hfl
 have hmul:m'*es.length=us.length*m':=by rw[hul,Nat.mul_comm]
 have hmul2:us.length*m'≤g.cap*m':=Nat.mul_le_mul_right m' (by omega)
 refine⟨by simpa using r1,r2,_,tt,us.set kq u',e2,?_,qca (fun i g h=>⟨g,h,rfl⟩) hle (qba5 r5 he' kq),hmem,?_⟩
 ·rw[List.length_append,hfl,List.length_drop,hmul];omega
 ·rw[List.length_set,hmul,←hfl,List.take_left]

theorem qg8{t:TypeId}{b o:Nat}{v:Value}:(Instr.storeAt t (.pointer (some ⟨b,o,none⟩)) v).run P w=(storeVar t ⟨b,o,none⟩ v).run P w:=by
 simp[Instr.storeAt,Instr.sureAddr]

theorem qd3{α:Type}(l:List α)(i:Nat)(x:α)(h:l[i]?=some x):l.set i x=l:=by
 apply List.ext_getElem?
 intro j
 by_cases hj:i=j
 ·subst hj
  have:=(List.getElem?_eq_some_iff.1 h).1
  simp[this,h]
  exact((List.getElem?_eq_some_iff.1 h).2).symm
 ·rw[List.getElem?_set_ne hj]

theorem q8s{m off:Nat}(c:Co){v:AV}{x:Value}{cs:List AV}{kk:List AV->Prop}(hx:VR w M G v x)(h:(stc m off (un1 m c v) cs).bnd kk):∃x',VR w M G (un1 m c v) x'∧x'.cells=x.cells:=by
 revert h
 unfold un1
 split
 ·rename_i u
  intro h
  unfold stc at h
  rw[if_pos rfl] at h
  simp only[Rs.bnd] at h
  obtain⟨⟨_,hl⟩,_⟩:=h
  obtain⟨vs,rfl,y,r,h1,h2,h3⟩:=hx
  have hr:r=[]:=by simpa [VRs] using h3
  subst hr
  obtain⟨_,h5⟩:=qg5 h2 hl
  exact⟨y,h2,by rw[h5,h1];rfl⟩
 ·exact fun _=>⟨x,hx,rfl⟩
theorem q9g(hst:St w M G H)(n:Nat)(c:Co){v:AV}{x:Value}(h:VR w M G v x):VR w M G (sto n c H v) x:=by
 have hc:=qdo hst c v x h
 cases c with
 | id=>exact hc
 | agg cs=>exact hc
 | sl m =>
   unfold sto
   simp only
   split
   ·cases v<;>first | exact h | exact hc
   ·exact hc

theorem qck7{o:Oper}{t:TypeId}{x z:Operand}{y u:Opd}{m:Nat}{c:Co}(ho:o.op=.store t x z)(hm:qcb P t=some m)(hm0:0<m)(hy:cO x=some y)(hu:cO z=some u)(hst:St w M G H)(hr:RelF w M G n af a)
 (h:(evi af H (.st m c y u)).bnd fun p=>k p.1 p.2):Do P w M G a o k:=by
 have hp:=qt hy hr
 have hv:=qt hu hr
 have main:∃H' w' G',k (.tup []) H'∧Ext w M G w' M G'∧St w' M G' H'∧(Instr.storeAt t (a.eval x) (a.eval z)).run P w=.ok () w':=by
  simp only[evi] at h
  rw[qbx] at h
  simp only at h
  generalize gt af u=v at *
  cases hq:gt af y<;>simp only[hq,stv,Rs.bnd] at h<;>rw[hq] at hp
  case ptr i off =>
   obtain⟨g,hg,hx⟩:=hp
   rw[hx,qg8]
   cases he:ent H i<;>simp only[he,Rs.bnd] at h
   rename_i cs
   rw[qbx] at h
   have hH:=qba he (by simp)
   obtain⟨h1,⟨vs,tt,h2,h3⟩,h4⟩:=hst.ok i g _ hg hH
   obtain⟨x',hx',hxc⟩:=q8s c hv h
   obtain⟨cs',k1,k2,k3,k4,k5,k6⟩:=qu3 hm0 hx' h3 h
   rw[hxc] at k2 k4 k5
   obtain⟨w',e1,e2,e3,e4,e5,e6,e7⟩:=qhj hm k2 h2 k3 k4
   have hgi:=(List.getElem?_eq_some_iff.1 hg).1
   have hGs:G.set i g=G:=qd3 G i g hg
   have hold:∀b,b<w.heap.size->¬g.fp b->w'.heap[b]?=w.heap[b]?:=fun b _ hb=>e7 b (fun hbb=>hb ((h1 b).2 hbb))
   have hLe:Le w M w' M:=fun b q hq=>⟨hq,World.cell?_of_block (w:=w) (e7 b (fun hbb=>h4 q (hbb ▸ hq)))⟩
   have hst':St w' M (G.set i g) (H.set i (.blk cs')):=by
    refine qik hst hg rfl (fun _ h=>h) (by omega) hold hLe (fun _ _ h=>.inl h) ?_
    rw[hGs]
    exact⟨h1,⟨_,tt,e2,qca (fun i g h=>⟨g,h,rfl⟩) hLe k5⟩,h4⟩
   have hext:Ext w M G w' M (G.set i g):=qrx hst hg rfl (fun _ h=>h) e3 e4 e5 (by omega) hold hLe (fun _ _ h=>.inl h)
   rw[hGs] at hst' hext
   exact⟨_,w',G,k1,hext,hst',e1⟩
  case rptr i n' kk off =>
   obtain⟨g,hg,hx⟩:=hp
   rw[hx,qg8]
   cases he:ent H i<;>simp only[he,Rs.bnd] at h
   rename_i m' es
   have hH:=qba he (by simp)
   obtain⟨h1,⟨r1,r2,vs,tt,us,r3,r4,r5,r6,r7⟩,h4⟩:=hst.ok i g _ hg hH
   have hul:=ql r5
   have hvc:=qdo hst c v _ hv
   have hGs:G.set i g=G:=qd3 G i g hg
   have fin:∀(es':List AV) (w':World) (vs':List Value),w'.heap[g.blk]?=some (.cells vs'.toArray tt (0,0))->w'.os=w.os->w'.tape=w.tape->w'.output=w.output->w'.heap.size=w.heap.size->(∀c,c≠g.blk->w'.heap[c]?=w.heap[c]?) →
    (Le w M w' M->qlw w' M G g m' es')->Ext w M G w' M G∧St w' M G (H.set i (.mrow m' es')):=by
    intro es' w' vs' e2 e3 e4 e5 e6 e7 hrow
    have hold:∀b,b<w.heap.size->¬g.fp b->w'.heap[b]?=w.heap[b]?:=fun b _ hb=>e7 b (fun hbb=>hb ((h1 b).2 hbb))
    have hLe:Le w M w' M:=fun b q hq=>⟨hq,World.cell?_of_block (w:=w) (e7 b (fun hbb=>h4 q (hbb ▸ hq)))⟩
    have hst':St w' M (G.set i g) (H.set i (.mrow m' es')) :=
     qik hst hg rfl (fun _ h=>h) (by omega) hold hLe (fun _ _ h=>.inl h) (by rw[hGs];exact⟨h1,hrow hLe,h4⟩)
    have hext:Ext w M G w' M (G.set i g):=qrx hst hg rfl (fun _ h=>h) e3 e4 e5 (by omega) hold hLe (fun _ _ h=>.inl h)
    rw[hGs] at hst' hext
    exact⟨hext,hst'⟩
   have hcapm:us.length*m'≤g.cap*m':=Nat.mul_le_mul_right m' (by omega)
   split at h
   ·rename_i h0
    obtain⟨rfl,rfl⟩:=h0
    simp only[Rs.bnd] at h
    obtain⟨⟨rfl,hk,hsh⟩,h⟩:=h
    have hvt:=q9g hst m' c hv
    obtain⟨u0,hu0,_⟩:=qc1 r5 hk
    have hsz:(a.eval z).cells.size=m'∧∀q∈(a.eval z).cells.toList,q.oneCell'=true:=by
     rcases hsh with ⟨s1,s2,s3⟩ | ⟨s1,s2⟩
     ·have hc:=qd4 hvt (.inl s1)
      have:=ql hc
      exact⟨by simpa [s2] using this,qmv hc s3⟩
     ·obtain⟨s3,s4⟩:=qg5 hvt s2
      exact⟨by simp[s4,s1],by simp[s4,s3]⟩
    have hprod:kk*m'+m'≤us.length*m':=by rw[←Nat.succ_mul];exact Nat.mul_le_mul_right m' (by omega)
    obtain⟨w',e1,e2,e3,e4,e5,e6,e7⟩:=qhj (o:=kk*m'+0) hm hsz.1 r3 (by omega) hsz.2
    have hu0s:=r6 u0 (List.mem_of_getElem? hu0)
    obtain⟨f1,f2⟩:=fin (es.set kk (sto _ c H v)) w' _ e2 e3 e4 e5 e6 e7 (fun hle=>qpz (off':=0) (mm:=m') (xs:=(a.eval z).cells.toList) hle r1 r2 r4 r5 r6 r7 hu0 hvt hsz.1 (by simpa using hsz.1) (by omega)
     (by rw[List.take_zero,List.drop_of_length_le (by simp;omega)];simp) e2)
    exact⟨_,w',G,h,f1,f2,e1⟩
   ·simp only[Rs.bnd] at h
    obtain⟨⟨rfl,hk,hag⟩,h⟩:=h
    rw[qbx] at h
    obtain⟨u0,hu0,hu0v⟩:=qc1 r5 hk
    obtain⟨cs0,vs0,hcs0,rfl,hvs0⟩:=qkd hu0v hag
    rw[hcs0] at h
    simp only[AV.cells] at h
    obtain⟨cs',k1,k2,k3,k4,k5,k6⟩:=qu3 hm0 hvc hvs0 h
    have hu0s:vs0.length=m':=by have:=r6 _ (List.mem_of_getElem? hu0);simpa [Value.cells] using this
    have hprod:kk*m'+m'≤us.length*m':=by rw[←Nat.succ_mul];exact Nat.mul_le_mul_right m' (by omega)
    obtain⟨w',e1,e2,e3,e4,e5,e6,e7⟩:=qhj (o:=kk*m'+off) hm k2 r3 (by omega) k4
    obtain⟨f1,f2⟩:=fin (es.set kk (.agg cs')) w' _ e2 e3 e4 e5 e6 e7 (fun hle=>qpz (off':=off) (mm:=m) (u':=.agg (vs0.take off++((a.eval z).cells.toList++vs0.drop (off+m))).toArray) (xs:=(a.eval z).cells.toList) hle r1 r2 r4 r5 r6 r7 hu0
     ⟨_,rfl,k5⟩ (by rw[qou,List.size_toArray,List.length_append,List.length_append,List.length_take,List.length_drop,show(a.eval z).cells.toList.length=m by simpa using k2];omega) (by simpa using k2) (by omega) (by rw[qou,qou]) e2)
    exact⟨_,w',G,k1,f1,f2,e1⟩
 obtain⟨H',w',G',h1,h2,h3,h4⟩:=main
 refine⟨_,H',undef,w',M,G',h1,h2,h3,⟨[],rfl,rfl⟩,.inr ⟨?_,rfl⟩⟩
 simp only[execOp,ho,Sem.run_bind,h4,Result.andThen_ok,Sem.run_pure]
end

section
variable {P:Program} {w:World} {M:Nat->Nat->Prop} {G:List Gh} {H:List Ent} {n:Nat} {af:AF} {a:Act} {k:AV->List Ent->Prop}

theorem qbj{t e:TypeId}(h:qgv P t=some e):P.underlying t=some (.slice e):=by
 unfold qgv at h
 split at h
 ·rename_i e' he;simp at h;subst h;exact he
 ·cases h
theorem qls{t:TypeId}{i:TypeInfo}(h:P.info? t=some i):(typeInfo t).run P w=.ok i w:=by
 simp[typeInfo,h]
theorem qoq{t:TypeId}{m:Nat}(h:qig P t=some m):∃i,P.info? t=some i∧i.bytes=m:=by
 unfold qig at h
 cases hi:P.info? t with
 | none=>simp[hi] at h
 | some i=>exact⟨i,rfl,by simpa [hi] using h⟩

def Madd(M:Nat->Nat->Prop)(b m:Nat):Nat->Nat->Prop:=fun c o=>M c o∨(c=b∧o<m)

theorem qbrf(hst:St w M G H){es:List AV}{us:List Value}{m:Nat}{t:TypeId}(hv:VRs w M G es us)(hm:∀u∈us,u.cells.size=m)(hone:∀u∈us,∀c∈u.cells.toList,c.oneCell'=true)(hl:us.length≤maxLen):
 let w':=w.alloc (.cells (us.flatMap (·.cells.toList)).toArray t)
 let M':=Madd M w.heap.size (us.flatMap (·.cells.toList)).length
 Ext w M G w' M' G∧St w' M' G H∧VR w' M' G (.lit m es) (.slice (some ⟨w.heap.size,0,none⟩) us.length us.length):=by
 intro w' M'
 have hold:∀b,b<w.heap.size->w'.heap[b]?=w.heap[b]?:=fun b hb=>Below.heap_alloc _ _ _ hb
 have hfr:∀b o,M' b o->M b o∨(w.heap.size≤b∧b<w'.heap.size∧∀v,w'.cell? ⟨b,o,none⟩=some v->v.oneCell'=true):=fun b o h=>by
  rcases h with h | ⟨rfl,h⟩
  ·exact .inl h
  ·refine .inr ⟨Nat.le_refl _,by show w.heap.size<(w.alloc _).heap.size;simp,fun v hv=>?_⟩
   rw[qec (qcg w _)] at hv
   obtain⟨u,hu,hc⟩:=List.mem_flatMap.1 (List.mem_of_getElem? hv)
   exact hone u hu v hc
 have hsz:w.heap.size≤w'.heap.size:=by show w.heap.size≤(w.alloc _).heap.size;simp
 refine⟨qzb hst rfl rfl rfl hsz hold (fun _ _ h=>.inl h) (fun b o h=>(hfr b o h).imp id fun q=>⟨q.1,q.2.1⟩),q76 hst hsz hold (fun _ _ h=>.inl h) hfr,some ⟨w.heap.size,0,none⟩,us,?_,⟨Nat.le_refl _,hl,hm,.inr ⟨rfl,fun j v hj=>?_⟩⟩,rfl⟩
 ·exact qca (fun i g h=>⟨g,h,rfl⟩) (fun b o h=>⟨.inl h,World.cell?_of_block (w:=w) (hold b (hst.Mlt b o h))⟩) hv
 ·simp only[Nat.zero_add]
  have hj':=(List.getElem?_eq_some_iff.1 hj).1
  exact⟨by rw[qec (qcg w _)];exact hj,.inr ⟨rfl,hj'⟩⟩

theorem qv2{P:Program}{c:Co}(hst:St w M G H)(hr:RelF w M G n af a):∀(parts:List (Nat×Operand)) (j:Nat) (l:List (Opd×Co)),cRow P c parts j=some l →
 VRs w M G (gco H af l) (parts.map fun p=>a.eval p.2)∧∀(i:Nat) (p:Nat×Operand),parts[i]?=some p->p.1=j+i
 | [],j,l,h=>by simp[cRow] at h;subst h;exact⟨rfl,by simp⟩
 | (i, x) :: r, j, l, h => by
   simp only[cRow] at h
   split at h
   ·rename_i hij
    split at h
    ·rename_i b l' hb hl
     simp at h;subst h
     obtain⟨h1,h2⟩:=qv2 hst hr r (j+1) l' hl
     refine⟨⟨_,_,rfl,qdo hst _ _ _ (qt hb hr),h1⟩,fun q p hq=>?_⟩
     cases q with
     | zero=>simp at hq;subst hq;simpa using hij
     | succ q=>simp at hq;have:=h2 q p hq;omega
    ·cases h
   ·cases h

theorem qkk{m:Nat}:∀{l:List AV},qbc5 m l->∀v∈l,v.cells.length=m∧v.flat
 | [],_,v,hv=>by cases hv
 | x :: r, h, v, hv => by
   obtain⟨h1,h2⟩:=h
   rcases List.mem_cons.1 hv with rfl | hv
   ·exact h1
   ·exact qkk h2 v hv

theorem qix{v:AV}{x:Value}(h:VR w M G v x)(hf:v.flat):∀c∈x.cells.toList,c.oneCell'=true:=by
 have hc:=qd4 h (by rcases hf with q | q<;>simp[q])
 rcases hf with ⟨_,h2⟩ | h2
 ·exact qmv hc h2
 ·obtain⟨s3,s4⟩:=qg5 h h2
  intro c hc;rw[s4] at hc;simp at hc;subst hc;exact s3

theorem qfi{l:List AV}{us:List Value}(hv:VRs w M G l us)(h:∀v∈l,v.flat):∀u∈us,∀c∈u.cells.toList,c.oneCell'=true:=by
 induction l generalizing us with
 | nil=>simp only[VRs] at hv;subst hv;simp
 | cons c l ih =>
   simp only[VRs] at hv
   obtain⟨x,r,rfl,h1,h2⟩:=hv
   intro u hu
   rcases List.mem_cons.1 hu with rfl | hu
   ·exact qix h1 (h c (by simp))
   ·exact ih h2 (fun v hv=>h v (by simp[hv])) u hu

theorem qbb2{l:List AV}{us:List Value}{m:Nat}(hv:VRs w M G l us)(h:∀v∈l,v.cells.length=m∧v.flat):∀u∈us,u.cells.size=m:=by
 induction l generalizing us with
 | nil=>simp only[VRs] at hv;subst hv;simp
 | cons c l ih =>
   simp only[VRs] at hv
   obtain⟨x,r,rfl,h1,h2⟩:=hv
   intro u hu
   rcases List.mem_cons.1 hu with rfl | hu
   ·have:=ql (qd4 h1 (by rcases(h c (by simp)).2 with q | q<;>simp[q]))
    rw[(h c (by simp)).1] at this
    simpa using this
   ·exact ih h2 (fun v hv=>h v (by simp[hv])) u hu

theorem q0e{m:Nat}:∀(ps:List (Nat×Value)) (j:Nat) (A R:List Value) (cells:Array Value),(∀(i:Nat) (p:Nat×Value),ps[i]?=some p->p.1=j+i∧p.2.cells.size=m) →
 cells.toList=A++R->A.length=j*m->R.length=ps.length*m->Instr.fill (fun i=>some (i*m,m)) cells ps=some (A++ps.flatMap (·.2.cells.toList)).toArray
 | [], j, A, R, cells, h, hc, hA, hR => by
   have:R=[]:=List.eq_nil_of_length_eq_zero (by simpa using hR)
   subst this
   simp only[Instr.fill,List.flatMap_nil,List.append_nil]
   rw[←hc.trans (by simp:A++[]=A)]
 | (i, v) :: ps, j, A, R, cells, h, hc, hA, hR => by
   obtain⟨h1,h2⟩:=h 0 (i,v) (by simp)
   simp only[Nat.add_zero] at h1 h2
   subst h1
   have hcs:cells.size=i*m+R.length:=by rw[←Array.length_toList,hc,List.length_append,hA]
   simp only[List.length_cons,Nat.succ_mul] at hR
   obtain⟨c',e1,e2⟩:=qu1 (place:=fun i=>some (i*m,m)) (i:=i) (off:=i*m) (m:=m) (v:=v) (rest:=ps) (cells:=cells) rfl h2 (by rw[hcs];omega)
   rw[e1]
   have e3:c'.toList=(A++v.cells.toList)++R.drop m:=by
    rw[e2,hc,List.take_left' hA,List.append_assoc,←hA,←List.drop_drop,List.drop_left]
   have:=q0e ps (i+1) (A++v.cells.toList) (R.drop m) c' (fun q p hq=>by have:=h (q+1) p (by simpa using hq);exact⟨by omega,this.2⟩) e3 (by simp[hA,h2,Nat.succ_mul]) (by simp;omega)
   rw[this]
   simp[List.append_assoc]

theorem qcdr{o:Oper}{t e:TypeId}{len m:Nat}{parts:Array (Nat×Operand)}{l:List (Opd×Co)}(ho:o.op=.buildSlice t len parts)(he:qgv P t=some e)(hm:qcb P e=some m)(hl:cRow P (coT P e) parts.toList 0=some l)
 (hlen:l.length=len) (hbig:len*m≤16777216) (hz:len*m=0∨((P.info? e).bind (·.zero)).isSome=true) (hm0:0<m) (hst:St w M G H) (hr:RelF w M G n af a) (h:(evi af H (.v (.bsl m l))).bnd fun p=>k p.1 p.2):Do P w M G a o k:=by
 refine Do.of (s:=Instr.buildSlice t len (parts.map fun(i,x)=>(i,a.eval x))) (by simp only[execOp,ho]) ?_
 simp only[evi] at h
 rw[qbx] at h
 simp only[evv,Rs.bnd] at h
 obtain⟨hok,h⟩:=h
 obtain⟨hv,hidx⟩:=qv2 hst hr parts.toList 0 l hl
 have hsz:=qbb2 hv (qkk hok)
 have hll:∀(ps:List (Nat×Operand)) (j:Nat) (l:List (Opd×Co)),cRow P (coT P e) ps j=some l->l.length=ps.length:=by
  intro ps
  induction ps with
  | nil=>intro j l h;simp[cRow] at h;subst h;rfl
  | cons p r ih =>
    intro j l h
    obtain⟨i,x⟩:=p
    simp only[cRow] at h
    split at h
    ·split at h
     ·rename_i b l' hb hl'
      simp at h;subst h
      simp[ih _ _ hl']
     ·cases h
    ·cases h
 have hpl:parts.toList.length=len:=by rw[←hll _ _ _ hl];exact hlen
 have hmaxl:len≤maxLen:=by unfold maxLen;have:=Nat.le_mul_of_pos_right len hm0;omega
 obtain⟨g1,g2,g3⟩:=qbrf (t:=e) hst hv hsz (qfi hv fun v hv=>(qkk hok v hv).2) (by simpa [hpl] using hmaxl)
 have hpt:(parts.map fun(i,x)=>(i,a.eval x)).toList=parts.toList.map fun(i,x)=>(i,a.eval x):=by simp
 -- the row before it is filled
 have hfill:∀cells:Array Value,cells.size=len*m->Instr.fill (fun i=>some (i*m,m)) cells (parts.toList.map fun(i,x)=>(i,a.eval x))=some ((parts.toList.map fun p=>a.eval p.2).flatMap (·.cells.toList)).toArray:=by
  intro cells hc
  have:=q0e (m:=m) (parts.toList.map fun(i,x)=>(i,a.eval x)) 0 [] cells.toList cells (fun i p hp=>?_) (by simp) (by simp) (by simp only[List.length_map,hpl];simpa using hc)
  ·rw[this];simp[List.flatMap_map]
  ·simp only[List.getElem?_map,Option.map_eq_some_iff] at hp
   obtain⟨q,hq,rfl⟩:=hp
   exact⟨hidx i q hq,hsz _ (List.mem_map.2 ⟨q,List.mem_of_getElem? hq,rfl⟩)⟩
 refine⟨_,H,_,_,_,G,h,g1,g2,g3,?_⟩
 have hb:¬(len*m > 2 ^ 24):=by simp;omega
 have hlm:(parts.toList.map fun p=>a.eval p.2).length=len:=by simpa using hpl
 simp only[Instr.buildSlice,Sem.run_bind,run_underlying (qbj he),Result.andThen_ok,qw hm,Sem.run_ite,if_neg hb,Sem.run_pure]
 rw[hlm]
 by_cases h0:len*m=0
 ·simp only[h0,if_true,Result.andThen_ok,hpt]
  rw[hfill _ (by simp[h0])]
  simp[newRow]
 ·have hzz:=hz.resolve_left h0
  obtain⟨z,hz'⟩:=Option.isSome_iff_exists.1 hzz
  simp only[h0,if_false,qgc hz',Result.andThen_ok,hpt]
  rw[hfill _ (by simp)]
  simp[newRow]

theorem qus(hst:St w M G H){es:List AV}{us vs:List Value}{m c:Nat}{t:TypeId}(hv:VRs w M G es us)(hm:∀u∈us,u.cells.size=m)(hc:c≤maxLen)(hlc:us.length≤c)(hvs:vs.length=c*m)(htk:vs.take (m*us.length)=us.flatMap (·.cells.toList)):
 ∃g:Gh,g.blk=w.heap.size∧g.cap=c∧St (w.alloc (.cells vs.toArray t)) M (G++[g]) (H++[.mrow m es])∧Ext w M G (w.alloc (.cells vs.toArray t)) M (G++[g]):=by
 have hul:=ql hv
 refine⟨{ blk:=w.heap.size,cap:=c,fp:=fun b=>b=w.heap.size },rfl,rfl,?_,?_⟩
 ·refine qhg hst (by simp) (fun b hb=>Below.heap_alloc _ _ _ hb) (fun _ _ h=>h) (fun _ _ h=>.inl h) (fun b o h=>by have:=hst.Mlt b o h;simp;omega) (fun b hb=>by subst hb;simp) ?_
  refine⟨fun b=>Iff.rfl,⟨by rw[←hul];exact hlc,hc,vs,t,us,qcg _ _,hvs,?_,hm,by rw[←hul];exact htk⟩,fun o hm=>by have:=hst.Mlt _ o hm;simp at this⟩
  exact qca (qhv G _) (fun b o hm=>⟨hm,World.cell?_of_block (w:=w) (Below.heap_alloc _ _ _ (hst.Mlt b o hm))⟩) hv
 ·exact qgh hst rfl rfl rfl (by simp) (fun b hb=>Below.heap_alloc _ _ _ hb) (fun _ _ h=>h) (fun _ _ h=>.inl h) (fun b hb=>by subst hb;exact Nat.le_refl _)

theorem qbet(hst:St w M G H){es:List AV}{us vs:List Value}{m c:Nat}{t:TypeId}(hv:VRs w M G es us)(hm:∀u∈us,u.cells.size=m)(hone:∀u∈us,∀c∈u.cells.toList,c.oneCell'=true)(hc:c≤maxLen)(hlc:us.length≤c)(hvs:vs.length=c*m)(htk:vs.take (m*us.length)=us.flatMap (·.cells.toList)):
 ∃g:Gh,g.blk=w.heap.size∧g.cap=c∧St (w.alloc (.cells vs.toArray t)) (Madd M w.heap.size (m*us.length)) (G++[g]) (H++[.app m es])∧Ext w M G (w.alloc (.cells vs.toArray t)) (Madd M w.heap.size (m*us.length)) (G++[g]):=by
 have hul:=ql hv
 have hfr:∀b o,Madd M w.heap.size (m*us.length) b o->M b o∨w.heap.size≤b∧∀v,(w.alloc (.cells vs.toArray t)).cell? ⟨b,o,none⟩=some v->v.oneCell'=true:=fun b o h=>by
  rcases h with h | ⟨rfl,h⟩
  ·exact .inl h
  ·refine .inr ⟨Nat.le_refl _,fun v hv=>?_⟩
   rw[qec (qcg w _)] at hv
   have hv':(us.flatMap (·.cells.toList))[o]?=some v:=by rw[←htk,List.getElem?_take_of_lt h];exact hv
   obtain⟨u,hu,hc⟩:=List.mem_flatMap.1 (List.mem_of_getElem? hv')
   exact hone u hu v hc
 refine⟨{ blk:=w.heap.size,cap:=c,fp:=fun b=>b=w.heap.size },rfl,rfl,?_,?_⟩
 ·refine qhg hst (by simp) (fun b hb=>Below.heap_alloc _ _ _ hb) (fun _ _ h=>.inl h) hfr (fun b o h=>?_) (fun b hb=>by subst hb;simp) ?_
  ·rcases h with h | ⟨rfl,h⟩
   ·have:=hst.Mlt b o h;simp;omega
   ·simp
  refine⟨fun b=>Iff.rfl,⟨by rw[←hul];exact hlc,hc,vs,t,us,qcg _ _,hvs,?_,hm,by rw[←hul];exact htk⟩,fun o=>?_⟩
  ·exact qca (qhv G _) (fun b o hm=>⟨.inl hm,World.cell?_of_block (w:=w) (Below.heap_alloc _ _ _ (hst.Mlt b o hm))⟩) hv
  ·rw[←hul]
   constructor
   ·rintro (h | ⟨_,h⟩)
    ·have:=hst.Mlt _ o h;simp at this
    ·exact h
   ·exact fun h=>.inr ⟨rfl,h⟩
 ·exact qgh hst rfl rfl rfl (by simp) (fun b hb=>Below.heap_alloc _ _ _ hb) (fun _ _ h=>.inl h) (fun b o h=>(hfr b o h).imp id (·.1)) (fun b hb=>by subst hb;exact Nat.le_refl _)

theorem qo4(z:Value)(l:Nat):((List.replicate l z).flatMap (·.cells.toList))=(List.range (l*z.cells.size)).map fun i=>z.cells[i % z.cells.size]!:=by
 induction l with
 | zero=>simp
 | succ l ih =>
   rw[List.replicate_succ',List.flatMap_append,ih,Nat.succ_mul,List.range_add,List.map_append]
   congr 1
   apply List.ext_getElem?
   intro i
   simp only[List.flatMap_cons,List.flatMap_nil,List.append_nil,List.map_map,List.getElem?_map]
   by_cases hi:i<z.cells.size
   ·simp[hi,Nat.mod_eq_of_lt hi]
   ·simp[hi]

theorem qrb{z:AV}{x:Value}(h:VR w M G z x)(l:Nat):VRs w M G (List.replicate l z) (List.replicate l x):=by
 induction l with
 | zero=>rfl
 | succ l ih=>exact⟨x,_,rfl,h,ih⟩

theorem qfk{z:Int}(h0:0≤z)(h1:z≤maxLen):IntKind.i64.wrap z=z:=by
 unfold maxLen at h1
 simp[IntKind.wrap,IntKind.signed,IntKind.bits]
 omega

theorem qckf{o:Oper}{t e:TypeId}{len cap:Operand}{l c:Opd}{m bytes:Nat}{z:AV}(ho:o.op=.makeSlice t len cap)(he:qgv P t=some e)(hm:qcb P e=some m)(hby:qig P e=some bytes)(hz:qgt P e=some z)
 (hzl:z.cells.length=m) (hza:z.cells.all AV.leaf=true) (hm0:0<m) (hl:cO len=some l) (hc:cO cap=some c) (hst:St w M G H) (hr:RelF w M G n af a) (h:(evi af H (.mks m z bytes l c)).bnd fun p=>k p.1 p.2):Do P w M G a o k:=by
 refine Do.of (s:=Instr.makeSlice t (a.eval len) (a.eval cap)) (by simp only[execOp,ho]) ?_
 have hvl:=qt hl hr
 have hvc:=qt hc hr
 simp only[evi] at h
 cases hq:gt af l<;>cases hq':gt af c<;>simp only[hq,hq',mksv,Rs.bnd] at h
 rw[hq] at hvl;rw[hq'] at hvc
 rename_i k1 z1 k2 z2
 obtain⟨⟨h0,rfl,hb,hmx⟩,h⟩:=h
 obtain⟨i,hi,hib⟩:=qoq hby
 obtain⟨zv,hz1,hz2,hzf⟩:=qex (w:=w) (M:=M) (G:=G) hz
 have hzc:=qd4 hz2 (by rcases hzf with q | q<;>simp[q])
 have hzs:zv.cells.size=m:=by have:=ql hzc;simpa [hzl] using this
 have hrep:=qrb hz2 z1.toNat
 have hfl:=qo4 zv z1.toNat
 rw[hzs] at hfl
 have hmaxn:z1.toNat≤maxLen:=by omega
 obtain⟨g,hg1,hg2,hg3,hg4⟩:=qus (m:=m) (t:=e) (vs:=(List.range (z1.toNat*m)).map fun i=>zv.cells[i % m]!) (c:=z1.toNat) hst hrep (fun u hu=>by rw[(List.mem_replicate.1 hu).2];exact hzs) hmaxn (by simp) (by simp)
  (by rw[hfl,List.length_replicate];apply List.take_of_length_le;simp;rw[Nat.mul_comm];exact Nat.le_refl _)
 refine⟨_,_,.slice (some ⟨w.heap.size,0,none⟩) z1.toNat z1.toNat,_,_,_,h,hg4,hg3,⟨g,?_,by rw[hg1,hg2]⟩,?_⟩
 ·rw[←hst.len,getElem?_snoc];simp
 ·have hw:=qfk h0 hmx
  have hb':¬((bytes:Int)*z1 > 2 ^ 48):=by
   have:(2:Int) ^ 48=281474976710656:=by decide
   rw[this];omega
  have hcond:¬((z1<0∨(bytes:Int)*z1 > 2 ^ 48)∨z1<0∨z1 > z1):=by omega
  simp only[Instr.makeSlice,Sem.run_bind,run_underlying (qbj he),Result.andThen_ok,hvl.1,hvc.1,asInt,asIntOf,Sem.run_pure,qls hi,hib,hw]
  have c1:((decide (z1<0)||decide ((bytes:Int)*z1 > 2 ^ 48)||decide (z1<0)||decide (z1 > z1))=true)=False:=by
   simp only[Bool.or_eq_true,decide_eq_true_eq,eq_iff_iff,iff_false];omega
  simp only[c1,if_false,run_askRoom,Result.andThen_ok,qw hm,Sem.run_bind,Sem.run_ite]
  by_cases hz0:z1.toNat*m=0
  ·have hr0:Array.range 0 = #[]:=rfl
   simp[hz0,newRow,hr0]
  ·simp[hz0,hz1,newRow,hzs]
   congr 2
   apply Array.ext'
   simp[Array.toList_range]
end

section
variable {P:Program} {w:World} {M:Nat->Nat->Prop} {G:List Gh} {H:List Ent} {n:Nat} {af:AF} {a:Act} {k:AV->List Ent->Prop}

def Src(P:Program)(w:World)(M:Nat->Nat->Prop)(G:List Gh)(m:Nat)(ys:List AV)(y:Value):Prop :=
 ∃ us, VRs w M G ys us ∧ (∀ u ∈ us, u.cells.size = m) ∧ (∀ u ∈ us, ∀ c ∈ u.cells.toList, c.oneCell' = true) ∧ (Builtin.lenOf y).run P w = .ok us.length w ∧
   ∀w':World,(∀b o,M b o->w'.cell? ⟨b,o,none⟩=w.cell? ⟨b,o,none⟩)->(Builtin.firstCells m us.length y).run P w'=.ok (us.flatMap (·.cells.toList)).toArray w'

theorem qc2{m cap:Nat}{us:List Value}{ad:Option Addr}(h:SlOK w M m us ad cap)(w':World)(hw:∀b o,M b o->w'.cell? ⟨b,o,none⟩=w.cell? ⟨b,o,none⟩):
 (Builtin.firstCells m us.length (.slice ad us.length cap)).run P w'=.ok (us.flatMap (·.cells.toList)).toArray w':=by
 obtain⟨h1,h2,h3,h4⟩:=h
 cases ad with
 | none =>
   have h4:cap=0:=h4
   have:us=[]:=List.eq_nil_of_length_eq_zero (by omega)
   subst this
   simp[Builtin.firstCells]
 | some d =>
   rcases h4 with h4 | ⟨h5,h6⟩
   ·subst h4;simp[Builtin.firstCells,loadCells,loadCellsFrom]
   have hd:d=⟨d.block,d.off+0,none⟩:=by cases d;simp at h5;subst h5;rfl
   have hl:=qbz h3
   simp only[Builtin.firstCells]
   rw[hd,qe5 (vs:=us.flatMap (·.cells.toList)) (fun j v hj=>by obtain⟨q1,q2⟩:=h6 j v hj;rw[hw _ _ q2];exact q1) 0 (us.length*m) (by omega)]
   rw[List.drop_zero,List.take_of_length_le (by omega)]

theorem qmc(hst:St w M G H){m cap:Nat}{us:List Value}{ad:Option Addr}(h:SlOK w M m us ad cap):∀u∈us,∀c∈u.cells.toList,c.oneCell'=true:=by
 obtain⟨h1,h2,h3,h4⟩:=h
 intro u hu c hc
 cases ad with
 | none =>
   have h4:cap=0:=h4
   have:us=[]:=List.eq_nil_of_length_eq_zero (by omega)
   subst this;cases hu
 | some d =>
   obtain⟨j,hj⟩:=List.mem_iff_getElem?.1 (List.mem_flatMap.2 ⟨u,hu,hc⟩:c∈us.flatMap (·.cells.toList))
   obtain⟨q1,q2⟩:=(h4.resolve_left (fun e=>by subst e;cases hu)).2 j c hj
   exact hst.one _ _ _ q2 q1

theorem qlo{m:Nat}{v:AV}{y:Value}{kk:List AV->Prop}(hst:St w M G H)(hv:VR w M G v y)(h:(qna m H v).bnd kk):∃ys,kk ys∧Src P w M G m ys y:=by
 cases v<;>simp only[qna,Rs.bnd] at h
 case nils =>
  simp only[VR] at hv;subst hv
  exact⟨_,h,[],rfl,by simp,by simp,by simp[Builtin.lenOf],fun w' _=>by simp[Builtin.firstCells]⟩
 case sl m' es =>
  obtain⟨rfl,h⟩:=h
  obtain⟨ad,cap,us,h1,h2,rfl⟩:=hv
  exact⟨_,h,us,h1,h2.2.2.1,qmc hst h2,by simp[Builtin.lenOf],fun w' hw=>qc2 h2 w' hw⟩
 case lit m' es =>
  obtain⟨rfl,h⟩:=h
  obtain⟨ad,us,h1,h2,rfl⟩:=hv
  exact⟨_,h,us,h1,h2.2.2.1,qmc hst h2,by simp[Builtin.lenOf],fun w' hw=>qc2 h2 w' hw⟩
 case row i len =>
  cases he:ent H i<;>simp only[he,Rs.bnd] at h
  rename_i m' es
  obtain⟨⟨rfl,hlen⟩,h⟩:=h
  obtain⟨g,hg,rfl⟩:=hv
  obtain⟨_,hrow,hM⟩:=hst.ok i g _ hg (qba he (by simp))
  obtain⟨us,h1,h2,h3⟩:=qmk hrow hM hlen
  subst h3
  exact⟨_,h,us,h1,h2.2.2.1,qmc hst h2,by simp[Builtin.lenOf],fun w' hw=>qc2 h2 w' hw⟩

theorem q20{need cap:Nat}(h:cap<need):Builtin.nextslicecap need cap≤need+need+768:=by
 have hg:∀r c,c≤need+need+768->Builtin.growBy need r c≤need+need+768:=by
  intro r
  induction r with
  | zero=>intro c hc;exact hc
  | succ r ih =>
    intro c hc
    simp only[Builtin.growBy]
    split
    ·exact hc
    ·exact ih _ (by omega)
 unfold Builtin.nextslicecap
 split
 ·omega
 ·split
  ·omega
  ·exact hg 4 cap (by omega)

theorem ql0(z:Array Value)(q:Nat):(Builtin.zeroCells z q).size=q*z.size:=by simp[Builtin.zeroCells]

theorem qgo{t e:TypeId}{ty:TypeId}{m bytes cap:Nat}{us vs:List Value}{ad:Option Addr}{y:Value}{t':TypeId}{ys:List AV}{z:AV}(he:qgv P t=some e)(he':qgv P t'=some e)(hm:qcb P e=some m)(hby:qig P e=some bytes)(hz:qgt P e=some z)
 (hzl:z.cells.length=m) (hfc:(Builtin.firstCells m us.length (.slice ad us.length cap)).run P w.drew=.ok (us.flatMap (·.cells.toList)).toArray w.drew) (hvs:(Builtin.lenOf y).run P w=.ok vs.length w) (hc:∀w':World,(∀b o,M b o->w'.cell? ⟨b,o,none⟩=w.cell? ⟨b,o,none⟩)->(Builtin.firstCells m vs.length y).run P w'=.ok (vs.flatMap (·.cells.toList)).toArray w')
 (hgrow:cap<us.length+vs.length) (hb:((us.length+vs.length)+(us.length+vs.length)+768)*bytes≤281474976710656) (hbb:(us.length+vs.length)≤maxLen) :
 ∃ c rest, us.length + vs.length ≤ c ∧ c ≤ maxLen ∧ rest.length = (c - (us.length + vs.length)) * m ∧
   (Builtin.append_ #[t,t'] ty #[.slice ad us.length cap,y]).run P w=.ok (.slice (some ⟨w.heap.size,0,none⟩) (us.length+vs.length) c)
    (w.drew.alloc (.cells (us.flatMap (·.cells.toList)++vs.flatMap (·.cells.toList)++rest).toArray e)):=by
 obtain⟨i,hi,hib⟩:=qoq hby
 obtain⟨zv,hz1,hz2,hzf⟩:=qex (w:=w.drew) (M:=M) (G:=[]) hz
 have hzs:zv.cells.size=m:=by
  have hzc:=qd4 hz2 (by rcases hzf with q | q<;>simp[q])
  have:=ql hzc
  simpa [hzl] using this
 let q:=Question.appendCap (us.length+vs.length) cap e
 let c:=q.cut (w.tape w.drawn q)
 have hcut:c=(us.length+vs.length)+(w.tape w.drawn q) % (2 ^ 63-(us.length+vs.length)):=rfl
 have hml:us.length+vs.length<2 ^ 63:=by unfold maxLen at hbb;omega
 have hmod:=Nat.mod_lt (w.tape w.drawn q) (show 0<2 ^ 63-(us.length+vs.length) by omega)
 refine⟨c,(Builtin.zeroCells zv.cells (c-(us.length+vs.length))).toList,by omega,by unfold maxLen;omega,by simp[ql0,hzs],?_⟩
 have h1:¬(us.length+vs.length≤cap):=by omega
 have h2:¬(Builtin.nextslicecap (us.length+vs.length) cap*bytes > 2 ^ 48):=by
  have:=Nat.mul_le_mul_right bytes (q20 hgrow)
  have e48:(2:Nat) ^ 48=281474976710656:=by decide
  omega
 have h3:¬(((us.length+vs.length:Nat):Int) > IntKind.i64.max∧(False∨bytes=0)):=by
  intro hh
  have:=hh.1
  simp[IntKind.max,IntKind.signed,IntKind.bits] at this
  omega
 have hcells:∀b o,M b o->w.drew.cell? ⟨b,o,none⟩=w.cell? ⟨b,o,none⟩:=fun _ _ _=>rfl
 have hfy:=hc w.drew hcells
 have hzt:(match (TypeDesc.slice e) with | .int _=>true | _=>false)=false:=rfl
 unfold Builtin.append_
 simp only[List.getElem?_toArray,List.getElem?_cons_zero,List.getElem?_cons_succ,Sem.run_bind,run_underlying (qbj he),run_underlying (qbj he'),Result.andThen_ok,qw hm,Sem.run_pure,Bool.false_eq_true,if_false,hvs,Sem.run_ite,if_neg h1,
  qls hi,hib,if_neg h2,Bool.not_false,if_true]
 rw[if_neg h3]
 have hch:(choose q).run P w=.ok c w.drew:=rfl
 simp only[show Question.appendCap (us.length+vs.length) cap e=q from rfl,hch,Result.andThen_ok,run_askRoom,hfc,hfy,hz1,newRow,Sem.run_bind,run_newObj,Sem.run_pure,World.alloc_eq,World.size_drew]
 congr 3
 apply Array.ext'
 simp

theorem run_append_grow{t e:TypeId}{ty:TypeId}{m bytes cap:Nat}{us vs:List Value}{ad:Option Addr}{y:Value}{t':TypeId}{ys:List AV}{z:AV}(he:qgv P t=some e)(he':qgv P t'=some e)(hm:qcb P e=some m)(hby:qig P e=some bytes)(hz:qgt P e=some z)
 (hzl:z.cells.length=m) (hsl:SlOK w M m us ad cap) (hvs:(Builtin.lenOf y).run P w=.ok vs.length w) (hc:∀w':World,(∀b o,M b o->w'.cell? ⟨b,o,none⟩=w.cell? ⟨b,o,none⟩)->(Builtin.firstCells m vs.length y).run P w'=.ok (vs.flatMap (·.cells.toList)).toArray w')
 (hgrow:cap<us.length+vs.length) (hb:((us.length+vs.length)+(us.length+vs.length)+768)*bytes≤281474976710656) (hbb:(us.length+vs.length)≤maxLen) :
 ∃ c rest, us.length + vs.length ≤ c ∧ c ≤ maxLen ∧ rest.length = (c - (us.length + vs.length)) * m ∧
   (Builtin.append_ #[t,t'] ty #[.slice ad us.length cap,y]).run P w=.ok (.slice (some ⟨w.heap.size,0,none⟩) (us.length+vs.length) c)
    (w.drew.alloc (.cells (us.flatMap (·.cells.toList)++vs.flatMap (·.cells.toList)++rest).toArray e)):=by
 exact qgo (ys:=ys) he he' hm hby hz hzl (qc2 (P:=P) hsl w.drew (fun _ _ _=>rfl)) hvs hc hgrow hb hbb

theorem qo5{m cap b:Nat}{us cells:List Value}{tt:TypeId}(h:w.heap[b]?=some (.cells cells.toArray tt (0,0)))(hm:∀u∈us,u.cells.size=m)(ht:cells.take (m*us.length)=us.flatMap (·.cells.toList)):
 (Builtin.firstCells m us.length (.slice (some ⟨b,0,none⟩) us.length cap)).run P w=.ok (us.flatMap (·.cells.toList)).toArray w:=by
 have hl:=qbz hm
 simp only[Builtin.firstCells]
 rw[show(⟨b,0,none⟩:Addr)=⟨b,0+0,none⟩ from rfl,qe5 (vs:=us.flatMap (·.cells.toList)) (fun j v hj=>by
  have hjl:=(List.getElem?_eq_some_iff.1 hj).1
  rw[hl] at hjl
  rw[Nat.zero_add,qec h,←hj,←ht,List.getElem?_take_of_lt (by rw[Nat.mul_comm];exact hjl)]) 0 (us.length*m) (by omega)]
 rw[List.drop_zero,List.take_of_length_le (by omega)]

theorem qyp{o:Oper}{c:Call}{x y:Operand}{t t':TypeId}(ho:o.op=.call c)(hc:c.callee=.builtin .append)(hx:c.args.toList=[x,y])(ht:c.argTypes.toList=[t,t']):
 execOp a.eval o=(do pure (.value (←Builtin.append_ #[t,t'] o.type #[a.eval x,a.eval y]))):=by
 have hargs:c.args = #[x,y]:=by rw[←hx]
 have htys:c.argTypes = #[t,t']:=by rw[←ht]
 exact qgl ho hc (fun cs=>by simp[builtin,hargs,htys])

theorem qr9{t e t' ty:TypeId}{m bytes cap:Nat}{us vs:List Value}{ad:Option Addr}{y:Value}{es ys:List AV}{z:AV}(hst:St w M G H)(he:qgv P t=some e)(he':qgv P t'=some e)(hm:qcb P e=some m)(hby:qig P e=some bytes)(hz:qgt P e=some z)
 (hzl:z.cells.length=m) (hm0:0<m) (hes:VRs w M G es us) (hsl:SlOK w M m us ad cap) (hys:VRs w M G ys vs) (hysm:∀u∈vs,u.cells.size=m) (hyso:∀u∈vs,∀c∈u.cells.toList,c.oneCell'=true) (hvs:(Builtin.lenOf y).run P w=.ok vs.length w)
 (hc:∀w':World,(∀b o,M b o->w'.cell? ⟨b,o,none⟩=w.cell? ⟨b,o,none⟩)->(Builtin.firstCells m vs.length y).run P w'=.ok (vs.flatMap (·.cells.toList)).toArray w')
 (hgrow:cap<us.length+vs.length) (hb:((us.length+vs.length)+(us.length+vs.length)+768)*bytes≤281474976710656) (hbb:(us.length+vs.length)≤maxLen) :
 ∃x w' M' G',Ext w M G w' M' G'∧St w' M' G' (H++[.app m (es++ys)])∧VR w' M' G' (.row H.length (us.length+vs.length)) x∧(Builtin.append_ #[t,t'] ty #[.slice ad us.length cap,y]).run P w=.ok x w':=by
 obtain⟨c,rest,h1,h2,h3,h4⟩:=run_append_grow (ty:=ty) (ys:=ys) he he' hm hby hz hzl hsl hvs hc hgrow hb hbb
 have hst1:St w.drew M G H:=hst.drew
 have hv:VRs w.drew M G (es++ys) (us++vs):=qbw (VRs.ext hes (Ext.drew hst)) (VRs.ext hys (Ext.drew hst))
 have hmm:∀u∈us++vs,u.cells.size=m:=fun u hu=>by
  rcases List.mem_append.1 hu with hu | hu
  ·exact hsl.2.2.1 u hu
  ·exact hysm u hu
 have hone:∀u∈us++vs,∀c∈u.cells.toList,c.oneCell'=true:=fun u hu=>by
  rcases List.mem_append.1 hu with hu | hu
  ·exact qmc hst hsl u hu
  ·exact hyso u hu
 have hfl:=qbz hmm
 rw[List.flatMap_append] at hfl
 have hlen:(us++vs).length=us.length+vs.length:=by simp
 have hcm:(us.length+vs.length)*m≤c*m:=Nat.mul_le_mul_right m h1
 obtain⟨g,g1,g2,g3,g4⟩:=qbet (t:=e) (m:=m) (c:=c) (vs:=us.flatMap (·.cells.toList)++vs.flatMap (·.cells.toList)++rest) hst1 hv hmm hone h2 (by rw[hlen];exact h1)
  (by rw[List.length_append,hfl,h3,hlen,Nat.sub_mul];omega)
  (by rw[List.flatMap_append,Nat.mul_comm,←hfl,List.take_left])
 refine⟨_,_,_,_,(Ext.drew hst).trans g4,g3,⟨g,?_,rfl⟩,?_⟩
 ·rw[←hst.len,getElem?_snoc];simp
 ·rw[h4,g1,g2];rfl

theorem qo1{t e t' ty:TypeId}{m bytes cap:Nat}{us vs:List Value}{ad:Option Addr}{y:Value}{es ys:List AV}{z:AV}(hst:St w M G H)(he:qgv P t=some e)(he':qgv P t'=some e)(hm:qcb P e=some m)(hby:qig P e=some bytes)(hz:qgt P e=some z)
 (hzl:z.cells.length=m) (hes:VRs w M G es us) (husm:∀u∈us,u.cells.size=m) (hfc:(Builtin.firstCells m us.length (.slice ad us.length cap)).run P w.drew=.ok (us.flatMap (·.cells.toList)).toArray w.drew) (hys:VRs w M G ys vs) (hysm:∀u∈vs,u.cells.size=m) (hvs:(Builtin.lenOf y).run P w=.ok vs.length w)
 (hc:∀w':World,(∀b o,M b o->w'.cell? ⟨b,o,none⟩=w.cell? ⟨b,o,none⟩)->(Builtin.firstCells m vs.length y).run P w'=.ok (vs.flatMap (·.cells.toList)).toArray w')
 (hgrow:cap<us.length+vs.length) (hb:((us.length+vs.length)+(us.length+vs.length)+768)*bytes≤281474976710656) (hbb:(us.length+vs.length)≤maxLen) :
 ∃x w' M' G',Ext w M G w' M' G'∧St w' M' G' (H++[.mrow m (es++ys)])∧VR w' M' G' (.row H.length (us.length+vs.length)) x∧(Builtin.append_ #[t,t'] ty #[.slice ad us.length cap,y]).run P w=.ok x w':=by
 obtain⟨c,rest,h1,h2,h3,h4⟩:=qgo (ty:=ty) (ys:=ys) (M:=M) he he' hm hby hz hzl hfc hvs hc hgrow hb hbb
 have hst1:St w.drew M G H:=hst.drew
 have hv:VRs w.drew M G (es++ys) (us++vs):=qbw (VRs.ext hes (Ext.drew hst)) (VRs.ext hys (Ext.drew hst))
 have hmm:∀u∈us++vs,u.cells.size=m:=fun u hu=>by
  rcases List.mem_append.1 hu with hu | hu
  ·exact husm u hu
  ·exact hysm u hu
 have hfl:=qbz hmm
 rw[List.flatMap_append] at hfl
 have hlen:(us++vs).length=us.length+vs.length:=by simp
 have hcm:(us.length+vs.length)*m≤c*m:=Nat.mul_le_mul_right m h1
 obtain⟨g,g1,g2,g3,g4⟩:=qus (t:=e) (m:=m) (c:=c) (vs:=us.flatMap (·.cells.toList)++vs.flatMap (·.cells.toList)++rest) hst1 hv hmm h2 (by rw[hlen];exact h1)
  (by rw[List.length_append,hfl,h3,hlen,Nat.sub_mul];omega)
  (by rw[List.flatMap_append,Nat.mul_comm,←hfl,List.take_left])
 refine⟨_,_,_,_,(Ext.drew hst).trans g4,g3,⟨g,?_,rfl⟩,?_⟩
 ·rw[←hst.len,getElem?_snoc];simp
 ·rw[h4,g1,g2];rfl

theorem getElem?_set_snoc {i:Nat} {g g' g₁ g₂:Gh} (hg:G[i]?=some g) {j:Nat} (hj:(G.set i g'++[g₁])[j]?=some g₂):(j=G.length∧g₂=g₁)∨(j=i∧g₂=g')∨(j≠i∧j<G.length∧G[j]?=some g₂):=by
 have hi:=(List.getElem?_eq_some_iff.1 hg).1
 rw[getElem?_snoc,List.length_set] at hj
 by_cases h1:j<G.length
 ·rw[if_pos h1] at hj
  by_cases h2:i=j
  ·subst h2;simp[hi] at hj;exact .inr (.inl ⟨rfl,hj.symm⟩)
  ·rw[List.getElem?_set_ne h2] at hj;exact .inr (.inr ⟨Ne.symm h2,h1,hj⟩)
 ·rw[if_neg h1] at hj
  by_cases h2:j=G.length
  ·rw[if_pos h2] at hj;simp at hj;exact .inl ⟨h2,hj.symm⟩
  ·rw[if_neg h2] at hj;cases hj

theorem qwy{i m:Nat}{g:Gh}{es ys:List AV}{us vs:List Value}(hst:St w M G H)(hg:G[i]?=some g)(hH:H[i]?=some (.app m es))(hys:VRs w M G ys vs)(hysm:∀u∈vs,u.cells.size=m)
 (hyso:∀u∈vs,∀c∈u.cells.toList,c.oneCell'=true) (hroom:es.length+vs.length≤g.cap) :
 ∃ w' M' G', Ext w M G w' M' G' ∧ St w' M' G' (H.set i .dead ++ [.app m (es ++ ys)]) ∧ VR w' M' G' (.row H.length (es.length + vs.length)) (.slice (some ⟨g.blk, 0, none⟩) (es.length + vs.length) g.cap) ∧
   (storeCells ⟨g.blk,es.length*m,none⟩ (vs.flatMap (·.cells.toList)) 0).run P w=.ok () w':=by
 obtain⟨hfp,⟨r1,r2,cells,tt,us,r3,r4,r5,r6,r7⟩,hM⟩:=hst.ok i g _ hg hH
 have hul:=ql r5
 have hyl:=ql hys
 have hi:=(List.getElem?_eq_some_iff.1 hg).1
 have hflv:=qbz hysm
 have hflu:=qbz r6
 have hmul:m*es.length=es.length*m:=Nat.mul_comm _ _
 have hcap:(es.length+vs.length)*m≤g.cap*m:=Nat.mul_le_mul_right m hroom
 have hadd:(es.length+vs.length)*m=es.length*m+vs.length*m:=Nat.add_mul _ _ _
 have hmul2:m*(es.length+vs.length)=es.length*m+vs.length*m:=by rw[Nat.mul_comm];exact hadd
 obtain⟨w',e1,e2,e3,e4,e5,e6,e7⟩:=qd5 (P:=P) (b:=g.blk) (o:=es.length*m) (t:=tt) (vs.flatMap (·.cells.toList)) 0 w cells r3 (by omega)
  (fun u hu=>by obtain⟨v,hv,hc⟩:=List.mem_flatMap.1 hu;exact hyso v hv u hc)
 simp only[Nat.add_zero] at e2
 rw[hflv,←hmul,r7] at e2
 let g':Gh:={ g with fp:=fun _=>False }
 let M':Nat->Nat->Prop:=fun b o=>M b o∨(b=g.blk∧o<m*(es.length+vs.length))
 have hown:g.fp g.blk:=(hfp _).2 rfl
 have hcell:∀o,o<m*(es.length+vs.length)->w'.cell? ⟨g.blk,o,none⟩=(us.flatMap (·.cells.toList)++vs.flatMap (·.cells.toList))[o]?:=fun o ho=>by
  rw[qec e2,←List.append_assoc,List.getElem?_append_left (by rw[List.length_append,hflu,hflv,hul];omega)]
 have hLe:Le w M w' M':=fun b o hm=>by
  refine⟨.inl hm,?_⟩
  by_cases hb:b=g.blk
  ·subst hb
   have ho:=(hM o).1 hm
   rw[hcell o (by omega),List.getElem?_append_left (by rw[hflu,hul];omega),qec r3,←r7,List.getElem?_take_of_lt ho]
  ·exact World.cell?_of_block (w:=w) (e7 b hb)
 have hcc:∀(j:Nat) (g₀:Gh),G[j]?=some g₀->∃g₁:Gh,(G.set i g'++[g])[j]?=some g₁∧g₁.core=g₀.core:=fun j g₀ hj=>by
  have hjl:=(List.getElem?_eq_some_iff.1 hj).1
  rw[getElem?_snoc,List.length_set,if_pos hjl]
  by_cases hji:i=j
  ·subst hji
   rw[hg] at hj;cases hj
   exact⟨g',by simp[hi],rfl⟩
  ·exact⟨g₀,by rw[List.getElem?_set_ne hji];exact hj,rfl⟩
 have hone:∀c∈us.flatMap (·.cells.toList)++vs.flatMap (·.cells.toList),c.oneCell'=true:=fun c hc=>by
  rcases List.mem_append.1 hc with hc | hc
  ·obtain⟨j,hj⟩:=List.mem_iff_getElem?.1 hc
   have hjl:=(List.getElem?_eq_some_iff.1 hj).1
   rw[hflu,hul] at hjl
   refine hst.one g.blk j c ((hM j).2 (by omega)) ?_
   rw[qec r3,←hj,←r7,List.getElem?_take_of_lt (by omega)]
  ·obtain⟨v,hv,hc⟩:=List.mem_flatMap.1 hc
   exact hyso v hv c hc
 have hst':St w' M' (G.set i g'++[g]) (H.set i .dead++[.app m (es++ys)]):=by
  refine q2j hst (by simp[hst.len]) (fun j g₁ e₁ hg₁ he₁=>?_) hcc (fun j k g₁ g₂ b h1 h2 h3 h4=>?_) (fun j g₁ b h1 h2=>?_) (fun b o hm=>?_) (fun b o v hm hv=>?_)
  ·have hHl:H.length=G.length:=hst.len.symm
   rcases getElem?_set_snoc hg hg₁ with ⟨hj,rfl⟩ | ⟨rfl,rfl⟩ | ⟨hji,hjl,hgj⟩
   ·rw[getElem?_snoc,List.length_set,if_neg (by omega),if_pos (by omega)] at he₁
    simp only[Option.some.injEq] at he₁
    subst he₁
    refine .inr ⟨hfp,⟨by simp;omega,r2,_,tt,us++vs,e2,?_,qbw (qca hcc hLe r5) (qca hcc hLe hys),fun u hu=>?_,?_⟩,fun o=>?_⟩
    ·simp only[List.length_append,hflu,hflv,List.length_drop,r4,hul];omega
    ·rcases List.mem_append.1 hu with hu | hu
     ·exact r6 u hu
     ·exact hysm u hu
    ·rw[List.length_append,←hyl,List.flatMap_append,←List.append_assoc,List.take_left' (by rw[List.length_append,hflu,hflv,hul];omega)]
    ·rw[List.length_append,←hyl]
     constructor
     ·rintro (h | ⟨_,h⟩)
      ·have:=(hM o).1 h;omega
      ·exact h
     ·exact fun h=>.inr ⟨rfl,h⟩
   ·rw[getElem?_snoc,List.length_set,if_pos (by omega),List.getElem?_set_self (by omega)] at he₁
    simp only[Option.some.injEq] at he₁
    subst he₁
    exact .inr (fun b hb=>hb)
   ·rw[getElem?_snoc,List.length_set,if_pos (by omega),List.getElem?_set_ne (Ne.symm hji)] at he₁
    have hnot:∀b,g₁.fp b->b≠g.blk:=fun b hb hc=>hji (hst.dj j i g₁ g b hgj hg hb (hc ▸ hown))
    refine .inl ⟨hgj,he₁,fun b hb=>e7 b (hnot b hb),hLe,fun b o hb hm=>?_,by omega⟩
    rcases hm with hm | ⟨rfl,_⟩
    ·exact hm
    ·exact absurd rfl (hnot _ hb)
  ·have q1:∀(j:Nat) (g₁:Gh) (b:Nat),(G.set i g'++[g])[j]?=some g₁->g₁.fp b->(j=G.length∧g.fp b)∨(j≠i∧j<G.length∧G[j]?=some g₁):=fun j g₁ b hj hb=>by
    rcases getElem?_set_snoc hg hj with ⟨hjj,rfl⟩ | ⟨rfl,rfl⟩ | ⟨hji,hjl,hgj⟩
    ·exact .inl ⟨hjj,hb⟩
    ·exact hb.elim
    ·exact .inr ⟨hji,hjl,hgj⟩
   rcases q1 j g₁ b h1 h3 with ⟨p1,p2⟩ | ⟨p1,p2,p3⟩<;>rcases q1 k g₂ b h2 h4 with ⟨s1,s2⟩ | ⟨s1,s2,s3⟩
   ·omega
   ·exact absurd (hst.dj _ _ _ _ b s3 hg h4 p2) s1
   ·exact absurd (hst.dj _ _ _ _ b p3 hg h3 s2) p1
   ·exact hst.dj _ _ _ _ b p3 s3 h3 h4
  ·rcases getElem?_set_snoc hg h1 with ⟨hj,rfl⟩ | ⟨rfl,rfl⟩ | ⟨hji,hjl,hgj⟩
   ·have:=hst.lt _ _ b hg h2;omega
   ·exact h2.elim
   ·have:=hst.lt _ _ b hgj h2;omega
  ·rcases hm with hm | ⟨rfl,_⟩
   ·have:=hst.Mlt b o hm;omega
   ·have:=hst.lt _ _ _ hg hown;omega
  ·by_cases hb:b=g.blk
   ·have ho:o<m*(es.length+vs.length):=by
     rcases hm with hm | ⟨_,h⟩
     ·subst hb;have:=(hM o).1 hm;omega
     ·exact h
    subst hb
    rw[hcell o ho] at hv
    exact hone v (List.mem_of_getElem? hv)
   ·rcases hm with hm | ⟨h,_⟩
    ·exact hst.one b o v hm ((hLe b o hm).2 ▸ hv)
    ·exact absurd h hb
 refine⟨w',M',_,⟨e3,e4,e5,by omega,hcc,hLe,fun b hb ho=>e7 b (fun hc=>ho ⟨i,g,hg,hc ▸ hown⟩),fun b ⟨j,g₁,hj,hb⟩=>?_,fun b o hm=>?_⟩,hst',⟨g,?_,rfl⟩,e1⟩
 ·rcases getElem?_set_snoc hg hj with ⟨hj,rfl⟩ | ⟨rfl,rfl⟩ | ⟨hji,hjl,hgj⟩
  ·exact .inl ⟨i,_,hg,hb⟩
  ·exact hb.elim
  ·exact .inl ⟨j,_,hgj,hb⟩
 ·rcases hm with hm | ⟨rfl,_⟩
  ·exact .inl hm
  ·exact .inr (.inl ⟨i,g,hg,hown⟩)
 ·rw[getElem?_snoc,List.length_set,hst.len,if_neg (by omega),if_pos rfl]

theorem qvj{i m:Nat}{g:Gh}{es ys:List AV}{us vs:List Value}(hst:St w M G H)(hg:G[i]?=some g)(hH:H[i]?=some (.mrow m es))(hys:VRs w M G ys vs)(hysm:∀u∈vs,u.cells.size=m)
 (hyso:∀u∈vs,∀c∈u.cells.toList,c.oneCell'=true) (hroom:es.length+vs.length≤g.cap) :
 ∃ w' G', Ext w M G w' M G' ∧ St w' M G' (H.set i .dead ++ [.mrow m (es ++ ys)]) ∧ VR w' M G' (.row H.length (es.length + vs.length)) (.slice (some ⟨g.blk, 0, none⟩) (es.length + vs.length) g.cap) ∧
   (storeCells ⟨g.blk,es.length*m,none⟩ (vs.flatMap (·.cells.toList)) 0).run P w=.ok () w':=by
 obtain⟨hfp,⟨r1,r2,cells,tt,us,r3,r4,r5,r6,r7⟩,hM⟩:=hst.ok i g _ hg hH
 have hul:=ql r5
 have hyl:=ql hys
 have hi:=(List.getElem?_eq_some_iff.1 hg).1
 have hflv:=qbz hysm
 have hflu:=qbz r6
 have hmul:m*es.length=es.length*m:=Nat.mul_comm _ _
 have hcap:(es.length+vs.length)*m≤g.cap*m:=Nat.mul_le_mul_right m hroom
 have hadd:(es.length+vs.length)*m=es.length*m+vs.length*m:=Nat.add_mul _ _ _
 have hmul2:m*(es.length+vs.length)=es.length*m+vs.length*m:=by rw[Nat.mul_comm];exact hadd
 obtain⟨w',e1,e2,e3,e4,e5,e6,e7⟩:=qd5 (P:=P) (b:=g.blk) (o:=es.length*m) (t:=tt) (vs.flatMap (·.cells.toList)) 0 w cells r3 (by omega)
  (fun u hu=>by obtain⟨v,hv,hc⟩:=List.mem_flatMap.1 hu;exact hyso v hv u hc)
 simp only[Nat.add_zero] at e2
 rw[hflv,←hmul,r7] at e2
 let g':Gh:={ g with fp:=fun _=>False }
 have hown:g.fp g.blk:=(hfp _).2 rfl
 have hLe:Le w M w' M:=fun b o hm=>by
  refine⟨hm,?_⟩
  by_cases hb:b=g.blk
  ·subst hb;exact absurd hm (hM o)
  ·exact World.cell?_of_block (w:=w) (e7 b hb)
 have hcc:∀(j:Nat) (g₀:Gh),G[j]?=some g₀->∃g₁:Gh,(G.set i g'++[g])[j]?=some g₁∧g₁.core=g₀.core:=fun j g₀ hj=>by
  have hjl:=(List.getElem?_eq_some_iff.1 hj).1
  rw[getElem?_snoc,List.length_set,if_pos hjl]
  by_cases hji:i=j
  ·subst hji
   rw[hg] at hj;cases hj
   exact⟨g',by simp[hi],rfl⟩
  ·exact⟨g₀,by rw[List.getElem?_set_ne hji];exact hj,rfl⟩
 have hst':St w' M (G.set i g'++[g]) (H.set i .dead++[.mrow m (es++ys)]):=by
  refine q2j hst (by simp[hst.len]) (fun j g₁ e₁ hg₁ he₁=>?_) hcc (fun j k g₁ g₂ b h1 h2 h3 h4=>?_) (fun j g₁ b h1 h2=>?_) (fun b o hm=>?_) (fun b o v hm hv=>?_)
  ·have hHl:H.length=G.length:=hst.len.symm
   rcases getElem?_set_snoc hg hg₁ with ⟨hj,rfl⟩ | ⟨rfl,rfl⟩ | ⟨hji,hjl,hgj⟩
   ·rw[getElem?_snoc,List.length_set,if_neg (by omega),if_pos (by omega)] at he₁
    simp only[Option.some.injEq] at he₁
    subst he₁
    refine .inr ⟨hfp,⟨by simp;omega,r2,_,tt,us++vs,e2,?_,qbw (qca hcc hLe r5) (qca hcc hLe hys),fun u hu=>?_,?_⟩,fun o=>?_⟩
    ·simp only[List.length_append,hflu,hflv,List.length_drop,r4,hul];omega
    ·rcases List.mem_append.1 hu with hu | hu
     ·exact r6 u hu
     ·exact hysm u hu
    ·rw[List.length_append,←hyl,List.flatMap_append,←List.append_assoc,List.take_left' (by rw[List.length_append,hflu,hflv,hul];omega)]
    ·exact hM o
   ·rw[getElem?_snoc,List.length_set,if_pos (by omega),List.getElem?_set_self (by omega)] at he₁
    simp only[Option.some.injEq] at he₁
    subst he₁
    exact .inr (fun b hb=>hb)
   ·rw[getElem?_snoc,List.length_set,if_pos (by omega),List.getElem?_set_ne (Ne.symm hji)] at he₁
    have hnot:∀b,g₁.fp b->b≠g.blk:=fun b hb hc=>hji (hst.dj j i g₁ g b hgj hg hb (hc ▸ hown))
    refine .inl ⟨hgj,he₁,fun b hb=>e7 b (hnot b hb),hLe,fun b o hb hm=>?_,by omega⟩
    exact hm
  ·have q1:∀(j:Nat) (g₁:Gh) (b:Nat),(G.set i g'++[g])[j]?=some g₁->g₁.fp b->(j=G.length∧g.fp b)∨(j≠i∧j<G.length∧G[j]?=some g₁):=fun j g₁ b hj hb=>by
    rcases getElem?_set_snoc hg hj with ⟨hjj,rfl⟩ | ⟨rfl,rfl⟩ | ⟨hji,hjl,hgj⟩
    ·exact .inl ⟨hjj,hb⟩
    ·exact hb.elim
    ·exact .inr ⟨hji,hjl,hgj⟩
   rcases q1 j g₁ b h1 h3 with ⟨p1,p2⟩ | ⟨p1,p2,p3⟩<;>rcases q1 k g₂ b h2 h4 with ⟨s1,s2⟩ | ⟨s1,s2,s3⟩
   ·omega
   ·exact absurd (hst.dj _ _ _ _ b s3 hg h4 p2) s1
   ·exact absurd (hst.dj _ _ _ _ b p3 hg h3 s2) p1
   ·exact hst.dj _ _ _ _ b p3 s3 h3 h4
  ·rcases getElem?_set_snoc hg h1 with ⟨hj,rfl⟩ | ⟨rfl,rfl⟩ | ⟨hji,hjl,hgj⟩
   ·have:=hst.lt _ _ b hg h2;omega
   ·exact h2.elim
   ·have:=hst.lt _ _ b hgj h2;omega
  ·have:=hst.Mlt b o hm;omega
  ·exact hst.one b o v hm ((hLe b o hm).2 ▸ hv)
 refine⟨w',_,⟨e3,e4,e5,by omega,hcc,hLe,fun b hb ho=>e7 b (fun hc=>ho ⟨i,g,hg,hc ▸ hown⟩),fun b ⟨j,g₁,hj,hb⟩=>?_,fun b o hm=>?_⟩,hst',⟨g,?_,rfl⟩,e1⟩
 ·rcases getElem?_set_snoc hg hj with ⟨hj,rfl⟩ | ⟨rfl,rfl⟩ | ⟨hji,hjl,hgj⟩
  ·exact .inl ⟨i,_,hg,hb⟩
  ·exact hb.elim
  ·exact .inl ⟨j,_,hgj,hb⟩
 ·exact .inl hm
 ·rw[getElem?_snoc,List.length_set,hst.len,if_neg (by omega),if_pos rfl]

theorem qdj{a b:Nat}(hb:0<b)(h:(a+a+768)*b≤281474976710656):a≤maxLen:=by
 have:=Nat.le_mul_of_pos_right (a+a+768) hb
 unfold maxLen;omega

set_option maxHeartbeats 1000000 in
theorem qcd0{o:Oper}{c:Call}{x y:Operand}{x' y':Opd}{t t' e:TypeId}{m bytes:Nat}{z:AV}{cc:Co}(ho:o.op=.call c)(hc:c.callee=.builtin .append)(hx:c.args.toList=[x,y])(ht:c.argTypes.toList=[t,t'])
 (he:qgv P t=some e) (he':qgv P t'=some e) (hm:qcb P e=some m) (hby:qig P e=some bytes) (hz:qgt P e=some z) (hzl:z.cells.length=m) (hm0:0<m) (hb0:0<bytes) (hx':cO x=some x') (hy':cO y=some y')
 (hst:St w M G H) (hr:RelF w M G n af a) (h:(evi af H (.app m z bytes cc x' y')).bnd fun p=>k p.1 p.2):Do P w M G a o k:=by
 refine Do.of (qyp ho hc hx ht) ?_
 have hvx:=qt hx' hr
 have hvy:=qt hy' hr
 simp only[evi] at h
 generalize gt af x'=p at *
 generalize gt af y'=q at *
 generalize a.eval x=u at *
 generalize a.eval y=v at *
 have hsplit:∃ys,Src P w M G m ys v∧(qia m bytes H ys p).bnd fun p=>k p.1 p.2:=by
  unfold appv at h
  split at h
  ·rename_i ys hq
   obtain⟨ys',h1,h2⟩:=qlo (P:=P) (kk:=fun l=>l=ys) hst hvy (by rw[hq];rfl)
   subst h1
   exact⟨_,h2,h⟩
  ·rename_i pp ys hq
   simp only[Rs.bnd] at h
   obtain⟨ys',h1,h2⟩:=qlo (P:=P) (kk:=fun l=>l=ys) hst hvy (by rw[hq];exact⟨h.1,rfl⟩)
   subst h1
   exact⟨_,h2,h.2⟩
  ·simp only[Rs.bnd] at h
 clear h
 obtain⟨ys,⟨vs,hys,hysm,hyso,hlen,hfc⟩,h⟩:=hsplit
 have hyl:=ql hys
 cases p<;>try(simp only[qia,Rs.bnd] at h)
 case nils =>
  simp only[VR] at hvx;subst hvx
  by_cases h0:ys.length=0
  ·rw[if_pos h0] at h
   simp only[Rs.bnd] at h
   have hv0:vs.length=0:=by omega
   refine⟨_,_,.slice none 0 0,w,M,G,h,Ext.refl _ _ _,hst,rfl,?_⟩
   rw[hv0] at hlen
   have hf:=hfc w (fun _ _ _=>rfl)
   rw[hv0] at hf
   unfold Builtin.append_
   simp[run_underlying (qbj he),run_underlying (qbj he'),qw hm,hlen,hf]
  ·rw[if_neg h0] at h
   simp only[Rs.bnd] at h
   obtain⟨hb,h⟩:=h
   have hsl:SlOK w M m [] none 0:=⟨Nat.le_refl _,by simp[maxLen],by simp,rfl⟩
   by_cases h6:m=6
   ·obtain⟨xx,w',M',G',f1,f2,f3,f4⟩:=qo1 (ty:=o.type) (es:=[]) (us:=[]) hst he he' hm hby hz hzl rfl (by simp) (qc2 (P:=P) hsl w.drew (fun _ _ _=>rfl)) hys hysm hlen hfc (by simp;omega) (by simpa [hyl,qbe] using hb) (by simp;exact qdj hb0 (by rw[hyl];exact hb))
    refine⟨_,_,xx,w',M',G',h,f1,?_,by simpa [hyl] using f3,f4⟩
    rw[appE,if_pos h6]
    simpa using f2
   ·by_cases h88:bytes=88
    ·obtain⟨xx,w',M',G',f1,f2,f3,f4⟩:=qo1 (ty:=o.type) (es:=[]) (us:=[]) hst he he' hm hby hz hzl rfl (by simp) (qc2 (P:=P) hsl w.drew (fun _ _ _=>rfl)) hys hysm hlen hfc (by simp;omega) (by simpa [hyl,qbe] using hb) (by simp;exact qdj hb0 (by rw[hyl];exact hb))
     refine⟨_,_,xx,w',M',G',h,f1,?_,by simpa [hyl] using f3,f4⟩
     rw[appE,if_neg h6,if_pos h88]
     simpa using f2
    ·obtain⟨xx,w',M',G',f1,f2,f3,f4⟩:=qr9 (ty:=o.type) (es:=[]) (us:=[]) hst he he' hm hby hz hzl hm0 rfl hsl hys hysm hyso hlen hfc (by simp;omega) (by simpa [hyl,qbe] using hb) (by simp;exact qdj hb0 (by rw[hyl];exact hb))
     refine⟨_,_,xx,w',M',G',h,f1,?_,by simpa [hyl] using f3,f4⟩
     rw[appE,if_neg h6,if_neg h88]
     simpa using f2
 case lit m' es =>
  obtain⟨ad,us,h1,h2,rfl⟩:=hvx
  have hul:=ql h1
  by_cases h0:ys.length=0
  ·rw[if_pos h0] at h
   simp only[Rs.bnd] at h
   obtain⟨rfl,h⟩:=h
   have hv0:vs.length=0:=by omega
   have hvn:vs=[]:=List.eq_nil_of_length_eq_zero hv0
   subst hvn
   refine⟨_,_,.slice ad us.length us.length,w,M,G,h,Ext.refl _ _ _,hst,⟨ad,us,h1,h2,rfl⟩,?_⟩
   have hf:=hfc w (fun _ _ _=>rfl)
   simp only[List.length_nil] at hlen hf
   unfold Builtin.append_
   cases ad with
   | none=>simp[run_underlying (qbj he),run_underlying (qbj he'),qw hm,hlen,hf]
   | some d=>simp[run_underlying (qbj he),run_underlying (qbj he'),qw hm,hlen,hf,storeCells]
  ·rw[if_neg h0] at h
   simp only[Rs.bnd] at h
   obtain⟨⟨rfl,hb⟩,h⟩:=h
   obtain⟨xx,w',M',G',f1,f2,f3,f4⟩:=qr9 (ty:=o.type) hst he he' hm hby hz hzl hm0 h1 h2 hys hysm hyso hlen hfc (by omega) (by rw[hul,hyl];exact hb) (by rw[hul,hyl];exact qdj hb0 hb)
   exact⟨_,_,xx,w',M',G',h,f1,f2,by rw[hul,hyl] at f3;exact f3,f4⟩
 case row i len =>
  cases hen:ent H i<;>simp only[hen,Rs.bnd] at h
  ·rename_i m' es
   obtain⟨⟨rfl,hel,hb⟩,h⟩:=h
   obtain⟨g,hg,rfl⟩:=hvx
   have hH:=qba hen (by simp)
   obtain⟨hfp,hrow,hM⟩:=hst.ok i g _ hg hH
   obtain⟨us,h1,h2,h3⟩:=qmk hrow hM hel
   have hbb:us.length+vs.length≤maxLen:=by rw[h3,hyl];exact qdj hb0 hb
   -- the entry is given up
   let g':Gh:={ g with fp:=fun _=>False }
   have hst0:St w M (G.set i g') (H.set i .dead):=qik hst hg rfl (fun _ h=>h.elim) (Nat.le_refl _) (fun _ _ _=>rfl) (Le.refl w M) (fun _ _ h=>.inl h) (fun b hb=>hb)
   have hext0:Ext w M G w M (G.set i g'):=qrx hst hg rfl (fun _ h=>h.elim) rfl rfl rfl (Nat.le_refl _) (fun _ _ _=>rfl) (Le.refl w M) (fun _ _ h=>.inl h)
   subst h3
   by_cases hroom:us.length+vs.length≤g.cap
   ·-- within the capacity
    obtain⟨w',M',G',f1,f2,f3,f4⟩:=qwy (P:=P) (us:=us) hst hg hH hys hysm hyso (by rw[hel];exact hroom)
    rw[hel,hyl] at f3
    refine⟨_,_,_,w',M',G',h,f1,f2,f3,?_⟩
    have hf:=hfc w (fun _ _ _=>rfl)
    unfold Builtin.append_
    rw[hel] at f4
    have had:(⟨g.blk,0,none⟩:Addr).add (us.length*m')=⟨g.blk,us.length*m',none⟩:=by rw[qen];simp
    rw[hyl] at hlen hf hroom
    simp[run_underlying (qbj he),run_underlying (qbj he'),qw hm,hlen,hf,hroom,had,f4]
   ·obtain⟨xx,w',M',G',f1,f2,f3,f4⟩:=qr9 (ty:=o.type) hst0 he he' hm hby hz hzl hm0 (VRs.ext h1 hext0) h2 (VRs.ext hys hext0) hysm hyso hlen hfc (by omega) (by rw[hyl];exact hb) hbb
    rw[List.length_set] at f3
    rw[hyl] at f3
    exact⟨_,_,xx,w',M',G',h,hext0.trans f1,f2,f3,f4⟩
  ·rename_i m' es
   obtain⟨⟨rfl,hel,hb⟩,h⟩:=h
   obtain⟨g,hg,rfl⟩:=hvx
   have hH:=qba hen (by simp)
   obtain⟨hfp,hrow,hM⟩:=hst.ok i g _ hg hH
   obtain⟨r1,r2,cells,tt,us,r3,r4,r5,r6,r7⟩:=hrow
   have h1:=r5
   have h3:us.length=len:=(ql r5).trans hel
   have hbb:us.length+vs.length≤maxLen:=by rw[h3,hyl];exact qdj hb0 hb
   -- the entry is given up
   let g':Gh:={ g with fp:=fun _=>False }
   have hst0:St w M (G.set i g') (H.set i .dead):=qik hst hg rfl (fun _ h=>h.elim) (Nat.le_refl _) (fun _ _ _=>rfl) (Le.refl w M) (fun _ _ h=>.inl h) (fun b hb=>hb)
   have hext0:Ext w M G w M (G.set i g'):=qrx hst hg rfl (fun _ h=>h.elim) rfl rfl rfl (Nat.le_refl _) (fun _ _ _=>rfl) (Le.refl w M) (fun _ _ h=>.inl h)
   subst h3
   by_cases hroom:us.length+vs.length≤g.cap
   ·-- within the capacity
    obtain⟨w',G',f1,f2,f3,f4⟩:=qvj (P:=P) (us:=us) hst hg hH hys hysm hyso (by rw[hel];exact hroom)
    rw[hel,hyl] at f3
    refine⟨_,_,_,w',M,G',h,f1,f2,f3,?_⟩
    have hf:=hfc w (fun _ _ _=>rfl)
    unfold Builtin.append_
    rw[hel] at f4
    have had:(⟨g.blk,0,none⟩:Addr).add (us.length*m')=⟨g.blk,us.length*m',none⟩:=by rw[qen];simp
    rw[hyl] at hlen hf hroom
    simp[run_underlying (qbj he),run_underlying (qbj he'),qw hm,hlen,hf,hroom,had,f4]
   ·obtain⟨xx,w',M',G',f1,f2,f3,f4⟩:=qo1 (ty:=o.type) (cap:=g.cap) (ad:=some ⟨g.blk,0,none⟩) hst0 he he' hm hby hz hzl (VRs.ext h1 hext0) r6 (qo5 (P:=P) (w:=w.drew) (us:=us) (cells:=cells) (tt:=tt) r3 r6 (by rw[ql r5];exact r7)) (VRs.ext hys hext0) hysm hlen hfc (by omega) (by rw[hyl];exact hb) hbb
    rw[List.length_set] at f3
    rw[hyl] at f3
    exact⟨_,_,xx,w',M',G',h,hext0.trans f1,f2,f3,f4⟩
end

section
variable {P:Program} {w:World} {M:Nat->Nat->Prop} {G:List Gh} {H:List Ent} {n:Nat} {af:AF} {a:Act} {k:AV->List Ent->Prop}

theorem do_v{o:Oper}{i:IV}(hst:St w M G H)(h:(evi af H (.v i)).bnd fun p=>k p.1 p.2)(hy:∀k':AV->Prop,(evv af H i).bnd k'->Yd P w M G a o k'):Do P w M G a o k:=by
 simp only[evi] at h
 rw[qbx] at h
 exact Do.of_yd hst (hy _ h) (fun v hv=>hv)

theorem qw7{o:Oper}{c:Call}{i:I}(ho:o.op=.call c)(hc:qbgv P c o.type=some i)(hni:∀f l,i≠.call f l)(hst:St w M G H)(hr:RelF w M G n af a)(h:(evi af H i).bnd fun p=>k p.1 p.2):Do P w M G a o k:=by
 unfold qbgv at hc
 split at hc
 ·split at hc
  ·simp only[Option.some.injEq] at hc;subst hc;exact absurd rfl (hni _ _)
  ·cases hc
 ·cases hc
 ·rename_i b hb
  split at hc
  ·rename_i x t hx ht
   split at hc
   ·rename_i y hu hy
    simp only[Option.some.injEq] at hc;subst hc
    exact do_v hst h fun k' h'=>qbl6 ho hb hx ht (by simpa using hu) hy hr h'
   ·rename_i e y hu hy
    simp only[Option.some.injEq] at hc;subst hc
    exact do_v hst h fun k' h'=>qbl6 ho hb hx ht (by simpa using ⟨e,hu⟩) hy hr h'
   ·cases hc
  ·rename_i x y ts hx
   split at hc
   ·rename_i u v hu hv
    simp only[Option.some.injEq] at hc;subst hc
    exact do_v hst h fun k' h'=>qcge (big:=true) ho hb hx hu hv hr h'
   ·cases hc
  ·rename_i x y ts hx
   split at hc
   ·rename_i u v hu hv
    simp only[Option.some.injEq] at hc;subst hc
    exact do_v hst h fun k' h'=>qcge (big:=false) ho hb hx hu hv hr h'
   ·cases hc
  ·rename_i x y t t' hx ht
   split at hc
   ·rename_i e e' u v he he' hu hv
    split at hc
    ·rename_i m bytes z hm hby hz
     split at hc
     ·rename_i hcond
      obtain⟨rfl,hzl,hm0,hza,hb0⟩:=hcond
      simp only[Option.some.injEq] at hc;subst hc
      exact qcd0 ho hb hx ht he he' hm hby hz hzl hm0 hb0 hu hv hst hr h
     ·cases hc
    ·cases hc
   ·cases hc
  ·obtain⟨l,_,rfl⟩:=Option.map_eq_some_iff.1 hc
   exact absurd rfl (hni _ _)
  ·cases hc

theorem qbiw{o:Oper}{i:I}(hc:cI P o=some i)(hni:∀f l,i≠.call f l)(hst:St w M G H)(hr:RelF w M G n af a)(h:(evi af H i).bnd fun p=>k p.1 p.2):Do P w M G a o k:=by
 unfold cI at hc
 split at hc
 ·rename_i x ho
  obtain⟨y,hy,rfl⟩:=Option.map_eq_some_iff.1 hc
  exact do_v hst h fun k' h'=>qblq (.inl ho) hy hr h'
 ·rename_i x ho
  obtain⟨y,hy,rfl⟩:=Option.map_eq_some_iff.1 hc
  exact do_v hst h fun k' h'=>qblq (.inr ho) hy hr h'
 ·rename_i c x y ho
  split at hc
  ·rename_i c' x' y' h1 h2 h3
   simp only[Option.some.injEq] at hc;subst hc
   exact do_v hst h fun k' h'=>qb5y ho h1 h2 h3 hr h'
  ·cases hc
 ·rename_i t ho
  split at hc
  ·rename_i e hz
   simp only[Option.some.injEq] at hc;subst hc
   exact qcgr ho hz hst h
  ·split at hc
   ·rename_i z hz
    simp only[Option.some.injEq] at hc;subst hc
    exact qchr ho hz hst h
   ·cases hc
 ·rename_i t x ho
  obtain⟨y,hy,rfl⟩:=Option.map_eq_some_iff.1 hc
  exact qceh ho hy hst hr h
 ·rename_i t parts ho
  split at hc
  ·rename_i zs l hz hl
   split at hc
   ·rename_i hsz
    simp only[Option.some.injEq] at hc;subst hc
    exact do_v hst h fun k' h'=>qch1 ho hz hl hsz hr h'
   ·cases hc
  ·cases hc
 ·rename_i t len parts ho
  split at hc
  ·rename_i e he
   split at hc
   ·rename_i m l hm hl
    split at hc
    ·rename_i hcond
     obtain⟨h1,h2,h3,h4⟩:=hcond
     simp only[Option.some.injEq] at hc;subst hc
     exact qcdr ho he hm hl h1 h2 h3 h4 hst hr h
    ·cases hc
   ·cases hc
  ·cases hc
 ·rename_i t x ho
  split at hc
  ·rename_i g m y hg hm hy
   simp only[Option.some.injEq] at hc;subst hc
   exact do_v hst h fun k' h'=>qck8 ho hg hm hy hst hr h'
  ·cases hc
 ·rename_i t x z ho
  split at hc
  ·rename_i m y u hm hy hu
   split at hc
   ·rename_i hm0
    simp only[Option.some.injEq] at hc;subst hc
    exact qck7 ho hm hm0 hy hu hst hr h
   ·cases hc
  ·cases hc
 ·rename_i x ho
  obtain⟨y,hy,rfl⟩:=Option.map_eq_some_iff.1 hc
  exact do_v hst h fun k' h'=>qcgv ho hy hr h'
 ·rename_i op t x y yt ho
  split at hc
  ·rename_i x' y' hx hy
   split at hc
   ·cases hc
   ·rename_i hcond
    simp only[Option.some.injEq] at hc;subst hc
    refine do_v hst h fun k' h'=>qce9 ho hx hy (fun hif=>?_) hr h'
    cases hcc:(Region.isConst x||Region.isConst y) with
    | true=>rfl
    | false=>simp[hif,hcc] at hcond
  ·cases hc
 ·rename_i op t x ho
  obtain⟨y,hy,rfl⟩:=Option.map_eq_some_iff.1 hc
  exact do_v hst h fun k' h'=>qclz ho hy hr h'
 ·rename_i s d x ho
  split at hc
  ·rename_i kk kk' y hs hd hy
   simp only[Option.some.injEq] at hc;subst hc
   exact do_v hst h fun k' h'=>qcfh ho hs hd hy hr h'
  ·rename_i y hs hd hy
   simp only[Option.some.injEq] at hc;subst hc
   exact do_v hst h fun k' h'=>qcfw ho hs hd hy hr h'
  ·rename_i y hs hd hy
   split at hc
   ·rename_i he
    simp only[Option.some.injEq] at hc;subst hc
    exact do_v hst h fun k' h'=>qckx ho hs he hd hy hst hr h'
   ·cases hc
  ·cases hc
 ·rename_i t x ho
  split at hc
  ·cases hc
  ·rename_i d y hd hu hy
   simp only[Option.some.injEq] at hc;subst hc
   exact do_v hst h fun k' h'=>qcfe ho hu (fun ms e=>hd ms e) hy hst hr h'
  ·cases hc
 ·rename_i f first caps ho
  split at hc
  ·rename_i l m hl hm
   simp only[Option.some.injEq] at hc;subst hc
   exact do_v hst h fun k' h'=>qcj8 ho hl hm hr h'
  ·cases hc
 ·rename_i t len cap ho
  split at hc
  ·rename_i e l c he hl hcc
   split at hc
   ·rename_i m bytes z hm hby hz
    split at hc
    ·rename_i hcond
     obtain⟨h1,h2,h3⟩:=hcond
     simp only[Option.some.injEq] at hc;subst hc
     exact qckf ho he hm hby hz h1 h2 h3 hl hcc hst hr h
    ·cases hc
   ·cases hc
  ·cases hc
 ·rename_i t x lo hi mx ho
  split at hc
  ·rename_i y l h' hu hy hl hh hmx
   simp only[Option.some.injEq] at hc;subst hc
   have hmx':mx=none:=by
    cases mx with
    | none=>rfl
    | some z=>simp[cOo] at hmx
   subst hmx'
   exact do_v hst h fun k' h'=>qcc4 ho hu hy hl hh hr h'
  ·rename_i e y l h' m' hu hy hl hh hmx
   obtain⟨m,hm,rfl⟩:=Option.map_eq_some_iff.1 hc
   exact do_v hst h fun k' h'=>qcfl ho hu hm hy hl hh hmx hst hr h'
  ·rename_i len e y l hu hy hl hh hmx
   split at hc
   ·rename_i hm
    simp only[Option.some.injEq] at hc;subst hc
    have e1:hi=none:=by cases hi with | none=>rfl | some z=>simp[cOo] at hh
    have e2:mx=none:=by cases mx with | none=>rfl | some z=>simp[cOo] at hmx
    obtain⟨lo',e3,hlo⟩:∃q,lo=some q∧cO q=some l:=by
     cases lo with
     | none=>simp[cOo] at hl
     | some q=>simp[cOo] at hl;exact⟨q,rfl,hl⟩
    subst e1 e2 e3
    exact do_v hst h fun k' h'=>qcg9 ho hu hm hy hlo hr h'
   ·cases hc
  ·cases hc
 ·rename_i t x f ho
  split at hc
  ·rename_i fs y hu hy
   split at hc
   ·rename_i fl hf
    split at hc
    ·rename_i m hm
     split at hc
     ·rename_i hm0
      simp only[Option.some.injEq] at hc;subst hc
      exact do_v hst h fun k' h'=>qch2 ho hu hf hm hm0 hy hr h'
     ·cases hc
    ·cases hc
   ·cases hc
  ·cases hc
 ·rename_i t x f ho
  split at hc
  ·rename_i fs y hu hy
   split at hc
   ·rename_i fl hf
    split at hc
    ·rename_i m g hm hg
     simp only[Option.some.injEq] at hc;subst hc
     exact do_v hst h fun k' h'=>qcgf ho hu hf hm hg hy hr h'
    ·cases hc
   ·cases hc
  ·cases hc
 ·rename_i t x i ho
  split at hc
  ·rename_i e y j hu hy hj
   obtain⟨m,hm,rfl⟩:=Option.map_eq_some_iff.1 hc
   exact do_v hst h fun k' h'=>qcg0 ho hu hm hy hj hr h'
  ·rename_i len e y j hu hy hj
   obtain⟨m,hm,rfl⟩:=Option.map_eq_some_iff.1 hc
   exact do_v hst h fun k' h'=>qces ho hu hm hy hj hr h'
  ·cases hc
 ·rename_i t x i ho
  split at hc
  ·rename_i y j hu hy hj
   simp only[Option.some.injEq] at hc;subst hc
   exact do_v hst h fun k' h'=>qcie ho hu hy hj hr h'
  ·rename_i len e y j hu hy hj
   split at hc
   ·rename_i m g hm hg
    simp only[Option.some.injEq] at hc;subst hc
    exact do_v hst h fun k' h'=>qcf4 ho hu hm hg hy hj hr h'
   ·cases hc
  ·cases hc
 ·rename_i x st t ho
  split at hc
  ·cases hc
  ·rename_i d z y hd hu hz hy
   simp only[Option.some.injEq] at hc;subst hc
   exact do_v hst h fun k' h'=>qcjp ho hu (fun ms e=>hd ms e) hz hy hr h'
  ·cases hc
 ·rename_i x i ho
  obtain⟨y,hy,rfl⟩:=Option.map_eq_some_iff.1 hc
  exact do_v hst h fun k' h'=>qcjz ho hy hr h'
 ·rename_i c ho
  exact qw7 ho hc hni hst hr h
 ·simp only[Option.some.injEq] at hc;subst hc
  exact absurd rfl (hni _ _)
 ·obtain⟨l,_,rfl⟩:=Option.map_eq_some_iff.1 hc
  exact absurd rfl (hni _ _)
 ·split at hc
  ·obtain⟨l,_,rfl⟩:=Option.map_eq_some_iff.1 hc
   exact absurd rfl (hni _ _)
  ·cases hc
 ·cases hc
end
end Go.V
