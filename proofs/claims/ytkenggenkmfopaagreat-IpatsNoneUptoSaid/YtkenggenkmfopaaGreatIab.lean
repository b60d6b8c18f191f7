/- Texts of this proof, joined. -/
import Derived.Test.YtkenggenkmfopaaGreatIaa
import Derived.Laws.Strings
import Derived.Laws.StructEq
import Derived.ChangeKeysEq
set_option linter.unusedVariables false
set_option linter.unusedSimpArgs false

/-
 The value logic, part e: the operations that yield a value, as the model carries them out.
-/
namespace Go.V
open Go Go.RowKit

section
variable {P:Program} {w:World} {M:Nat->Nat->Prop} {G:List Gh} {H:List Ent} {n:Nat} {af:AF} {a:Act} {k:AV->Prop}

def Yd(P:Program)(w:World)(M:Nat->Nat->Prop)(G:List Gh)(a:Act)(o:Oper)(k:AV->Prop):Prop :=
 ∃v x,k v∧VR w M G v x∧(execOp a.eval o).run P w=.ok (.value x) w

theorem Yd.of{o:Oper}{s:Sem Value}(he:execOp a.eval o=(do pure (.value (←s))))(h:∃v x,k v∧VR w M G v x∧s.run P w=.ok x w):Yd P w M G a o k:=by
 obtain⟨v,x,h1,h2,h3⟩:=h
 exact⟨v,x,h1,h2,by rw[he];simp only[Sem.run_bind,h3,Result.andThen_ok,Sem.run_pure]⟩

theorem qblq{o:Oper}{x:Operand}{y:Opd}(ho:o.op=.move x∨o.op=.assign x)(hy:cO x=some y)(hr:RelF w M G n af a)(h:(evv af H (.mov y)).bnd k):Yd P w M G a o k:=by
 refine⟨_,_,h,qt hy hr,?_⟩
 rcases ho with ho | ho<;>simp[execOp,ho]

theorem qb5y{o:Oper}{c x y:Operand}{c' x' y':Opd}(ho:o.op=.pick c x y)(hc:cO c=some c')(hx:cO x=some x')(hy:cO y=some y')(hr:RelF w M G n af a)
 (h:(evv af H (.pick c' x' y')).bnd k):Yd P w M G a o k:=by
 have h1:=qt hc hr
 have h2:=qt hx hr
 have h3:=qt hy hr
 simp only[evv] at h
 cases hv:gt af c'<;>simp only[hv,qbtn,Rs.bnd] at h
 rename_i b
 rw[hv] at h1
 simp only[VR] at h1
 refine⟨_,if b then a.eval x else a.eval y,h,?_,by simp[execOp,ho,h1,asBool]⟩
 cases b
 ·simpa using h3
 ·simpa using h2

theorem qck8{o:Oper}{t:TypeId}{x:Operand}{y:Opd}{g:Bool}{m:Nat}(ho:o.op=.load t x)(hg:aggT P t=some g)(hm:qcb P t=some m)(hy:cO x=some y)
 (hst:St w M G H) (hr:RelF w M G n af a) (h:(evv af H (.ld g m y)).bnd k):Yd P w M G a o k :=
 Yd.of (by simp only[execOp,ho]) (qoh hst hg hm (qt hy hr) h)

theorem qch2{o:Oper}{t:TypeId}{x:Operand}{y:Opd}{f m:Nat}{fs:Array Field}{fl:Field}(ho:o.op=.fieldAddr t x f)(hu:P.underlying t=some (.struct fs))(hf:fs[f]?=some fl)
 (hm:qcb P fl.type=some m) (hm0:0<m) (hy:cO x=some y) (hr:RelF w M G n af a) (h:(evv af H (.fad y fl.offset)).bnd k):Yd P w M G a o k:=by
 refine Yd.of (s:=Instr.fieldAt t (a.eval x) f) (by simp only[execOp,ho]) ?_
 obtain⟨v,b,o',h1,h2,h3⟩:=q22 (qt hy hr) h
 refine⟨v,_,h1,h2,?_⟩
 rw[h3]
 simp only[Instr.fieldAt,Sem.run_bind,run_underlying hu,Result.andThen_ok,hf,Instr.sureAddr,Sem.run_pure,fieldPlace,qw hm,Sem.run_ite,if_neg (Nat.pos_iff_ne_zero.1 hm0),qen]

theorem qcgf{o:Oper}{t:TypeId}{x:Operand}{y:Opd}{f m:Nat}{g:Bool}{fs:Array Field}{fl:Field}(ho:o.op=.field t x f)(hu:P.underlying t=some (.struct fs))(hf:fs[f]?=some fl)
 (hm:qcb P fl.type=some m) (hg:aggT P fl.type=some g) (hy:cO x=some y) (hr:RelF w M G n af a) (h:(evv af H (.fld g m fl.offset y)).bnd k):Yd P w M G a o k:=by
 refine Yd.of (s:=Instr.field t (a.eval x) f) (by simp only[execOp,ho]) ?_
 have hv:=qt hy hr
 simp only[evv] at h
 cases hx:gt af y<;>simp only[hx,fldv,Rs.bnd] at h
 rw[hx] at hv
 obtain⟨vs,he,hv⟩:=hv
 obtain⟨v,z,h1,h2,h3⟩:=qpr hg hm hv h
 exact⟨v,z,h1,h2,by simp only[Instr.field,Sem.run_bind,run_underlying hu,Result.andThen_ok,hf,he,asAgg,Sem.run_pure,h3]⟩

theorem qcg0{o:Oper}{t e:TypeId}{x i:Operand}{y j:Opd}{m:Nat}(ho:o.op=.indexAddr t x i)(hu:P.underlying t=some (.slice e))(hm:qcb P e=some m)
 (hy:cO x=some y) (hj:cO i=some j) (hr:RelF w M G n af a) (h:(evv af H (.iad m y j)).bnd k):Yd P w M G a o k:=by
 refine Yd.of (s:=Instr.indexAt t (a.eval x) (a.eval i)) (by simp only[execOp,ho]) ?_
 have hv:=qt hy hr
 have hi:=qt hj hr
 simp only[evv] at h
 cases hx:gt af y<;>cases hz:gt af j<;>simp only[hx,hz,iadv,Rs.bnd] at h
 all_goals
  rw[hx] at hv;rw[hz] at hi
  simp only[VR] at hi
 ·rename_i n' es kk z
  obtain⟨⟨rfl,h0,hlt⟩,h⟩:=h
  obtain⟨ad,cap,us,h1,h2,h3⟩:=hv
  have hul:=ql h1
  cases ad with
  | none =>
    obtain⟨h4,h5,h6,h7⟩:=h2
    have h7:cap=0:=h7
    omega
  | some ad =>
    have hsp:=(h2.2.2.2.resolve_left (fun e=>by subst e;simp at hul;omega)).1
    refine⟨_,.pointer (some ⟨ad.block,ad.off+(z.toNat*n'+0),none⟩),h,⟨ad,cap,us,h1,h2,by omega,rfl⟩,?_⟩
    have hc:0≤z∧z<(us.length:Int):=⟨h0,by rw[hul];exact hlt⟩
    simp only[Instr.indexAt,h3,hi.1,asIntOf,Sem.run_bind,Sem.run_pure,Result.andThen_ok,run_underlying hu,Sem.run_ite,if_pos hc,qw hm,qje hsp,Nat.add_zero]
 ·rename_i n' es kk z
  obtain⟨⟨rfl,h0,hlt⟩,h⟩:=h
  obtain⟨ad,us,h1,h2,h3⟩:=hv
  have hul:=ql h1
  cases ad with
  | none =>
    obtain⟨h4,h5,h6,h7⟩:=h2
    have h7:us.length=0:=h7
    omega
  | some ad =>
    have hsp:=(h2.2.2.2.resolve_left (fun e=>by subst e;simp at hul;omega)).1
    refine⟨_,.pointer (some ⟨ad.block,ad.off+(z.toNat*n'+0),none⟩),h,⟨ad,us.length,us,h1,h2,by omega,rfl⟩,?_⟩
    have hc:0≤z∧z<(us.length:Int):=⟨h0,by rw[hul];exact hlt⟩
    simp only[Instr.indexAt,h3,hi.1,asIntOf,Sem.run_bind,Sem.run_pure,Result.andThen_ok,run_underlying hu,Sem.run_ite,if_pos hc,qw hm,qje hsp,Nat.add_zero]
 ·rename_i i' len kk z
  obtain⟨⟨h0,hlt⟩,h⟩:=h
  obtain⟨g,hg,h3⟩:=hv
  refine⟨_,.pointer (some ⟨g.blk,z.toNat*m+0,none⟩),h,⟨g,hg,rfl⟩,?_⟩
  have hc:0≤z∧z<(len:Int):=⟨h0,hlt⟩
  simp only[Instr.indexAt,h3,hi.1,asIntOf,Sem.run_bind,Sem.run_pure,Result.andThen_ok,run_underlying hu,Sem.run_ite,if_pos hc,qw hm,qen,Nat.add_zero,Nat.zero_add]

theorem qces{o:Oper}{t e:TypeId}{x i:Operand}{y j:Opd}{m len:Nat}(ho:o.op=.indexAddr t x i)(hu:P.underlying t=some (.array len e))(hm:qcb P e=some m)
 (hy:cO x=some y) (hj:cO i=some j) (hr:RelF w M G n af a) (h:(evv af H (.aad m len y j)).bnd k):Yd P w M G a o k:=by
 refine Yd.of (s:=Instr.indexAt t (a.eval x) (a.eval i)) (by simp only[execOp,ho]) ?_
 have hv:=qt hy hr
 have hi:=qt hj hr
 simp only[evv] at h
 cases hx:gt af y<;>cases hz:gt af j<;>simp only[hx,hz,aadv,Rs.bnd] at h
 rw[hx] at hv;rw[hz] at hi
 simp only[VR] at hi
 obtain⟨⟨h0,hlt⟩,h⟩:=h
 obtain⟨g,hg,h3⟩:=hv
 rename_i off kk z
 refine⟨_,.pointer (some ⟨g.blk,off+z.toNat*m,none⟩),h,⟨g,hg,rfl⟩,?_⟩
 have hc:0≤z∧z<(len:Int):=⟨h0,hlt⟩
 simp only[Instr.indexAt,h3,hi.1,asIntOf,Sem.run_bind,Sem.run_pure,Result.andThen_ok,run_underlying hu,Sem.run_ite,if_pos hc,qw hm,qen,Instr.sureAddr]

theorem qcie{o:Oper}{t:TypeId}{x i:Operand}{y j:Opd}(ho:o.op=.index t x i)(hu:P.underlying t=some .string)
 (hy:cO x=some y) (hj:cO i=some j) (hr:RelF w M G n af a) (h:(evv af H (.idx y j)).bnd k):Yd P w M G a o k:=by
 refine Yd.of (s:=Instr.index t (a.eval x) (a.eval i)) (by simp only[execOp,ho]) ?_
 have hv:=qt hy hr
 have hi:=qt hj hr
 simp only[evv] at h
 cases hx:gt af y<;>cases hz:gt af j<;>simp only[hx,hz,idxv,Rs.bnd] at h
 rw[hx] at hv;rw[hz] at hi
 simp only[VR] at hi hv
 obtain⟨⟨h0,hlt⟩,h⟩:=h
 rename_i l kk z
 have hzl:z.toNat<l.length:=by omega
 refine⟨_,.int .u8 (l.getD z.toNat 0).toNat,h,?_,?_⟩
 ·generalize l.getD z.toNat 0=b
  simp only[VR,true_and]
  have:=b.toNat_lt
  simp[Lit.wf,IntKind.min,IntKind.max,IntKind.signed,IntKind.bits]
  omega
 ·have hs:(⟨l.toArray⟩:ByteArray)[z.toNat]?=some (l.getD z.toNat 0):=by
   rw[getElem?_pos (⟨l.toArray⟩:ByteArray) z.toNat (by simpa [ByteArray.size] using hzl)]
   simp[ByteArray.getElem_eq_getElem_data,List.getD,hzl]
  simp only[Instr.index,hv.1,hi.1,asIntOf,Sem.run_bind,Sem.run_pure,Result.andThen_ok,run_underlying hu,if_pos h0,hs]

theorem qcf4{o:Oper}{t e:TypeId}{x i:Operand}{y j:Opd}{m len:Nat}{g:Bool}(ho:o.op=.index t x i)(hu:P.underlying t=some (.array len e))(hm:qcb P e=some m)(hg:aggT P e=some g)
 (hy:cO x=some y) (hj:cO i=some j) (hr:RelF w M G n af a) (h:(evv af H (.ida g m len y j)).bnd k):Yd P w M G a o k:=by
 refine Yd.of (s:=Instr.index t (a.eval x) (a.eval i)) (by simp only[execOp,ho]) ?_
 have hv:=qt hy hr
 have hi:=qt hj hr
 simp only[evv] at h
 cases hx:gt af y<;>cases hz:gt af j<;>simp only[hx,hz,idav,Rs.bnd] at h
 rw[hx] at hv;rw[hz] at hi
 simp only[VR] at hi
 obtain⟨vs,he,hv⟩:=hv
 obtain⟨⟨h0,hlt⟩,h⟩:=h
 obtain⟨v,z',h1,h2,h3⟩:=qpr hg hm hv h
 refine⟨v,z',h1,h2,?_⟩
 simp only[Instr.index,he,hi.1,asIntOf,Sem.run_bind,Sem.run_pure,Result.andThen_ok,run_underlying hu,Sem.run_ite,if_pos (And.intro h0 hlt),qw hm,h3]

theorem qqj{m:Nat}(hm:m≤maxLen):VR w M G (.int .i64 (m:Int)) (goInt m):=by
 refine⟨rfl,?_⟩
 unfold maxLen at hm
 simp[Lit.wf,IntKind.min,IntKind.max,IntKind.signed,IntKind.bits]
 omega

theorem q18{s:Bool}{t:TypeId}{p:AV}{x:Value}{ty:TypeId}(hu:if s then P.underlying t=some .string else ∃e,P.underlying t=some (.slice e))(hv:VR w M G p x)
 (h:(lenv s p).bnd k):∃v z,k v∧VR w M G v z∧(Builtin.len_ #[t] ty #[x]).run P w=.ok z w:=by
 unfold Builtin.len_
 cases s with
 | true =>
   simp only[if_true] at hu
   cases p<;>simp only[lenv,Rs.bnd] at h
   obtain⟨rfl,hl⟩:=hv
   refine⟨_,_,h,qqj hl,?_⟩
   simp[run_underlying hu]
   rfl
 | false =>
   simp only[Bool.false_eq_true,if_false] at hu
   obtain⟨e,hu⟩:=hu
   cases p<;>simp only[lenv,Rs.bnd] at h
   case nils =>
    simp only[VR] at hv;subst hv
    refine⟨_,_,h,qqj (m:=0) (by simp),?_⟩
    simp[run_underlying hu]
   case sl n' es =>
    obtain⟨a',cap,us,h1,h2,rfl⟩:=hv
    have:=ql h1
    rw[←this] at h
    exact⟨_,_,h,qqj (Nat.le_trans h2.1 h2.2.1),by simp[run_underlying hu]⟩
   case lit n' es =>
    obtain⟨a',us,h1,h2,rfl⟩:=hv
    have:=ql h1
    rw[←this] at h
    exact⟨_,_,h,qqj h2.2.1,by simp[run_underlying hu]⟩
   case row i len =>
    obtain⟨g,hg,rfl⟩:=hv
    exact⟨_,_,h.2,qqj h.1,by simp[run_underlying hu]⟩
   case vw i off len cap =>
    obtain⟨g,hg,rfl⟩:=hv
    exact⟨_,_,h.2,qqj h.1,by simp[run_underlying hu]⟩

theorem qgl{o:Oper}{c:Call}{b:Builtin}(ho:o.op=.call c)(hc:c.callee=.builtin b){s:Sem Value}
 (hs:∀cs,builtin b c.argTypes o.type cs (c.args.map a.eval)=(do pure (.value (←s)))):execOp a.eval o=(do pure (.value (←s))):=by
 have hp:∀{α β:Type} (x:α) (f:α->Sem β),(pure x >>= f)=f x:=fun x f=>rfl
 simp only[execOp,ho,resolve,hc,hp,invoke,hs]

theorem qbl6{o:Oper}{c:Call}{t:TypeId}{x:Operand}{y:Opd}{s:Bool}(ho:o.op=.call c)(hc:c.callee=.builtin .len)(hx:c.args.toList=[x])(ht:c.argTypes.toList=[t])
 (hu:if s then P.underlying t=some .string else ∃e,P.underlying t=some (.slice e)) (hy:cO x=some y) (hr:RelF w M G n af a) (h:(evv af H (.len s y)).bnd k):Yd P w M G a o k:=by
 have hargs:c.args = #[x]:=by rw[←hx]
 have htys:c.argTypes = #[t]:=by rw[←ht]
 refine Yd.of (qgl ho hc (fun cs=>?_)) (q18 (ty:=o.type) hu (qt hy hr) h)
 simp[builtin,hargs,htys]

theorem qcge{o:Oper}{c:Call}{x x':Operand}{y y':Opd}{big:Bool}(ho:o.op=.call c)(hc:c.callee=.builtin (if big then .max else .min))(hx:c.args.toList=[x,x'])
 (hy:cO x=some y) (hy':cO x'=some y') (hr:RelF w M G n af a) (h:(evv af H (.mm big y y')).bnd k):Yd P w M G a o k:=by
 have hargs:c.args = #[x,x']:=by rw[←hx]
 have h1:=qt hy hr
 have h2:=qt hy' hr
 simp only[evv] at h
 cases hg:gt af y<;>cases hg':gt af y'<;>simp only[hg,hg',mmv,Rs.bnd] at h
 rw[hg] at h1;rw[hg'] at h2
 split at h
 ·rename_i hk
  subst hk
  cases big
  ·simp only[Rs.bnd] at h
   refine Yd.of (qgl (s:=Builtin.min_ c.argTypes o.type (c.args.map a.eval)) ho hc (fun cs=>by simp[builtin])) ⟨_,_,h,⟨rfl,?_⟩,?_⟩
   ·split
    ·exact h2.2
    ·exact h1.2
   ·simp[hargs,Builtin.min_,h1.1,h2.1,Builtin.min2]
  ·simp only[Rs.bnd] at h
   refine Yd.of (qgl (s:=Builtin.max_ c.argTypes o.type (c.args.map a.eval)) ho hc (fun cs=>by simp[builtin])) ⟨_,_,h,⟨rfl,?_⟩,?_⟩
   ·split
    ·exact h2.2
    ·exact h1.2
   ·simp[hargs,Builtin.max_,h1.1,h2.1,Builtin.max2]
 ·simp only[Rs.bnd] at h

theorem qgz{x:Option Operand}{y:Option Opd}(h:cOo x=some y)(hr:RelF w M G n af a):(x=none∧gto af y=none)∨∃o z,x=some o∧gto af y=some z∧VR w M G z (a.eval o):=by
 cases x with
 | none=>simp[cOo] at h;subst h;exact .inl ⟨rfl,rfl⟩
 | some o=>simp[cOo] at h;obtain⟨z,hz,rfl⟩:=h;exact .inr ⟨o,_,rfl,rfl,qt hz hr⟩

theorem q9{kk:IntKind}{z:Int}{y:Nat}{code:BoundsCode}(h0:0≤z)(h1:z≤y):(Instr.sliceBound (.int kk z) y code).run P w=.ok z.toNat w:=by
 simp[Instr.sliceBound,asIntOf,h0,h1]

theorem qet(l:List UInt8)(i j:Nat):(⟨l.toArray⟩:ByteArray).extract i j=⟨((l.take j).drop i).toArray⟩:=by
 apply ByteArray.ext
 simp[ByteArray.data_extract]
 rw[List.drop_take]

theorem qcc4{o:Oper}{t:TypeId}{x:Operand}{lo hi:Option Operand}{y:Opd}{l h':Option Opd}(ho:o.op=.slice t x lo hi none)(hu:P.underlying t=some .string)
 (hy:cO x=some y) (hl:cOo lo=some l) (hh:cOo hi=some h') (hr:RelF w M G n af a) (h:(evv af H (.sls y l h')).bnd k):Yd P w M G a o k:=by
 refine Yd.of (s:=Instr.sliceAt t (a.eval x) (lo.map a.eval) (hi.map a.eval) none) (by simp only[execOp,ho];rfl) ?_
 have hv:=qt hy hr
 have hlo:=qgz hl hr
 have hhi:=qgz hh hr
 simp only[evv] at h
 cases hx:gt af y<;>simp only[hx,slsv,Rs.bnd] at h
 rename_i s
 rw[hx] at hv
 obtain⟨hv,hs⟩:=hv
 have hsz:(⟨s.toArray⟩:ByteArray).size=s.length:=by simp[ByteArray.size]
 rcases hlo with ⟨rfl,hlo⟩ | ⟨lo',zl,rfl,hlo,hvl⟩<;>rcases hhi with ⟨rfl,hhi⟩ | ⟨hi',zh,rfl,hhi,hvh⟩<;>simp only[hlo,hhi] at h
 ·simp only[slsv,Rs.bnd] at h
  refine⟨_,_,h,⟨rfl,hs⟩,?_⟩
  simp only[Instr.sliceAt,run_underlying hu,Sem.run_bind,Result.andThen_ok,Instr.slice,hv,Option.map_none,Option.isSome_none,Bool.false_eq_true,if_false,Instr.sliceBounds,Sem.run_pure,hsz,qet]
  simp
 ·cases zh<;>simp only[slsv,Rs.bnd] at h
  rename_i kk z
  obtain⟨⟨h0,h1⟩,h⟩:=h
  refine⟨_,_,h,⟨rfl,by simp;omega⟩,?_⟩
  have hb:=hvh.1
  simp only[Instr.sliceAt,run_underlying hu,Sem.run_bind,Result.andThen_ok,Instr.slice,hv,Option.map_none,Option.map_some,Option.isSome_none,Bool.false_eq_true,if_false,Instr.sliceBounds,Sem.run_pure,hsz,hb,q9 h0 h1,qet]
  simp
 ·cases zl<;>simp only[slsv,Rs.bnd] at h
  rename_i kk z
  obtain⟨⟨h0,h1⟩,h⟩:=h
  refine⟨_,_,h,⟨rfl,by simp;omega⟩,?_⟩
  have hb:=hvl.1
  simp only[Instr.sliceAt,run_underlying hu,Sem.run_bind,Result.andThen_ok,Instr.slice,hv,Option.map_none,Option.map_some,Option.isSome_none,Bool.false_eq_true,if_false,Instr.sliceBounds,Sem.run_pure,hsz,hb,q9 h0 h1,qet]
  simp
 ·cases zl<;>cases zh<;>simp only[slsv,Rs.bnd] at h
  rename_i kk z kk' z'
  obtain⟨⟨h0,h1,h2,h3⟩,h⟩:=h
  refine⟨_,_,h,⟨rfl,by simp;omega⟩,?_⟩
  have hb:=hvl.1
  have hb':=hvh.1
  have h4:z≤((z'.toNat:Nat):Int):=by omega
  simp only[Instr.sliceAt,run_underlying hu,Sem.run_bind,Result.andThen_ok,Instr.slice,hv,Option.map_none,Option.map_some,Option.isSome_none,Bool.false_eq_true,if_false,Instr.sliceBounds,Sem.run_pure,hsz,hb,hb',q9 h0 h1,q9 h2 h4,qet]

theorem q7y{m cap:Nat}{us:List Value}{ad:Option Addr}(h:SlOK w M m us ad cap){i j c:Nat}(hij:i≤j)(hj:j≤us.length)(hc:j-i≤c)(hcc:c≤cap)(hn:ad=none->c=0):
 SlOK w M m ((us.take j).drop i) (ad.map fun d=>⟨d.block,d.off+i*m,none⟩) c:=by
 obtain⟨h1,h2,h3,h4⟩:=h
 refine⟨by simp;omega,by omega,fun u hu=>h3 u (List.mem_of_mem_take (List.mem_of_mem_drop hu)),?_⟩
 cases ad with
 | none=>exact hn rfl
 | some d =>
   rcases h4 with h4 | ⟨h5,h6⟩
   ·subst h4;exact .inl (by simp)
   refine .inr ⟨rfl,fun q v hq=>?_⟩
   have hsplit:(us.flatMap (·.cells.toList))=((us.take i).flatMap (·.cells.toList))++((((us.take j).drop i).flatMap (·.cells.toList))++((us.drop j).flatMap (·.cells.toList))):=by
    rw[←List.flatMap_append,←List.flatMap_append]
    congr 1
    rw[←List.append_assoc]
    have e1:us.take i=(us.take j).take i:=by rw[List.take_take];congr 1;omega
    rw[e1,List.take_append_drop,List.take_append_drop]
   have hlen:((us.take i).flatMap (·.cells.toList)).length=i*m:=by
    rw[qbz (fun u hu=>h3 u (List.mem_of_mem_take hu))]
    rw[List.length_take,Nat.min_eq_left (by omega)]
   have:=h6 (i*m+q) v (by
    rw[hsplit,List.getElem?_append_right (by omega),hlen]
    rw[List.getElem?_append_left (by have:=(List.getElem?_eq_some_iff.1 hq).1;omega)]
    rw[show i*m+q-i*m=q by omega]
    exact hq)
   simp only[Nat.add_assoc]
   exact this

theorem qbvg{ad:Option Addr}(hsp:∀d,ad=some d->d.spot=none)(q:Nat):ad.map (·.add q)=ad.map fun d=>⟨d.block,d.off+q,none⟩:=by
 cases ad with
 | none=>rfl
 | some d=>simp[qje (hsp d rfl)]

theorem qjc{m cap i j c:Nat}{es:List AV}{us:List Value}{ad:Option Addr}(h1:VRs w M G es us)(h:SlOK w M m us ad cap)(hij:i≤j)(hj:j≤es.length)(hjc:j≤c)(hcc:c≤cap):
 ∃ad',SlOK w M m ((us.take j).drop i) ad' (c-i)∧Value.slice (if c=i then ad else ad.map (·.add (i*m))) (j-i) (c-i)=.slice ad' ((us.take j).drop i).length (c-i)∧VRs w M G ((es.take j).drop i) ((us.take j).drop i):=by
 have hul:=ql h1
 have hlen:((us.take j).drop i).length=j-i:=by simp;omega
 by_cases hus:us=[]
 ·subst hus
  have hi0:i=0:=by simp at hul;omega
  have hj0:j=0:=by simp at hul;omega
  subst hi0 hj0
  refine⟨if c=0 then ad else ad.map (·.add (0*m)),⟨by simp,by have:=h.2.1;omega,by simp,?_⟩,by simp,qfd (qep h1 0) 0⟩
  cases ad with
  | none =>
    have h4:cap=0:=h.2.2.2
    by_cases hc0:c=0
    ·rw[if_pos hc0];show c-0=0;omega
    ·rw[if_neg hc0];show c-0=0;omega
  | some d =>
    by_cases hc0:c=0
    ·rw[if_pos hc0];exact .inl rfl
    ·rw[if_neg hc0];exact .inl rfl
 have hsp:∀d,ad=some d->d.spot=none:=fun d hd=>by subst hd;exact(h.2.2.2.resolve_left hus).1
 by_cases hci:c=i
 ·refine⟨ad,?_,by rw[if_pos hci,hlen],qfd (qep h1 j) i⟩
  have hnil:(us.take j).drop i=[]:=List.eq_nil_of_length_eq_zero (by rw[hlen];omega)
  rw[hnil]
  refine⟨by simp,by have:=h.2.1;omega,by simp,?_⟩
  cases ad with
  | none=>show c-i=0;omega
  | some d=>exact .inl rfl
 ·rw[if_neg hci,qbvg hsp]
  refine⟨ad.map fun d=>⟨d.block,d.off+i*m,none⟩,q7y h hij (by omega) (by omega) (by omega) (fun hn=>?_),by rw[hlen],qfd (qep h1 j) i⟩
  subst hn
  have:cap=0:=h.2.2.2
  omega

theorem qmw{t e:TypeId}{m cap:Nat}{es:List AV}{us:List Value}{ad:Option Addr}{lo hi:Option Value}{lo' hi':Option AV}(hu:P.underlying t=some (.slice e))(hm:qcb P e=some m)
 (h1:VRs w M G es us) (h2:SlOK w M m us ad cap) (hlo:(lo=none∧lo'=none)∨∃o z,lo=some o∧lo'=some z∧VR w M G z o) (hhi:(hi=none∧hi'=none)∨∃o z,hi=some o∧hi'=some z∧VR w M G z o)
 (h:(slp m es lo' hi').bnd k):∃v x,k v∧VR w M G v x∧(Instr.sliceAt t (.slice ad us.length cap) lo hi none).run P w=.ok x w:=by
 have hul:=ql h1
 have hcap:=h2.1
 rcases hlo with ⟨rfl,rfl⟩ | ⟨lo0,zl,rfl,rfl,hvl⟩<;>rcases hhi with ⟨rfl,rfl⟩ | ⟨hi0,zh,rfl,rfl,hvh⟩
 ·simp only[slp,Rs.bnd] at h
  obtain⟨ad',h3,h4,h5⟩:=qjc (c:=cap) h1 h2 (Nat.zero_le us.length) (by omega) hcap (Nat.le_refl _)
  have e1:(es.take us.length).drop 0=es:=by rw[hul];simp
  rw[e1] at h5
  refine⟨_,_,h,⟨ad',cap,_,h5,by simpa using h3,rfl⟩,?_⟩
  simp only[Instr.sliceAt,run_underlying hu,Sem.run_bind,Result.andThen_ok,Instr.slice,Instr.sliceBounds,Sem.run_pure,qw hm]
  rw[h4];simp
 ·cases zh<;>simp only[slp,Rs.bnd] at h
  rename_i kk z
  obtain⟨⟨g0,g1⟩,h⟩:=h
  have hzn:z.toNat≤es.length:=by omega
  obtain⟨ad',h3,h4,h5⟩:=qjc (c:=cap) h1 h2 (Nat.zero_le z.toNat) hzn (by omega) (Nat.le_refl _)
  rw[List.drop_zero] at h5
  refine⟨_,_,h,⟨ad',cap,_,h5,by simpa using h3,rfl⟩,?_⟩
  have g2:z≤((cap:Nat):Int):=by omega
  simp only[Instr.sliceAt,run_underlying hu,Sem.run_bind,Result.andThen_ok,Instr.slice,Instr.sliceBounds,Sem.run_pure,qw hm,hvh.1,if_true,q9 g0 g2]
  rw[h4];simp
 ·cases zl<;>simp only[slp,Rs.bnd] at h
  rename_i kk z
  obtain⟨⟨g0,g1⟩,h⟩:=h
  have hzn:z.toNat≤us.length:=by omega
  obtain⟨ad',h3,h4,h5⟩:=qjc (c:=cap) h1 h2 hzn (by omega) hcap (Nat.le_refl _)
  have e1:(es.take us.length).drop z.toNat=es.drop z.toNat:=by rw[hul,List.take_length]
  rw[e1] at h5
  refine⟨_,_,h,⟨ad',cap-z.toNat,_,h5,h3,rfl⟩,?_⟩
  have g2:z≤((us.length:Nat):Int):=by omega
  simp only[Instr.sliceAt,run_underlying hu,Sem.run_bind,Result.andThen_ok,Instr.slice,Instr.sliceBounds,Sem.run_pure,qw hm,hvl.1,Option.isSome_none,Bool.false_eq_true,if_false,q9 g0 g2]
  rw[h4]
 ·cases zl<;>cases zh<;>simp only[slp,Rs.bnd] at h
  rename_i kk z kk' z'
  obtain⟨⟨g0,g1,g3,g4⟩,h⟩:=h
  have hzn:z.toNat≤z'.toNat:=by omega
  obtain⟨ad',h3,h4,h5⟩:=qjc (c:=cap) h1 h2 hzn (by omega) (by omega) (Nat.le_refl _)
  refine⟨_,_,h,⟨ad',cap-z.toNat,_,h5,h3,rfl⟩,?_⟩
  have g2:z'≤((cap:Nat):Int):=by omega
  have g5:z≤((z'.toNat:Nat):Int):=by omega
  simp only[Instr.sliceAt,run_underlying hu,Sem.run_bind,Result.andThen_ok,Instr.slice,Instr.sliceBounds,Sem.run_pure,qw hm,hvl.1,hvh.1,Option.isSome_none,Bool.false_eq_true,if_false,if_true,q9 g0 g2,q9 g3 g5]
  rw[h4]

theorem qoa{t e:TypeId}{m cap:Nat}{es:List AV}{us:List Value}{ad:Option Addr}{lo hi:Option Value}{lo' hi':Option AV}{mx:Value}{mx':AV}(hu:P.underlying t=some (.slice e))(hm:qcb P e=some m)
 (h1:VRs w M G es us) (h2:SlOK w M m us ad cap) (hlo:(lo=none∧lo'=none)∨∃o z,lo=some o∧lo'=some z∧VR w M G z o) (hhi:(hi=none∧hi'=none)∨∃o z,hi=some o∧hi'=some z∧VR w M G z o)
 (hmx:VR w M G mx' mx) (h:(slf m es lo' hi' (some mx')).bnd k):∃v x,k v∧VR w M G v x∧(Instr.sliceAt t (.slice ad us.length cap) lo hi (some mx)).run P w=.ok x w:=by
 have hul:=ql h1
 have hcap:=h2.1
 rcases hlo with ⟨rfl,rfl⟩ | ⟨lo0,zl,rfl,rfl,hvl⟩<;>rcases hhi with ⟨rfl,rfl⟩ | ⟨hi0,zh,rfl,rfl,hvh⟩
 ·simp only[slf,Rs.bnd] at h
 ·cases zh<;>cases mx'<;>simp only[slf,Rs.bnd] at h
  rename_i kk z kk' z'
  obtain⟨⟨g0,g1,rfl⟩,h⟩:=h
  have hzn:z'.toNat≤es.length:=by omega
  obtain⟨ad',h3,h4,h5⟩:=qjc (c:=z'.toNat) h1 h2 (Nat.zero_le z'.toNat) hzn (Nat.le_refl _) (by omega)
  simp only[List.drop_zero] at h5 h3 h4
  have hl:(us.take z'.toNat).length=z'.toNat:=by simp;omega
  refine⟨_,.slice ad' (us.take z'.toNat).length (us.take z'.toNat).length,h,⟨ad',_,h5,by rw[hl];simpa using h3,rfl⟩,?_⟩
  have g2:z'≤((cap:Nat):Int):=by omega
  have g5:z'≤((z'.toNat:Nat):Int):=by omega
  simp only[Instr.sliceAt,run_underlying hu,Sem.run_bind,Result.andThen_ok,Instr.slice,Instr.sliceBounds,Sem.run_pure,qw hm,hvh.1,hmx.1,if_true,q9 g0 g2,q9 g0 g5]
  rw[h4,hl];simp
 ·simp only[slf,Rs.bnd] at h
 ·simp only[slf,Rs.bnd] at h

theorem qmk{g:Gh}{m len:Nat}{es:List AV}(hrow:qlw w M G g m es)(hM:∀o,M g.blk o↔o<m*es.length)(hl:es.length=len):
 ∃us,VRs w M G es us∧SlOK w M m us (some ⟨g.blk,0,none⟩) g.cap∧us.length=len:=by
 obtain⟨h1,h2,vs,t,us,h3,h4,h5,h6,h7⟩:=hrow
 have hul:=ql h5
 refine⟨us,h5,⟨by omega,h2,h6,.inr ⟨rfl,fun j v hj=>?_⟩⟩,by omega⟩
 have hj':(vs.take (m*es.length))[j]?=some v:=by rw[h7];exact hj
 have hlt:=(List.getElem?_eq_some_iff.1 hj').1
 simp at hlt
 rw[List.getElem?_take_of_lt (by omega)] at hj'
 simp only[Nat.zero_add]
 exact⟨by rw[qec h3];exact hj',(hM j).2 (by omega)⟩

theorem qcfl{o:Oper}{t e:TypeId}{x:Operand}{lo hi mx:Option Operand}{y:Opd}{l h' m':Option Opd}{m:Nat}(ho:o.op=.slice t x lo hi mx)(hu:P.underlying t=some (.slice e))(hm:qcb P e=some m)
 (hy:cO x=some y) (hl:cOo lo=some l) (hh:cOo hi=some h') (hmx:cOo mx=some m') (hst:St w M G H) (hr:RelF w M G n af a) (h:(evv af H (.slv m y l h' m')).bnd k):Yd P w M G a o k:=by
 refine Yd.of (s:=Instr.sliceAt t (a.eval x) (lo.map a.eval) (hi.map a.eval) (mx.map a.eval)) (by simp only[execOp,ho]) ?_
 have hv:=qt hy hr
 have conv:∀{q:Option Operand} {z:Option AV},((q=none∧z=none)∨∃o v,q=some o∧z=some v∧VR w M G v (a.eval o))->((q.map a.eval=none∧z=none)∨∃o v,q.map a.eval=some o∧z=some v∧VR w M G v o):=by
  rintro q z (⟨rfl,rfl⟩ | ⟨o,v,rfl,rfl,h⟩)
  ·exact .inl ⟨rfl,rfl⟩
  ·exact .inr ⟨_,_,rfl,rfl,h⟩
 have hlo:=conv (qgz hl hr)
 have hhi:=conv (qgz hh hr)
 have hmxx:=conv (qgz hmx hr)
 simp only[evv] at h
 generalize gto af l=lo' at *
 generalize gto af h'=hi' at *
 generalize gto af m'=mx' at *
 rcases hmxx with ⟨e1,rfl⟩ | ⟨mx0,zm,e1,rfl,hvm⟩<;>rw[e1]
 ·cases hx:gt af y<;>simp only[hx,slvv,Rs.bnd] at h<;>rw[hx] at hv
  ·rename_i n' es
   obtain⟨rfl,h⟩:=h
   obtain⟨ad,cap,us,h1,h2,h3⟩:=hv
   rw[h3]
   exact qmw hu hm h1 h2 hlo hhi h
  ·rename_i n' es
   obtain⟨rfl,h⟩:=h
   obtain⟨ad,us,h1,h2,h3⟩:=hv
   rw[h3]
   exact qmw hu hm h1 h2 hlo hhi h
  ·rename_i i len
   cases he:ent H i<;>simp only[he,Rs.bnd] at h
   ·rename_i n' es
    obtain⟨⟨rfl,hlen⟩,h⟩:=h
    obtain⟨g,hg,h3⟩:=hv
    obtain⟨_,hrow,hM⟩:=hst.ok i g _ hg (qba he (by simp))
    obtain⟨us,h1,h2,h4⟩:=qmk hrow hM hlen
    rw[h3,←h4]
    exact qmw hu hm h1 h2 hlo hhi h
   ·rename_i n' es
    obtain⟨⟨rfl,hlen⟩,h⟩:=h
    obtain⟨g,hg,h3⟩:=hv
    obtain⟨_,hrow,_⟩:=hst.ok i g _ hg (qba he (by simp))
    have hcap:len≤g.cap:=by rw[←hlen];exact hrow.1
    have hcm:g.cap≤maxLen:=hrow.2.1
    rcases hlo with ⟨e4,rfl⟩ | ⟨lo0,zl,e4,rfl,hvl⟩
    ·cases hi' with
     | none=>simp only[slm,Rs.bnd] at h
     | some zh =>
       cases zh<;>simp only[slm,Rs.bnd] at h
       rename_i kk z
       obtain⟨⟨hz0,hz1⟩,h⟩:=h
       rcases hhi with ⟨_,e3⟩ | ⟨hi0,zh,e2,e3,hvh⟩
       ·cases e3
       ·simp only[Option.some.injEq] at e3
        subst e3
        refine⟨_,.slice (some ⟨g.blk,0,none⟩) z.toNat g.cap,h,⟨g,hg,rfl⟩,?_⟩
        rw[e4,e2,h3]
        simp only[Instr.sliceAt,run_underlying hu,Sem.run_bind,Result.andThen_ok,Instr.slice,Instr.sliceBounds,Sem.run_pure,qw hm,hvh.1,if_true]
        rw[q9 hz0 (show z≤((g.cap:Nat):Int) by omega)]
        simp only[Result.andThen_ok]
        simp only[Nat.zero_mul,Option.map_some,Nat.sub_zero]
        rw[show(⟨g.blk,0,none⟩:Addr).add 0=⟨g.blk,0,none⟩ from rfl,ite_self]
    ·simp only[slm,Rs.bnd] at h
 ·cases hx:gt af y<;>simp only[hx,slvv,Rs.bnd] at h<;>rw[hx] at hv
  ·-- nils
   rcases hlo with ⟨e4,rfl⟩ | ⟨lo0,zl,e4,rfl,hvl⟩
   ·cases hi' with
    | none=>simp only[slvv,Rs.bnd] at h
    | some zh =>
      cases zh<;>cases zm<;>simp only[slvv,Rs.bnd] at h
      rename_i kk z kk' z'
      obtain⟨⟨rfl,rfl⟩,h⟩:=h
      simp only[VR] at hv
      rcases hhi with ⟨_,e3⟩ | ⟨hi0,zh,e2,e3,hvh⟩
      ·cases e3
      ·simp only[Option.some.injEq] at e3
       subst e3
       refine⟨_,.slice none 0 0,h,rfl,?_⟩
       rw[e4,e2,hv]
       simp only[Instr.sliceAt,run_underlying hu,Sem.run_bind,Result.andThen_ok,Instr.slice,Instr.sliceBounds,Sem.run_pure,qw hm,hvh.1,hvm.1,if_true]
       rw[q9 (by omega) (by simp)]
       simp only[Result.andThen_ok]
       rw[q9 (by omega) (by simp)]
       simp
   ·simp only[slvv,Rs.bnd] at h
  ·rename_i n' es
   obtain⟨rfl,h⟩:=h
   obtain⟨ad,cap,us,h1,h2,h3⟩:=hv
   rw[h3]
   exact qoa hu hm h1 h2 hlo hhi hvm h
  ·rename_i n' es
   obtain⟨rfl,h⟩:=h
   obtain⟨ad,us,h1,h2,h3⟩:=hv
   rw[h3]
   exact qoa hu hm h1 h2 hlo hhi hvm h
  ·rename_i i len
   cases he:ent H i<;>simp only[he,Rs.bnd] at h
   rename_i n' es
   obtain⟨⟨rfl,hlen⟩,h⟩:=h
   obtain⟨g,hg,h3⟩:=hv
   obtain⟨_,hrow,hM⟩:=hst.ok i g _ hg (qba he (by simp))
   obtain⟨us,h1,h2,h4⟩:=qmk hrow hM hlen
   rw[h3,←h4]
   exact qoa hu hm h1 h2 hlo hhi hvm h

theorem qcj8{o:Oper}{f:FuncId}{first caps:Array Operand}{l m:List Opd}(ho:o.op=.makeFunc (.func f) first caps)(hl:cOs first.toList=some l)(hm:cOs caps.toList=some m)
 (hr:RelF w M G n af a) (h:(evv af H (.mfn f l m)).bnd k):Yd P w M G a o k:=by
 refine Yd.of (s:=Instr.makeFunc (.func f) (first.map a.eval) (caps.map a.eval)) (by simp only[execOp,ho]) ⟨_,_,h,⟨_,_,qtk hl hr,qtk hm hr,rfl⟩,?_⟩
 simp only[Instr.makeFunc,Sem.run_pure]
 congr 2<;>(apply Array.ext';simp)

theorem qk6(k:IntKind)(z:Int):(Lit.int k (k.wrap z)).wf=true:=by
 cases k<;>simp[Lit.wf,IntKind.wrap,IntKind.min,IntKind.max,IntKind.signed,IntKind.bits]<;>(try split)<;>omega

theorem qbwu{k:IntKind}{x y:Int}(hx:(Lit.int k x).wf=true)(hy:y≠0):(Lit.int k (x.tmod y)).wf=true:=by
 have h3:(x.tmod y).natAbs≤x.natAbs:=by rw[Int.natAbs_tmod];exact Nat.mod_le _ _
 rcases Int.le_total 0 x with h0 | h0
 ·have h2:=Int.tmod_nonneg y h0
  have h4:x.tmod y≤x:=by omega
  cases k<;>simp[Lit.wf,IntKind.min,IntKind.max,IntKind.signed,IntKind.bits] at hx ⊢<;>omega
 ·have hneg:x.tmod y = - ((-x).tmod y):=by rw[Int.neg_tmod];omega
  have h2:=Int.tmod_nonneg y (show 0≤-x by omega)
  have h4:x≤x.tmod y:=by omega
  have h5:x.tmod y≤0:=by omega
  cases k<;>simp[Lit.wf,IntKind.min,IntKind.max,IntKind.signed,IntKind.bits] at hx ⊢<;>omega

theorem qb7y{kk:IntKind}{x:Int}(n:Nat)(hx:(Lit.int kk x).wf=true):(Lit.int kk (x.fdiv (2 ^ n))).wf=true:=by
 have hp:(0:Int)<2 ^ n:=Int.pow_pos (by decide)
 have e:x.fdiv (2 ^ n)=x / 2 ^ n:=Int.fdiv_eq_ediv_of_nonneg _ (Int.le_of_lt hp)
 rw[e]
 have h1:(0:Int)≤x->0≤x / 2 ^ n∧x / 2 ^ n≤x:=fun h=>⟨Int.ediv_nonneg h (Int.le_of_lt hp),Int.ediv_le_self _ h⟩
 have h2:x<0->x≤x / 2 ^ n∧x / 2 ^ n<0:=fun h=>by
  refine⟨?_,Int.ediv_neg_of_neg_of_pos h hp⟩
  rw[Int.le_ediv_iff_mul_le hp]
  have:x*2 ^ n≤x*1:=Int.mul_le_mul_of_nonpos_left (by omega) (by omega)
  omega
 rcases Int.lt_or_le x 0 with h | h
 ·obtain⟨q1,q2⟩:=h2 h
  cases kk<;>simp[Lit.wf,IntKind.min,IntKind.max,IntKind.signed,IntKind.bits] at hx ⊢<;>omega
 ·obtain⟨q1,q2⟩:=h1 h
  cases kk<;>simp[Lit.wf,IntKind.min,IntKind.max,IntKind.signed,IntKind.bits] at hx ⊢<;>omega
theorem qqi{kk kk':IntKind}{x y:Int}(hx:(Lit.int kk x).wf=true){t:TypeId}(h:(shrI kk x y).bnd k):
 ∃v z,k v∧VR w M G v z∧(Go.binOp .shr t (.int kk x) (.int kk' y)).run P w=.ok z w:=by
 simp only[shrI,Rs.bnd] at h
 obtain⟨⟨h1,h2⟩,h⟩:=h
 have hb:min y.toNat kk.bits=y.toNat:=by
  have:8≤kk.bits:=by cases kk<;>simp[IntKind.bits]
  omega
 refine⟨_,_,h,⟨rfl,qb7y _ hx⟩,?_⟩
 have hn:¬y<0:=by omega
 simp[Go.binOp,Op.shift,hn,hb]
theorem q2i{op:BinOp}{kk:IntKind}{x y:Int}(hx:(Lit.int kk x).wf=true)(hy:(Lit.int kk y).wf=true){t:TypeId}(h:(binI op kk x y).bnd k):
 ∃v z,k v∧VR w M G v z∧(Go.binOp op t (.int kk x) (.int kk y)).run P w=.ok z w:=by
 cases op<;>simp only[binI,Rs.bnd] at h
 all_goals first | exact h.elim | skip
 case shr=>exact qqi hx h
 case add=>exact⟨_,_,h,⟨rfl,qk6 _ _⟩,by simp[Go.binOp,Op.intArith]⟩
 case sub=>exact⟨_,_,h,⟨rfl,qk6 _ _⟩,by simp[Go.binOp,Op.intArith]⟩
 case mul=>exact⟨_,_,h,⟨rfl,qk6 _ _⟩,by simp[Go.binOp,Op.intArith]⟩
 case quo=>exact⟨_,_,h.2,⟨rfl,qk6 _ _⟩,by simp[Go.binOp,Op.intDiv,h.1]⟩
 case rem=>exact⟨_,_,h.2,⟨rfl,qbwu hx h.1⟩,by simp[Go.binOp,Op.intDiv,h.1]⟩
 case eql=>exact⟨_,_,h,rfl,by simp[Go.binOp,Op.intCmp];rfl⟩
 case neq=>exact⟨_,_,h,rfl,by simp[Go.binOp,Op.intCmp];rfl⟩
 case lss=>exact⟨_,_,h,rfl,by simp[Go.binOp,Op.intCmp]⟩
 case leq=>exact⟨_,_,h,rfl,by simp[Go.binOp,Op.intCmp]⟩
 case gtr=>exact⟨_,_,h,rfl,by simp[Go.binOp,Op.intCmp]⟩
 case geq=>exact⟨_,_,h,rfl,by simp[Go.binOp,Op.intCmp]⟩

theorem qoe(l:List UInt8):(⟨l.toArray⟩:ByteArray).toList=l:=by
 rw[ByteArray.toList_eq]

theorem lbeq(x y:List UInt8):(x == y)=decide (x=y):=by rw[Bool.eq_iff_iff];simp

theorem q29{op:BinOp}{x y:List UInt8}(hx:x.length≤maxLen)(hy:y.length≤maxLen){t:TypeId}(h:(binS op x y).bnd k):
 ∃v z,k v∧VR w M G v z∧(Go.binOp op t (.string ⟨x.toArray⟩) (.string ⟨y.toArray⟩)).run P w=.ok z w:=by
 cases op<;>simp only[binS,Rs.bnd] at h
 all_goals first | exact h.elim | skip
 case add =>
  refine⟨_,_,h.2,⟨rfl,by simpa using h.1⟩,?_⟩
  have h1:=h.1
  have:¬((((⟨x.toArray⟩:ByteArray).size+(⟨y.toArray⟩:ByteArray).size:Nat):Int) > IntKind.i64.max):=by
   simp[ByteArray.size,IntKind.max,IntKind.signed,IntKind.bits]
   unfold maxLen at h1;omega
  simp only[Go.binOp,Op.stringOp,Sem.run_ite,if_neg this,Sem.run_pure]
  congr 2
 all_goals
  refine⟨_,_,h,rfl,?_⟩
  simp[Go.binOp,Op.stringOp,qoe,lbeq]
end

section
variable {P:Program} {w:World} {M:Nat->Nat->Prop} {G:List Gh} {H:List Ent} {n:Nat} {af:AF} {a:Act} {k:AV->Prop}

theorem qbx{α β:Type}(f:α->β)(r:Rs α)(k:β->Prop):(r.map f).bnd k↔r.bnd (fun x=>k (f x)):=by
 induction r with
 | ret a=>exact Iff.rfl
 | req p r ih=>simp only[Rs.map,Rs.bnd,ih]
 | bad=>exact Iff.rfl

theorem qos{t:TypeId}{s:Sk}(h:skT P t=some s):P.underlying t=some (match s with | .int k=>.int k | .str=>.string | .bool=>.bool):=by
 unfold skT at h
 split at h<;>simp at h<;>subst h<;>assumption

theorem qbus{t:TypeId}{s:Sk}(h:skT P t=some s):aggT P t=some false:=by
 unfold aggT
 rw[qos h]
 cases s<;>rfl

theorem qgd{t:TypeId}{s:Sk}{vs:List Value}{i:Nat}{x:Value}(h:skT P t=some s)(hx:vs[i]?=some x):(part t vs.toArray i).run P w=.ok x w:=by
 simp only[part,Sem.run_bind,qdp (qbus h),Result.andThen_ok,Bool.false_eq_true,if_false]
 simp[hx]

theorem qt9{t:TypeId}{s:Sk}{c d:AV}{x y:Value}{dd:Nat}(hs:skT P t=some s)(hx:VR w M G c x)(hy:VR w M G d y)(hl:fitc s c=true)(hl':fitc s d=true):
 (Op.equalIn (dd+1) t x y).run P w=.ok (eqc c d) w:=by
 have hu:=qos hs
 cases s<;>cases c<;>simp[fitc] at hl<;>cases d<;>simp[fitc] at hl'<;>simp only[VR] at hx hy
 ·subst hl hl'
  obtain⟨rfl,_⟩:=hx;obtain⟨rfl,_⟩:=hy
  simp only[Op.equalIn,Sem.run_bind,run_underlying hu,Result.andThen_ok,if_true,Sem.run_pure,eqc]
  rfl
 ·obtain⟨rfl,_⟩:=hx;obtain⟨rfl,_⟩:=hy
  simp only[Op.equalIn,Sem.run_bind,run_underlying hu,Result.andThen_ok,Sem.run_pure,eqc]
  rw[beq_toListBytes,qoe,qoe,lbeq]
 ·subst hx hy
  simp only[Op.equalIn,Sem.run_bind,run_underlying hu,Result.andThen_ok,Sem.run_pure,eqc]

theorem qin{dd:Nat}{cs es:List AV}{xs ys:List Value}(hx:VRs w M G cs xs)(hy:VRs w M G es ys):∀(fs:List Field) (i:Nat) (ks:List Sk),rowT P fs i=some ks →
 qic ks (cs.drop i)=true->qic ks (es.drop i)=true->(Op.eqFields (dd+1) xs.toArray ys.toArray fs).run P w=.ok (eqcs (cs.drop i) (es.drop i)) w
 | [], i, ks, h, h1, h2 => by
   simp[rowT] at h;subst h
   cases hc:cs.drop i<;>cases he:es.drop i<;>simp[hc,he,qic] at h1 h2
   simp[Op.eqFields,eqcs]
 | f :: fs, i, ks, h, h1, h2 => by
   simp only[rowT] at h
   split at h
   ·rename_i hf
    simp at hf
    obtain⟨hn,hoff⟩:=hf
    split at h
    ·rename_i s l hs hl
     simp at h;subst h
     cases hc:cs.drop i with
     | nil=>simp[hc,qic] at h1
     | cons c cr =>
       cases he:es.drop i with
       | nil=>simp[he,qic] at h2
       | cons e er =>
         simp only[hc,he,qic,Bool.and_eq_true] at h1 h2
         have hci:cs[i]?=some c:=by have:=List.getElem?_drop (xs:=cs) (i:=i) (j:=0);rw[hc] at this;simpa using this.symm
         have hei:es[i]?=some e:=by have:=List.getElem?_drop (xs:=es) (i:=i) (j:=0);rw[he] at this;simpa using this.symm
         obtain⟨x,hxi,hxv⟩:=qnq hx hci
         obtain⟨y,hyi,hyv⟩:=qnq hy hei
         have hcr:cr=cs.drop (i+1):=by rw[←List.tail_drop,hc];rfl
         have her:er=es.drop (i+1):=by rw[←List.tail_drop,he];rfl
         have ih:=qin (dd:=dd) hx hy fs (i+1) l hl (by rw[←hcr];exact h1.2) (by rw[←her];exact h2.2)
         simp only[Op.eqFields,if_pos hn,Sem.run_bind,hoff,qgd hs hxi,qgd hs hyi,Result.andThen_ok,qt9 hs hxv hyv h1.1 h2.1,Sem.run_ite,eqcs]
         rw[ih,←hcr,←her]
         cases eqc c e<;>simp
    ·cases h
   ·cases h

theorem q7{op:BinOp}{t:TypeId}{x y:Operand}{u v:Value}(h:∀cs es,¬(u=.agg cs∧v=.agg es))(h':u=.nilIface∧v=.nilIface->(Region.isConst x||Region.isConst y)=true):(eqGuard op t x y u v).run P w=.ok () w:=by
 unfold eqGuard
 split
 all_goals first | rfl | skip
 all_goals
  simp only[Bool.not_true,Bool.false_eq_true,if_false]
  split
  ·have hc:=h' ⟨rfl,rfl⟩
   cases x<;>cases y<;>simp[Region.isConst] at hc<;>rfl
  ·exact absurd ⟨rfl,rfl⟩ (h _ _)
  ·rfl

theorem qhl{op:BinOp}{t:TypeId}{x y:Operand}{cs es:Array Value}(h:P.eqGuardType P.depth t=false):(eqGuard op t x y (.agg cs) (.agg es)).run P w=.ok () w:=by
 unfold eqGuard
 split<;>first | rfl | simp[h]

theorem qbbj{t:TypeId}{e:Eqk}(h:eqT P t=e):(e=.bool->P.underlying t=some .bool)∧(e=.ptr->∃u,P.underlying t=some (.pointer u))∧(e=.iface->∃u,P.underlying t=some (.interface u)) ∧
 (e=.func->∃u v w,P.underlying t=some (.func u v w))∧(∀ks,e=.cells ks->(∃fs,P.underlying t=some (.struct fs)∧P.stoodInHeld t=false∧P.eqGuardType P.depth t=false∧rowT P fs.toList 0=some ks)∨∃n el s,P.underlying t=some (.array n el)∧P.eqGuardType P.depth t=false∧P.cellsOf el=1∧skT P el=some s∧ks=List.replicate n s):=by
 unfold eqT at h
 split at h
 case h_1 hu=>subst h;exact⟨fun _=>hu,(by simp),(by simp),(by simp),(by simp)⟩
 case h_2 u hu=>subst h;exact⟨(by simp),fun _=>⟨u,hu⟩,(by simp),(by simp),(by simp)⟩
 case h_3 u hu=>subst h;exact⟨(by simp),(by simp),(by simp),(by simp),(by simp)⟩
 case h_4 u hu=>subst h;exact⟨(by simp),(by simp),fun _=>⟨u,hu⟩,(by simp),(by simp)⟩
 case h_5 u v w hu=>subst h;exact⟨(by simp),(by simp),(by simp),fun _=>⟨u,v,w,hu⟩,(by simp)⟩
 case h_6 fs hu =>
  split at h
  ·rename_i hc
   simp at hc
   split at h
   ·rename_i ks hk
    subst h
    exact⟨(by simp),(by simp),(by simp),(by simp),fun ks' hk'=>by cases hk';exact .inl ⟨fs,hu,hc.1,hc.2,hk⟩⟩
   ·subst h;exact⟨(by simp),(by simp),(by simp),(by simp),(by simp)⟩
  ·subst h;exact⟨(by simp),(by simp),(by simp),(by simp),(by simp)⟩
 case h_7 n el hu =>
  split at h
  ·rename_i hc
   simp at hc
   split at h
   ·rename_i k hk
    subst h
    exact⟨(by simp),(by simp),(by simp),(by simp),fun ks' hk'=>by cases hk';exact .inr ⟨n,el,k,hu,hc.1,hc.2,hk,rfl⟩⟩
   ·subst h;exact⟨(by simp),(by simp),(by simp),(by simp),(by simp)⟩
  ·subst h;exact⟨(by simp),(by simp),(by simp),(by simp),(by simp)⟩
 case h_8=>subst h;exact⟨(by simp),(by simp),(by simp),(by simp),(by simp)⟩
theorem qjb{dd:Nat}{cs es:List AV}{xs ys:List Value}(hx:VRs w M G cs xs)(hy:VRs w M G es ys){el:TypeId}{s:Sk}(hs:skT P el=some s):∀(m i:Nat),
 qic (List.replicate m s) (cs.drop i)=true->qic (List.replicate m s) (es.drop i)=true->(Op.eqItems (dd+1) el 1 xs.toArray ys.toArray (List.range' i m)).run P w=.ok (eqcs (cs.drop i) (es.drop i)) w
 | 0, i, h1, h2 => by
   cases hc:cs.drop i<;>cases he:es.drop i<;>simp[hc,he,qic] at h1 h2
   simp[Op.eqItems,eqcs]
 | m + 1, i, h1, h2 => by
   rw[List.replicate_succ] at h1 h2
   cases hc:cs.drop i with
   | nil=>simp[hc,qic] at h1
   | cons c cr =>
     cases he:es.drop i with
     | nil=>simp[he,qic] at h2
     | cons e er =>
       simp only[hc,he,qic,Bool.and_eq_true] at h1 h2
       have hci:cs[i]?=some c:=by have:=List.getElem?_drop (xs:=cs) (i:=i) (j:=0);rw[hc] at this;simpa using this.symm
       have hei:es[i]?=some e:=by have:=List.getElem?_drop (xs:=es) (i:=i) (j:=0);rw[he] at this;simpa using this.symm
       obtain⟨x,hxi,hxv⟩:=qnq hx hci
       obtain⟨y,hyi,hyv⟩:=qnq hy hei
       have hcr:cr=cs.drop (i+1):=by rw[←List.tail_drop,hc];rfl
       have her:er=es.drop (i+1):=by rw[←List.tail_drop,he];rfl
       have ih:=qjb (dd:=dd) hx hy hs m (i+1) (by rw[←hcr];exact h1.2) (by rw[←her];exact h2.2)
       simp only[List.range'_succ,Op.eqItems,Sem.run_bind,Nat.mul_one,qgd hs hxi,qgd hs hyi,Result.andThen_ok,qt9 hs hxv hyv h1.1 h2.1,Sem.run_ite,eqcs]
       rw[ih,←hcr,←her]
       cases eqc c e<;>simp

theorem qfh{t:TypeId}{x y:Value}{r:Result Bool}(h:∀dd,(Op.equalIn (dd+1) t x y).run P w=r):(Op.equal t x y).run P w=r:=h 9999

def EqR(P:Program)(w:World)(t:TypeId)(x y:Value)(b:Bool):Prop :=
 (Go.binOp .eql t x y).run P w=.ok (.bool b) w∧(Go.binOp .neq t x y).run P w=.ok (.bool (!b)) w
theorem qih{t:TypeId}{x y:Value}{b:Bool}(h1:Go.binOp .eql t x y=(do pure (.bool (←Op.equal t x y))))(h2:Go.binOp .neq t x y=(do pure (.bool (!(←Op.equal t x y)))))
 (h:(Op.equal t x y).run P w=.ok b w):EqR P w t x y b:=⟨by rw[h1];simp only[Sem.run_bind,h,Result.andThen_ok,Sem.run_pure],by rw[h2];simp only[Sem.run_bind,h,Result.andThen_ok,Sem.run_pure]⟩

theorem qvl{t:TypeId}{p q:AV}{x y:Value}{kb:Bool->Prop}(hx:VR w M G p x)(hy:VR w M G q y)(h:(eqv (eqT P t) p q).bnd kb):
 ∃b,kb b∧EqR P w t x y b∧∀op xo yo,((eqT P t).isIface=true->(Region.isConst xo||Region.isConst yo)=true)->(eqGuard op t xo yo x y).run P w=.ok () w:=by
 obtain⟨c1,c2,c3,c4,c5⟩:=qbbj (P:=P) (t:=t) rfl
 unfold eqv at h
 split at h
 case h_1 he =>
  have hu:=c1 he
  simp only[VR] at hx hy;subst hx hy
  exact⟨_,h,qih rfl rfl (qfh fun dd=>by simp only[Op.equalIn,Sem.run_bind,run_underlying hu,Result.andThen_ok,Sem.run_pure]),fun op xo yo _=>q7 (by simp) (by simp)⟩
 case h_2 he =>
  obtain⟨u,hu⟩:=c2 he
  simp only[VR] at hx hy;subst hx hy
  exact⟨_,h,qih rfl rfl (qfh fun dd=>by simp only[Op.equalIn,Sem.run_bind,run_underlying hu,Result.andThen_ok,Sem.run_pure];rfl),fun op xo yo _=>q7 (by simp) (by simp)⟩
 case h_3 he =>
  obtain⟨u,hu⟩:=c2 he
  simp only[VR] at hx hy;subst hy;obtain⟨g,hg,rfl⟩:=hx
  exact⟨_,h,qih rfl rfl (qfh fun dd=>by simp only[Op.equalIn,Sem.run_bind,run_underlying hu,Result.andThen_ok,Sem.run_pure]),fun op xo yo _=>q7 (by simp) (by simp)⟩
 case h_4 he =>
  obtain⟨u,hu⟩:=c2 he
  simp only[VR] at hx hy;subst hx;obtain⟨g,hg,rfl⟩:=hy
  exact⟨_,h,qih rfl rfl (qfh fun dd=>by simp only[Op.equalIn,Sem.run_bind,run_underlying hu,Result.andThen_ok,Sem.run_pure];rfl),fun op xo yo _=>q7 (by simp) (by simp)⟩
 case h_5 he =>
  obtain⟨u,hu⟩:=c3 he
  simp only[VR] at hx hy;subst hx hy
  exact⟨_,h,qih rfl rfl (qfh fun dd=>by simp only[Op.equalIn,Sem.run_bind,run_underlying hu,Result.andThen_ok,Sem.run_pure]),fun op xo yo hn=>q7 (by simp) (fun _=>hn (by rw[he];rfl))⟩
 case h_6 he =>
  obtain⟨u,hu⟩:=c3 he
  simp only[VR] at hx hy;subst hy;obtain⟨z,hz,rfl⟩:=hx
  exact⟨_,h,qih rfl rfl (qfh fun dd=>by simp only[Op.equalIn,Sem.run_bind,run_underlying hu,Result.andThen_ok,Sem.run_pure]),fun op xo yo _=>q7 (by simp) (by simp)⟩
 case h_7 he =>
  obtain⟨u,v,w',hu⟩:=c4 he
  simp only[VR] at hx hy;subst hx hy
  exact⟨_,h,qih rfl rfl (qfh fun dd=>by simp only[Op.equalIn,Sem.run_bind,run_underlying hu,Result.andThen_ok,Sem.run_pure]),fun op xo yo _=>q7 (by simp) (by simp)⟩
 case h_8 he =>
  obtain⟨u,v,w',hu⟩:=c4 he
  simp only[VR] at hx hy;subst hy;obtain⟨xs,ys,h1,h2,rfl⟩:=hx
  exact⟨_,h,qih rfl rfl (qfh fun dd=>by simp only[Op.equalIn,Sem.run_bind,run_underlying hu,Result.andThen_ok,Sem.run_pure]),fun op xo yo _=>q7 (by simp) (by simp)⟩
 case h_9 ks cs es he =>
  simp only[Rs.bnd] at h
  obtain⟨⟨h1,h2⟩,h⟩:=h
  obtain⟨xs,rfl,hx⟩:=hx
  obtain⟨ys,rfl,hy⟩:=hy
  rcases c5 ks he with ⟨fs,hu,hs,hg,hk⟩ | ⟨n,el,s,hu,hg,hsz,hs,rfl⟩
  case inr =>
   refine⟨_,h,qih rfl rfl ?_,fun op xo yo _=>qhl hg⟩
   have hd:Op.equal t (.agg xs.toArray) (.agg ys.toArray)=Op.equalIn (9999+1) t (.agg xs.toArray) (.agg ys.toArray):=rfl
   obtain⟨i,hi⟩:=info_of_underlying (qos hs)
   rw[hd,run_equalIn_array w 9999 xs.toArray ys.toArray hu hi,hsz,List.range_eq_range']
   exact qjb (dd:=9998) hx hy hs n 0 (by simpa using h1) (by simpa using h2)
  have hu':P.underlying t=some (.struct (P.fieldsOf t)):=by rw[Program.fieldsOf,hu]
  refine⟨_,h,qih rfl rfl ?_,fun op xo yo _=>qhl hg⟩
  have hd:Op.equal t (.agg xs.toArray) (.agg ys.toArray)=Op.equalIn (9999+1) t (.agg xs.toArray) (.agg ys.toArray):=rfl
  rw[hd,run_equalIn_struct w 9999 t _ _ hu' hs]
  have:P.fieldsOf t=fs:=by rw[Program.fieldsOf,hu]
  rw[this]
  exact qin (dd:=9998) hx hy fs.toList 0 ks hk (by simpa using h1) (by simpa using h2)
 case h_10=>simp only[Rs.bnd] at h

theorem qce9{o:Oper}{op:BinOp}{t yt:TypeId}{x y:Operand}{x' y':Opd}(ho:o.op=.binOp op t x y yt)(hx:cO x=some x')(hy:cO y=some y')(hif:(eqT P t).isIface=true->(Region.isConst x||Region.isConst y)=true)
 (hr:RelF w M G n af a) (h:(evv af H (.bin op (eqT P t) x' y')).bnd k):Yd P w M G a o k:=by
 have hvx:=qt hx hr
 have hvy:=qt hy hr
 refine Yd.of (s:=do eqGuard op t x y (a.eval x) (a.eval y);Go.binOp op t (a.eval x) (a.eval y)) (by simp only[execOp,ho]) ?_
 simp only[evv] at h
 generalize gt af x'=p at *
 generalize gt af y'=q at *
 generalize a.eval x=u at *
 generalize a.eval y=v at *
 unfold binv at h
 split at h
 ·rename_i k1 z1 k2 z2
  by_cases hk:k1=k2
  ·rw[if_pos hk] at h
   subst hk
   simp only[VR] at hvx hvy
   obtain⟨rfl,hw1⟩:=hvx
   obtain⟨rfl,hw2⟩:=hvy
   obtain⟨v',z,h1,h2,h3⟩:=q2i (P:=P) hw1 hw2 (t:=t) h
   refine⟨v',z,h1,h2,?_⟩
   simp only[Sem.run_bind,q7 (u:=.int k1 z1) (v:=.int k1 z2) (by simp) (by simp),Result.andThen_ok,h3]
  ·rw[if_neg hk] at h
   simp only[VR] at hvx hvy
   obtain⟨rfl,hw1⟩:=hvx
   obtain⟨rfl,hw2⟩:=hvy
   cases op<;>simp only[binX,Rs.bnd] at h
   obtain⟨v',z,h1,h2,h3⟩:=qqi (P:=P) (w:=w) (M:=M) (G:=G) (kk':=k2) (y:=z2) hw1 (t:=t) h
   refine⟨v',z,h1,h2,?_⟩
   simp only[Sem.run_bind,q7 (u:=.int k1 z1) (v:=.int k2 z2) (by simp) (by simp),Result.andThen_ok,h3]
 ·rename_i l1 l2
  simp only[VR] at hvx hvy
  obtain⟨rfl,hw1⟩:=hvx
  obtain⟨rfl,hw2⟩:=hvy
  obtain⟨v',z,h1,h2,h3⟩:=q29 (P:=P) hw1 hw2 (t:=t) h
  refine⟨v',z,h1,h2,?_⟩
  simp only[Sem.run_bind,q7 (u:=.string ⟨l1.toArray⟩) (v:=.string ⟨l2.toArray⟩) (by simp) (by simp),Result.andThen_ok,h3]
 ·cases op<;>simp only[eqb,Rs.bnd] at h
  ·rw[qbx] at h
   obtain⟨b,h1,h2,h3⟩:=qvl hvx hvy h
   exact⟨_,_,h1,rfl,by simp only[Sem.run_bind,h3 _ _ _ hif,Result.andThen_ok,h2.1]⟩
  ·rw[qbx] at h
   obtain⟨b,h1,h2,h3⟩:=qvl hvx hvy h
   exact⟨_,_,h1,rfl,by simp only[Sem.run_bind,h3 _ _ _ hif,Result.andThen_ok,h2.2]⟩
end
end Go.V
