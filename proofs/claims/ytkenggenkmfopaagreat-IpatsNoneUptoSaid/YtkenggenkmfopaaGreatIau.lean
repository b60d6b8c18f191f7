/- Texts of this proof, joined. -/
import Derived.Test.YtkenggenkmfopaaGreatIar
import Derived.Shelf.Strings.Builder1
import Derived.Shelf.Strings.Builder2
import Derived.Shelf.Strings.OnBuilder
import Derived.Test.YtkenggenkmfopaaGreatProg
import Derived.Test.YtkenggenkmfopaaGreatIaq
set_option linter.unusedVariables false
set_option linter.unusedSimpArgs false

/- terms: texts -/
namespace Go.Proofs.YtkenggenkmfopaaGreat
open Go Go.RowKit Go.V

theorem qbk2{t a b:Ty}(h1:t.con=arrW)(h2:t.args=[a,b]):txtY t=parW (decide (a.con=arrW)) (txtY a)++([32,45,62,32]++txtY b):=by
 cases t with
 | mk c v l =>
   have h1':c=arrW:=h1
   have h2':l=[a,b]:=h2
   subst h1' h2'
   rw[txtY,if_pos rfl]
theorem qbic{t:Ty}(h1:¬t.con=arrW):txtY t=qlf t++argY t.args:=by
 cases t with
 | mk c v l =>
   have h1':¬c=arrW:=h1
   rcases l with _ | ⟨a,_ | ⟨b,_ | ⟨d,r⟩⟩⟩<;>(simp only[txtY,if_neg h1'];rfl)
theorem qns(l:List Ty)(i:Nat)(h:i<l.length):argY (l.take (i+1))=argY (l.take i)++(32::parW (decide ((l.getD i Y0).args≠[])) (txtY (l.getD i Y0))):=by
 have h1:l.take (i+1)=l.take i++[l.getD i Y0]:=by
  rw[List.take_add_one,List.getD_eq_getElem?_getD,List.getElem?_eq_getElem h];rfl
 rw[h1]
 generalize l.take i=a
 generalize l.getD i Y0=x
 induction a with
 | nil=>simp[argY]
 | cons y a ih=>simp only[List.cons_append,argY,ih,List.append_assoc]
theorem qi5(l:List Ty)(i:Nat):(argY (l.take i)).length≤(argY l).length:=by
 induction l generalizing i with
 | nil=>simp
 | cons x r ih =>
   cases i with
   | zero=>simp[argY]
   | succ i=>rw[List.take_succ_cons,argY,argY,List.length_append,List.length_append];have:=ih i;omega
theorem q6n{t:Ty}(h:qc5 t=true)(h1:t.con=arrW):∃a b,t.args=[a,b]∧qc5 a=true∧qc5 b=true:=by
 rw[qg2,Bool.and_eq_true] at h
 obtain⟨h2,h3⟩:=h
 rw[mayY,mayW,h1,if_neg (by decide),if_pos rfl,Bool.and_eq_true,decide_eq_true_eq,decide_eq_true_eq] at h3
 have hl:t.args.length=2:=by omega
 obtain⟨a,b,hab⟩:∃a b,t.args=[a,b]:=by
  match hh:t.args,hl with
  | [a,b],_=>exact⟨a,b,rfl⟩
 rw[hab] at h2
 simp only[qc0,Bool.and_eq_true] at h2
 exact⟨a,b,hab,h2.1,h2.2.1⟩
theorem q7m{t x:Ty}(h:qc5 t=true)(hx:x∈t.args):qc5 x=true:=by
 rw[qg2,Bool.and_eq_true] at h
 have h2:=h.1
 generalize t.args=l at hx h2
 induction l with
 | nil=>cases hx
 | cons y r ih =>
   rw[qc0,Bool.and_eq_true] at h2
   rcases List.mem_cons.1 hx with rfl | hx
   ·exact h2.1
   ·exact ih hx h2.2
theorem q0t(b:Bool)(s:List UInt8):s.length≤(parW b s).length∧(parW b s).length≤s.length+2:=by
 rw[parW];split<;>simp<;>omega
def Big:Nat:=140737488355328
theorem qmx{n:Nat}(h:n≤Big):n≤maxLen:=by unfold Big at h;unfold maxLen;omega

theorem qce8{v:Int}(h:(Lit.int .i64 v).wf=true)(h0:v<0):IntKind.i64.wrap (-1-v) = -1-v:=by
 have:=qov h
 exact qz (by omega) (by omega)
end Go.Proofs.YtkenggenkmfopaaGreat
/- strings.Builder: the shelf's facts over this program. -/
namespace Go.Proofs
open Go.Shelf
def Tryz.lays156_ren:Go.Shelf.Ren:=⟨fun | 166=>104 | 169=>106 | 240=>153 | 276=>207 | n=>n,fun | 0=>0 | 3=>3 | 4=>4 | 9=>9 | 20=>20 | 37=>173 | 70=>200 | 72=>202 | 75=>204 | 76=>205 | 164=>296 | 5=>5 | 127=>252 | 31=>131 | 80=>59 | n=>n,fun | n=>n⟩
theorem Tryz.bld166:Go.Proofs.Lays.n166 Tryz.prog Tryz.lays156_ren:={
 mixed:=by kernel_rfl
 f166:=Tryz.func104.trans (congrArg some (by kernel_rfl))
 f240:=Tryz.func153.trans (congrArg some (by kernel_rfl))
 f276:=Tryz.func207.trans (congrArg some (by kernel_rfl))
 t0:=Tryz.underlying0
 a0:=Tryz.isAgg0
 z0:=Tryz.sizeOf0
 v0:=Tryz.zeroValue0
 t3:=Tryz.underlying3
 a3:=Tryz.isAgg3
 z3:=Tryz.sizeOf3
 v3:=Tryz.zeroValue3
 t4:=Tryz.underlying4
 a4:=Tryz.isAgg4
 z4:=Tryz.sizeOf4
 v4:=Tryz.zeroValue4
 t9:=Tryz.underlying9
 a9:=Tryz.isAgg9
 z9:=Tryz.sizeOf9
 v9:=Tryz.zeroValue9
 t20:=Tryz.underlying20
 a20:=Tryz.isAgg20
 z20:=Tryz.sizeOf20
 v20:=Tryz.zeroValue20
 t37:=Tryz.underlying173
 a37:=Tryz.isAgg173
 z37:=Tryz.sizeOf173
 v37:=Tryz.zeroValue173
 t70:=Tryz.underlying200
 a70:=Tryz.isAgg200
 z70:=Tryz.sizeOf200
 v70:=Tryz.zeroValue200
 t72:=Tryz.underlying202
 a72:=Tryz.isAgg202
 z72:=Tryz.sizeOf202
 v72:=Tryz.zeroValue202
 t75:=Tryz.underlying204
 a75:=Tryz.isAgg204
 z75:=Tryz.sizeOf204
 v75:=Tryz.zeroValue204
 t164:=Tryz.underlying296
 a164:=Tryz.isAgg296
 z164:=Tryz.sizeOf296
 v164:=Tryz.zeroValue296 }
theorem Tryz.bld169:Go.Proofs.Lays.n169 Tryz.prog Tryz.lays156_ren:={
 mixed:=by kernel_rfl
 f169:=Tryz.func106.trans (congrArg some (by kernel_rfl))
 t0:=Tryz.underlying0
 a0:=Tryz.isAgg0
 z0:=Tryz.sizeOf0
 v0:=Tryz.zeroValue0
 t3:=Tryz.underlying3
 a3:=Tryz.isAgg3
 z3:=Tryz.sizeOf3
 v3:=Tryz.zeroValue3
 t9:=Tryz.underlying9
 a9:=Tryz.isAgg9
 z9:=Tryz.sizeOf9
 v9:=Tryz.zeroValue9
 t37:=Tryz.underlying173
 a37:=Tryz.isAgg173
 z37:=Tryz.sizeOf173
 v37:=Tryz.zeroValue173
 t70:=Tryz.underlying200
 a70:=Tryz.isAgg200
 z70:=Tryz.sizeOf200
 v70:=Tryz.zeroValue200
 t72:=Tryz.underlying202
 a72:=Tryz.isAgg202
 z72:=Tryz.sizeOf202
 v72:=Tryz.zeroValue202
 t127:=Tryz.underlying252
 a127:=Tryz.isAgg252
 z127:=Tryz.sizeOf252
 v127:=Tryz.zeroValue252 }
theorem Tryz.Builder_Extra_156:Builder.Extra Tryz.prog Tryz.lays156_ren:={
 sizeBuilder:=by kernel_rfl
 liesBuilder:=by kernel_rfl
 t5:=Tryz.underlying5
 a5:=Tryz.isAgg5
 z5:=Tryz.sizeOf5
 v5:=Tryz.zeroValue5
 infoByte:=by kernel_rfl
 cellsByte:=by kernel_rfl
 sizeByte:=by kernel_rfl
 neB5:=by decide }
end Go.Proofs

/- strings.Builder: what WriteString and String do, and what they leave alone -/
set_option maxRecDepth 100000
namespace Go.V
open Go Go.Shelf Go.RowKit Go.Proofs
set_option linter.unusedSectionVars false

theorem qvi{w:World}{b o:Nat}{cs:Array Value}{t:TypeId}{fz:Nat×Nat}(h:w.heap[b]?=some (.cells cs t fz)):w.cell? ⟨b,o,none⟩=cs[o]?:=Lib.cell_of_heap h o

structure Else(w w':World)(b:Nat)(r:Option Nat):Prop where
 os:w'.os=w.os
 tape:w'.tape=w.tape
 output:w'.output=w.output
 size:w.heap.size≤w'.heap.size
 block:∀k,k<w.heap.size->k≠b->some k≠r->w'.heap[k]?=w.heap[k]?

section
variable {P:Program} {ρ:Ren}
theorem q86(L:Lays.n240 P ρ)(X:Builder.X72 P ρ)(b:Nat)(p v:Value)(w:World)(hbk:w.heap[b]?=some (.cells #[p,v] (ρ.t 72) (0,0)))(hp:p=.pointer none∨p=.pointer (some ⟨b,0,none⟩)):
 Calls P (ρ.f 240) #[.pointer (some ⟨b,0,none⟩)] w fun e w'=>e=.returned (.tuple #[])∧w'.heap[b]?=some (.cells #[.pointer (some ⟨b,0,none⟩),v] (ρ.t 72) (0,0))∧Else w w' b none∧w'.heap.size=w.heap.size:=by
 rcases hp with rfl | rfl
 ·refine(Any.Builder_copyCheck_fresh L X b w (by rw[qvi hbk];rfl) (by simp[World.shape?,hbk]) (Lib.frozen_of_heap hbk 0)).mono ?_
  rintro e w' ⟨rfl,rfl⟩
  refine⟨rfl,?_,⟨rfl,rfl,rfl,by simp,fun k _ hk _=>?_⟩,by simp⟩
  ·have:=qhf w b 0 (.pointer (some ⟨b,0,none⟩)) (vs:=[.pointer none,v]) (fz:=(0,0)) hbk
   exact this
  ·simp[World.setCell,Array.getElem?_modify,Ne.symm hk]
 ·refine(Any.Builder_copyCheck_used L X b w (by rw[qvi hbk];rfl)).mono ?_
  rintro e w' ⟨rfl,rfl⟩
  exact⟨rfl,hbk,⟨rfl,rfl,rfl,Nat.le_refl _,fun _ _ _ _=>rfl⟩,rfl⟩

theorem qlr{w w':World}{e:TypeId}{v:Value}{n:Nat}{xs:List Value}(h:w.ownsRow 0 e 1 v n xs)(hs:∀g,v.ownBlock=some g->w'.heap[g]?=w.heap[g]?):w'.ownsRow 0 e 1 v n xs:=by
 refine⟨h.1,?_⟩
 rcases h.2 with h2 | ⟨g,cap,cur,rfl,q1,q2,q3⟩
 ·exact .inl h2
 ·exact .inr ⟨g,cap,cur,rfl,q1,(hs g rfl).trans q2,q3⟩

theorem qub{w w':World}{t u ty e:TypeId}{i:TypeInfo}(ht:P.underlying t=some (.slice e))(hu:P.underlying u=some .string)(hi:P.info? e=some i)(hz:i.zero=some (.int .u8 0))(hsize:i.size=1)(hby:i.bytes=1)
 {v v':Value} {n:Nat} {xs:List Value} (hown:w.ownsRow 0 e 1 v n xs) (s:ByteArray) (h63:n+s.size≤maxLen) (hbytes:n+s.size≤140737488355328)
 (hr:(Builtin.append_ #[t,u] ty #[v,.string s]).run P w=.ok v' w'):v'.ownBlock=v.ownBlock∨v'.ownBlock=some w.heap.size:=by
 have hsmall:n+s.size≤9223372036854775807:=by simp only[maxLen] at h63;omega
 have hxl:xs.length=n:=by simpa using hown.1
 rcases hown.2 with ⟨rfl,rfl⟩ | ⟨g,cap,cur,rfl,hbg,hg,hnc,hcm,hcs,htake⟩
 ·by_cases hm:s.size=0
  ·have hf:=Lib.run_firstCells_string (P:=P) w 1 s
   rw[hm] at hf
   simp[Builtin.append_,run_underlying ht,run_underlying hu,sizeOf,typeInfo,hi,hsize,Builtin.lenOf,hm,hf] at hr
   rw[←hr.1];exact .inl rfl
  ·have hq:=run_append_nil_string (P:=P) w t u ty e i (.int .u8 0) ht hu hi hz s (by omega) (by omega) (by rw[hby];omega)
   rw[hq] at hr
   simp only[Result.ok.injEq] at hr
   rw[←hr.1];exact .inr rfl
 ·by_cases hroom:n+s.size≤cap
  ·have hq:=Lib.run_append_room_string (P:=P) w t u ty e i ht hu hi hsize g n cap cur hg s hroom (by omega)
   rw[hq] at hr
   simp only[Result.ok.injEq] at hr
   rw[←hr.1];exact .inl rfl
  ·have hq:=Lib.run_append_grow_string (P:=P) w t u ty e i (.int .u8 0) ht hu hi hz ⟨g,0,none⟩ n cap xs (by rw[hsize];simpa using hxl) (hown.cells (g:=g) rfl) s (by omega) (by omega) (by rw[hby];exact growslice_fits (by omega) (by omega))
   rw[hq] at hr
   simp only[Result.ok.injEq] at hr
   rw[←hr.1];exact .inr rfl

theorem qku{w:World}{ops:Array Oper}{rest:List Oper}{o:Oper}{a:Act}{Q:Exit->Act->World->Prop}(hgd:o.guard=none)(sl x:Operand)(t u:TypeId)
 (ho:o.op=.call { callee:=.builtin .append,args:=#[sl,x],argTypes:=#[t,u] })
 (e:TypeId) (i:TypeInfo) (ht:P.underlying t=some (.slice e)) (hu:P.underlying u=some .string) (hi:P.info? e=some i) (hz:i.zero=some (.int .u8 0)) (hsize:i.size=1) (hby:i.bytes=1)
 (v:Value) (n:Nat) (xs:List Value) (hs:a.eval sl=v) (hown:w.ownsRow 0 e 1 v n xs) (s:ByteArray) (hx:a.eval x=.string s) (h63:n+s.size≤maxLen) (hbytes:n+s.size≤140737488355328)
 (h:∀v' w',w'.ownsRow 0 e 1 v' (n+s.size) (xs++Lib.strCells s)->w.grownBy w' v.ownBlock->(v'.ownBlock=v.ownBlock∨v'.ownBlock=some w.heap.size)->wpList P ops Q rest (a.put o.dst v') w'):wpList P ops Q (o::rest) a w:=by
 refine wpList_plain hgd fun K hK=>?_
 obtain⟨v',w',hr,h2,h3,_⟩:=Lib.run_append_own_string (P:=P) w 0 t u o.type e i ht hu hi hz hsize hby v n xs hown s h63 hbytes (Nat.zero_le _)
 unfold Oper.wp execOp
 simp only[ho,resolve,invoke,builtin,Sem.run_bind,Sem.run_pure,Result.andThen_ok,List.map_toArray,List.map_cons,List.map_nil,hs,hx,hr]
 exact hK _ _ (h v' w' h2 h3 (qub ht hu hi hz hsize hby hown s h63 hbytes hr))

set_option maxHeartbeats 2000000 in
theorem qbb7(L:Lays.n166 P ρ)(X:Builder.Extra P ρ)(b:Nat)(p v:Value)(bs:List Value)(s:ByteArray)(w:World)(hbk:w.heap[b]?=some (.cells #[p,v] (ρ.t 72) (0,0)))(hp:p=.pointer none∨p=.pointer (some ⟨b,0,none⟩))
 (hown:w.ownsRow 0 (ρ.t 5) 1 v bs.length bs) (hne:v.ownBlock≠some b) (hlen':bs.length+s.size≤140737488355328) :
 Calls P (ρ.f 166) #[.pointer (some ⟨b,0,none⟩),.string s] w fun e w'=>e=.returned (.tuple #[.int .i64 s.size,.nilIface])∧∃v',w'.heap[b]?=some (.cells #[.pointer (some ⟨b,0,none⟩),v'] (ρ.t 72) (0,0)) ∧
  w'.ownsRow 0 (ρ.t 5) 1 v' (bs.length+s.size) (bs++Lib.strCells s)∧v'.ownBlock≠some b∧Else w w' b v.ownBlock∧∀k,v'.ownBlock=some k->v.ownBlock=some k∨w.heap.size≤k:=by
 have hlen:bs.length+s.size≤maxLen:=by unfold maxLen;omega
 obtain⟨i0,hi,hz0,hz1,hz2⟩:=info_parts X.infoByte
 have mixed:=L.mixed
 have t72:=L.t72;have a72:=L.a72;have z72:=L.z72;have v72:=L.v72;have u72:=_root_.Go.run_underlying L.t72
 have t70:=L.t70;have a70:=L.a70;have z70:=L.z70;have v70:=L.v70;have u70:=_root_.Go.run_underlying L.t70
 have t37:=L.t37;have a37:=L.a37;have z37:=L.z37;have v37:=L.v37;have u37:=_root_.Go.run_underlying L.t37
 have t3:=L.t3;have a3:=L.a3;have z3:=L.z3;have v3:=L.v3;have u3:=_root_.Go.run_underlying L.t3
 have t9:=L.t9;have a9:=L.a9;have z9:=L.z9;have v9:=L.v9;have u9:=_root_.Go.run_underlying L.t9
 have t4:=L.t4;have a4:=L.a4;have z4:=L.z4;have v4:=L.v4;have u4:=_root_.Go.run_underlying L.t4
 have t164:=L.t164;have a164:=L.a164;have z164:=L.z164;have v164:=L.v164;have u164:=_root_.Go.run_underlying L.t164
 have t5:=X.t5;have a5:=X.a5;have z5:=X.z5;have v5:=X.v5;have u5:=_root_.Go.run_underlying X.t5
 have e240:∀args w,(callFunc (ρ.f 240) args).run P w=.ok (.enter (ρ.f 240) args) w:=enters_of L.f240 (by kernel_rfl) rfl
 have hltw:b<w.heap.size:=by
  rcases Nat.lt_or_ge b w.heap.size with h' | h'
  ·exact h'
  ·simp[Array.getElem?_eq_none h'] at hbk
 go_enter L.f166,Body.n166_ntmps ρ
 go_wp2_with (go_at_fn (ρ.f 240);refine(q86 { L with } X.toX72 b p v _ hbk hp).mono ?_)
 rintro e w1 ⟨rfl,hbk1,hel,hsz⟩
 have hown1:w1.ownsRow 0 (ρ.t 5) 1 v bs.length bs:=qlr hown fun g hg=>hel.block g (hown.lt g hg).2 (fun h=>hne (h ▸ hg)) (by simp)
 have c0:w1.cell? ⟨b,0,none⟩=some (.pointer (some ⟨b,0,none⟩)):=by rw[Lib.cell_of_heap hbk1];rfl
 have c1:w1.cell? ⟨b,1,none⟩=some v:=by rw[Lib.cell_of_heap hbk1];rfl
 go_wp2_with (at_builtin;refine qku rfl _ _ (ρ.t 37) (ρ.t 9) rfl (ρ.t 5) i0 L.t37 L.t9 hi hz0 hz1 hz2 _ _ _ rfl hown1 s rfl ?c3 ?c4 ?_)
 case c3=>exact hlen
 case c4=>exact hlen'
 intro v' w2 hown' hgrow hblk
 have hlt:b<w1.heap.size:=by rw[hsz];exact hltw
 have hb2:w2.heap[b]?=some (.cells #[.pointer (some ⟨b,0,none⟩),v] (ρ.t 72) (0,0)):=by
  rw[hgrow.block b hlt (fun e=>hne e.symm)]
  exact hbk1
 have d0:w2.cell? ⟨b,0,none⟩=some (.pointer (some ⟨b,0,none⟩)):=by rw[Lib.cell_of_heap hb2];rfl
 have d1:w2.cell? ⟨b,1,none⟩=some v:=by rw[Lib.cell_of_heap hb2];rfl
 have f1:w2.frozen? ⟨b,1,none⟩=false:=Lib.frozen_of_heap hb2 1
 obtain⟨ao,n',cap,rfl⟩:∃ao n' cap,v'=.slice ao n' cap:=by
  rcases hown'.2 with ⟨hv,_⟩ | ⟨g,cap,cur,hv,_⟩
  ·exact⟨_,_,_,hv⟩
  ·exact⟨_,_,_,hv⟩
 have hnb:(Value.slice ao n' cap).ownBlock≠some b:=by
  rcases hblk with h | h<;>rw[h]
  ·exact hne
  ·intro hc;simp only[Option.some.injEq] at hc;omega
 go_wp2
 go_ret2
 refine⟨rfl,.slice ao n' cap,?_,?_,hnb,⟨?_,?_,?_,?_,fun k hk hkb hkr=>?_⟩,fun k hk=>?_⟩
 ·exact qhf w2 b 1 (.slice ao n' cap) (vs:=[.pointer (some ⟨b,0,none⟩),v]) (fz:=(0,0)) hb2
 ·exact qlr hown' fun g hg=>by
   have hgb:g≠b:=fun h=>hnb (h ▸ hg)
   simp[World.setCell,Array.getElem?_modify,Ne.symm hgb]
 ·exact(hgrow.os.trans hel.os)
 ·exact(hgrow.tape.trans hel.tape)
 ·exact(hgrow.output.trans hel.output)
 ·have:=hgrow.size;simp;omega
 ·have h1:=hgrow.block k (by omega) hkr
  have h2:=hel.block k hk hkb (by simp)
  simp[World.setCell,Array.getElem?_modify,Ne.symm hkb]
  rw[h1,h2]
 ·rcases hblk with h | h
  ·exact .inl (h ▸ hk)
  ·rw[h] at hk
   simp only[Option.some.injEq] at hk
   exact .inr (by omega)

theorem qwh(w:World)(g n:Nat):(w.drew.freeze ⟨g,0,none⟩ n).os=w.os∧(w.drew.freeze ⟨g,0,none⟩ n).tape=w.tape∧(w.drew.freeze ⟨g,0,none⟩ n).output=w.output ∧
 (w.drew.freeze ⟨g,0,none⟩ n).heap.size=w.heap.size∧∀k,k≠g->(w.drew.freeze ⟨g,0,none⟩ n).heap[k]?=w.heap[k]?:=by
 unfold World.freeze
 split
 ·exact⟨rfl,rfl,rfl,rfl,fun _ _=>rfl⟩
 ·refine⟨rfl,rfl,rfl,by simp,fun k hk=>?_⟩
  simp[Array.getElem?_modify,Ne.symm hk]
  rfl
set_option maxHeartbeats 2000000 in
theorem q15(L:Lays.n169 P ρ)(X:Builder.Extra P ρ)(b:Nat)(p v:Value)(l:List UInt8)(w:World)(hbk:w.heap[b]?=some (.cells #[p,v] (ρ.t 72) (0,0)))(hown:w.ownsRow 0 (ρ.t 5) 1 v l.length (Lib.byteCells l))(h0:l≠[]):
 Calls P (ρ.f 169) #[.pointer (some ⟨b,0,none⟩)] w fun e w'=>e=.returned (.string ⟨l.toArray⟩)∧Else w w' b v.ownBlock∧w'.heap.size=w.heap.size:=by
 have hl0:l.length≠0:=by simpa using h0
 obtain⟨g,cap,cur,rfl,hbg,hg,hnc,hcm,hcs,htake⟩:∃g cap cur,v=.slice (some ⟨g,0,none⟩) l.length cap∧0≤g∧w.heap[g]?=some (.cells cur (ρ.t 5) (0,0))∧l.length≤cap∧cap≤maxLen∧cur.size=cap*1∧cur.toList.take (l.length*1)=Lib.byteCells l:=by
  rcases hown.2 with ⟨_,hz⟩ | ⟨g,cap,cur,hv,r⟩
  ·exact absurd hz hl0
  ·exact⟨g,cap,cur,hv,r⟩
 have c1:w.drew.cell? ⟨b,1,none⟩=some (.slice (some ⟨g,0,none⟩) l.length cap):=by
  have:w.drew.heap[b]?=some (.cells #[p,.slice (some ⟨g,0,none⟩) l.length cap] (ρ.t 72) (0,0)):=hbk
  rw[Lib.cell_of_heap this];rfl
 have hSD:(Builtin.unsafeSliceData_ #[(ρ.t 37)] (ρ.t 127) #[.slice (some ⟨g,0,none⟩) l.length cap]).run P w.drew=.ok (.pointer (some ⟨g,0,none⟩)) w.drew :=
  Lib.run_unsafeSliceData_row _ _ _ _ _ _ (by omega)
 have hUS:(Builtin.unsafeString_ #[(ρ.t 127),(ρ.t 3)] (ρ.t 9) #[.pointer (some ⟨g,0,none⟩),.int .i64 l.length]).run P w.drew=.ok (.string ⟨l.toArray⟩) (w.drew.freeze ⟨g,0,none⟩ l.length):=by
  refine Lib.run_unsafeString_row w.drew (ρ.t 127) (ρ.t 3) (ρ.t 9) (ρ.t 5) L.t127 X.cellsByte g cur.size (by have hg':w.drew.heap[g]?=some (.cells cur (ρ.t 5) (0,0)):=hg;simp[World.shape?,hg']) l h0 (by omega) (by unfold maxLen at hcm;omega) ?_
  intro j x hx
  have:=hown.cells (g:=g) rfl j (.int .u8 x.toNat) (by simp[Lib.byteCells,hx])
  exact this
 have mixed:=L.mixed
 have t72:=L.t72;have a72:=L.a72;have z72:=L.z72;have v72:=L.v72;have u72:=_root_.Go.run_underlying L.t72
 have t70:=L.t70;have a70:=L.a70;have z70:=L.z70;have v70:=L.v70;have u70:=_root_.Go.run_underlying L.t70
 have t37:=L.t37;have a37:=L.a37;have z37:=L.z37;have v37:=L.v37;have u37:=_root_.Go.run_underlying L.t37
 have t127:=L.t127;have a127:=L.a127;have z127:=L.z127;have v127:=L.v127;have u127:=_root_.Go.run_underlying L.t127
 have t3:=L.t3;have a3:=L.a3;have z3:=L.z3;have v3:=L.v3;have u3:=_root_.Go.run_underlying L.t3
 have t9:=L.t9;have a9:=L.a9;have z9:=L.z9;have v9:=L.v9;have u9:=_root_.Go.run_underlying L.t9
 have t5:=X.t5;have a5:=X.a5;have z5:=X.z5;have v5:=X.v5;have u5:=_root_.Go.run_underlying X.t5
 go_enter L.f169,Body.n169_ntmps ρ
 go_wp2
 go_region_o
 obtain⟨z1,z2,z3,z4,z5⟩:=qwh w g l.length
 all_goals(go_wp2;go_ret;exact⟨rfl,⟨z1,z2,z3,Nat.le_of_eq z4.symm,fun k hk hkb hkr=>z5 k fun h=>hkr (by rw[h];rfl)⟩,z4⟩)

/-! in the logic of values -/
variable {T e:TypeId}
theorem qblo{w:World}{M:Nat->Nat->Prop}{G:List Gh}{x:Ent}(hst:St w M G [x]):∃g,G=[g]∧qib w M G g x:=by
 have hl:=hst.len
 cases G with
 | nil=>simp at hl
 | cons g r => cases r with
   | nil=>exact⟨g,rfl,hst.ok 0 g _ rfl rfl⟩
   | cons _ _=>simp at hl

theorem qbww(L:Lays.n166 P ρ)(X:Builder.Extra P ρ){l s:List UInt8}(hlen:l.length+s.length≤140737488355328):
 VCalls P (ρ.f 166) [.cus (bldR (ρ.t 72) (ρ.t 5) l)] [.ptr 0 0,.str s] fun H' o=>H'=[.cus (bldR (ρ.t 72) (ρ.t 5) (l++s))]∧o=.val (.tup [.int .i64 s.length,.nili]):=by
 refine⟨by unfold okF;rw[L.f166];rfl,fun w M G vs hst hv=>?_⟩
 obtain⟨g,rfl,⟨⟨p,v,h1,h2,h3,h4,h5,h6⟩,_⟩⟩:=qblo hst
 obtain⟨x0,r0,rfl,⟨g',hg',rfl⟩,x1,r1,rfl,⟨rfl,hsl⟩,rfl⟩:=hv
 simp at hg'
 subst hg'
 have hc:=qbb7 L X g.blk p v _ ⟨s.toArray⟩ w h1 h2 (by rw[List.length_map];exact h6) h5 (by simpa [ByteArray.size] using hlen)
 refine(callsIn_wide.2 hc).mono fun e w' he=>?_
 obtain⟨rfl,v',q1,q2,q3,q4,q5⟩:=he
 let g2:Gh:={ g with fp:=fun b=>b=g.blk∨v'.ownBlock=some b }
 have hfp:∀b,g.fp b↔b=g.blk∨v.ownBlock=some b:=h3
 have hown:∀b,own [g] b↔g.fp b:=fun b=>⟨fun ⟨j,gj,hj,hb⟩=>by
  cases j with
  | zero=>simp at hj;subst hj;exact hb
  | succ j=>simp at hj,fun h=>⟨0,g,rfl,h⟩⟩
 have hown2:∀b,own [g2] b↔g2.fp b:=fun b=>⟨fun ⟨j,gj,hj,hb⟩=>by
  cases j with
  | zero=>simp at hj;subst hj;exact hb
  | succ j=>simp at hj,fun h=>⟨0,g2,rfl,h⟩⟩
 have hkeep:∀b,b<w.heap.size->¬g.fp b->w'.heap[b]?=w.heap[b]?:=fun b hb hn=>q4.block b hb (fun h=>hn ((hfp b).2 (.inl h))) (fun h=>hn ((hfp b).2 (.inr h.symm)))
 have hM:∀b o,M b o->M b o∧w'.cell? ⟨b,o,none⟩=w.cell? ⟨b,o,none⟩:=fun b o hm=>⟨hm,World.cell?_of_block (w:=w) (hkeep b (hst.Mlt b o hm) (fun hf=>h4 b o hf hm))⟩
 have hnew:∀b,g2.fp b->g.fp b∨w.heap.size≤b:=fun b hb=>by
  rcases hb with hb | hb
  ·exact .inl ((hfp b).2 (.inl hb))
  ·rcases q5 b hb with h | h
   ·exact .inl ((hfp b).2 (.inr h))
   ·exact .inr h
 refine⟨M,[g2],_,_,⟨rfl,rfl⟩,⟨q4.os,q4.tape,q4.output,q4.size,fun i gi hi=>?_,hM,fun b hb hn=>hkeep b hb (fun hf=>hn ((hown b).2 hf)),fun b hb=>?_,fun _ _ h=>.inl h⟩,
  ⟨rfl,fun i gi ei hi he=>?_,fun i j g1 g3 b k1 k2 _ _=>?_,fun i gi b hi hb=>?_,fun b o hm=>Nat.lt_of_lt_of_le (hst.Mlt b o hm) q4.size,fun b o u hm hu=>hst.one b o u hm ((hM b o hm).2 ▸ hu)⟩,?_⟩
 ·cases i with
  | zero=>simp at hi;subst hi;exact⟨g2,rfl,rfl⟩
  | succ i=>simp at hi
 ·rcases hnew b ((hown2 b).1 hb) with h | h
  ·exact .inl ((hown b).2 h)
  ·exact .inr h
 ·cases i with
  | succ i=>simp at hi
  | zero =>
    simp at hi he
    subst hi he
    refine⟨⟨_,v',q1,.inr rfl,fun b=>Iff.rfl,fun b o hb hm=>?_,q3,?_⟩,qts⟩
    ·rcases hnew b hb with h | h
     ·exact h4 b o h hm
     ·have:=hst.Mlt b o hm;omega
    ·have:(List.map (fun c:UInt8=>Value.int .u8 c.toNat) (l++s))=(l.map fun c=>Value.int .u8 c.toNat)++Lib.strCells ⟨s.toArray⟩:=by simp[Lib.strCells]
     rw[this]
     simpa [ByteArray.size] using q2
 ·cases i<;>cases j<;>simp at k1 k2<;>rfl
 ·cases i with
  | succ i=>simp at hi
  | zero =>
    simp at hi
    subst hi
    rcases hb with hb | hb
    ·subst hb
     rcases Nat.lt_or_ge g.blk w'.heap.size with h' | h'
     ·exact h'
     ·simp[Array.getElem?_eq_none h'] at q1
    ·exact(q2.lt b hb).2
 ·refine⟨_,rfl,?_⟩
  refine⟨_,_,rfl,⟨by simp[ByteArray.size],?_⟩,_,_,rfl,rfl,rfl⟩
  have hsl':s.length≤140737488355328:=by omega
  simp[Lit.wf,IntKind.min,IntKind.max,IntKind.signed,IntKind.bits]
  omega

theorem qbee(L:Lays.n169 P ρ)(X:Builder.Extra P ρ){l:List UInt8}(h0:l≠[])(hlen:l.length≤140737488355328):
 VCalls P (ρ.f 169) [.cus (bldR (ρ.t 72) (ρ.t 5) l)] [.ptr 0 0] fun H' o=>H'=[.dead]∧o=.val (.str l):=by
 refine⟨by unfold okF;rw[L.f169];rfl,fun w M G vs hst hv=>?_⟩
 obtain⟨g,rfl,⟨⟨p,v,h1,h2,h3,h4,h5,h6⟩,_⟩⟩:=qblo hst
 obtain⟨x0,r0,rfl,⟨g',hg',rfl⟩,rfl⟩:=hv
 simp at hg'
 subst hg'
 have hc:=q15 L X g.blk p v l w h1 h6 h0
 refine(callsIn_wide.2 hc).mono fun e w' he=>?_
 obtain⟨rfl,q4,q5⟩:=he
 let g2:Gh:={ g with fp:=fun b=>False }
 have hown:∀b,own [g] b↔g.fp b:=fun b=>⟨fun ⟨j,gj,hj,hb⟩=>by
  cases j with
  | zero=>simp at hj;subst hj;exact hb
  | succ j=>simp at hj,fun h=>⟨0,g,rfl,h⟩⟩
 have hkeep:∀b,b<w.heap.size->¬g.fp b->w'.heap[b]?=w.heap[b]?:=fun b hb hn=>q4.block b hb (fun h=>hn ((h3 b).2 (.inl h))) (fun h=>hn ((h3 b).2 (.inr h.symm)))
 have hM:∀b o,M b o->M b o∧w'.cell? ⟨b,o,none⟩=w.cell? ⟨b,o,none⟩:=fun b o hm=>⟨hm,World.cell?_of_block (w:=w) (hkeep b (hst.Mlt b o hm) (fun hf=>h4 b o hf hm))⟩
 refine⟨M,[g2],_,_,⟨rfl,rfl⟩,⟨q4.os,q4.tape,q4.output,q4.size,fun i gi hi=>?_,hM,fun b hb hn=>hkeep b hb (fun hf=>hn ((hown b).2 hf)),fun b ⟨j,gj,hj,hb⟩=>?_,fun _ _ h=>.inl h⟩,
  ⟨rfl,fun i gi ei hi he=>?_,fun i j g1 g3 b k1 k2 _ _=>?_,fun i gi b hi hb=>?_,fun b o hm=>Nat.lt_of_lt_of_le (hst.Mlt b o hm) q4.size,fun b o u hm hu=>hst.one b o u hm ((hM b o hm).2 ▸ hu)⟩,?_⟩
 ·cases i with
  | zero=>simp at hi;subst hi;exact⟨g2,rfl,rfl⟩
  | succ i=>simp at hi
 ·cases j with
  | zero=>simp at hj;subst hj;exact hb.elim
  | succ j=>simp at hj
 ·cases i with
  | succ i=>simp at hi
  | zero=>simp at hi he;subst hi he;exact fun b hb=>hb
 ·cases i<;>cases j<;>simp at k1 k2<;>rfl
 ·cases i with
  | succ i=>simp at hi
  | zero=>simp at hi;subst hi;exact hb.elim
 ·exact⟨rfl,by unfold maxLen;omega⟩
end
end Go.V
