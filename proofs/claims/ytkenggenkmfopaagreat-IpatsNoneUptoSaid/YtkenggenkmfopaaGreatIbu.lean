/- Texts of this proof, joined. -/
import Derived.Test.YtkenggenkmfopaaGreatIbs
import Derived.Test.YtkenggenkmfopaaGreatIbt
import Derived.Test.YtkenggenkmfopaaGreatIbd
import Derived.Test.YtkenggenkmfopaaGreatIbj
set_option linter.unusedVariables false
set_option linter.unusedSimpArgs false

/- the state: Wait, lists, Type, Fill -/
set_option maxRecDepth 4000
namespace Go.Proofs.YtkenggenkmfopaaGreat
open Go Go.RowKit Go.V

section
variable {P:Program} {H:List Ent} {fr:Option Nat} {n m:Nat} {a:IC} {QV:VE->AF->List Ent->Prop} {af:AF} {S:SS}
abbrev stcK(S:SS)(k1 k2 k3:Nat):List AV:=[.int .i64 S.vars,.int .i64 S.fixed,.int .i64 S.names,.int .i64 S.holes,.ptr k1 0,.sl 6 (qe3 S.waits),.opq k2,.opq k3,.int .i64 S.pos,.int .i64 S.err]
theorem q7u(S:SS)(k1 k2 k3:Nat)(hq:VI P fr n m a QV af ((((H.set k1 .dead).set k2 .dead).set k3 .dead).set 0 (stE S)))
 (h0:ent H 0=.blk (stcK S k1 k2 k3)) (h1:ent H k1=subE S.known) (h2:ent H k2=mapE (qbec S.fills)) (h3:ent H k3=mapE (qbg6 S.free))
 (hn:[0,k1,k2,k3].Nodup) (hl0:0<H.length) (hl1:k1<H.length) (hl2:k2<H.length) (hl3:k3<H.length):VI P fr n m a QV af H:=by
 refine qzo 0 [k1,k2,k3] (H1:=stH S) (by simp) hn ?_ hq
 exact⟨⟨hl0,by simp only[Ent.bd,AV.bds,AV.bd,qjg];rfl,by rw[h0];simp only[Ent.ren,AV.rens,AV.ren,qh8];rfl⟩,⟨hl1,rfl,by rw[h1];rfl⟩,⟨hl2,rfl,by rw[h2];rfl⟩,⟨hl3,rfl,by rw[h3];rfl⟩,trivial⟩
theorem q6k(S:SS)(he:ent H 0=stE S)(hm:m≤H.length)(hq:VI P fr n m a QV af (H.set 0 (.blk (stcK S H.length (H.length+1) (H.length+2)))++[subE S.known,mapE (qbec S.fills),mapE (qbg6 S.free)])):VI P fr n m a QV af H:=by
 refine q9b 0 he hm ?_
 simp only[Ent.ren,AV.rens,AV.ren,qh8,List.map_cons,List.map_nil]
 exact hq
end
set_option maxRecDepth 4000

def lsV(s:List Pr):List Int:=s.map Pr.v
def lsT(s:List Pr):List Ty:=s.map Pr.ty
def lsSt(S:SS)(i:Nat):AF×List Ent:=(⟨[(4,accV 4 (ints (lsV (S.known.take i)))),(5,accV 5 (qh (lsT (S.known.take i)))),(12,.sl 4 (qck S.known)),(13,.int .i64 S.known.length),(14,.int .i64 i)],[]⟩,stH S++accE 1 (ints (lsV (S.known.take i)))++accE 3 (qh (lsT (S.known.take i))))
theorem qbd9{S:SS}(hl:S.known.length≤100000)(ho:smlR S.known):VM Tryz.prog 50 (stE S) (stE S) [.ptr 0 0] (.tup [.sl 1 (ints (lsV S.known)),.sl 3 (qh (lsT S.known))]):=by
 refine qek ?_ (by simp[AV.bds,AV.bd])
 refine qd c0ez 4 (by simp) (by simp) ?_
 repeat'(first|refine vs_ ?_|((first|refine vr_ ?_|refine qcw 1 (qfv hl ho) ?_|(refine cs_ ?_ ?_<;>intro hc)|refine cj_ ?_|simp (disch:=omega) only[qa,qc])<;>try refine ev_ ?_)|with_reducible exact ti_)
 refine qo (S:=Nat) (fun i=>i≤S.known.length) (lsSt S) (fun i=>S.known.length-i) ?_ fun i hi=>?_
 ·refine qj 0 [0,1,2,3] (Nat.zero_le _) rfl (by simp) ?_ ?_ ?_<;>simp only[lsSt,List.take_zero,lsV,lsT,List.map_nil,ints,qh,qi,qk,List.append_nil]<;>(try refine ev_ ?_)<;>(try with_reducible exact ti_)<;>(try simp (disch:=omega) only[qc,and_true,true_and])
 ·unfold lsSt
  have hvl:(ints (lsV (S.known.take i))).length=i:=by rw[qdq,lsV,List.length_map,List.length_take];omega
  have htl:(qh (lsT (S.known.take i))).length=i:=by rw[qg,lsT,List.length_map,List.length_take];omega
  by_cases hlt:i<S.known.length
  ·have hg:=qc3 hlt
   have hsn:=qpm hlt
   have e1:ints (lsV (S.known.take i))++[.int .i64 (S.known.getD i R0).v]=ints (lsV (S.known.take (i+1))):=by rw[hsn,qjn];simp only[lsV,List.map_append,List.map_cons,List.map_nil]
   have e2:qh (lsT (S.known.take i))++[encY (S.known.getD i R0).ty]=qh (lsT (S.known.take (i+1))):=by rw[hsn,qew];simp only[lsT,List.map_append,List.map_cons,List.map_nil]
   have c1:qbe (i+1) 8=True:=eq_true (by unfold qbe;omega)
   have c2:qbe (i+1) 48=True:=eq_true (by unfold qbe;omega)
   have hif:(i:Int)<(S.known.length:Int):=by omega
   generalize S.known.getD i R0=x at *
   have hxf:AV.agg [.str x.ty.con,.int .i64 x.ty.var,.sl 3 (qh x.ty.args)]=encY x.ty:=qb4 _
   by_cases h0:i=0
   ·subst h0
    have n1:ints (lsV (S.known.take 0))=[]:=rfl
    have n2:qh (lsT (S.known.take 0))=[]:=rfl
    rw[n1] at e1
    rw[n2] at e2
    rw[n1,n2]
    simp only[qi,qk,List.append_nil]
    have hif0:(0:Int)<(S.known.length:Int):=by omega
    repeat'(first|refine vs_ ?_|(refine vr_ ?_<;>try simp (disch:=first|omega|(simp only[List.length_set,List.length_append,List.length_cons,List.length_nil];try omega)) only[hg,hif0,hxf,qc,c1,c2,go_sem,↓reduceIte])|((first|simp (disch:=omega) only[hg]|(refine cs_ ?_ ?_<;>intro hc)|refine cj_ ?_|simp (disch:=omega) only[qa,qc])<;>try refine ev_ ?_)|with_reducible exact ti_)
    refine qj 1 [0,1,2,3,5,6] ⟨by omega,by omega⟩ rfl (by simp) ?_ ?_ ?_<;>simp only[lsSt,←e1,←e2,List.nil_append,qd1,qd6]<;>(try refine ev_ ?_)<;>(try with_reducible exact ti_)<;>(try simp (disch:=omega) only[qc,and_true,true_and])
    all_goals rfl
   ·have n1:ints (lsV (S.known.take i))≠[]:=fun h=>h0 (by rw[←hvl,h];rfl)
    have n2:qh (lsT (S.known.take i))≠[]:=fun h=>h0 (by rw[←htl,h];rfl)
    simp only[qm n1,qn n1,qm n2,qn n2,hvl,htl]
    repeat'(first|refine vs_ ?_|(refine vr_ ?_<;>try simp (disch:=first|omega|(simp only[List.length_set,List.length_append,List.length_cons,List.length_nil];try omega)) only[hg,hif,hxf,hvl,htl,qc,c1,c2,go_sem,↓reduceIte])|((first|simp (disch:=omega) only[hg]|(refine cs_ ?_ ?_<;>intro hc)|refine cj_ ?_|simp (disch:=omega) only[qa,qc])<;>try refine ev_ ?_)|with_reducible exact ti_)
    refine qj (i+1) [0,1,2,3,7,8] ⟨by omega,by omega⟩ rfl (by simp) ?_ ?_ ?_<;>simp only[lsSt,←e1,←e2,qd8,qd9,hvl,htl]<;>(try refine ev_ ?_)<;>(try with_reducible exact ti_)<;>(try simp (disch:=omega) only[qc,and_true,true_and])
    ·rw[e1,e2];exact⟨⟨qe2 _ _,by rw[qj0]⟩,qbd _ _,by rw[qda]⟩
    ·rw[qz (by omega) (by omega),Int.natCast_add];rfl
  ·have hie:i=S.known.length:=by omega
   subst hie
   rw[List.take_length] at hvl htl ⊢
   by_cases h0:S.known=[]
   ·have n1:ints (lsV S.known)=[]:=by rw[h0];rfl
    have n2:qh (lsT S.known)=[]:=by rw[h0];rfl
    rw[n1,n2]
    simp only[qi,qk,List.append_nil]
    repeat'(first|refine vs_ ?_|((first|refine vr_ ?_|(refine cs_ ?_ ?_<;>intro hc)|refine cj_ ?_|simp (disch:=omega) only[qa,qc])<;>try refine ev_ ?_)|with_reducible exact ti_)
    all_goals try(exfalso;omega)
    exact qdk (S:=S) (L:=[]) rfl rfl ⟨rfl,rfl⟩
   ·have hne:S.known.length≠0:=fun h=>h0 (List.length_eq_zero_iff.1 h)
    have n1:ints (lsV S.known)≠[]:=fun h=>hne (by rw[←hvl,h];rfl)
    have n2:qh (lsT S.known)≠[]:=fun h=>hne (by rw[←htl,h];rfl)
    simp only[qm n1,qn n1,qm n2,qn n2,hvl,htl]
    repeat'(first|refine vs_ ?_|(refine vr_ ?_<;>try simp only[hvl,htl,go_sem,↓reduceIte])|((first|(refine cs_ ?_ ?_<;>intro hc)|refine cj_ ?_|simp (disch:=omega) only[qa,qc])<;>try refine ev_ ?_)|with_reducible exact ti_)
    all_goals try(exfalso;omega)
    exact qdk (S:=S) (L:=[]) rfl (by simp only[AV.bd,AV.bds,qe2,qbd,Bool.and_true]) ⟨rfl,rfl⟩
def typS(S:SS)(t:Ty):Ty:=if(typK (lsV S.known) (lsT S.known) t).2=true then(typK (lsV S.known) (lsT S.known) t).1 else Y0
theorem qwv{S:SS}{t:Ty}(hl:S.known.length≤100000)(ho:smlR S.known)(hb:szY t≤1000000):VM Tryz.prog 15 (stE S) (stE S) [.ptr 0 0,encY t] (encY (typS S t)):=by
 have h1:=qbd9 hl ho
 have h2:=q2r (vs:=lsV S.known) (ts:=lsT S.known) hb
 have hz:AV.agg [.str [],.int .i64 0,.sl 3 []]=encY Y0:=rfl
 unfold typS
 generalize typK (lsV S.known) (lsT S.known) t=q at *
 obtain⟨u,b⟩:=q
 dsimp only at h2 ⊢
 refine qd c0fa 1 (by simp) (by simp) ?_
 cases b with
 | true =>
   repeat'(first|refine vs_ ?_|(refine vr_ ?_<;>try simp only[hz,go_sem,↓reduceIte])|((first|(refine cs_ ?_ ?_<;>intro hc)|refine cj_ ?_|fail|refine qcw 0 h1 ?_|refine qb h2 fun _=>?_)<;>try refine ev_ ?_)|with_reducible exact ti_)
 | false =>
   repeat'(first|refine vs_ ?_|(refine vr_ ?_<;>try simp only[hz,go_sem,↓reduceIte])|((first|(refine cs_ ?_ ?_<;>intro hc)|refine cj_ ?_|fail|refine qcw 0 h1 ?_|refine qb h2 fun _=>?_)<;>try refine ev_ ?_)|with_reducible exact ti_)
set_option maxRecDepth 4000

set_option maxRecDepth 4000

theorem qbqk{L:List Ent}{Q:List Ent->VO->Prop}(hq:Q (L++[subE []]) (.val (.ptr L.length 0))):VApp Tryz.prog L (.fn 39 [] []) [.sl 4 []] Q:=qbbl (l:=[]) (s:=[]) (fun p hp=>by simp at hp) (by simp) rfl hq
def S0:SS:=⟨0,0,0,0,[],[],[],[],0,0⟩
theorem qchm:VCalls Tryz.prog 11 [] [] fun H' o=>H'=[stE S0]∧o=.val (.ptr 0 0):=by
 refine qd c0ey 1 (by simp) (by simp) ?_
 unfold k0ey
 generalize hz:IC.ret=z1
 repeat'(first|refine vs_ ?_|((first|refine vr_ ?_|refine qbqk ?_|refine qbp4 ?_|(refine cs_ ?_ ?_<;>intro hc)|refine cj_ ?_)<;>try refine ev_ ?_)|with_reducible exact ti_)
 subst hz
 refine qdy 3 5 (.sl 6) rfl ?_
 simp only[List.getD_cons_succ,List.getD_cons_zero,List.set_cons_succ,List.set_cons_zero,qdu]
 refine qzo 3 [0,1,2] (H1:=stH S0) (by simp) (by simp) ⟨⟨by simp,by rfl,by rfl⟩,⟨by simp,by rfl,by rfl⟩,⟨by simp,by rfl,by rfl⟩,⟨by simp,by rfl,by rfl⟩,trivial⟩ ?_
 refine qrk (af':=⟨[(0,.ptr 0 0)],[]⟩) (H':=[stE S0]) ?_ (qsu [3] rfl (by simp) ?_ ?_ ?_)
 ·repeat'(first|refine vs_ ?_|((first|refine vr_ ?_|(refine cs_ ?_ ?_<;>intro hc)|refine cj_ ?_)<;>try refine ev_ ?_)|with_reducible exact ti_)
 ·exact⟨⟨by simp[qt1],rfl,rfl⟩,trivial⟩
 all_goals(try(refine ev_ ?_;(try with_reducible exact ti_)))
theorem qzq{f:FuncId}{e e':Ent}{rest rs:List AV}{r:AV}{L:List Ent}{Kk:Md->AV->List Ent->Prop}(i:Nat)(h:VM Tryz.prog f e e' (.ptr 0 0::rest) r)(hrest:AV.bds 0 rest=true)(hr:r.bd 0=true)(hq:Kk (.meth i e e') r (L.set i e'))(hn:e≠.dead:=by intro h;cases h)(hb:e.bd 0=true:=by rfl)(hb':e'.bd 0=true:=by rfl)(he:ent L i=e:=by rfl):
 DApp Tryz.prog L (.fn f [] []) (.ptr i 0::rest) rs Kk:=by
 refine qck3 i h hq hn hb hb' he hr ?_ ?_
 ·rw[List.append_nil,AV.rens,qs (m:=0) (fun j hj=>by omega) rest hrest];rfl
 ·rw[AV.bds,Bool.and_eq_true]
  exact⟨rfl,qdc (Nat.zero_le _) _ hrest⟩
/-! what waits -/
end Go.Proofs.YtkenggenkmfopaaGreat

/- made one: pairs of types as data; the stack -/
set_option maxRecDepth 4000
namespace Go.V
open Go Go.RowKit

section
variable {P:Program} {H:List Ent}
theorem qblv{w:World}{M:Nat->Nat->Prop}{G:List Gh}(i k:Nat){q:Nat}{es:List AV}(hst:St w M G H)(he:ent H i=.mrow q es):St w M G (H.set i (.mrow q (es.take k))):=by
 have hH:=qba he (by simp)
 obtain⟨g,hg⟩:=hst.lenH hH
 obtain⟨h1,⟨r1,r2,vs,t,us,r3,r4,r5,r6,r7⟩,h9⟩:=hst.ok i g _ hg hH
 have hul:us.length=es.length:=ql r5
 have htk:(es.take k).length≤es.length:=by rw[List.length_take];omega
 have hs:=qik (w':=w) (M':=M) (g':=g) (e:=.mrow q (es.take k)) hst hg rfl (fun _ h=>h) (Nat.le_refl _) (fun _ _ _=>rfl) (Le.refl w M) (fun _ _ h=>.inl h) (by
  rw[qd3 _ _ _ hg]
  refine⟨h1,⟨by omega,r2,vs,t,us.take k,r3,r4,qep r5 k,fun u hu=>r6 u (List.mem_of_mem_take hu),?_⟩,h9⟩
  have hfl:=qbz (us:=us.take k) fun u hu=>r6 u (List.mem_of_mem_take hu)
  have hsp:us.flatMap (·.cells.toList)=(us.take k).flatMap (·.cells.toList)++(us.drop k).flatMap (·.cells.toList):=by rw[←List.flatMap_append,List.take_append_drop]
  have hle:q*(es.take k).length≤q*es.length:=Nat.mul_le_mul_left q htk
  have e1:vs.take (q*(es.take k).length)=(vs.take (q*es.length)).take (q*(es.take k).length):=by rw[List.take_take,Nat.min_eq_left hle]
  have e2:((us.take k).flatMap (·.cells.toList)).length=q*(es.take k).length:=by rw[hfl,Nat.mul_comm,List.length_take,List.length_take,hul]
  rw[e1,r7,hsp,List.take_left' e2])
 rwa [qd3 _ _ _ hg] at hs
theorem VCalls.cut{f:FuncId}{args:List AV}{Q Q':List Ent->VO->Prop}(i k q:Nat)(h:VCalls P f H args Q)(hq:∀H' o,Q H' o->∃es,ent H' i=.mrow q es∧Q' (H'.set i (.mrow q (es.take k))) o):VCalls P f H args Q' :=
 ⟨h.1,fun w M G vs hst hv=>CallsIn.mono (h.2 w M G vs hst hv) fun e w' he=>by
  cases e with
  | returned x =>
    obtain⟨M',G',H',v,h1,h2,h3,h4⟩:=he
    obtain⟨es,q1,q2⟩:=hq _ _ h1
    exact⟨M',G',_,v,q2,h2,qblv i k h3 q1,h4⟩
  | panicked c =>
    obtain⟨M',G',H',v,x,h1,h2,h3,h4,h5⟩:=he
    obtain⟨es,q1,q2⟩:=hq _ _ h1
    exact⟨M',G',_,v,x,q2,h2,qblv i k h3 q1,h4,h5⟩
  | outgrown=>exact he⟩
end
def encW(x:Ty×Ty):AV:=.agg [.str x.1.con,.int .i64 x.1.var,.sl 3 (qh x.1.args),.str x.2.con,.int .i64 x.2.var,.sl 3 (qh x.2.args)]
def qb2(l:List (Ty×Ty)):List AV:=l.map encW
def W0:Ty×Ty:=(Y0,Y0)
abbrev wdc(x:Ty×Ty):List AV:=[.str x.1.con,.int .i64 x.1.var,.sl 3 (qh x.1.args),.str x.2.con,.int .i64 x.2.var,.sl 3 (qh x.2.args)]
theorem qbar(x:Ty×Ty):AV.agg [.str x.1.con,.int .i64 x.1.var,.sl 3 (qh x.1.args),.str x.2.con,.int .i64 x.2.var,.sl 3 (qh x.2.args)]=encW x:=rfl
theorem q35(x:Ty×Ty):(encW x).cells=wdc x:=rfl
theorem qg6(k:Nat)(x:Ty×Ty):(encW x).bd k=true:=by simp only[encW,AV.bd,AV.bds,qbd,Bool.and_true]
theorem qde(k:Nat)(l:List (Ty×Ty)):AV.bds k (qb2 l)=true:=by rw[qb2,qb6,List.all_map,List.all_eq_true];exact fun x _=>qg6 k x
theorem ql8(σ:Nat->Nat)(x:Ty×Ty):(encW x).ren σ=encW x:=ren_same (m:=0) (fun i hi=>by omega) _ (qg6 0 x)
theorem qs7(σ:Nat->Nat)(l:List (Ty×Ty)):AV.rens σ (qb2 l)=qb2 l:=qs (m:=0) (fun i hi=>by omega) _ (qde 0 l)
theorem qb9x(H:List Ent)(x:Ty×Ty):co H (.agg [.id,.id,.sl 3,.id,.id,.sl 3]) (encW x)=encW x:=by
 simp only[encW,qef,qcf,qcx,qgq,qcj]
theorem q7p(x:Ty×Ty):rdCo (.agg [.id,.id,.sl 3,.id,.id,.sl 3]) (encW x)=[]:=by
 simp only[encW,qce,qbi,qbq,qdh,qbk,List.append_nil]
theorem qbga(x:Ty×Ty):(encW x).isAgg=true:=rfl
theorem qt7(x:Ty×Ty):(encW x).leaf=false:=rfl
theorem qfz(l:List (Ty×Ty)):(qb2 l).length=l.length:=by simp[qb2]
theorem qk7{l:List (Ty×Ty)}{i:Nat}(h:i<l.length):(qb2 l).getD i .junk=encW (l.getD i W0):=by
 rw[qb2,List.getD_eq_getElem?_getD,List.getElem?_map,List.getElem?_eq_getElem h,List.getD_eq_getElem?_getD,List.getElem?_eq_getElem h];rfl
theorem qck6{l:List (Ty×Ty)}{i:Nat}(h:i<l.length):l.drop i=l.getD i W0::l.drop (i+1):=by
 rw[List.drop_eq_getElem_cons h,List.getD_eq_getElem?_getD,List.getElem?_eq_getElem h];rfl
theorem qhw(l:List (Ty×Ty))(p:Ty×Ty):qb2 l++[encW p]=qb2 (l++[p]):=by simp[qb2]
theorem qpy(n:Nat)(l:List (Ty×Ty)):(qb2 l).take n=qb2 (l.take n):=by simp[qb2]
theorem q09(n:Nat)(l:List (Ty×Ty)):(qb2 l).drop n=qb2 (l.drop n):=by simp[qb2]
theorem qbkg(b:Bool)(n off:Nat)(p:Ty×Ty):fldv b n off (encW p)=ldc b n off (wdc p):=rfl
attribute [go_sem] wdc qbkg q7p qg6 qde ql8 qs7 qb9x qbga q35 qbar qt7 qfz qpy q09
end Go.V
namespace Go.Proofs.YtkenggenkmfopaaGreat
open Go Go.RowKit Go.V

def stkH(b:Bool)(L:List (Ty×Ty)):List Ent:=if b=true then [.blk [.row 1 L.length],.mrow 6 (qb2 L)] else [.blk [.nils]]
abbrev stkE(b:Bool)(L:List (Ty×Ty)):Ent:=bun (stkH b L)
theorem qy9(L:List (Ty×Ty)):stkH true L=[.blk [.row 1 L.length],.mrow 6 (qb2 L)]:=rfl
theorem qbac(L:List (Ty×Ty)):stkH false L=[.blk [.nils]]:=rfl
theorem qs6{Q:List Ent->VO->Prop}{H':List Ent}{r:VO}(h0:ent H' 0=.blk [.nils])(hl:0<H'.length)(hr:r.bd 1=true)(h:Q [stkE false []] r):qc9 Q H' r :=
 ⟨[.blk [.nils]],[0],rfl,by simp,by simp,⟨⟨hl,rfl,by rw[h0];rfl⟩,trivial⟩,hr,h⟩
theorem qhd{Q:List Ent->VO->Prop}{H':List Ent}{r:VO}{L:List (Ty×Ty)}(k:Nat)(h0:ent H' 0=.blk [.row k L.length])(h1:ent H' k=.mrow 6 (qb2 L))(hk:0<k)(hl:k<H'.length)(hr:r.bd 1=true)(h:Q [stkE true L] r):qc9 Q H' r :=
 ⟨[.blk [.row 1 L.length],.mrow 6 (qb2 L)],[0,k],rfl,by simp,by simp;omega,⟨⟨by omega,rfl,by rw[h0];rfl⟩,⟨hl,qde _ _,by rw[h1];simp only[Ent.ren,qs7]⟩,trivial⟩,hr,h⟩
def psH:Bool->Nat->List (Ty×Ty)->List Ent
 | true,0,K=>[.blk [.row 1 K.length],.mrow 6 (qb2 K)]
 | true,_+1,K=>[.blk [.row 2 K.length],.dead,.mrow 6 (qb2 K)]
 | false,0,_=>[.blk [.nils]]
 | false,_+1,K=>[.blk [.row 1 K.length],.mrow 6 (qb2 K)]
theorem qch0(K:List (Ty×Ty)):psH false 0 K=[.blk [.nils]]:=rfl
theorem q01(j:Nat)(K:List (Ty×Ty)):psH false (j+1) K=[.blk [.row 1 K.length],.mrow 6 (qb2 K)]:=rfl
theorem qcdb(K:List (Ty×Ty)):psH true 0 K=[.blk [.row 1 K.length],.mrow 6 (qb2 K)]:=rfl
theorem qy3(j:Nat)(K:List (Ty×Ty)):psH true (j+1) K=[.blk [.row 2 K.length],.dead,.mrow 6 (qb2 K)]:=rfl
def psSt(b:Bool)(L l:List (Ty×Ty))(j:Nat):AF×List Ent:=(⟨[(0,.ptr 0 0),(1,.sl 6 (qb2 l)),(4,.int .i64 ((l.length:Int)-1-j))],[]⟩,psH b j (L++(l.drop (l.length-j)).reverse))
theorem qtu{l:List (Ty×Ty)}{j:Nat}(h:j<l.length)(L:List (Ty×Ty)):L++(l.drop (l.length-(j+1))).reverse=(L++(l.drop (l.length-j)).reverse)++[l.getD (l.length-1-j) W0]:=by
 have h1:l.length-1-j<l.length:=by omega
 have h2:=qck6 h1
 rw[show l.length-1-j+1=l.length-j by omega] at h2
 rw[show l.length-(j+1)=l.length-1-j by omega,h2,List.reverse_cons,List.append_assoc]
theorem qckl(b:Bool)(L:List (Ty×Ty))(hb:b=false->L=[]):VCalls Tryz.prog 159 (stkH b L) [.ptr 0 0,.sl 6 []] (qc9 fun H' o=>H'=[stkE b L]∧o=.val (.tup [])):=by
 cases b with
 | false =>
   rw[hb rfl,qbac]
   refine qd c0fj 1 (by simp) (by simp) ?_
   repeat'(first|refine vs_ ?_|((first|refine vr_ ?_|(refine cs_ ?_ ?_<;>intro hc)|refine cj_ ?_|simp (disch:=omega) only[qa,qc])<;>try refine ev_ ?_)|with_reducible exact ti_)
   refine qo (S:=Unit) (fun _=>True) (fun _=>(⟨[(0,.ptr 0 0),(1,.sl 6 []),(4,.int .i64 (-1))],[]⟩,[.blk [.nils]])) (fun _=>0) ?_ fun _ _=>?_
   ·refine qj () [0] trivial rfl (by simp) ?_ ?_ ?_<;>(try refine ev_ ?_)<;>(try with_reducible exact ti_)<;>(try simp (disch:=omega) only[qc,and_true,true_and])
    all_goals rfl
   ·repeat'(first|refine vs_ ?_|((first|refine vr_ ?_|(refine cs_ ?_ ?_<;>intro hc)|refine cj_ ?_|simp (disch:=omega) only[qa,qc])<;>try refine ev_ ?_)|with_reducible exact ti_)
    all_goals try(exfalso;revert hc;decide)
    exact qs6 rfl (by simp) rfl ⟨rfl,rfl⟩
 | true =>
   rw[qy9]
   refine qd c0fj 2 (by simp) (by simp[Ent.bd,qde]) ?_
   repeat'(first|refine vs_ ?_|((first|refine vr_ ?_|(refine cs_ ?_ ?_<;>intro hc)|refine cj_ ?_|simp (disch:=omega) only[qa,qc])<;>try refine ev_ ?_)|with_reducible exact ti_)
   refine qo (S:=Unit) (fun _=>True) (fun _=>(⟨[(0,.ptr 0 0),(1,.sl 6 []),(4,.int .i64 (-1))],[]⟩,[.blk [.row 1 L.length],.mrow 6 (qb2 L)])) (fun _=>0) ?_ fun _ _=>?_
   ·refine qj () [0,1] trivial rfl (by simp) ?_ ?_ ?_<;>(try refine ev_ ?_)<;>(try with_reducible exact ti_)<;>(try simp (disch:=omega) only[qc,and_true,true_and])
    all_goals rfl
   ·repeat'(first|refine vs_ ?_|((first|refine vr_ ?_|(refine cs_ ?_ ?_<;>intro hc)|refine cj_ ?_|simp (disch:=omega) only[qa,qc])<;>try refine ev_ ?_)|with_reducible exact ti_)
    all_goals try(exfalso;revert hc;decide)
    exact qhd 1 rfl rfl (by simp) (by simp) rfl ⟨rfl,rfl⟩
set_option maxHeartbeats 1000000 in
theorem qcia(l:List (Ty×Ty))(hne:l≠[])(hlen:l.length≤100000000):
 VCalls Tryz.prog 159 (stkH false []) [.ptr 0 0,.sl 6 (qb2 l)] (qc9 fun H' o=>H'=[stkE true l.reverse]∧o=.val (.tup [])):=by
 rw[qbac]
 refine qd c0fj 2 (by simp) (by simp) ?_
 repeat'(first|refine vs_ ?_|((first|refine vr_ ?_|(refine cs_ ?_ ?_<;>intro hc)|refine cj_ ?_|simp (disch:=omega) only[qa,qc])<;>try refine ev_ ?_)|with_reducible exact ti_)
 refine qo (S:=Nat) (fun j=>j≤l.length) (psSt false [] l) (fun j=>l.length-j) ?_ fun j hj=>?_
 ·refine qj 0 [0] (Nat.zero_le _) rfl (by simp) ?_ ?_ ?_<;>simp only[psSt,psH]<;>(try refine ev_ ?_)<;>(try with_reducible exact ti_)<;>(try simp (disch:=omega) only[qc,and_true,true_and])
  rw[qz (by omega) (by omega)];simp
 ·unfold psSt
  by_cases hlt:j<l.length
  ·have hg:=qk7 (l:=l) (i:=l.length-1-j) (by omega)
   have hcons:=qtu hlt []
   have hsub:((l.length:Int)-1-j).toNat=l.length-1-j:=by omega
   rw[List.nil_append] at hcons
   have hlk:(([]:List (Ty×Ty))++(l.drop (l.length-j)).reverse).length=j:=by rw[List.nil_append,List.length_reverse,List.length_drop];omega
   cases j with
   | zero =>
     have hn:([]:List (Ty×Ty))++(l.drop (l.length-0)).reverse=[]:=List.length_eq_zero_iff.1 hlk
     rw[hn,List.nil_append] at hcons
     have hsub:((l.length:Int)-1-0).toNat=l.length-1-0:=by omega
     have h0:(0:Int)≤(l.length:Int)-1-0:=by omega
     rw[qch0]
     have hcap:qbe 1 96=True:=eq_true (by unfold qbe;omega)
     repeat'(first|refine vs_ ?_|(refine vr_ ?_<;>try simp (disch:=first|omega|(simp only[List.length_set,List.length_append,List.length_cons,List.length_nil];try omega)) only[hg,hsub,qc,go_sem,↓reduceIte])|((first|simp (disch:=omega) only[hg]|simp (disch:=omega) only[hcap]|(refine cs_ ?_ ?_<;>intro hc)|refine cj_ ?_|simp (disch:=omega) only[qa,qc])<;>try refine ev_ ?_)|with_reducible exact ti_)
     all_goals try(exfalso;omega)
     refine qj 1 [0,1] ⟨by omega,by omega⟩ rfl (by simp) ?_ ?_ ?_<;>simp only[psSt,q01,List.nil_append,hcons,List.length_singleton]<;>(try refine ev_ ?_)<;>(try with_reducible exact ti_)<;>(try simp (disch:=omega) only[qc,and_true,true_and])
     ·rfl
     ·rw[qz (by omega) (by omega)];congr 1;omega
   | succ j =>
     rw[List.nil_append] at hlk ⊢
     generalize hK:(l.drop (l.length-(j+1))).reverse=K at hcons hlk
     rw[q01]
     have hcap:qbe (K.length+1) 96=True:=eq_true (by unfold qbe;omega)
     repeat'(first|refine vs_ ?_|(refine vr_ ?_<;>try simp (disch:=first|omega|(simp only[List.length_set,List.length_append,List.length_cons,List.length_nil];try omega)) only[hg,hsub,qc,qfz,go_sem,↓reduceIte])|((first|simp (disch:=omega) only[hg]|simp (disch:=omega) only[hcap]|(refine cs_ ?_ ?_<;>intro hc)|refine cj_ ?_|simp (disch:=omega) only[qa,qc])<;>try refine ev_ ?_)|with_reducible exact ti_)
     all_goals try(exfalso;omega)
     refine qj (j+1+1) [0,2] ⟨by omega,by omega⟩ rfl (by simp) ?_ ?_ ?_<;>simp only[psSt,q01,List.nil_append,hcons,List.length_append,List.length_singleton]<;>(try refine ev_ ?_)<;>(try with_reducible exact ti_)<;>(try simp (disch:=omega) only[qc,and_true,true_and])
     ·rw[qhw]
     ·rw[qz (by omega) (by omega)];congr 1;omega
  ·have hjl:j=l.length:=by omega
   subst hjl
   rw[Nat.sub_self,List.drop_zero,List.nil_append]
   cases hz:l.length with
   | zero=>exact absurd (List.length_eq_zero_iff.1 hz) hne
   | succ k =>
     rw[q01]
     repeat'(first|refine vs_ ?_|((first|refine vr_ ?_|(refine cs_ ?_ ?_<;>intro hc)|refine cj_ ?_|simp (disch:=omega) only[qa,qc])<;>try refine ev_ ?_)|with_reducible exact ti_)
     all_goals try(exfalso;omega)
     exact qhd 1 rfl rfl (by simp) (by simp) rfl ⟨rfl,rfl⟩
set_option maxHeartbeats 1000000 in
theorem qchw(L l:List (Ty×Ty))(hne:l≠[])(hlen:L.length+l.length≤100000000):
 VCalls Tryz.prog 159 (stkH true L) [.ptr 0 0,.sl 6 (qb2 l)] (qc9 fun H' o=>H'=[stkE true (L++l.reverse)]∧o=.val (.tup [])):=by
 rw[qy9]
 refine qd c0fj 3 (by simp) (by simp[Ent.bd,qde]) ?_
 repeat'(first|refine vs_ ?_|((first|refine vr_ ?_|(refine cs_ ?_ ?_<;>intro hc)|refine cj_ ?_|simp (disch:=omega) only[qa,qc])<;>try refine ev_ ?_)|with_reducible exact ti_)
 refine qo (S:=Nat) (fun j=>j≤l.length) (psSt true L l) (fun j=>l.length-j) ?_ fun j hj=>?_
 ·refine qj 0 [0,1] (Nat.zero_le _) rfl (by simp) ?_ ?_ ?_<;>simp only[psSt,psH]<;>(try refine ev_ ?_)<;>(try with_reducible exact ti_)<;>(try simp (disch:=omega) only[qc,and_true,true_and])
  ·simp
  ·rw[qz (by omega) (by omega)];simp
 ·unfold psSt
  by_cases hlt:j<l.length
  ·have hg:=qk7 (l:=l) (i:=l.length-1-j) (by omega)
   have hcons:=qtu hlt L
   have hsub:((l.length:Int)-1-j).toNat=l.length-1-j:=by omega
   have hlk:(L++(l.drop (l.length-j)).reverse).length=L.length+j:=by rw[List.length_append,List.length_reverse,List.length_drop];omega
   cases j with
   | zero =>
     have hn:L++(l.drop (l.length-0)).reverse=L:=by simp
     rw[hn] at hcons ⊢
     have hsub:((l.length:Int)-1-0).toNat=l.length-1-0:=by omega
     have h0:(0:Int)≤(l.length:Int)-1-0:=by omega
     rw[qcdb]
     have hcap:qbe (L.length+1) 96=True:=eq_true (by unfold qbe;omega)
     repeat'(first|refine vs_ ?_|(refine vr_ ?_<;>try simp (disch:=first|omega|(simp only[List.length_set,List.length_append,List.length_cons,List.length_nil];try omega)) only[hg,hsub,qc,qfz,go_sem,↓reduceIte])|((first|simp (disch:=omega) only[hg]|simp (disch:=omega) only[hcap]|(refine cs_ ?_ ?_<;>intro hc)|refine cj_ ?_|simp (disch:=omega) only[qa,qc])<;>try refine ev_ ?_)|with_reducible exact ti_)
     all_goals try(exfalso;omega)
     refine qj 1 [0,1,2] ⟨by omega,by omega⟩ rfl (by simp) ?_ ?_ ?_<;>simp only[psSt,qy3,hcons,List.length_append,List.length_singleton]<;>(try refine ev_ ?_)<;>(try with_reducible exact ti_)<;>(try simp (disch:=omega) only[qc,and_true,true_and])
     ·rw[qhw]
     ·rw[qz (by omega) (by omega)];congr 1;omega
   | succ j =>
     generalize hK:L++(l.drop (l.length-(j+1))).reverse=K at hcons hlk
     rw[qy3]
     have hcap:qbe (K.length+1) 96=True:=eq_true (by unfold qbe;omega)
     repeat'(first|refine vs_ ?_|(refine vr_ ?_<;>try simp (disch:=first|omega|(simp only[List.length_set,List.length_append,List.length_cons,List.length_nil];try omega)) only[hg,hsub,qc,qfz,go_sem,↓reduceIte])|((first|simp (disch:=omega) only[hg]|simp (disch:=omega) only[hcap]|(refine cs_ ?_ ?_<;>intro hc)|refine cj_ ?_|simp (disch:=omega) only[qa,qc])<;>try refine ev_ ?_)|with_reducible exact ti_)
     all_goals try(exfalso;omega)
     refine qj (j+1+1) [0,1,3] ⟨by omega,by omega⟩ rfl (by simp) ?_ ?_ ?_<;>simp only[psSt,qy3,hcons,List.length_append,List.length_singleton]<;>(try refine ev_ ?_)<;>(try with_reducible exact ti_)<;>(try simp (disch:=omega) only[qc,and_true,true_and])
     ·rw[qhw]
     ·rw[qz (by omega) (by omega)];congr 1;omega
  ·have hjl:j=l.length:=by omega
   subst hjl
   rw[Nat.sub_self,List.drop_zero]
   cases hz:l.length with
   | zero=>exact absurd (List.length_eq_zero_iff.1 hz) hne
   | succ k =>
     rw[qy3]
     repeat'(first|refine vs_ ?_|((first|refine vr_ ?_|(refine cs_ ?_ ?_<;>intro hc)|refine cj_ ?_|simp (disch:=omega) only[qa,qc])<;>try refine ev_ ?_)|with_reducible exact ti_)
     all_goals try(exfalso;omega)
     exact qhd 2 (by rw[List.length_append];rfl) rfl (by simp) (by simp) rfl ⟨rfl,rfl⟩
theorem q0a(b:Bool)(L l:List (Ty×Ty))(hb:b=false->L=[])(hlen:L.length+l.length≤100000000):
 VM Tryz.prog 159 (stkE b L) (stkE (b||decide (l≠[])) (L++l.reverse)) [.ptr 0 0,.sl 6 (qb2 l)] (.tup []):=by
 refine qek ?_ (by simp only[AV.bds,AV.bd,qde,Bool.and_true];rfl)
 by_cases hl:l=[]
 ·subst hl
  have h:=qckl b L hb
  rw[show decide (([]:List (Ty×Ty))≠[])=false from rfl,Bool.or_false,List.reverse_nil,List.append_nil]
  exact h
 ·rw[decide_eq_true hl,Bool.or_true]
  cases b with
  | false =>
    have hL:=hb rfl
    subst hL
    exact qcia l hl (by simpa using hlen)
  | true=>exact qchw L l hl hlen
def popA(x:Ty×Ty)(b:Bool):AV:=.tup [encW x,.bool b]
theorem qwt(k:Nat)(x:Ty×Ty)(b:Bool):(popA x b).bd k=true:=by simp only[popA,AV.bd,AV.bds,qg6,Bool.and_true]
theorem qbkb(b:Bool):VM Tryz.prog 160 (stkE b []) (stkE b []) [.ptr 0 0] (.tup [encW W0,.bool false]):=by
 refine qek ?_ rfl
 cases b with
 | false =>
   rw[qbac]
   refine qd c0fk 1 (by simp) (by simp) ?_
   repeat'(first|refine vs_ ?_|((first|refine vr_ ?_|(refine cs_ ?_ ?_<;>intro hc)|refine cj_ ?_|simp (disch:=omega) only[qa,qc])<;>try refine ev_ ?_)|with_reducible exact ti_)
   all_goals try(exfalso;revert hc;decide)
   exact qs6 rfl (by simp) rfl ⟨rfl,rfl⟩
 | true =>
   rw[qy9]
   refine qd c0fk 2 (by simp) (by simp[Ent.bd,qde]) ?_
   repeat'(first|refine vs_ ?_|((first|refine vr_ ?_|(refine cs_ ?_ ?_<;>intro hc)|refine cj_ ?_|simp (disch:=omega) only[qa,qc])<;>try refine ev_ ?_)|with_reducible exact ti_)
   all_goals try(exfalso;revert hc;decide)
   exact qhd (L:=[]) 1 rfl rfl (by simp) (by simp) rfl ⟨rfl,rfl⟩
theorem qcbv(L:List (Ty×Ty))(x:Ty×Ty)(hlen:L.length≤100000000):VM Tryz.prog 160 (stkE true (L++[x])) (stkE true L) [.ptr 0 0] (.tup [encW x,.bool true]):=by
 refine qek ?_ rfl
 rw[qy9]
 refine VCalls.cut 1 L.length 6 (Q:=fun H' o=>H'=[.blk [.row 1 L.length],.mrow 6 (qb2 (L++[x]))]∧o=.val (popA x true)) ?_ fun H' o hq=>?_
 case refine_2 =>
  obtain⟨rfl,rfl⟩:=hq
  refine⟨_,rfl,?_⟩
  refine qhd (L:=L) 1 rfl ?_ (by simp) (by simp) (qwt 1 x true) ⟨rfl,rfl⟩
  show Ent.mrow 6 ((qb2 (L++[x])).take L.length)=_
  rw[qpy,List.take_left]
 refine qd c0fk 2 (by simp) (by simp[Ent.bd,qde]) ?_
 have hx:(qb2 (L++[x])).getD L.length .junk=encW x:=by
  rw[qk7 (by simp),List.getD_eq_getElem?_getD,List.getElem?_append_right (Nat.le_refl _)];simp
 rw[List.length_append,List.length_singleton]
 have hsub:(((L.length+1:Nat):Int)-1).toNat=L.length:=by omega
 have hw1:IntKind.i64.wrap (((L.length+1:Nat):Int)-1)=L.length:=by rw[qz (by omega) (by omega)];omega
 have hmx:L.length+1≤maxLen:=by unfold maxLen;omega
 repeat'(first|refine vs_ ?_|(refine vr_ ?_<;>try simp only[hx,hw1,go_sem,↓reduceIte])|((first|simp (disch:=omega) only[hw1]|simp (disch:=omega) only[hx]|(refine cs_ ?_ ?_<;>intro hc)|refine cj_ ?_|simp (disch:=omega) only[qa,qc])<;>try refine ev_ ?_)|with_reducible exact ti_)
 ·exfalso;omega
 ·rfl
end Go.Proofs.YtkenggenkmfopaaGreat
