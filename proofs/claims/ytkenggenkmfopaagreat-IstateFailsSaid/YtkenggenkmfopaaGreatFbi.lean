/- Texts of this proof, joined. -/
import Derived.Test.YtkenggenkmfopaaGreatFbg
import Derived.Test.YtkenggenkmfopaaGreatFbh
import Derived.Test.YtkenggenkmfopaaGreatFbc
import Derived.Test.YtkenggenkmfopaaGreatFaw
set_option linter.unusedVariables false
set_option linter.unusedSimpArgs false

/- the reader of terms: copies of rows, what is taken, atoms -/
namespace Go.Proofs.YtkenggenkmfopaaGreat
open Go Go.RowKit Go.V

/-! a copy of a row -/
/-! the reader -/

theorem qjy:∀{H:List Ent} {i:Nat},H.length≤i->ent H i=.dead
 | [],_,_=>rfl
 | _::_,0,h=>absurd h (by simp)
 | _::H,i+1,h=>qjy (H:=H) (i:=i) (by simpa using h)
section
variable {P:Program} {f:FuncId} {e e':Ent} {aa args caps rs:List AV} {r:AV} {H:List Ent} {Kk:Md->AV->List Ent->Prop}
theorem qcn9(i:Nat)(h:VM P f e e' aa r)(hq:Kk (.meth i e e') r (H.set i e'))(hn:e≠.dead:=by intro h;cases h)(hb:e.bd 0=true:=by rfl)(hb':e'.bd 0=true:=by rfl)(he:ent H i=e:=by rfl)(hr:r.bd 0=true:=by first | rfl | simp[go_sem])
 (e1:args++caps=AV.rens (sg [i]) aa:=by first | rfl | (simp only[go_sem];rfl) | (simp[go_sem,sg,AV.rens,AV.ren];done)) (ha:AV.bds 1 aa=true:=by first | rfl | (simp only[go_sem];done) | simp[go_sem,AV.bds,AV.bd]):DApp P H (.fn f [] caps) args rs Kk :=
 .inr (.inr (.inl ⟨r,i,e,e',⟨hn,he,fun H₀ h0=>qca i h ⟨rfl,rfl⟩ hb hb' (by
  rcases Nat.lt_or_ge i H₀.length with h1 | h1
  ·exact h1
  ·exact absurd (h0.symm.trans (qjy h1)) hn) h0 hr e1 ha⟩,hq⟩))
end
set_option maxRecDepth 4000

theorem qbtt{L:List Ent}{Q:List Ent->VO->Prop}(hq:Q (L++[subE []]) (.val (.ptr L.length 0))):VApp Tryz.prog L (.fn 39 [] []) [.sl 4 []] Q:=q2y (l:=[]) (s:=[]) (fun p hp=>by simp at hp) (by simp) rfl hq
def S0:SS:=⟨0,0,0,0,[],[],[],[],0,0⟩
theorem qcg1:VCalls Tryz.prog 11 [] [] fun H' o=>H'=[stE S0]∧o=.val (.ptr 0 0):=by
 refine qe c0e 1 (by simp) (by simp) ?_
 unfold k0e
 generalize hz:IC.ret=z1
 repeat'(first|refine vs_ ?_|((first|refine vr_ ?_|refine qbtt ?_|refine qcc6 ?_|(refine cs_ ?_ ?_<;>intro hc)|refine cj_ ?_)<;>try refine ev_ ?_)|with_reducible exact ti_)
 subst hz
 refine qik 3 5 (.sl 6) rfl ?_
 simp only[List.getD_cons_succ,List.getD_cons_zero,List.set_cons_succ,List.set_cons_zero,qbt]
 refine qzm 3 [0,1,2] (H1:=stH S0) (by simp) (by simp) ⟨⟨by simp,by rfl,by rfl⟩,⟨by simp,by rfl,by rfl⟩,⟨by simp,by rfl,by rfl⟩,⟨by simp,by rfl,by rfl⟩,trivial⟩ ?_
 refine qs2 (af':=⟨[(0,.ptr 0 0)],[]⟩) (H':=[stE S0]) ?_ (qrx [3] rfl (by simp) ?_ ?_ ?_)
 ·repeat'(first|refine vs_ ?_|((first|refine vr_ ?_|(refine cs_ ?_ ?_<;>intro hc)|refine cj_ ?_)<;>try refine ev_ ?_)|with_reducible exact ti_)
 ·exact⟨⟨by simp[qtj],rfl,rfl⟩,trivial⟩
 all_goals(try(refine ev_ ?_;(try with_reducible exact ti_)))
theorem qcc{f:FuncId}{e e':Ent}{rest rs:List AV}{r:AV}{L:List Ent}{Kk:Md->AV->List Ent->Prop}(i:Nat)(h:VM Tryz.prog f e e' (.ptr 0 0::rest) r)(hrest:AV.bds 0 rest=true)(hr:r.bd 0=true)(hq:Kk (.meth i e e') r (L.set i e'))(hn:e≠.dead:=by intro h;cases h)(hb:e.bd 0=true:=by rfl)(hb':e'.bd 0=true:=by rfl)(he:ent L i=e:=by rfl):
 DApp Tryz.prog L (.fn f [] []) (.ptr i 0::rest) rs Kk:=by
 refine qcn9 i h hq hn hb hb' he hr ?_ ?_
 ·rw[List.append_nil,AV.rens,qp (m:=0) (fun j hj=>by omega) rest hrest];rfl
 ·rw[AV.bds,Bool.and_eq_true]
  exact⟨rfl,qdn (Nat.zero_le _) _ hrest⟩
theorem qbh3(q:Ty×Int):(AV.tup [encY q.1,.int .i64 q.2]).bd 0=true:=by simp only[AV.bd,AV.bds,qx,Bool.and_true]
/-! what waits -/
def wApp(s:List Pr)(w:Wt):Wt:=if(appR s w.p.ty).2=0 then ⟨⟨w.p.cls,(appR s w.p.ty).1⟩,w.pos,w.hole⟩ else w
def smlW(l:List Wt):Prop:=∀w∈l,szY w.p.ty≤20000∧dpY w.p.ty≤300
def wtsS(S:SS)(n:Int):List Wt:=(S.waits.drop (cutN S n).toNat).map (wApp S.known)
theorem qzc{l:List Wt}{i:Nat}(h:i<l.length):l.getD i Wt0∈l:=by
 rw[List.getD_eq_getElem?_getD,List.getElem?_eq_getElem h];exact List.getElem_mem h
theorem q2r{l:List Wt}{i:Nat}(h:i<l.length):l.take (i+1)=l.take i++[l.getD i Wt0]:=by
 rw[List.take_add_one,List.getD_eq_getElem?_getD,List.getElem?_eq_getElem h];rfl
def accM(n:Nat):List AV->List Ent
 | []=>[]
 | a::r=>[.mrow n (a::r)]
theorem qhv(n:Nat):accM n []=[]:=rfl
theorem qmd{n:Nat}{es:List AV}(h:es≠[]):accM n es=[.mrow n es]:=by cases es with | nil=>exact absurd rfl h | cons _ _=>rfl
theorem qqg(n:Nat)(a:AV):accM n [a]=[.mrow n [a]]:=rfl
theorem qnq(n:Nat)(es:List AV)(a:AV):accM n (es++[a])=[.mrow n (es++[a])]:=qmd (by simp)
theorem qin(l:List Wt):∀v∈qbg l,v.flat:=fun v hv=>by
 obtain⟨t,_,rfl⟩:=List.mem_map.1 hv
 exact .inl ⟨rfl,rfl⟩
def wtSt(S:SS)(l:List Wt)(i:Nat):AF×List Ent:=(⟨[(0,.ptr 0 0),(5,accV 4 (qbg ((l.take i).map (wApp S.known)))),(24,.sl 6 (qbg l)),(25,.int .i64 l.length),(26,.int .i64 i)],[]⟩,stH S++accM 6 (qbg ((l.take i).map (wApp S.known))))
theorem qbem{S:SS}{n:Int}(hl:S.waits.length≤1000000)(ho:okS S.known)(hk:S.known.length≤100000)(hw:smlW S.waits):VM Tryz.prog 27 (stE S) (stE S) [.ptr 0 0,.int .i64 n] (.sl 6 (qbg (wtsS S n))):=by
 refine qc4 ?_ (by simp[AV.bds,AV.bd])
 refine qe c0f 4 (by simp) (by simp) ?_
 unfold wtsS
 have hcn:(if(S.waits.length:Int)<(if 0 > n then 0 else n) then(S.waits.length:Int) else(if 0 > n then 0 else n))=cutN S n:=rfl
 have hc0:0≤cutN S n:=by unfold cutN;split<;>(try split)<;>omega
 have hc1:cutN S n≤S.waits.length:=by unfold cutN;split<;>(try split)<;>omega
 generalize cutN S n=c at *
 obtain⟨l,hll⟩:∃l,S.waits.drop c.toNat=l:=⟨_,rfl⟩
 have hdr:(qbg S.waits).drop c.toNat=qbg l:=by rw[qm9,hll]
 have hlen:l.length≤1000000:=by rw[←hll,List.length_drop];omega
 have hlw:smlW l:=fun w h=>hw w (by rw[←hll] at h;exact List.mem_of_mem_drop h)
 rw[hll]
 repeat'(first|refine vs_ ?_|(refine vr_ ?_<;>try simp only[hcn,hc0,hc1,hll,go_sem,↓reduceIte])|((first|(refine cs_ ?_ ?_<;>intro hc)|refine cj_ ?_)<;>try refine ev_ ?_)|with_reducible exact ti_)
 refine qk (S:=Nat) (fun i=>i≤l.length) (wtSt S l) (fun i=>l.length-i) ?_ fun i hi=>?_
 ·refine qg 0 [0,1,2,3] (Nat.zero_le _) rfl (by simp) ?_ ?_ ?_<;>simp only[wtSt,List.take_zero,List.map_nil,q2l,qq,qhv,List.append_nil]<;>(try refine ev_ ?_)<;>(try with_reducible exact ti_)<;>(try simp (disch:=omega) only[qb,and_true,true_and])
 ·unfold wtSt
  have htl:(qbg ((l.take i).map (wApp S.known))).length=i:=by rw[qfs,List.length_map,List.length_take];omega
  by_cases hlt:i<l.length
  ·have hg:=q1v hlt
   have hsn:=q2r hlt
   have hx:=hlw _ (qzc hlt)
   have e1:qbg ((l.take i).map (wApp S.known))++[qec (wApp S.known (l.getD i Wt0))]=qbg ((l.take (i+1)).map (wApp S.known)):=by rw[hsn,qic];simp only[List.map_append,List.map_cons,List.map_nil]
   have hif:(i:Int)<(l.length:Int):=by omega
   generalize l.getD i Wt0=x at *
   obtain⟨⟨cl,ty⟩,ps,ho'⟩:=x
   have hA:=qj2 ho hk hx.1 hx.2
   have hxf:AV.agg [.str ty.con,.int .i64 ty.var,.sl 3 (qf ty.args)]=encY ty:=qbd _
   have hwA:wApp S.known ⟨⟨cl,ty⟩,ps,ho'⟩=if(appR S.known ty).2=0 then ⟨⟨cl,(appR S.known ty).1⟩,ps,ho'⟩ else ⟨⟨cl,ty⟩,ps,ho'⟩:=rfl
   rw[hwA] at e1
   clear hwA
   dsimp only at hA hg
   generalize appR S.known ty=q at *
   obtain⟨u,e⟩:=q
   unfold typA at hA
   dsimp only at hA e1
   have hbt:=qbh3 (u,e)
   have hbe:AV.bds 0 [encY ty]=true:=by simp only[AV.bds,qx,Bool.and_true]
   have c1:qbi (i+1) 80=True:=eq_true (by unfold qbi;omega)
   by_cases h0:i=0
   ·subst h0
    have n1:qbg ((l.take 0).map (wApp S.known))=[]:=rfl
    rw[n1] at e1
    rw[n1]
    have hif0:(0:Int)<(l.length:Int):=by omega
    simp only[qq,qhv,List.append_nil]
    by_cases he:e=0
    ·rw[if_pos he] at e1
     subst he
     have hwf:AV.agg [.str cl,.str u.con,.int .i64 u.var,.sl 3 (qf u.args),.int .i64 ps,.int .i64 ho']=qec ⟨⟨cl,u⟩,ps,ho'⟩:=rfl
     repeat'(first|refine vs_ ?_|(refine vr_ ?_<;>try simp (disch:=first|omega|(simp only[List.length_set,List.length_append,List.length_cons,List.length_nil];try omega)) only[hg,hif0,hxf,hwf,qb,c1,go_sem,↓reduceIte])|((first|simp (disch:=omega) only[hg]|(refine cs_ ?_ ?_<;>intro hc)|refine cj_ ?_|refine qcc 1 hA hbe hbt ?_)<;>try refine ev_ ?_)|with_reducible exact ti_)
     refine qg 1 [0,1,2,3,6] ⟨by omega,by omega⟩ rfl (by simp) ?_ ?_ ?_<;>simp only[wtSt,←e1,List.nil_append,qc7,qqg]<;>(try refine ev_ ?_)<;>(try with_reducible exact ti_)<;>(try simp (disch:=omega) only[qb,and_true,true_and])
     all_goals rfl
    ·rw[if_neg he] at e1
     have hwf:AV.agg [.str cl,.str ty.con,.int .i64 ty.var,.sl 3 (qf ty.args),.int .i64 ps,.int .i64 ho']=qec ⟨⟨cl,ty⟩,ps,ho'⟩:=rfl
     repeat'(first|refine vs_ ?_|(refine vr_ ?_<;>try simp (disch:=first|omega|(simp only[List.length_set,List.length_append,List.length_cons,List.length_nil];try omega)) only[hg,hif0,hxf,hwf,he,qb,c1,go_sem,↓reduceIte])|((first|simp (disch:=omega) only[hg]|(refine cs_ ?_ ?_<;>intro hc)|refine cj_ ?_|refine qcc 1 hA hbe hbt ?_)<;>try refine ev_ ?_)|with_reducible exact ti_)
     refine qg 1 [0,1,2,3,6] ⟨by omega,by omega⟩ rfl (by simp) ?_ ?_ ?_<;>simp only[wtSt,←e1,List.nil_append,qc7,qqg]<;>(try refine ev_ ?_)<;>(try with_reducible exact ti_)<;>(try simp (disch:=omega) only[qb,and_true,true_and])
     all_goals rfl
   ·have n1:qbg ((l.take i).map (wApp S.known))≠[]:=fun h=>h0 (by rw[←htl,h];rfl)
    simp only[q7 n1,qmd n1,htl]
    by_cases he:e=0
    ·rw[if_pos he] at e1
     subst he
     have hwf:AV.agg [.str cl,.str u.con,.int .i64 u.var,.sl 3 (qf u.args),.int .i64 ps,.int .i64 ho']=qec ⟨⟨cl,u⟩,ps,ho'⟩:=rfl
     repeat'(first|refine vs_ ?_|(refine vr_ ?_<;>try simp (disch:=first|omega|(simp only[List.length_set,List.length_append,List.length_cons,List.length_nil];try omega)) only[hg,hif,hxf,hwf,htl,qb,c1,go_sem,↓reduceIte])|((first|simp (disch:=omega) only[hg]|(refine cs_ ?_ ?_<;>intro hc)|refine cj_ ?_|refine qcc 1 hA hbe hbt ?_)<;>try refine ev_ ?_)|with_reducible exact ti_)
     refine qg (i+1) [0,1,2,3,7] ⟨by omega,by omega⟩ rfl (by simp) ?_ ?_ ?_<;>simp only[wtSt,←e1,qcm,qnq,htl]<;>(try refine ev_ ?_)<;>(try with_reducible exact ti_)<;>(try simp (disch:=omega) only[qb,and_true,true_and])
     ·rw[e1];exact⟨qcv _ _,by rw[qda]⟩
     ·rw[qo (by omega) (by omega),Int.natCast_add];rfl
    ·rw[if_neg he] at e1
     have hwf:AV.agg [.str cl,.str ty.con,.int .i64 ty.var,.sl 3 (qf ty.args),.int .i64 ps,.int .i64 ho']=qec ⟨⟨cl,ty⟩,ps,ho'⟩:=rfl
     repeat'(first|refine vs_ ?_|(refine vr_ ?_<;>try simp (disch:=first|omega|(simp only[List.length_set,List.length_append,List.length_cons,List.length_nil];try omega)) only[hg,hif,hxf,hwf,he,htl,qb,c1,go_sem,↓reduceIte])|((first|simp (disch:=omega) only[hg]|(refine cs_ ?_ ?_<;>intro hc)|refine cj_ ?_|refine qcc 1 hA hbe hbt ?_)<;>try refine ev_ ?_)|with_reducible exact ti_)
     refine qg (i+1) [0,1,2,3,7] ⟨by omega,by omega⟩ rfl (by simp) ?_ ?_ ?_<;>simp only[wtSt,←e1,qcm,qnq,htl]<;>(try refine ev_ ?_)<;>(try with_reducible exact ti_)<;>(try simp (disch:=omega) only[qb,and_true,true_and])
     ·rw[e1];exact⟨qcv _ _,by rw[qda]⟩
     ·rw[qo (by omega) (by omega),Int.natCast_add];rfl
  ·have hie:i=l.length:=by omega
   subst hie
   rw[List.take_length] at htl ⊢
   have hbd:(AV.sl 6 (qbg (l.map (wApp S.known)))).bd 0=true:=by simp only[AV.bd,qcv]
   by_cases h0:l=[]
   ·have n1:qbg (l.map (wApp S.known))=[]:=by rw[h0];rfl
    rw[n1] at hbd ⊢
    simp only[qq,qhv,List.append_nil]
    repeat'(first|refine vs_ ?_|((first|refine vr_ ?_|(refine cs_ ?_ ?_<;>intro hc)|refine cj_ ?_)<;>try refine ev_ ?_)|with_reducible exact ti_)
    all_goals try(exfalso;omega)
    exact qbf (S:=S) (L:=[]) rfl hbd ⟨rfl,rfl⟩
   ·have n1:qbg (l.map (wApp S.known))≠[]:=fun h=>h0 (List.length_eq_zero_iff.1 (by rw[←htl,h];rfl))
    simp only[q7 n1,qmd n1,htl]
    refine qb6 4 rfl (qin _) ?_
    repeat'(first|refine vs_ ?_|(refine vr_ ?_<;>try simp only[htl,go_sem,↓reduceIte])|((first|(refine cs_ ?_ ?_<;>intro hc)|refine cj_ ?_)<;>try refine ev_ ?_)|with_reducible exact ti_)
    all_goals try(exfalso;omega)
    exact qbf (S:=S) (L:=[]) rfl hbd ⟨rfl,rfl⟩
end Go.Proofs.YtkenggenkmfopaaGreat

/- made one: pairs of types as data; the stack -/
set_option maxRecDepth 4000
namespace Go.V
open Go Go.RowKit

section
variable {P:Program} {H:List Ent}
theorem qblf{w:World}{M:Nat->Nat->Prop}{G:List Gh}(i k:Nat){q:Nat}{es:List AV}(hst:St w M G H)(he:ent H i=.mrow q es):St w M G (H.set i (.mrow q (es.take k))):=by
 have hH:=qbj he (by simp)
 obtain⟨g,hg⟩:=hst.lenH hH
 obtain⟨h1,⟨r1,r2,vs,t,us,r3,r4,r5,r6,r7⟩,h9⟩:=hst.ok i g _ hg hH
 have hul:us.length=es.length:=qh r5
 have htk:(es.take k).length≤es.length:=by rw[List.length_take];omega
 have hs:=qg1 (w':=w) (M':=M) (g':=g) (e:=.mrow q (es.take k)) hst hg rfl (fun _ h=>h) (Nat.le_refl _) (fun _ _ _=>rfl) (Le.refl w M) (fun _ _ h=>.inl h) (by
  rw[qd2 _ _ _ hg]
  refine⟨h1,⟨by omega,r2,vs,t,us.take k,r3,r4,qer r5 k,fun u hu=>r6 u (List.mem_of_mem_take hu),?_⟩,h9⟩
  have hfl:=qbw (us:=us.take k) fun u hu=>r6 u (List.mem_of_mem_take hu)
  have hsp:us.flatMap (·.cells.toList)=(us.take k).flatMap (·.cells.toList)++(us.drop k).flatMap (·.cells.toList):=by rw[←List.flatMap_append,List.take_append_drop]
  have hle:q*(es.take k).length≤q*es.length:=Nat.mul_le_mul_left q htk
  have e1:vs.take (q*(es.take k).length)=(vs.take (q*es.length)).take (q*(es.take k).length):=by rw[List.take_take,Nat.min_eq_left hle]
  have e2:((us.take k).flatMap (·.cells.toList)).length=q*(es.take k).length:=by rw[hfl,Nat.mul_comm,List.length_take,List.length_take,hul]
  rw[e1,r7,hsp,List.take_left' e2])
 rwa [qd2 _ _ _ hg] at hs
theorem VCalls.cut{f:FuncId}{args:List AV}{Q Q':List Ent->VO->Prop}(i k q:Nat)(h:VCalls P f H args Q)(hq:∀H' o,Q H' o->∃es,ent H' i=.mrow q es∧Q' (H'.set i (.mrow q (es.take k))) o):VCalls P f H args Q' :=
 ⟨h.1,fun w M G vs hst hv=>CallsIn.mono (h.2 w M G vs hst hv) fun e w' he=>by
  cases e with
  | returned x =>
    obtain⟨M',G',H',v,h1,h2,h3,h4⟩:=he
    obtain⟨es,q1,q2⟩:=hq _ _ h1
    exact⟨M',G',_,v,q2,h2,qblf i k h3 q1,h4⟩
  | panicked c =>
    obtain⟨M',G',H',v,x,h1,h2,h3,h4,h5⟩:=he
    obtain⟨es,q1,q2⟩:=hq _ _ h1
    exact⟨M',G',_,v,x,q2,h2,qblf i k h3 q1,h4,h5⟩
  | outgrown=>exact he⟩
end
def encW(x:Ty×Ty):AV:=.agg [.str x.1.con,.int .i64 x.1.var,.sl 3 (qf x.1.args),.str x.2.con,.int .i64 x.2.var,.sl 3 (qf x.2.args)]
def qb1(l:List (Ty×Ty)):List AV:=l.map encW
def W0:Ty×Ty:=(Y0,Y0)
abbrev wdc(x:Ty×Ty):List AV:=[.str x.1.con,.int .i64 x.1.var,.sl 3 (qf x.1.args),.str x.2.con,.int .i64 x.2.var,.sl 3 (qf x.2.args)]
theorem q7i(x:Ty×Ty):AV.agg [.str x.1.con,.int .i64 x.1.var,.sl 3 (qf x.1.args),.str x.2.con,.int .i64 x.2.var,.sl 3 (qf x.2.args)]=encW x:=rfl
theorem q1h(x:Ty×Ty):(encW x).cells=wdc x:=rfl
theorem qhf(k:Nat)(x:Ty×Ty):(encW x).bd k=true:=by simp only[encW,AV.bd,AV.bds,qbm,Bool.and_true]
theorem qc8(k:Nat)(l:List (Ty×Ty)):AV.bds k (qb1 l)=true:=by rw[qb1,qc2,List.all_map,List.all_eq_true];exact fun x _=>qhf k x
theorem qls(σ:Nat->Nat)(x:Ty×Ty):(encW x).ren σ=encW x:=ren_same (m:=0) (fun i hi=>by omega) _ (qhf 0 x)
theorem qta(σ:Nat->Nat)(l:List (Ty×Ty)):AV.rens σ (qb1 l)=qb1 l:=qp (m:=0) (fun i hi=>by omega) _ (qc8 0 l)
theorem qbwi(H:List Ent)(x:Ty×Ty):co H (.agg [.id,.id,.sl 3,.id,.id,.sl 3]) (encW x)=encW x:=by
 simp only[encW,qir,qeq,qf5,qom,qeh]
theorem q8o(x:Ty×Ty):rdCo (.agg [.id,.id,.sl 3,.id,.id,.sl 3]) (encW x)=[]:=by
 simp only[encW,qeg,qc0,qdi,qf1,qcz,List.append_nil]
theorem qbf0(x:Ty×Ty):(encW x).isAgg=true:=rfl
theorem qtk(x:Ty×Ty):(encW x).leaf=false:=rfl
theorem qfo(l:List (Ty×Ty)):(qb1 l).length=l.length:=by simp[qb1]
theorem qky{l:List (Ty×Ty)}{i:Nat}(h:i<l.length):(qb1 l).getD i .junk=encW (l.getD i W0):=by
 rw[qb1,List.getD_eq_getElem?_getD,List.getElem?_map,List.getElem?_eq_getElem h,List.getD_eq_getElem?_getD,List.getElem?_eq_getElem h];rfl
theorem qzc{l:List (Ty×Ty)}{i:Nat}(h:i<l.length):l.getD i W0∈l:=by
 rw[List.getD_eq_getElem?_getD,List.getElem?_eq_getElem h];exact List.getElem_mem h
theorem qckf{l:List (Ty×Ty)}{i:Nat}(h:i<l.length):l.drop i=l.getD i W0::l.drop (i+1):=by
 rw[List.drop_eq_getElem_cons h,List.getD_eq_getElem?_getD,List.getElem?_eq_getElem h];rfl
theorem qhk(l:List (Ty×Ty))(p:Ty×Ty):qb1 l++[encW p]=qb1 (l++[p]):=by simp[qb1]
theorem qph(n:Nat)(l:List (Ty×Ty)):(qb1 l).take n=qb1 (l.take n):=by simp[qb1]
theorem qz0(n:Nat)(l:List (Ty×Ty)):(qb1 l).drop n=qb1 (l.drop n):=by simp[qb1]
theorem qbek(b:Bool)(n off:Nat)(p:Ty×Ty):fldv b n off (encW p)=ldc b n off (wdc p):=rfl
attribute [go_sem] wdc qbek q8o qhf qc8 qls qta qbwi qbf0 q1h q7i qtk qfo qph qz0
end Go.V
namespace Go.Proofs.YtkenggenkmfopaaGreat
open Go Go.RowKit Go.V

def stkH(b:Bool)(L:List (Ty×Ty)):List Ent:=if b=true then [.blk [.row 1 L.length],.mrow 6 (qb1 L)] else [.blk [.nils]]
abbrev stkE(b:Bool)(L:List (Ty×Ty)):Ent:=bun (stkH b L)
theorem qx6(L:List (Ty×Ty)):stkH true L=[.blk [.row 1 L.length],.mrow 6 (qb1 L)]:=rfl
theorem q74(L:List (Ty×Ty)):stkH false L=[.blk [.nils]]:=rfl
theorem qs3{Q:List Ent->VO->Prop}{H':List Ent}{r:VO}(h0:ent H' 0=.blk [.nils])(hl:0<H'.length)(hr:r.bd 1=true)(h:Q [stkE false []] r):qdk Q H' r :=
 ⟨[.blk [.nils]],[0],rfl,by simp,by simp,⟨⟨hl,rfl,by rw[h0];rfl⟩,trivial⟩,hr,h⟩
theorem qgx{Q:List Ent->VO->Prop}{H':List Ent}{r:VO}{L:List (Ty×Ty)}(k:Nat)(h0:ent H' 0=.blk [.row k L.length])(h1:ent H' k=.mrow 6 (qb1 L))(hk:0<k)(hl:k<H'.length)(hr:r.bd 1=true)(h:Q [stkE true L] r):qdk Q H' r :=
 ⟨[.blk [.row 1 L.length],.mrow 6 (qb1 L)],[0,k],rfl,by simp,by simp;omega,⟨⟨by omega,rfl,by rw[h0];rfl⟩,⟨hl,qc8 _ _,by rw[h1];simp only[Ent.ren,qta]⟩,trivial⟩,hr,h⟩
def psH:Bool->Nat->List (Ty×Ty)->List Ent
 | true,0,K=>[.blk [.row 1 K.length],.mrow 6 (qb1 K)]
 | true,_+1,K=>[.blk [.row 2 K.length],.dead,.mrow 6 (qb1 K)]
 | false,0,_=>[.blk [.nils]]
 | false,_+1,K=>[.blk [.row 1 K.length],.mrow 6 (qb1 K)]
theorem qcmv(K:List (Ty×Ty)):psH false 0 K=[.blk [.nils]]:=rfl
theorem qxf(j:Nat)(K:List (Ty×Ty)):psH false (j+1) K=[.blk [.row 1 K.length],.mrow 6 (qb1 K)]:=rfl
theorem qcl6(K:List (Ty×Ty)):psH true 0 K=[.blk [.row 1 K.length],.mrow 6 (qb1 K)]:=rfl
theorem qyz(j:Nat)(K:List (Ty×Ty)):psH true (j+1) K=[.blk [.row 2 K.length],.dead,.mrow 6 (qb1 K)]:=rfl
def psSt(b:Bool)(L l:List (Ty×Ty))(j:Nat):AF×List Ent:=(⟨[(0,.ptr 0 0),(1,.sl 6 (qb1 l)),(4,.int .i64 ((l.length:Int)-1-j))],[]⟩,psH b j (L++(l.drop (l.length-j)).reverse))
theorem qr1{l:List (Ty×Ty)}{j:Nat}(h:j<l.length)(L:List (Ty×Ty)):L++(l.drop (l.length-(j+1))).reverse=(L++(l.drop (l.length-j)).reverse)++[l.getD (l.length-1-j) W0]:=by
 have h1:l.length-1-j<l.length:=by omega
 have h2:=qckf h1
 rw[show l.length-1-j+1=l.length-j by omega] at h2
 rw[show l.length-(j+1)=l.length-1-j by omega,h2,List.reverse_cons,List.append_assoc]
theorem qcha(b:Bool)(L:List (Ty×Ty))(hb:b=false->L=[]):VCalls Tryz.prog 159 (stkH b L) [.ptr 0 0,.sl 6 []] (qdk fun H' o=>H'=[stkE b L]∧o=.val (.tup [])):=by
 cases b with
 | false =>
   rw[hb rfl,q74]
   refine qe c0ej 1 (by simp) (by simp) ?_
   repeat'(first|refine vs_ ?_|((first|refine vr_ ?_|(refine cs_ ?_ ?_<;>intro hc)|refine cj_ ?_)<;>try refine ev_ ?_)|with_reducible exact ti_)
   refine qk (S:=Unit) (fun _=>True) (fun _=>(⟨[(0,.ptr 0 0),(1,.sl 6 []),(4,.int .i64 (-1))],[]⟩,[.blk [.nils]])) (fun _=>0) ?_ fun _ _=>?_
   ·refine qg () [0] trivial rfl (by simp) ?_ ?_ ?_<;>(try refine ev_ ?_)<;>(try with_reducible exact ti_)<;>(try simp (disch:=omega) only[qb,and_true,true_and])
    all_goals rfl
   ·repeat'(first|refine vs_ ?_|((first|refine vr_ ?_|(refine cs_ ?_ ?_<;>intro hc)|refine cj_ ?_)<;>try refine ev_ ?_)|with_reducible exact ti_)
    all_goals try(exfalso;revert hc;decide)
    exact qs3 rfl (by simp) rfl ⟨rfl,rfl⟩
 | true =>
   rw[qx6]
   refine qe c0ej 2 (by simp) (by simp[Ent.bd,qc8]) ?_
   repeat'(first|refine vs_ ?_|((first|refine vr_ ?_|(refine cs_ ?_ ?_<;>intro hc)|refine cj_ ?_)<;>try refine ev_ ?_)|with_reducible exact ti_)
   refine qk (S:=Unit) (fun _=>True) (fun _=>(⟨[(0,.ptr 0 0),(1,.sl 6 []),(4,.int .i64 (-1))],[]⟩,[.blk [.row 1 L.length],.mrow 6 (qb1 L)])) (fun _=>0) ?_ fun _ _=>?_
   ·refine qg () [0,1] trivial rfl (by simp) ?_ ?_ ?_<;>(try refine ev_ ?_)<;>(try with_reducible exact ti_)<;>(try simp (disch:=omega) only[qb,and_true,true_and])
    all_goals rfl
   ·repeat'(first|refine vs_ ?_|((first|refine vr_ ?_|(refine cs_ ?_ ?_<;>intro hc)|refine cj_ ?_)<;>try refine ev_ ?_)|with_reducible exact ti_)
    all_goals try(exfalso;revert hc;decide)
    exact qgx 1 rfl rfl (by simp) (by simp) rfl ⟨rfl,rfl⟩
set_option maxHeartbeats 1000000 in
theorem qcf6(l:List (Ty×Ty))(hne:l≠[])(hlen:l.length≤100000000):
 VCalls Tryz.prog 159 (stkH false []) [.ptr 0 0,.sl 6 (qb1 l)] (qdk fun H' o=>H'=[stkE true l.reverse]∧o=.val (.tup [])):=by
 rw[q74]
 refine qe c0ej 2 (by simp) (by simp) ?_
 repeat'(first|refine vs_ ?_|((first|refine vr_ ?_|(refine cs_ ?_ ?_<;>intro hc)|refine cj_ ?_)<;>try refine ev_ ?_)|with_reducible exact ti_)
 refine qk (S:=Nat) (fun j=>j≤l.length) (psSt false [] l) (fun j=>l.length-j) ?_ fun j hj=>?_
 ·refine qg 0 [0] (Nat.zero_le _) rfl (by simp) ?_ ?_ ?_<;>simp only[psSt,psH]<;>(try refine ev_ ?_)<;>(try with_reducible exact ti_)<;>(try simp (disch:=omega) only[qb,and_true,true_and])
  rw[qo (by omega) (by omega)];simp
 ·unfold psSt
  by_cases hlt:j<l.length
  ·have hg:=qky (l:=l) (i:=l.length-1-j) (by omega)
   have hcons:=qr1 hlt []
   have hsub:((l.length:Int)-1-j).toNat=l.length-1-j:=by omega
   rw[List.nil_append] at hcons
   have hlk:(([]:List (Ty×Ty))++(l.drop (l.length-j)).reverse).length=j:=by rw[List.nil_append,List.length_reverse,List.length_drop];omega
   cases j with
   | zero =>
     have hn:([]:List (Ty×Ty))++(l.drop (l.length-0)).reverse=[]:=List.length_eq_zero_iff.1 hlk
     rw[hn,List.nil_append] at hcons
     have hsub:((l.length:Int)-1-0).toNat=l.length-1-0:=by omega
     have h0:(0:Int)≤(l.length:Int)-1-0:=by omega
     rw[qcmv]
     have hcap:qbi 1 96=True:=eq_true (by unfold qbi;omega)
     repeat'(first|refine vs_ ?_|(refine vr_ ?_<;>try simp (disch:=first|omega|(simp only[List.length_set,List.length_append,List.length_cons,List.length_nil];try omega)) only[hg,hsub,qb,go_sem,↓reduceIte])|((first|simp (disch:=omega) only[hg]|simp (disch:=omega) only[hcap]|(refine cs_ ?_ ?_<;>intro hc)|refine cj_ ?_)<;>try refine ev_ ?_)|with_reducible exact ti_)
     all_goals try(exfalso;omega)
     refine qg 1 [0,1] ⟨by omega,by omega⟩ rfl (by simp) ?_ ?_ ?_<;>simp only[psSt,qxf,List.nil_append,hcons,List.length_singleton]<;>(try refine ev_ ?_)<;>(try with_reducible exact ti_)<;>(try simp (disch:=omega) only[qb,and_true,true_and])
     ·rfl
     ·rw[qo (by omega) (by omega)];congr 1;omega
   | succ j =>
     rw[List.nil_append] at hlk ⊢
     generalize hK:(l.drop (l.length-(j+1))).reverse=K at hcons hlk
     rw[qxf]
     have hcap:qbi (K.length+1) 96=True:=eq_true (by unfold qbi;omega)
     repeat'(first|refine vs_ ?_|(refine vr_ ?_<;>try simp (disch:=first|omega|(simp only[List.length_set,List.length_append,List.length_cons,List.length_nil];try omega)) only[hg,hsub,qb,qfo,go_sem,↓reduceIte])|((first|simp (disch:=omega) only[hg]|simp (disch:=omega) only[hcap]|(refine cs_ ?_ ?_<;>intro hc)|refine cj_ ?_)<;>try refine ev_ ?_)|with_reducible exact ti_)
     all_goals try(exfalso;omega)
     refine qg (j+1+1) [0,2] ⟨by omega,by omega⟩ rfl (by simp) ?_ ?_ ?_<;>simp only[psSt,qxf,List.nil_append,hcons,List.length_append,List.length_singleton]<;>(try refine ev_ ?_)<;>(try with_reducible exact ti_)<;>(try simp (disch:=omega) only[qb,and_true,true_and])
     ·rw[qhk]
     ·rw[qo (by omega) (by omega)];congr 1;omega
  ·have hjl:j=l.length:=by omega
   subst hjl
   rw[Nat.sub_self,List.drop_zero,List.nil_append]
   cases hz:l.length with
   | zero=>exact absurd (List.length_eq_zero_iff.1 hz) hne
   | succ k =>
     rw[qxf]
     repeat'(first|refine vs_ ?_|((first|refine vr_ ?_|(refine cs_ ?_ ?_<;>intro hc)|refine cj_ ?_)<;>try refine ev_ ?_)|with_reducible exact ti_)
     all_goals try(exfalso;omega)
     exact qgx 1 rfl rfl (by simp) (by simp) rfl ⟨rfl,rfl⟩
set_option maxHeartbeats 1000000 in
theorem qchz(L l:List (Ty×Ty))(hne:l≠[])(hlen:L.length+l.length≤100000000):
 VCalls Tryz.prog 159 (stkH true L) [.ptr 0 0,.sl 6 (qb1 l)] (qdk fun H' o=>H'=[stkE true (L++l.reverse)]∧o=.val (.tup [])):=by
 rw[qx6]
 refine qe c0ej 3 (by simp) (by simp[Ent.bd,qc8]) ?_
 repeat'(first|refine vs_ ?_|((first|refine vr_ ?_|(refine cs_ ?_ ?_<;>intro hc)|refine cj_ ?_)<;>try refine ev_ ?_)|with_reducible exact ti_)
 refine qk (S:=Nat) (fun j=>j≤l.length) (psSt true L l) (fun j=>l.length-j) ?_ fun j hj=>?_
 ·refine qg 0 [0,1] (Nat.zero_le _) rfl (by simp) ?_ ?_ ?_<;>simp only[psSt,psH]<;>(try refine ev_ ?_)<;>(try with_reducible exact ti_)<;>(try simp (disch:=omega) only[qb,and_true,true_and])
  ·simp
  ·rw[qo (by omega) (by omega)];simp
 ·unfold psSt
  by_cases hlt:j<l.length
  ·have hg:=qky (l:=l) (i:=l.length-1-j) (by omega)
   have hcons:=qr1 hlt L
   have hsub:((l.length:Int)-1-j).toNat=l.length-1-j:=by omega
   have hlk:(L++(l.drop (l.length-j)).reverse).length=L.length+j:=by rw[List.length_append,List.length_reverse,List.length_drop];omega
   cases j with
   | zero =>
     have hn:L++(l.drop (l.length-0)).reverse=L:=by simp
     rw[hn] at hcons ⊢
     have hsub:((l.length:Int)-1-0).toNat=l.length-1-0:=by omega
     have h0:(0:Int)≤(l.length:Int)-1-0:=by omega
     rw[qcl6]
     have hcap:qbi (L.length+1) 96=True:=eq_true (by unfold qbi;omega)
     repeat'(first|refine vs_ ?_|(refine vr_ ?_<;>try simp (disch:=first|omega|(simp only[List.length_set,List.length_append,List.length_cons,List.length_nil];try omega)) only[hg,hsub,qb,qfo,go_sem,↓reduceIte])|((first|simp (disch:=omega) only[hg]|simp (disch:=omega) only[hcap]|(refine cs_ ?_ ?_<;>intro hc)|refine cj_ ?_)<;>try refine ev_ ?_)|with_reducible exact ti_)
     all_goals try(exfalso;omega)
     refine qg 1 [0,1,2] ⟨by omega,by omega⟩ rfl (by simp) ?_ ?_ ?_<;>simp only[psSt,qyz,hcons,List.length_append,List.length_singleton]<;>(try refine ev_ ?_)<;>(try with_reducible exact ti_)<;>(try simp (disch:=omega) only[qb,and_true,true_and])
     ·rw[qhk]
     ·rw[qo (by omega) (by omega)];congr 1;omega
   | succ j =>
     generalize hK:L++(l.drop (l.length-(j+1))).reverse=K at hcons hlk
     rw[qyz]
     have hcap:qbi (K.length+1) 96=True:=eq_true (by unfold qbi;omega)
     repeat'(first|refine vs_ ?_|(refine vr_ ?_<;>try simp (disch:=first|omega|(simp only[List.length_set,List.length_append,List.length_cons,List.length_nil];try omega)) only[hg,hsub,qb,qfo,go_sem,↓reduceIte])|((first|simp (disch:=omega) only[hg]|simp (disch:=omega) only[hcap]|(refine cs_ ?_ ?_<;>intro hc)|refine cj_ ?_)<;>try refine ev_ ?_)|with_reducible exact ti_)
     all_goals try(exfalso;omega)
     refine qg (j+1+1) [0,1,3] ⟨by omega,by omega⟩ rfl (by simp) ?_ ?_ ?_<;>simp only[psSt,qyz,hcons,List.length_append,List.length_singleton]<;>(try refine ev_ ?_)<;>(try with_reducible exact ti_)<;>(try simp (disch:=omega) only[qb,and_true,true_and])
     ·rw[qhk]
     ·rw[qo (by omega) (by omega)];congr 1;omega
  ·have hjl:j=l.length:=by omega
   subst hjl
   rw[Nat.sub_self,List.drop_zero]
   cases hz:l.length with
   | zero=>exact absurd (List.length_eq_zero_iff.1 hz) hne
   | succ k =>
     rw[qyz]
     repeat'(first|refine vs_ ?_|((first|refine vr_ ?_|(refine cs_ ?_ ?_<;>intro hc)|refine cj_ ?_)<;>try refine ev_ ?_)|with_reducible exact ti_)
     all_goals try(exfalso;omega)
     exact qgx 2 (by rw[List.length_append];rfl) rfl (by simp) (by simp) rfl ⟨rfl,rfl⟩
theorem qy0(b:Bool)(L l:List (Ty×Ty))(hb:b=false->L=[])(hlen:L.length+l.length≤100000000):
 VM Tryz.prog 159 (stkE b L) (stkE (b||decide (l≠[])) (L++l.reverse)) [.ptr 0 0,.sl 6 (qb1 l)] (.tup []):=by
 refine qc4 ?_ (by simp only[AV.bds,AV.bd,qc8,Bool.and_true];rfl)
 by_cases hl:l=[]
 ·subst hl
  have h:=qcha b L hb
  rw[show decide (([]:List (Ty×Ty))≠[])=false from rfl,Bool.or_false,List.reverse_nil,List.append_nil]
  exact h
 ·rw[decide_eq_true hl,Bool.or_true]
  cases b with
  | false =>
    have hL:=hb rfl
    subst hL
    exact qcf6 l hl (by simpa using hlen)
  | true=>exact qchz L l hl hlen
def popA(x:Ty×Ty)(b:Bool):AV:=.tup [encW x,.bool b]
theorem qvh(k:Nat)(x:Ty×Ty)(b:Bool):(popA x b).bd k=true:=by simp only[popA,AV.bd,AV.bds,qhf,Bool.and_true]
theorem qbjk(b:Bool):VM Tryz.prog 160 (stkE b []) (stkE b []) [.ptr 0 0] (.tup [encW W0,.bool false]):=by
 refine qc4 ?_ rfl
 cases b with
 | false =>
   rw[q74]
   refine qe c0ek 1 (by simp) (by simp) ?_
   repeat'(first|refine vs_ ?_|((first|refine vr_ ?_|(refine cs_ ?_ ?_<;>intro hc)|refine cj_ ?_)<;>try refine ev_ ?_)|with_reducible exact ti_)
   all_goals try(exfalso;revert hc;decide)
   exact qs3 rfl (by simp) rfl ⟨rfl,rfl⟩
 | true =>
   rw[qx6]
   refine qe c0ek 2 (by simp) (by simp[Ent.bd,qc8]) ?_
   repeat'(first|refine vs_ ?_|((first|refine vr_ ?_|(refine cs_ ?_ ?_<;>intro hc)|refine cj_ ?_)<;>try refine ev_ ?_)|with_reducible exact ti_)
   all_goals try(exfalso;revert hc;decide)
   exact qgx (L:=[]) 1 rfl rfl (by simp) (by simp) rfl ⟨rfl,rfl⟩
theorem qbq8(L:List (Ty×Ty))(x:Ty×Ty)(hlen:L.length≤100000000):VM Tryz.prog 160 (stkE true (L++[x])) (stkE true L) [.ptr 0 0] (.tup [encW x,.bool true]):=by
 refine qc4 ?_ rfl
 rw[qx6]
 refine VCalls.cut 1 L.length 6 (Q:=fun H' o=>H'=[.blk [.row 1 L.length],.mrow 6 (qb1 (L++[x]))]∧o=.val (popA x true)) ?_ fun H' o hq=>?_
 case refine_2 =>
  obtain⟨rfl,rfl⟩:=hq
  refine⟨_,rfl,?_⟩
  refine qgx (L:=L) 1 rfl ?_ (by simp) (by simp) (qvh 1 x true) ⟨rfl,rfl⟩
  show Ent.mrow 6 ((qb1 (L++[x])).take L.length)=_
  rw[qph,List.take_left]
 refine qe c0ek 2 (by simp) (by simp[Ent.bd,qc8]) ?_
 have hx:(qb1 (L++[x])).getD L.length .junk=encW x:=by
  rw[qky (by simp),List.getD_eq_getElem?_getD,List.getElem?_append_right (Nat.le_refl _)];simp
 rw[List.length_append,List.length_singleton]
 have hsub:(((L.length+1:Nat):Int)-1).toNat=L.length:=by omega
 have hw1:IntKind.i64.wrap (((L.length+1:Nat):Int)-1)=L.length:=by rw[qo (by omega) (by omega)];omega
 have hmx:L.length+1≤maxLen:=by unfold maxLen;omega
 repeat'(first|refine vs_ ?_|(refine vr_ ?_<;>try simp only[hx,hw1,go_sem,↓reduceIte])|((first|simp (disch:=omega) only[hw1]|simp (disch:=omega) only[hx]|(refine cs_ ?_ ?_<;>intro hc)|refine cj_ ?_)<;>try refine ev_ ?_)|with_reducible exact ti_)
 ·exfalso;omega
 ·rfl
end Go.Proofs.YtkenggenkmfopaaGreat

/- matching: what it does -/
namespace Go.Proofs.YtkenggenkmfopaaGreat
open Go Go.RowKit Go.V

end Go.Proofs.YtkenggenkmfopaaGreat
