/- Texts of this proof, joined. -/
import Derived.Test.YtkenggenkmfopaaGreatFba
import Derived.Test.YtkenggenkmfopaaGreatFbb
import Derived.Test.YtkenggenkmfopaaGreatFar
set_option linter.unusedVariables false
set_option linter.unusedSimpArgs false

/- the state: Wait, lists, Type, Fill -/
set_option maxRecDepth 4000
namespace Go.Proofs.YtkenggenkmfopaaGreat
open Go Go.RowKit Go.V

section
variable {P:Program} {H:List Ent} {fr:Option Nat} {n m:Nat} {a:IC} {QV:VE->AF->List Ent->Prop} {af:AF} {S:SS}
abbrev stcK(S:SS)(k1 k2 k3:Nat):List AV:=[.int .i64 S.vars,.int .i64 S.fixed,.int .i64 S.names,.int .i64 S.holes,.ptr k1 0,.sl 6 (qbg S.waits),.opq k2,.opq k3,.int .i64 S.pos,.int .i64 S.err]
theorem qni(S:SS)(k1 k2 k3:Nat)(hq:VI P fr n m a QV af ((((H.set k1 .dead).set k2 .dead).set k3 .dead).set 0 (stE S)))
 (h0:ent H 0=.blk (stcK S k1 k2 k3)) (h1:ent H k1=subE S.known) (h2:ent H k2=mapE (qgm S.fills)) (h3:ent H k3=mapE (qf2 S.free))
 (hn:[0,k1,k2,k3].Nodup) (hl0:0<H.length) (hl1:k1<H.length) (hl2:k2<H.length) (hl3:k3<H.length):VI P fr n m a QV af H:=by
 refine qzm 0 [k1,k2,k3] (H1:=stH S) (by simp) hn ?_ hq
 exact⟨⟨hl0,by simp only[Ent.bd,AV.bds,AV.bd,qcv];rfl,by rw[h0];simp only[Ent.ren,AV.rens,AV.ren,qda];rfl⟩,⟨hl1,rfl,by rw[h1];rfl⟩,⟨hl2,rfl,by rw[h2];rfl⟩,⟨hl3,rfl,by rw[h3];rfl⟩,trivial⟩
theorem qn4(S:SS)(he:ent H 0=stE S)(hm:m≤H.length)(hq:VI P fr n m a QV af (H.set 0 (.blk (stcK S H.length (H.length+1) (H.length+2)))++[subE S.known,mapE (qgm S.fills),mapE (qf2 S.free)])):VI P fr n m a QV af H:=by
 refine qcb0 0 he hm ?_
 simp only[Ent.ren,AV.rens,AV.ren,qda,List.map_cons,List.map_nil]
 exact hq
end
def qv4(S:SS)(p:Pd)(pos:Int):SS:={ useS S with waits:=S.waits++[⟨p,pos,useH S⟩] }
theorem q3s{S:SS}(p:Pd)(pos:Int)(hl:S.waits.length≤1000000):VM Tryz.prog 25 (stE S) (stE (qv4 S p pos)) [.ptr 0 0,encP p,.int .i64 pos] (.int .i64 (useH S)):=by
 have hu:=q8h S
 generalize hS:useS S=U at hu
 have hw:U.waits=S.waits:=by rw[←hS];rfl
 have hR:qv4 S p pos={ U with waits:=U.waits++[⟨p,pos,useH S⟩] }:=by rw[qv4,hS,hw]
 rw[hR]
 rw[←hw] at hl
 generalize useH S=h at *
 refine qe c0j 1 (by simp) (by simp) ?_
 unfold k0j
 generalize hz:IC.seq qbli _=z1
 repeat'(first|refine vs_ ?_|((first|refine vr_ ?_|refine qca 0 hu ?_|(refine cs_ ?_ ?_<;>intro hc)|refine cj_ ?_)<;>try refine ev_ ?_)|with_reducible exact ti_)
 subst hz
 refine qn4 U rfl (by simp) ?_
 simp only[List.length_cons,List.length_nil,List.set_cons_zero,List.cons_append,List.nil_append,Nat.zero_add,Nat.reduceAdd]
 generalize hz:IC.seq qbk5 _=z1
 have hcap:qbi (U.waits.length+1) 80=True:=eq_true (by unfold qbi;omega)
 have hmx:(U.waits.length:Int)≤(U.waits.length:Int):=by omega
 repeat'(first|refine vs_ ?_|(refine vr_ ?_<;>try simp only[hcap,List.take_length,go_sem,↓reduceIte])|((first|(refine cs_ ?_ ?_<;>intro hc)|refine cj_ ?_)<;>try refine ev_ ?_)|with_reducible exact ti_)
 subst hz
 refine qik 0 5 (.sl 6) rfl ?_
 have hrow:qbg U.waits++[AV.agg [.str p.cls,.str p.ty.con,.int .i64 p.ty.var,.sl 3 (qf p.ty.args),.int .i64 pos,.int .i64 h]]=qbg (U.waits++[⟨p,pos,h⟩]):=qic U.waits ⟨p,pos,h⟩
 have hlen:(qbg (U.waits++[⟨p,pos,h⟩])).length=U.waits.length+1:=by rw[qfs,List.length_append];rfl
 rw[hrow]
 simp only[List.getD_cons_succ,List.getD_cons_zero,List.set_cons_succ,List.set_cons_zero,co,ent,hlen,if_true]
 refine qni { U with waits:=U.waits++[⟨p,pos,h⟩] } 2 3 4 ?_ rfl rfl rfl rfl (by simp) (by simp) (by simp) (by simp) (by simp)
 repeat'(first|refine vs_ ?_|((first|refine vr_ ?_|(refine cs_ ?_ ?_<;>intro hc)|refine cj_ ?_)<;>try refine ev_ ?_)|with_reducible exact ti_)
set_option maxRecDepth 4000

def lsV(s:List Pr):List Int:=s.map Pr.v
def lsT(s:List Pr):List Ty:=s.map Pr.ty
def lsSt(S:SS)(i:Nat):AF×List Ent:=(⟨[(4,accV 4 (ints (lsV (S.known.take i)))),(5,accV 5 (qf (lsT (S.known.take i)))),(12,.sl 4 (qz S.known)),(13,.int .i64 S.known.length),(14,.int .i64 i)],[]⟩,stH S++accE 1 (ints (lsV (S.known.take i)))++accE 3 (qf (lsT (S.known.take i))))
theorem qyh{S:SS}(hl:S.known.length≤100000)(ho:smlR S.known):VM Tryz.prog 50 (stE S) (stE S) [.ptr 0 0] (.tup [.sl 1 (ints (lsV S.known)),.sl 3 (qf (lsT S.known))]):=by
 refine qc4 ?_ (by simp[AV.bds,AV.bd])
 refine qe c0h 4 (by simp) (by simp) ?_
 repeat'(first|refine vs_ ?_|((first|refine vr_ ?_|refine qca 1 (qfr hl ho) ?_|(refine cs_ ?_ ?_<;>intro hc)|refine cj_ ?_)<;>try refine ev_ ?_)|with_reducible exact ti_)
 refine qk (S:=Nat) (fun i=>i≤S.known.length) (lsSt S) (fun i=>S.known.length-i) ?_ fun i hi=>?_
 ·refine qg 0 [0,1,2,3] (Nat.zero_le _) rfl (by simp) ?_ ?_ ?_<;>simp only[lsSt,List.take_zero,lsV,lsT,List.map_nil,ints,qf,qq,qw,List.append_nil]<;>(try refine ev_ ?_)<;>(try with_reducible exact ti_)<;>(try simp (disch:=omega) only[qb,and_true,true_and])
 ·unfold lsSt
  have hvl:(ints (lsV (S.known.take i))).length=i:=by rw[qck,lsV,List.length_map,List.length_take];omega
  have htl:(qf (lsT (S.known.take i))).length=i:=by rw[q9,lsT,List.length_map,List.length_take];omega
  by_cases hlt:i<S.known.length
  ·have hg:=qs hlt
   have hsn:=qko hlt
   have e1:ints (lsV (S.known.take i))++[.int .i64 (S.known.getD i R0).v]=ints (lsV (S.known.take (i+1))):=by rw[hsn,qs8];simp only[lsV,List.map_append,List.map_cons,List.map_nil]
   have e2:qf (lsT (S.known.take i))++[encY (S.known.getD i R0).ty]=qf (lsT (S.known.take (i+1))):=by rw[hsn,qew];simp only[lsT,List.map_append,List.map_cons,List.map_nil]
   have c1:qbi (i+1) 8=True:=eq_true (by unfold qbi;omega)
   have c2:qbi (i+1) 48=True:=eq_true (by unfold qbi;omega)
   have hif:(i:Int)<(S.known.length:Int):=by omega
   generalize S.known.getD i R0=x at *
   have hxf:AV.agg [.str x.ty.con,.int .i64 x.ty.var,.sl 3 (qf x.ty.args)]=encY x.ty:=qbd _
   by_cases h0:i=0
   ·subst h0
    have n1:ints (lsV (S.known.take 0))=[]:=rfl
    have n2:qf (lsT (S.known.take 0))=[]:=rfl
    rw[n1] at e1
    rw[n2] at e2
    rw[n1,n2]
    simp only[qq,qw,List.append_nil]
    have hif0:(0:Int)<(S.known.length:Int):=by omega
    repeat'(first|refine vs_ ?_|(refine vr_ ?_<;>try simp (disch:=first|omega|(simp only[List.length_set,List.length_append,List.length_cons,List.length_nil];try omega)) only[hg,hif0,hxf,qb,c1,c2,go_sem,↓reduceIte])|((first|simp (disch:=omega) only[hg]|(refine cs_ ?_ ?_<;>intro hc)|refine cj_ ?_)<;>try refine ev_ ?_)|with_reducible exact ti_)
    refine qg 1 [0,1,2,3,5,6] ⟨by omega,by omega⟩ rfl (by simp) ?_ ?_ ?_<;>simp only[lsSt,←e1,←e2,List.nil_append,qc7,qej]<;>(try refine ev_ ?_)<;>(try with_reducible exact ti_)<;>(try simp (disch:=omega) only[qb,and_true,true_and])
    all_goals rfl
   ·have n1:ints (lsV (S.known.take i))≠[]:=fun h=>h0 (by rw[←hvl,h];rfl)
    have n2:qf (lsT (S.known.take i))≠[]:=fun h=>h0 (by rw[←htl,h];rfl)
    simp only[q7 n1,qbc n1,q7 n2,qbc n2,hvl,htl]
    repeat'(first|refine vs_ ?_|(refine vr_ ?_<;>try simp (disch:=first|omega|(simp only[List.length_set,List.length_append,List.length_cons,List.length_nil];try omega)) only[hg,hif,hxf,hvl,htl,qb,c1,c2,go_sem,↓reduceIte])|((first|simp (disch:=omega) only[hg]|(refine cs_ ?_ ?_<;>intro hc)|refine cj_ ?_)<;>try refine ev_ ?_)|with_reducible exact ti_)
    refine qg (i+1) [0,1,2,3,7,8] ⟨by omega,by omega⟩ rfl (by simp) ?_ ?_ ?_<;>simp only[lsSt,←e1,←e2,qcm,qdh,hvl,htl]<;>(try refine ev_ ?_)<;>(try with_reducible exact ti_)<;>(try simp (disch:=omega) only[qb,and_true,true_and])
    ·rw[e1,e2];exact⟨⟨qdz _ _,by rw[qhs]⟩,qbm _ _,by rw[qc6]⟩
    ·rw[qo (by omega) (by omega),Int.natCast_add];rfl
  ·have hie:i=S.known.length:=by omega
   subst hie
   rw[List.take_length] at hvl htl ⊢
   by_cases h0:S.known=[]
   ·have n1:ints (lsV S.known)=[]:=by rw[h0];rfl
    have n2:qf (lsT S.known)=[]:=by rw[h0];rfl
    rw[n1,n2]
    simp only[qq,qw,List.append_nil]
    repeat'(first|refine vs_ ?_|((first|refine vr_ ?_|(refine cs_ ?_ ?_<;>intro hc)|refine cj_ ?_)<;>try refine ev_ ?_)|with_reducible exact ti_)
    all_goals try(exfalso;omega)
    exact qbf (S:=S) (L:=[]) rfl rfl ⟨rfl,rfl⟩
   ·have hne:S.known.length≠0:=fun h=>h0 (List.length_eq_zero_iff.1 h)
    have n1:ints (lsV S.known)≠[]:=fun h=>hne (by rw[←hvl,h];rfl)
    have n2:qf (lsT S.known)≠[]:=fun h=>hne (by rw[←htl,h];rfl)
    simp only[q7 n1,qbc n1,q7 n2,qbc n2,hvl,htl]
    repeat'(first|refine vs_ ?_|(refine vr_ ?_<;>try simp only[hvl,htl,go_sem,↓reduceIte])|((first|(refine cs_ ?_ ?_<;>intro hc)|refine cj_ ?_)<;>try refine ev_ ?_)|with_reducible exact ti_)
    all_goals try(exfalso;omega)
    exact qbf (S:=S) (L:=[]) rfl (by simp only[AV.bd,AV.bds,qdz,qbm,Bool.and_true]) ⟨rfl,rfl⟩
def typS(S:SS)(t:Ty):Ty:=if(typK (lsV S.known) (lsT S.known) t).2=true then(typK (lsV S.known) (lsT S.known) t).1 else Y0
theorem qw7{S:SS}{t:Ty}(hl:S.known.length≤100000)(ho:smlR S.known)(hb:szY t≤1000000):VM Tryz.prog 15 (stE S) (stE S) [.ptr 0 0,encY t] (encY (typS S t)):=by
 have h1:=qyh hl ho
 have h2:=qpt (vs:=lsV S.known) (ts:=lsT S.known) hb
 have hz:AV.agg [.str [],.int .i64 0,.sl 3 []]=encY Y0:=rfl
 unfold typS
 generalize typK (lsV S.known) (lsT S.known) t=q at *
 obtain⟨u,b⟩:=q
 dsimp only at h2 ⊢
 refine qe c0i 1 (by simp) (by simp) ?_
 cases b with
 | true =>
   repeat'(first|refine vs_ ?_|(refine vr_ ?_<;>try simp only[hz,go_sem,↓reduceIte])|((first|(refine cs_ ?_ ?_<;>intro hc)|refine cj_ ?_|fail|refine qca 0 h1 ?_|refine qa h2 fun _=>?_)<;>try refine ev_ ?_)|with_reducible exact ti_)
 | false =>
   repeat'(first|refine vs_ ?_|(refine vr_ ?_<;>try simp only[hz,go_sem,↓reduceIte])|((first|(refine cs_ ?_ ?_<;>intro hc)|refine cj_ ?_|fail|refine qca 0 h1 ?_|refine qa h2 fun _=>?_)<;>try refine ev_ ?_)|with_reducible exact ti_)
set_option maxRecDepth 4000

def valG{α:Type}(l:List (Int×α))(k:Int)(z:α):α:=((qfq l k).map (·.2)).getD z
section
variable {H:List Ent} {Q:List Ent->VO->Prop}
theorem q4h(i:Nat){S:List (Int×Int)}{k:Int}(hq:Q H (.val (.int .i64 (valG S k 0))))(he:ent H i=mapE (qf2 S):=by rfl):VApp Tryz.prog H (mkV (.look 95 false)) [.opq i,.int .i64 k] Q:=by
 refine q8u rfl rfl (z:=.int .i64 0) rfl false he ?_
 have hv:((qgb (qf2 S) k).map (·.2)).getD (.int .i64 0)=.int .i64 (valG S k 0):=by
  rw[qf2,qgz (AV.int .i64),valG]
  cases qfq S k<;>rfl
 simp only[Bool.false_eq_true,if_false,hv]
 exact hq
theorem qck4(i:Nat){S:List (Int×Int)}{k:Int}(hq:Q (H.set i (mapE (qf2 (delG S k)))) (.val (.tup [])))(he:ent H i=mapE (qf2 S):=by rfl):VApp Tryz.prog H (mkV (.del 95)) [.opq i,.int .i64 k] Q:=by
 have hu:delM (qf2 S) k=qf2 (delG S k):=q9w (AV.int .i64) S k
 rw[←hu] at hq
 exact qcj4 rfl rfl he hq
end
def qh1(S:SS)(h:Int)(t:Tm):Int×SS :=
 if h<0 then(1,S) else if S.holes≤h then(1,S) else if lglT t=false then(1,S) else if lstT t (IntKind.i64.wrap (h+1))≤h then(1,S) else
 if valG S.free h 0=0 then(6,S) else(0,{ S with free:=delG S.free h,fills:=updG S.fills h t })
theorem qqn(S:SS)(h:Int)(t:Tm):VM Tryz.prog 28 (stE S) (stE (qh1 S h t).2) [.ptr 0 0,.int .i64 h,encT t] (.int .i64 (qh1 S h t).1):=by
 have hL:=qfc t
 have hT:=qrw t (IntKind.i64.wrap (h+1))
 refine qc4 ?_ (by simp only[AV.bds,AV.bd,qb4];rfl)
 refine qe c0g 4 (by simp) (by simp) ?_
 unfold qh1
 by_cases h1:h<0
 ·rw[if_pos h1]
  repeat'(first|refine vs_ ?_|(refine vr_ ?_<;>try simp only[h1,go_sem,↓reduceIte])|((first|(refine cs_ ?_ ?_<;>intro hc)|refine cj_ ?_)<;>try refine ev_ ?_)|with_reducible exact ti_)
  all_goals exact qbf (S:=S) (L:=[]) rfl rfl ⟨rfl,rfl⟩
 rw[if_neg h1]
 by_cases h2:S.holes≤h
 ·rw[if_pos h2]
  repeat'(first|refine vs_ ?_|(refine vr_ ?_<;>try simp only[h1,h2,go_sem,↓reduceIte])|((first|(refine cs_ ?_ ?_<;>intro hc)|refine cj_ ?_)<;>try refine ev_ ?_)|with_reducible exact ti_)
  all_goals exact qbf (S:=S) (L:=[]) rfl rfl ⟨rfl,rfl⟩
 rw[if_neg h2]
 cases hl:lglT t with
 | false =>
   rw[if_pos rfl]
   rw[hl] at hL
   repeat'(first|refine vs_ ?_|(refine vr_ ?_<;>try simp only[h1,h2,go_sem,↓reduceIte])|((first|(refine cs_ ?_ ?_<;>intro hc)|refine cj_ ?_|refine qa hL fun _=>?_|refine qc hL ?_)<;>try refine ev_ ?_)|with_reducible exact ti_)
   all_goals exact qbf (S:=S) (L:=[]) rfl rfl ⟨rfl,rfl⟩
 | true =>
   rw[if_neg (by simp)]
   rw[hl] at hL
   generalize lstT t (IntKind.i64.wrap (h+1))=x at *
   by_cases h3:x≤h
   ·rw[if_pos h3]
    repeat'(first|refine vs_ ?_|(refine vr_ ?_<;>try simp only[h1,h2,go_sem,↓reduceIte])|((first|(refine cs_ ?_ ?_<;>intro hc)|refine cj_ ?_|refine qa hL fun _=>?_|refine qa hT fun _=>?_|refine qc hL ?_|refine qc hT ?_)<;>try refine ev_ ?_)|with_reducible exact ti_)
    all_goals first | (exfalso;omega) | exact qbf (S:=S) (L:=[]) rfl rfl ⟨rfl,rfl⟩
   rw[if_neg h3]
   by_cases h4:valG S.free h 0=0
   ·rw[if_pos h4]
    repeat'(first|refine vs_ ?_|(refine vr_ ?_<;>try simp only[h1,h2,go_sem,↓reduceIte])|((first|(refine cs_ ?_ ?_<;>intro hc)|refine cj_ ?_|refine qa hL fun _=>?_|refine qa hT fun _=>?_|refine q4h 3 ?_|refine qc hL ?_|refine qc hT ?_)<;>try refine ev_ ?_)|with_reducible exact ti_)
    all_goals first | (exfalso;omega) | exact qbf (S:=S) (L:=[]) rfl rfl ⟨rfl,rfl⟩
   ·rw[if_neg h4]
    repeat'(first|refine vs_ ?_|(refine vr_ ?_<;>try simp only[h1,h2,go_sem,↓reduceIte])|((first|(refine cs_ ?_ ?_<;>intro hc)|refine cj_ ?_|refine qa hL fun _=>?_|refine qa hT fun _=>?_|refine q4h 3 ?_|refine qck4 3 ?_|refine qcj3 2 ?_|refine qc hL ?_|refine qc hT ?_)<;>try refine ev_ ?_)|with_reducible exact ti_)
    all_goals first | (exfalso;omega) | exact qbf (S:={ S with free:=delG S.free h,fills:=updG S.fills h t }) (L:=[]) rfl rfl ⟨rfl,rfl⟩

section
variable {P:Program} {f:FuncId} {e:Ent} {L:List Ent} {args:List AV} {Q:List Ent->VO->Prop}
theorem qjp(h:VCalls P f [] args fun H' o=>H'=[e]∧o=.val (.ptr 0 0))(hb:e.bd 0=true)(ha:AV.bds 0 args=true)(hq:Q (L++[e]) (.val (.ptr L.length 0))):VApp P L (.fn f [] []) args Q:=by
 refine qbbf h ha fun H1 o ho=>?_
 obtain⟨rfl,rfl⟩:=ho
 have e1:qe7 L [] [e]=L++[e]:=by
  show L++[e.ren _]=_
  rw[Ent.ren_bd0 hb]
 rw[e1]
 exact hq
end
theorem qe6{s:List Pr}(h:okS s):smlR s:=fun p hp=>by
 have:=(qu _).1 (h.2 p hp)
 omega
theorem qra:VCalls Tryz.prog 39 [] [.sl 4 []] fun H' o=>H'=[subE []]∧o=.val (.ptr 0 0):=qr6 (l:=[]) (fun p hp=>by simp at hp) (by simp)
set_option maxRecDepth 4000

theorem qmt(t:List Pr)(b:List Pr):∀(a acc:List Pr),(qcb t acc a).2=0->qcb t acc (a++b)=qcb t (qcb t acc a).1 b
 | [],acc,_=>rfl
 | p :: r, acc, h => by
   rw[qcb] at h
   rw[List.cons_append,qcb,qcb]
   split at h
   ·rename_i h0
    rw[if_pos h0,if_pos h0,qmt t b r _ h]
   ·rename_i h0
    exact absurd h h0
theorem qrd{t:List Pr}:∀(a:List Pr) {acc:List Pr},okS acc->okS (qcb t acc a).1
 | [],_,h=>h
 | p :: r, acc, h => by
   rw[qcb]
   split
   ·exact qrd r (qw3 h _ _)
   ·exact qfi
theorem qma(t:List Pr):∀(a acc:List Pr),(qcb t acc a).1.length≤acc.length+a.length
 | [],acc=>by simp[qcb]
 | p :: r, acc => by
   rw[qcb,List.length_cons]
   split
   ·have h1:=qma t r (setR acc p.v (appR t p.ty).1).1
    have h2:=qzi acc p.v (appR t p.ty).1
    omega
   ·simp
theorem qcdc{s t:List Pr}(hs:okS s)(ht:okS t):behR s t=if(qcb t [] s).2=0 then(addR (qcb t [] s).1 t,0) else([],(qcb t [] s).2):=by
 rw[behR,←qxq ht s [] hs.1 (fun p hp=>by simp at hp)]
theorem qbhg{s t:List Pr}{i:Nat}(h:i<s.length)(h0:(qcb t [] (s.take i)).2=0):qcb t [] s=qcb t (qcb t [] (s.take i)).1 (s.getD i R0::s.drop (i+1)):=by
 have:=qmt t (s.drop i) (s.take i) [] h0
 rwa [List.take_append_drop,qccv h] at this
theorem qy1{s t:List Pr}{i:Nat}(h:i<s.length)(h0:(qcb t [] (s.take i)).2=0)(ha:(appR t (s.getD i R0).ty).2=0):qcb t [] (s.take (i+1))=((setR (qcb t [] (s.take i)).1 (s.getD i R0).v (appR t (s.getD i R0).ty).1).1,0):=by
 rw[qki h,qmt t _ _ _ h0,qcb,if_pos ha,qcb]
theorem qo7{s t:List Pr}{i:Nat}(h:i<s.length)(h0:(qcb t [] (s.take i)).2=0)(ha:(appR t (s.getD i R0).ty).2≠0):qcb t [] s=([],(appR t (s.getD i R0).ty).2):=by
 rw[qbhg h h0,qcb,if_neg ha]
def newQ(L:List Ent)(p:List Pr×Int)(H':List Ent)(o:VO):Prop :=
 if p.2=0 then H'=L++[subE p.1]∧o=.val (.tup [.ptr L.length 0,.int .i64 0]) else H'=L∧o=.val (.tup [.nilp,.int .i64 p.2])
theorem qbf1{s t:List Pr}(hs:okS s)(ht:okS t)(h1:s.length≤40000)(h2:t.length≤40000):VCalls Tryz.prog 71 [subE s,subE t] [.ptr 0 0,.ptr 1 0] (newQ [subE s,subE t] (behR s t)):=by
 have hms:=qe6 hs
 have hmt:=qe6 ht
 have hA:∀ty,szY ty≤20000->dpY ty≤300->VM Tryz.prog 53 (subE t) (subE t) [.ptr 0 0,encY ty] (typA (appR t ty)):=fun ty q1 q2=>qsf (b:=true) (R:=bunR (subH t)) (fun v=>qwl ht.1 (by omega) v) ht q1 q2
 have hstep:∀i,i<s.length->(qcb t [] (s.take i)).2=0->risR (qcb t [] (s.take i)).1∧(qcb t [] (s.take i)).1.length≤40000:=fun i hi h0=>by
  have:=qma t (s.take i) []
  rw[List.length_take] at this
  exact⟨(qrd (s.take i) qfi).1,by simp at this;omega⟩
 have hap:∀i,i<s.length->(appR t (s.getD i R0).ty).2=0->szY (appR t (s.getD i R0).ty).1≤20000∧dpY (appR t (s.getD i R0).ty).1≤300:=fun i hi h0=>by
  obtain⟨_,q2,q3⟩:=qb0 ht h0
  rw[q3]
  have:=(qu _).1 q2
  omega
 rw[qcdc hs ht]
 by_cases he:(qcb t [] s).2=0
 ·rw[if_pos he]
  refine qe c0ec 3 (by simp) (by simp) ?_
  repeat'(first|refine vs_ ?_|((first|refine vr_ ?_|refine qjp qra rfl rfl ?_|refine qca 0 (qfr (by omega) hms) ?_|(refine cs_ ?_ ?_<;>intro hc)|refine cj_ ?_)<;>try refine ev_ ?_)|with_reducible exact ti_)
  refine qk (S:=Nat) (fun i=>i≤s.length∧(qcb t [] (s.take i)).2=0) (fun i=>(⟨[(1,.ptr 1 0),(6,.ptr 2 0),(15,.sl 4 (qz s)),(16,.int .i64 s.length),(17,.int .i64 i)],[]⟩,[subE s,subE t,subE (qcb t [] (s.take i)).1])) (fun i=>s.length-i) ?_ fun i hi=>?_
  ·refine qg 0 [0,1,2] ⟨Nat.zero_le _,rfl⟩ rfl (by simp) ?_ ?_ ?_<;>simp only[List.take_zero,qcb]<;>(try refine ev_ ?_)<;>(try with_reducible exact ti_)<;>(try simp (disch:=omega) only[qb,and_true,true_and])
  ·obtain⟨hi,h0⟩:=hi
   by_cases hlt:i<s.length
   ·have hp:=qs hlt
    have hm:=hms _ (qfa hlt)
    obtain⟨a1,a2⟩:=hstep i hlt h0
    by_cases ha:(appR t (s.getD i R0).ty).2=0
    ·obtain⟨b1,b2⟩:=hap i hlt ha
     have hn:=qy1 hlt h0 ha
     have hT:typA (appR t (s.getD i R0).ty)=.tup [encY (appR t (s.getD i R0).ty).1,.int .i64 0]:=by rw[typA,ha]
     repeat'(first|refine vs_ ?_|(refine vr_ ?_<;>try simp (disch:=first|omega|(simp only[List.length_set,List.length_append,List.length_cons,List.length_nil];try omega)) only[hp,qb,go_sem,↓reduceIte])|((first|simp (disch:=omega) only[hp]|simp (disch:=omega) only[hT]|(refine cs_ ?_ ?_<;>intro hc)|refine cj_ ?_|refine qca 1 (hA _ hm.1 hm.2) ?_ rfl rfl (by simp) rfl (qq8 0 _)|refine qca 2 (qkd a1 (by omega) _ b1 b2) ?_)<;>try refine ev_ ?_)|with_reducible exact ti_)
     ·refine qg (i+1) [0,1,2] ⟨⟨by omega,by rw[hn]⟩,by omega⟩ rfl (by simp) ?_ ?_ ?_<;>simp only[hn]<;>(try refine ev_ ?_)<;>(try with_reducible exact ti_)<;>(try simp (disch:=omega) only[qb,and_true,true_and])
      all_goals rw[qo (by omega) (by omega),Int.natCast_add];rfl
     ·exfalso;omega
    ·exact absurd (by rw[qo7 hlt h0 ha] at he;exact he) ha
   ·have hie:i=s.length:=by omega
    subst hie
    rw[List.take_length]
    have hok:okS (qcb t [] s).1:=qrd s qfi
    have hln:=qma t s []
    simp only[List.length_nil,Nat.zero_add] at hln
    repeat'(first|refine vs_ ?_|((first|refine vr_ ?_|refine qca 1 (qfr (by omega) hmt) ?_|(refine cs_ ?_ ?_<;>intro hc)|refine cj_ ?_)<;>try refine ev_ ?_)|with_reducible exact ti_)
    ·exfalso;omega
    ·generalize (qcb t [] s).1=a at hok hln ⊢
     refine qk (S:=Nat) (fun i=>i≤t.length) (fun i=>(⟨[(6,.ptr 2 0),(38,.sl 4 (qz t)),(39,.int .i64 t.length),(40,.int .i64 i)],[]⟩,[subE s,subE t,subE (addR a (t.take i))])) (fun i=>t.length-i) ?_ fun i hi=>?_
     ·refine qg 0 [0,1,2] (Nat.zero_le _) rfl (by simp) ?_ ?_ ?_<;>simp only[List.take_zero,addR]<;>(try refine ev_ ?_)<;>(try with_reducible exact ti_)<;>(try simp (disch:=omega) only[qb,and_true,true_and])
     ·by_cases hlt:i<t.length
      ·have hp:=qs hlt
       have hm:=hmt _ (qfa hlt)
       have hq:=qp8 (t.take i) hok
       have hql:=qlo (t.take i) a
       rw[List.length_take] at hql
       have hn:=qrq hlt a
       repeat'(first|refine vs_ ?_|(refine vr_ ?_<;>try simp (disch:=first|omega|(simp only[List.length_set,List.length_append,List.length_cons,List.length_nil];try omega)) only[hp,qb,go_sem,↓reduceIte])|((first|simp (disch:=omega) only[hp]|(refine cs_ ?_ ?_<;>intro hc)|refine cj_ ?_|refine qca 2 (qkd hq.1 (by omega) _ hm.1 hm.2) ?_)<;>try refine ev_ ?_)|with_reducible exact ti_)
       ·refine qg (i+1) [0,1,2] ⟨by omega,by omega⟩ rfl (by simp) ?_ ?_ ?_<;>simp only[hn]<;>(try refine ev_ ?_)<;>(try with_reducible exact ti_)<;>(try simp (disch:=omega) only[qb,and_true,true_and])
        all_goals rw[qo (by omega) (by omega),Int.natCast_add];rfl
      ·have hie:i=t.length:=by omega
       subst hie
       rw[List.take_length]
       repeat'(first|refine vs_ ?_|((first|refine vr_ ?_|(refine cs_ ?_ ?_<;>intro hc)|refine cj_ ?_)<;>try refine ev_ ?_)|with_reducible exact ti_)
       all_goals try(exfalso;omega)
       all_goals
        rw[newQ,if_pos rfl]
        exact⟨rfl,rfl⟩
 ·rw[if_neg he]
  refine qe c0ec 2 (by simp) (by simp) ?_
  repeat'(first|refine vs_ ?_|((first|refine vr_ ?_|refine qjp qra rfl rfl ?_|refine qca 0 (qfr (by omega) hms) ?_|(refine cs_ ?_ ?_<;>intro hc)|refine cj_ ?_)<;>try refine ev_ ?_)|with_reducible exact ti_)
  refine qk (S:=Nat) (fun i=>i≤s.length∧(qcb t [] (s.take i)).2=0) (fun i=>(⟨[(1,.ptr 1 0),(6,.ptr 2 0),(15,.sl 4 (qz s)),(16,.int .i64 s.length),(17,.int .i64 i)],[]⟩,[subE s,subE t,subE (qcb t [] (s.take i)).1])) (fun i=>s.length-i) ?_ fun i hi=>?_
  ·refine qg 0 [0,1,2] ⟨Nat.zero_le _,rfl⟩ rfl (by simp) ?_ ?_ ?_<;>simp only[List.take_zero,qcb]<;>(try refine ev_ ?_)<;>(try with_reducible exact ti_)<;>(try simp (disch:=omega) only[qb,and_true,true_and])
  ·obtain⟨hi,h0⟩:=hi
   have hlt:i<s.length:=by
    by_cases hlt:i<s.length
    ·exact hlt
    ·rw[List.take_of_length_le (by omega)] at h0
     exact absurd h0 he
   have hp:=qs hlt
   have hm:=hms _ (qfa hlt)
   obtain⟨a1,a2⟩:=hstep i hlt h0
   by_cases ha:(appR t (s.getD i R0).ty).2=0
   ·obtain⟨b1,b2⟩:=hap i hlt ha
    have hn:=qy1 hlt h0 ha
    have hT:typA (appR t (s.getD i R0).ty)=.tup [encY (appR t (s.getD i R0).ty).1,.int .i64 0]:=by rw[typA,ha]
    repeat'(first|refine vs_ ?_|(refine vr_ ?_<;>try simp (disch:=first|omega|(simp only[List.length_set,List.length_append,List.length_cons,List.length_nil];try omega)) only[hp,qb,go_sem,↓reduceIte])|((first|simp (disch:=omega) only[hp]|simp (disch:=omega) only[hT]|(refine cs_ ?_ ?_<;>intro hc)|refine cj_ ?_|refine qca 1 (hA _ hm.1 hm.2) ?_ rfl rfl (by simp) rfl (qq8 0 _)|refine qca 2 (qkd a1 (by omega) _ b1 b2) ?_)<;>try refine ev_ ?_)|with_reducible exact ti_)
    ·refine qg (i+1) [0,1,2] ⟨⟨by omega,by rw[hn]⟩,by omega⟩ rfl (by simp) ?_ ?_ ?_<;>simp only[hn]<;>(try refine ev_ ?_)<;>(try with_reducible exact ti_)<;>(try simp (disch:=omega) only[qb,and_true,true_and])
     all_goals rw[qo (by omega) (by omega),Int.natCast_add];rfl
    ·exfalso;omega
   ·have hT:typA (appR t (s.getD i R0).ty)=.tup [encY (appR t (s.getD i R0).ty).1,.int .i64 (appR t (s.getD i R0).ty).2]:=rfl
    have had:decide ((appR t (s.getD i R0).ty).2=0)=false:=decide_eq_false ha
    rw[qo7 hlt h0 ha]
    repeat'(first|refine vs_ ?_|(refine vr_ ?_<;>try simp (disch:=first|omega|(simp only[List.length_set,List.length_append,List.length_cons,List.length_nil];try omega)) only[hp,qb,had,go_sem,↓reduceIte])|((first|simp (disch:=omega) only[hp]|simp (disch:=omega) only[hT]|(refine cs_ ?_ ?_<;>intro hc)|refine cj_ ?_|refine qca 1 (hA _ hm.1 hm.2) ?_ rfl rfl (by simp) rfl (qq8 0 _))<;>try refine ev_ ?_)|with_reducible exact ti_)
    all_goals try(exfalso;omega)
    all_goals
     rw[newQ,if_neg ha]
     exact⟨rfl,rfl⟩


section
variable {L:List Ent} {Q:List Ent->VO->Prop} {s t:List Pr}
theorem qb1o{l:List Pr}(hs:smlR l)(hl:l.length≤100000)(hq:Q (L++[subE (newR l)]) (.val (.ptr L.length 0))):VApp Tryz.prog L (.fn 39 [] []) [.sl 4 (qz l)] Q :=
 qjp (qr6 hs hl) rfl (by simp only[AV.bds,AV.bd,qcd,Bool.and_true]) hq
theorem qy6(a b:Nat)(hs:okS s)(ht:okS t)(h1:s.length≤40000)(h2:t.length≤40000)(hab:a≠b)(hq:if(behR s t).2=0 then Q (L++[subE (behR s t).1]) (.val (.tup [.ptr L.length 0,.int .i64 0])) else Q L (.val (.tup [.nilp,.int .i64 (behR s t).2])))
 (h0:ent L a=subE s:=by rfl) (h0':ent L b=subE t:=by rfl) (ha:a<L.length:=by simp) (hb:b<L.length:=by simp):VApp Tryz.prog L (.fn 71 [] []) [.ptr a 0,.ptr b 0] Q:=by
 refine qcj ?_
 rw[List.nil_append,List.append_nil]
 refine qbs [a,b] (qbf1 hs ht h1 h2) (by simp[hab]) ⟨⟨ha,rfl,by rw[h0];rfl⟩,⟨hb,rfl,by rw[h0'];rfl⟩,trivial⟩ rfl (by rfl) fun H1 o ho=>?_
 have e0:(L.set a (subE s)).set b (subE t)=L:=by
  rw[qcg h0 ha,qcg h0' hb]
 rw[newQ] at ho
 split at ho
 ·rename_i he
  rw[if_pos he] at hq
  obtain⟨rfl,rfl⟩:=ho
  have e1:qe7 L [a,b] ([subE s,subE t]++[subE (behR s t).1])=L++[subE (behR s t).1]:=by
   show((L.set a (subE s)).set b (subE t))++[subE (behR s t).1]=_
   rw[e0]
  rw[e1]
  show Q _ (.val (.tup [.ptr (L.length+(2-2)) 0,.int .i64 0]))
  exact hq
 ·rename_i he
  rw[if_neg he] at hq
  obtain⟨rfl,rfl⟩:=ho
  have e1:qe7 L [a,b] [subE s,subE t]=L:=by
   show((L.set a (subE s)).set b (subE t))++[]=_
   rw[e0,List.append_nil]
  rw[e1]
  exact hq
theorem qv{f:FuncId}{e e':Ent}{rest:List AV}{r:AV}(i:Nat)(h:VM Tryz.prog f e e' (.ptr 0 0::rest) r)(hrest:AV.bds 0 rest=true)(hr:r.bd 0=true)(hq:Q (L.set i e') (.val r))(hb:e.bd 0=true:=by rfl)(hb':e'.bd 0=true:=by rfl)(hi:i<L.length:=by simp)(he:ent L i=e:=by rfl):
 VApp Tryz.prog L (.fn f [] []) (.ptr i 0::rest) Q:=by
 refine qca i h hq hb hb' hi he hr ?_ ?_
 ·rw[List.append_nil,AV.rens,qp (m:=0) (fun j hj=>by omega) rest hrest];rfl
 ·rw[AV.bds,Bool.and_eq_true]
  exact⟨rfl,qdn (Nat.zero_le _) _ hrest⟩
theorem q2y{l:List Pr}(hs:smlR l)(hl:l.length≤100000)(e:newR l=s)(hq:Q (L++[subE s]) (.val (.ptr L.length 0))):VApp Tryz.prog L (.fn 39 [] []) [.sl 4 (qz l)] Q:=by
 subst e;exact qb1o hs hl hq
theorem q7z(a b:Nat){r:List Pr}(hs:okS s)(ht:okS t)(h1:s.length≤40000)(h2:t.length≤40000)(hab:a≠b)(he:behR s t=(r,0))(hq:Q (L++[subE r]) (.val (.tup [.ptr L.length 0,.int .i64 0])))
 (h0:ent L a=subE s:=by rfl) (h0':ent L b=subE t:=by rfl) (ha:a<L.length:=by simp) (hb:b<L.length:=by simp):VApp Tryz.prog L (.fn 71 [] []) [.ptr a 0,.ptr b 0] Q:=by
 refine qy6 a b hs ht h1 h2 hab ?_ h0 h0' ha hb
 rw[he,if_pos rfl]
 exact hq
theorem q48(a b:Nat){r:List Pr}{e:Int}(hs:okS s)(ht:okS t)(h1:s.length≤40000)(h2:t.length≤40000)(hab:a≠b)(he:behR s t=(r,e))(hne:e≠0)(hq:Q L (.val (.tup [.nilp,.int .i64 e])))
 (h0:ent L a=subE s:=by rfl) (h0':ent L b=subE t:=by rfl) (ha:a<L.length:=by simp) (hb:b<L.length:=by simp):VApp Tryz.prog L (.fn 71 [] []) [.ptr a 0,.ptr b 0] Q:=by
 refine qy6 a b hs ht h1 h2 hab ?_ h0 h0' ha hb
 rw[he,if_neg hne]
 exact hq
theorem qj2(hs:okS s)(hl:s.length≤100000){ty:Ty}(q1:szY ty≤20000)(q2:dpY ty≤300):VM Tryz.prog 53 (subE s) (subE s) [.ptr 0 0,encY ty] (typA (appR s ty)) :=
 qsf (b:=true) (R:=bunR (subH s)) (fun v=>qwl hs.1 hl v) hs q1 q2
end
def wT:Ty:=⟨[84],0,[]⟩
def wU:Ty:=⟨[85],0,[]⟩
def wV:Ty:=⟨[86],0,[]⟩
def wB:Ty:=⟨[],1,[]⟩
def wF:Ty:=⟨[45,62],0,[Y0,wB]⟩
def wR:Ty:=⟨[45,62],0,[wT,wB]⟩
def S1:List Pr:=[⟨0,wT⟩]
def S2:List Pr:=[⟨0,wT⟩,⟨1,Y0⟩]
def S3:List Pr:=[⟨0,wV⟩]
def S4:List Pr:=[⟨0,wT⟩,⟨1,wV⟩]
theorem w1:newR [⟨0,wT⟩,⟨0,wU⟩]=S1:=by rfl
theorem w3:newR [⟨0,wV⟩]=S3:=by rfl
theorem S1_ok:okS S1:=w1 ▸ qng _
theorem qcnu:okS S3:=w3 ▸ qng _
theorem w2:setR S1 1 Y0=(S2,0):=by rfl
theorem qb3y:okS S2:=by have:=qw3 S1_ok 1 Y0;rwa [w2] at this
theorem w4:behR S2 S3=(S4,0):=by rfl
theorem S4_ok:okS S4:=by have:=qu8 qb3y qcnu;rwa [w4] at this
theorem k0:VM Tryz.prog 53 (subE S1) (subE S1) [.ptr 0 0,encY wF] (.tup [encY wR,.int .i64 0]):=qj2 S1_ok (by decide) (ty:=wF) (by decide) (by decide)
theorem k1:VM Tryz.prog 69 (subE S1) (subE S1) [.ptr 0 0,.int .i64 0,encY wT] (.int .i64 6):=qkd S1_ok.1 (by decide) 0 (t:=wT) (by decide) (by decide)
theorem k2:VM Tryz.prog 69 (subE S1) (subE S2) [.ptr 0 0,.int .i64 1,encY Y0] (.int .i64 0):=qkd S1_ok.1 (by decide) 1 (t:=Y0) (by decide) (by decide)
theorem k4:VM Tryz.prog 123 (subE S4) (subE S4) [.ptr 0 0,.int .i64 1] (.tup [encY wV,.bool true]):=qwl S4_ok.1 (by decide) 1
theorem k5:VM Tryz.prog 81 (subE S2) (subE S2) [.ptr 0 0] (.sl 4 (qz S2)):=qfr (by decide) (qe6 qb3y)
theorem w6:qch0 [1] S2=[⟨1,Y0⟩]:=by rfl
theorem k6:VM Tryz.prog 81 (subE [⟨1,Y0⟩]) (subE [⟨1,Y0⟩]) [.ptr 0 0] (.sl 4 (qz [⟨1,Y0⟩])):=qfr (by decide) (qe6 (by have:=q9g qb3y [1];rwa [w6] at this))
theorem k7:qj Tryz.prog 38 [encY wR] (.str [84,32,45,62,32,98]):=qo6 (t:=wR) (by decide) (by decide) (by decide)
end Go.Proofs.YtkenggenkmfopaaGreat
