/- Texts of this proof, joined. -/
import Derived.Test.YtkenggenkmfopaaGreatIbu
import Derived.Test.YtkenggenkmfopaaGreatIbv
import Derived.Test.YtkenggenkmfopaaGreatIas
import Derived.Test.YtkenggenkmfopaaGreatIbd
set_option linter.unusedVariables false
set_option linter.unusedSimpArgs false

/- made one: the program's walk -/
set_option maxRecDepth 4000
namespace Go.Proofs.YtkenggenkmfopaaGreat
open Go Go.RowKit Go.V

theorem qwm{l:List Ty}(h:∀x∈l,szY x≤20000∧dpY x≤300):qp Tryz.prog 110 [.sl 3 (qh l)] (.bool (l.all qq)):=by
 refine qe c0fg (by simp) (by simp only[go_sem]) rfl fun hw=>?_
 have hl:l.length≤maxLen:=by have:=hw.1.1;rwa [qg] at this
 repeat'(first|refine vs_ ?_|((first|refine vr_ ?_|(refine cs_ ?_ ?_<;>intro hc)|refine cj_ ?_|simp (disch:=omega) only[qa,qc])<;>try refine ev_ ?_)|with_reducible exact ti_)
 refine qo (S:=Nat) (fun i=>i≤l.length∧(l.take i).all qq=true) (fun i=>(⟨[(5,.sl 3 (qh l)),(6,.int .i64 l.length),(7,.int .i64 i)],[]⟩,[])) (fun i=>l.length-i) ?_ fun i hi=>?_
 ·refine qj 0 [] ⟨Nat.zero_le _,rfl⟩ rfl (by simp) ?_ ?_ ?_<;>(try refine ev_ ?_)<;>(try with_reducible exact ti_)<;>(try simp (disch:=omega) only[qc,and_true,true_and])
 ·obtain⟨hi,ha⟩:=hi
  by_cases hlt:i<l.length
  ·have hg:=qbb hlt
   obtain⟨m1,m2⟩:=h _ (qcn hlt)
   have hL:=qee m1 m2
   have hnx:(l.take (i+1)).all qq=qq (l.getD i Y0):=by
    have h1:l.take (i+1)=l.take i++[l.getD i Y0]:=by
     rw[List.take_add_one,List.getD_eq_getElem?_getD,List.getElem?_eq_getElem hlt];rfl
    rw[h1,List.all_append,ha];simp
   cases hq:qq (l.getD i Y0) with
   | true =>
     rw[hq] at hL hnx
     repeat'(first|refine vs_ ?_|(refine vr_ ?_<;>try simp (disch:=first|omega|(simp only[List.length_set,List.length_append,List.length_cons,List.length_nil];try omega)) only[hg,qc,go_sem,↓reduceIte])|((first|simp (disch:=omega) only[hg]|(refine cs_ ?_ ?_<;>intro hc)|refine cj_ ?_|simp (disch:=omega) only[qa,qc]|refine qb hL fun _=>?_)<;>try refine ev_ ?_)|with_reducible exact ti_)
     all_goals try(exfalso;omega)
     refine qj (i+1) [] ⟨⟨by omega,hnx⟩,by omega⟩ rfl (by simp) ?_ ?_ ?_<;>(try refine ev_ ?_)<;>(try with_reducible exact ti_)<;>(try simp (disch:=omega) only[qc,and_true,true_and])
   | false =>
     rw[hq] at hL
     have hno:l.all qq=false:=by
      cases ht:l.all qq with
      | false=>rfl
      | true=>rw[List.all_eq_true.1 ht _ (qcn hlt)] at hq;cases hq
     rw[hno]
     repeat'(first|refine vs_ ?_|(refine vr_ ?_<;>try simp (disch:=first|omega|(simp only[List.length_set,List.length_append,List.length_cons,List.length_nil];try omega)) only[hg,qc,go_sem,↓reduceIte])|((first|simp (disch:=omega) only[hg]|(refine cs_ ?_ ?_<;>intro hc)|refine cj_ ?_|simp (disch:=omega) only[qa,qc]|refine qb hL fun _=>?_)<;>try refine ev_ ?_)|with_reducible exact ti_)
     all_goals try(exfalso;omega)
  ·have hie:i=l.length:=by omega
   subst hie
   rw[List.take_length] at ha
   rw[ha]
   repeat'(first|refine vs_ ?_|((first|refine vr_ ?_|(refine cs_ ?_ ?_<;>intro hc)|refine cj_ ?_|simp (disch:=omega) only[qa,qc])<;>try refine ev_ ?_)|with_reducible exact ti_)
   all_goals try(exfalso;omega)
def zW:AV:=.agg [.str [],.int .i64 0,.nils,.str [],.int .i64 0,.nils]
theorem qbbz{α:Type}:∀(A:List α) (k:Nat) (z x:α),(A++List.replicate (k+1) z).set A.length x=(A++[x])++List.replicate k z
 | [],k,z,x=>rfl
 | a :: A, k, z, x => by
   have:=qbbz A k z x
   simp only[List.cons_append,List.length_cons,List.set_cons_succ] at this ⊢
   rw[this]
def prE(l m:List Ty)(i:Nat):List AV:=qb2 ((l.zip m).take i)++List.replicate (l.length-i) zW
theorem qbs5{l m:List Ty}(h:l.length=m.length){i:Nat}(hi:i≤l.length):(prE l m i).length=l.length:=by
 rw[prE,List.length_append,List.length_replicate,qfz,List.length_take,List.length_zip];omega
theorem qbef{l m:List Ty}(h:l.length=m.length){i:Nat}(hi:i<l.length):(l.zip m).getD i W0=(l.getD i Y0,m.getD i Y0):=by
 have hm:i<m.length:=by omega
 rw[List.getD_eq_getElem?_getD,List.getElem?_eq_getElem (by rw[List.length_zip];omega),List.getElem_zip,List.getD_eq_getElem?_getD,List.getElem?_eq_getElem hi,List.getD_eq_getElem?_getD,List.getElem?_eq_getElem hm];rfl
theorem q2d{l:List (Ty×Ty)}{i:Nat}(h:i<l.length):l.take (i+1)=l.take i++[l.getD i W0]:=by
 rw[List.take_add_one,List.getD_eq_getElem?_getD,List.getElem?_eq_getElem h];rfl
theorem qbmg{l m:List Ty}(h:l.length=m.length){i:Nat}(hi:i<l.length):(prE l m i).set i (encW (l.getD i Y0,m.getD i Y0))=prE l m (i+1):=by
 have hz:i<(l.zip m).length:=by rw[List.length_zip];omega
 have hk:(qb2 ((l.zip m).take i)).length=i:=by rw[qfz,List.length_take];omega
 have:=qbbz (qb2 ((l.zip m).take i)) (l.length-(i+1)) zW (encW (l.getD i Y0,m.getD i Y0))
 rw[hk,show l.length-(i+1)+1=l.length-i by omega] at this
 rw[prE,this,prE,q2d hz,qbef h hi,qhw]
theorem qcav{l m:List Ty}(h:l.length=m.length):prE l m l.length=qb2 (l.zip m):=by
 rw[prE,Nat.sub_self,List.take_of_length_le (by rw[List.length_zip];omega)];simp
theorem qyo(l:List (Ty×Ty)):(qb2 l).all (fun e=>(e.isAgg||e.leaf)&&e.cells.all AV.leaf)=true:=by
 rw[qb2,List.all_map,List.all_eq_true]
 intro x _
 rfl
theorem q8p(k:Nat)(l m:List Ty)(i:Nat):AV.bds k (prE l m i)=true:=by
 rw[prE,qb6,List.all_append,←qb6,qde,Bool.true_and,List.all_replicate]
 simp[zW,AV.bd,AV.bds]
theorem q78(σ:Nat->Nat)(l m:List Ty)(i:Nat):AV.rens σ (prE l m i)=prE l m i:=qs (m:=0) (fun i hi=>by omega) _ (q8p 0 l m i)
set_option maxHeartbeats 1000000 in
theorem qw9{l m:List Ty}(h:l.length=m.length)(hl:l.length≤100000):qp Tryz.prog 210 [.sl 3 (qh l),.sl 3 (qh m)] (.sl 6 (qb2 (l.zip m))):=by
 refine qe c0fh (by simp) (by simp only[go_sem]) (by simp only[AV.bd,qde]) fun hw=>?_
 repeat'(first|refine vs_ ?_|((first|refine vr_ ?_|(refine cs_ ?_ ?_<;>intro hc)|refine cj_ ?_|simp (disch:=omega) only[qa,qc])<;>try refine ev_ ?_)|with_reducible exact ti_)
 refine⟨⟨by omega,by unfold maxLen;omega⟩,?_⟩
 repeat'(first|refine vs_ ?_|((first|refine vr_ ?_|(refine cs_ ?_ ?_<;>intro hc)|refine cj_ ?_|simp (disch:=omega) only[qa,qc])<;>try refine ev_ ?_)|with_reducible exact ti_)
 refine qo (S:=Nat) (fun i=>i≤l.length) (fun i=>(⟨[(0,.sl 3 (qh l)),(1,.sl 3 (qh m)),(5,.row 0 l.length),(11,.int .i64 l.length),(12,.int .i64 i)],[]⟩,[.mrow 6 (prE l m i)])) (fun i=>l.length-i) ?_ fun i hi=>?_
 ·refine qj 0 [0] (Nat.zero_le _) rfl (by simp) ?_ ?_ ?_<;>(try refine ev_ ?_)<;>(try with_reducible exact ti_)<;>(try simp (disch:=omega) only[qc,and_true,true_and])
  exact⟨q8p _ _ _ _,by rw[q78,prE,List.take_zero,Nat.sub_zero];rfl⟩
 ·have hpl:=qbs5 h hi
  by_cases hlt:i<l.length
  ·have hg:=qbb hlt
   have hg':=qbb (l:=m) (i:=i) (by omega)
   have hset:=qbmg h hlt
   repeat'(first|refine vs_ ?_|(refine vr_ ?_<;>try simp (disch:=first|omega|(simp only[List.length_set,List.length_append,List.length_cons,List.length_nil];try omega)) only[hg,hg',qc,hpl,go_sem,↓reduceIte])|((first|simp (disch:=omega) only[hg]|simp (disch:=omega) only[hg']|(refine cs_ ?_ ?_<;>intro hc)|refine cj_ ?_|simp (disch:=omega) only[qa,qc])<;>try refine ev_ ?_)|with_reducible exact ti_)
   all_goals try(exfalso;omega)
   refine qj (i+1) [0] ⟨by omega,by omega⟩ rfl (by simp) ?_ ?_ ?_<;>(try refine ev_ ?_)<;>(try with_reducible exact ti_)<;>(try simp (disch:=omega) only[qc,and_true,true_and])
   ·exact⟨q8p _ _ _ _,by rw[q78,←hset];rfl⟩
   ·rw[qz (by omega) (by omega),Int.natCast_add];rfl
  ·have hie:i=l.length:=by omega
   subst hie
   have hend:=qcav h
   rw[hend] at hpl ⊢
   refine qcfr 0 rfl (qyo _) ?_
   simp only[List.set_cons_zero]
   repeat'(first|refine vs_ ?_|(refine vr_ ?_<;>try simp only[hpl,go_sem,↓reduceIte])|((first|(refine cs_ ?_ ?_<;>intro hc)|refine cj_ ?_|simp (disch:=omega) only[qa,qc])<;>try refine ev_ ?_)|with_reducible exact ti_)
   all_goals try(exfalso;omega)
theorem q9a{s:List Pr}{v:Int}{t:Ty}(hc:t.con=[])(hv:t.var=v):VCalls Tryz.prog 209 [subE s] [.ptr 0 0,.int .i64 v,encY t] fun H' o=>H'=[subE s]∧o=.val (.tup [.ptr 0 0,.int .i64 0]):=by
 refine qd c0fi 1 (by simp) (by simp) ?_
 repeat'(first|refine vs_ ?_|(refine vr_ ?_<;>try simp only[hc,hv,go_sem,↓reduceIte])|((first|(refine cs_ ?_ ?_<;>intro hc)|refine cj_ ?_)<;>try refine ev_ ?_)|with_reducible exact ti_)
theorem q6i{s:List Pr}(hs:okS s)(hl:s.length≤40000){v:Int}{t:Ty}(ht:qq t=true)(hn:¬(t.con=[]∧t.var=v))(he:(bndU s v t).2≠0):VM Tryz.prog 209 (subE s) (subE s) [.ptr 0 0,.int .i64 v,encY t] (.tup [.nilp,.int .i64 (bndU s v t).2]):=by
 have hH:=qvd t v
 have hd:t.con=[]->decide (t.var=v)=false:=fun hc=>decide_eq_false fun hv=>hn ⟨hc,hv⟩
 by_cases hv:v∈varY t
 ·rw[decide_eq_true hv] at hH
  rw[bndU,if_neg hn,if_pos hv]
  refine qd c0fi 1 (by simp) (by simp) ?_
  repeat'(first|refine vs_ ?_|((first|refine vr_ ?_|refine qb hH fun _=>?_|(refine cs_ ?_ ?_<;>intro hc)|refine cj_ ?_)<;>try refine ev_ ?_)|with_reducible exact ti_)
  all_goals exact absurd ⟨by assumption,by assumption⟩ hn
 ·rw[decide_eq_false hv] at hH
  rw[bndU,if_neg hn,if_neg hv] at he ⊢
  have hnew:newR [⟨v,t⟩]=[⟨v,t⟩]:=by
   show(setR [] v t).1=_
   rw[setR,if_pos ht];rfl
  obtain⟨q,hq⟩:∃q,behR s [⟨v,t⟩]=q:=⟨_,rfl⟩
  obtain⟨r,e⟩:=q
  rw[hq] at he ⊢
  have hml:smlR [⟨v,t⟩]:=qgb (qfn ht)
  refine qd c0fi 1 (by simp) (by simp) ?_
  repeat'(first|refine vs_ ?_|((first|refine vr_ ?_|refine qb hH fun _=>?_|refine qbbl hml (by simp) hnew ?_|refine q4l 0 2 hs (qfn ht) hl (by simp) (by simp) hq he ?_|(refine cs_ ?_ ?_<;>intro hc)|refine cj_ ?_)<;>try refine ev_ ?_)|with_reducible exact ti_)
  all_goals exact absurd ⟨by assumption,by assumption⟩ hn
theorem qbg9{s r:List Pr}(hs:okS s)(hl:s.length≤40000){v:Int}{t:Ty}(ht:qq t=true)(hn:¬(t.con=[]∧t.var=v))(hv:v∉varY t)(he:behR s [⟨v,t⟩]=(r,0)):VCalls Tryz.prog 209 [subE s] [.ptr 0 0,.int .i64 v,encY t] fun H' o=>H'=[subE s,subE r]∧o=.val (.tup [.ptr 1 0,.int .i64 0]):=by
 have hH:=qvd t v
 rw[decide_eq_false hv] at hH
 have hnew:newR [⟨v,t⟩]=[⟨v,t⟩]:=by
  show(setR [] v t).1=_
  rw[setR,if_pos ht];rfl
 have hml:smlR [⟨v,t⟩]:=qgb (qfn ht)
 refine qd c0fi 2 (by simp) (by simp) ?_
 unfold k0fi
 refine qij (qil ?_)
 (refine ev_ ?_;(try with_reducible exact ti_))
 refine qks (S:=Unit) (fun _=>True) (fun _=>(⟨[(0,.ptr 0 0),(1,.int .i64 v),(5,.ptr 1 0)],[]⟩,[subE s,.blk (yc t)])) ?_ fun _ _=>?_
 ·repeat'(first|refine vs_ ?_|((first|refine vr_ ?_|refine qb hH fun _=>?_|(refine cs_ ?_ ?_<;>intro hc)|refine cj_ ?_)<;>try refine ev_ ?_)|with_reducible exact ti_)
  ·exact absurd ⟨by assumption,by assumption⟩ hn
  all_goals(refine qj () [0,1] trivial rfl (by simp) ?_ ?_ ?_<;>(try refine ev_ ?_)<;>(try with_reducible exact ti_)<;>(try simp (disch:=omega) only[qc,and_true,true_and]))
 refine qks (S:=Unit) (fun _=>True) (fun _=>(⟨[(6,.ptr 1 0),(7,.int .i64 0)],[]⟩,[subE s,subE r])) ?_ fun _ _=>?_
 ·repeat'(first|refine vs_ ?_|((first|refine vr_ ?_|refine qbbl hml (by simp) hnew ?_|refine qba9 0 2 hs (qfn ht) hl (by simp) (by simp) he ?_|(refine cs_ ?_ ?_<;>intro hc)|refine cj_ ?_)<;>try refine ev_ ?_)|with_reducible exact ti_)
  refine qj () [0,3] trivial rfl (by simp) ?_ ?_ ?_<;>(try refine ev_ ?_)<;>(try with_reducible exact ti_)<;>(try simp (disch:=omega) only[qc,and_true,true_and])
 ·repeat'(first|refine vs_ ?_|((first|refine vr_ ?_|(refine cs_ ?_ ?_<;>intro hc)|refine cj_ ?_)<;>try refine ev_ ?_)|with_reducible exact ti_)
section
variable {L:List Ent} {Q:List Ent->VO->Prop} {s:List Pr}
inductive BndQ(s:List Pr)(v:Int)(t:Ty):Prop
 | same (h1:t.con=[]) (h2:t.var=v) (h:bndU s v t=(s,0))
 | no (h:(bndU s v t).2≠0) (h':(bndU s v t).1=[]) (hn:¬(t.con=[]∧t.var=v))
 | new (r:List Pr) (h:behR s [⟨v,t⟩]=(r,0)) (hn:¬(t.con=[]∧t.var=v)) (hv:v∉varY t) (h':bndU s v t=(r,0))
theorem qt3{s:List Pr}(hs:okS s)(v:Int){t:Ty}(ht:qq t=true):BndQ s v t:=by
 by_cases hn:t.con=[]∧t.var=v
 ·exact .same hn.1 hn.2 (by rw[bndU,if_pos hn])
 by_cases hv:v∈varY t
 ·have:bndU s v t=([],15):=by rw[bndU,if_neg hn,if_pos hv]
  exact .no (by rw[this];decide) (by rw[this]) hn
 have h1:bndU s v t=behR s [⟨v,t⟩]:=by rw[bndU,if_neg hn,if_neg hv]
 rcases qblr hs (qfn (v:=v) ht) with h0 | ⟨h0,h0'⟩
 ·exact .new (behR s [⟨v,t⟩]).1 (Prod.ext rfl h0) hn hv (by rw[h1];exact Prod.ext rfl h0)
 ·exact .no (by rw[h1,h0];decide) (by rw[h1,h0']) hn
theorem qbf8{v:Int}{t:Ty}(h1:t.con=[])(h2:t.var=v)(hq:Q L (.val (.tup [.ptr 0 0,.int .i64 0])))(he:ent L 0=subE s:=by rfl)(hl:0<L.length:=by simp):VApp Tryz.prog L (.fn 209 [] []) [.ptr 0 0,.int .i64 v,encY t] Q:=by
 refine qb1 ?_
 rw[List.nil_append,List.append_nil]
 refine qbr [0] (q9a h1 h2) (by simp) ⟨⟨hl,rfl,by rw[he];rfl⟩,trivial⟩ (by simp only[AV.bds,AV.bd,q8,Bool.and_true];rfl) (by simp only[AV.rens,AV.ren,qgk];rfl) fun H1 o ho=>?_
 obtain⟨rfl,rfl⟩:=ho
 have e1:qds L [0] [subE s]=L:=by
  show(L.set 0 (subE s))++[]=_
  rw[List.append_nil,qcs he hl]
 rw[e1]
 exact hq
theorem qy1{r:List Pr}(hs:okS s)(hl':s.length≤40000){v:Int}{t:Ty}(ht:qq t=true)(hn:¬(t.con=[]∧t.var=v))(hv:v∉varY t)(h:behR s [⟨v,t⟩]=(r,0))(hq:Q (L++[subE r]) (.val (.tup [.ptr L.length 0,.int .i64 0])))(he:ent L 0=subE s:=by rfl)(hl:0<L.length:=by simp):VApp Tryz.prog L (.fn 209 [] []) [.ptr 0 0,.int .i64 v,encY t] Q:=by
 refine qb1 ?_
 rw[List.nil_append,List.append_nil]
 refine qbr [0] (qbg9 hs hl' ht hn hv h) (by simp) ⟨⟨hl,rfl,by rw[he];rfl⟩,trivial⟩ (by simp only[AV.bds,AV.bd,q8,Bool.and_true];rfl) (by simp only[AV.rens,AV.ren,qgk];rfl) fun H1 o ho=>?_
 obtain⟨rfl,rfl⟩:=ho
 have e1:qds L [0] [subE s,subE r]=L++[subE r]:=by
  show(L.set 0 (subE s))++[subE r]=_
  rw[qcs he hl]
 rw[e1]
 show Q _ (.val (.tup [.ptr (L.length+(1-1)) 0,.int .i64 0]))
 exact hq
end
set_option maxRecDepth 4000

section
variable {s:List Pr} {a b A B:Ty} {bb:Bool} {L:List (Ty×Ty)}
theorem vm_A(hs:okS s)(hl:s.length≤40000)(ha:qq a=true){A:Ty}{e:Int}(hA:appR s a=(A,e)):VM Tryz.prog 53 (subE s) (subE s) [.ptr 0 0,encY a] (.tup [encY A,.int .i64 e]):=by
 have z:=(qbc _).1 ha
 have h:=qs0 hs (by omega) (show szY a≤20000 by omega) (by omega)
 rw[hA] at h
 exact h
theorem bY(t:Ty):AV.bds 0 [encY t]=true:=by simp only[AV.bds,q8,Bool.and_true]
theorem bYi(t:Ty)(e:Int):AV.bd 0 (.tup [encY t,.int .i64 e])=true:=by simp only[AV.bds,AV.bd,q8,Bool.and_true]
theorem qb1g(hs:okS s)(hl:s.length≤40000)(ha:qq a=true){e:Int}(hA:appR s a=(A,e))(he:e≠0):VCalls Tryz.prog 161 [subE s,stkE bb L] [.ptr 0 0,encW (a,b),.ptr 1 0] fun H' o=>H'=[subE s,stkE bb L]∧o=.val (.tup [.nilp,.int .i64 e]):=by
 have f1:=vm_A hs hl ha hA
 have hd:decide (e=0)=false:=decide_eq_false he
 refine qd c0ff 2 (by simp) (by simp) ?_
 repeat'(first|refine vs_ ?_|(refine vr_ ?_<;>try simp only[hd,decide_false,go_sem,↓reduceIte])|((first|(refine cs_ ?_ ?_<;>intro hc)|refine cj_ ?_|fail|refine qx 0 f1 (bY _) (bYi _ _) ?_)<;>try refine ev_ ?_)|with_reducible exact ti_)
theorem qbmp(hs:okS s)(hl:s.length≤40000)(ha:qq a=true)(hb:qq b=true){e:Int}(hA:appR s a=(A,0))(hB:appR s b=(B,e))(he:e≠0):VCalls Tryz.prog 161 [subE s,stkE bb L] [.ptr 0 0,encW (a,b),.ptr 1 0] fun H' o=>H'=[subE s,stkE bb L]∧o=.val (.tup [.nilp,.int .i64 e]):=by
 have f1:=vm_A hs hl ha hA
 have f2:=vm_A hs hl hb hB
 have hd:decide (e=0)=false:=decide_eq_false he
 refine qd c0ff 2 (by simp) (by simp) ?_
 repeat'(first|refine vs_ ?_|(refine vr_ ?_<;>try simp only[hd,decide_false,go_sem,↓reduceIte])|((first|(refine cs_ ?_ ?_<;>intro hc)|refine cj_ ?_|fail|refine qx 0 f1 (bY _) (bYi _ _) ?_|refine qx 0 f2 (bY _) (bYi _ _) ?_)<;>try refine ev_ ?_)|with_reducible exact ti_)
theorem q4q(hs:okS s)(hl:s.length≤40000)(ha:qq a=true)(hb:qq b=true)(hA:appR s a=(A,0))(hB:appR s b=(B,0))(c1:A.con≠[])(c2:B.con≠[])(c3:A.con=B.con)(c4:A.args.length=B.args.length)(hAl:A.args.length≤5000)(hLl:L.length≤50000000)(hbb:bb=false->L=[]):
 VCalls Tryz.prog 161 [subE s,stkE bb L] [.ptr 0 0,encW (a,b),.ptr 1 0] fun H' o=>H'=[subE s,stkE (bb||decide (A.args.zip B.args≠[])) (L++(A.args.zip B.args).reverse)]∧o=.val (.tup [.ptr 0 0,.int .i64 0]):=by
 have f1:=vm_A hs hl ha hA
 have f2:=vm_A hs hl hb hB
 have fp:=qw9 c4 (by omega)
 have fq:=q0a bb L (A.args.zip B.args) hbb (by rw[List.length_zip];omega)
 have hbw:AV.bds 0 [.sl 6 (qb2 (A.args.zip B.args))]=true:=by simp only[AV.bds,AV.bd,qde,Bool.and_true]
 refine qd c0ff 2 (by simp) (by simp) ?_
 repeat'(first|refine vs_ ?_|(refine vr_ ?_<;>try simp only[c1,c2,go_sem,↓reduceIte])|((first|(refine cs_ ?_ ?_<;>intro hc)|refine cj_ ?_|fail|refine qx 0 f1 (bY _) (bYi _ _) ?_|refine qx 0 f2 (bY _) (bYi _ _) ?_|refine qb fp fun _=>?_|refine qx 1 fq hbw rfl ?_)<;>try refine ev_ ?_)|with_reducible exact ti_)
 ·exact absurd c3 (by assumption)
 ·exfalso;omega
theorem qbep(hs:okS s)(hl:s.length≤40000)(ha:qq a=true)(hb:qq b=true)(hA:appR s a=(A,0))(hB:appR s b=(B,0))(c1:A.con≠[])(c2:B.con≠[])(c3:¬(A.con=B.con∧A.args.length=B.args.length)):
 VCalls Tryz.prog 161 [subE s,stkE bb L] [.ptr 0 0,encW (a,b),.ptr 1 0] fun H' o=>H'=[subE s,stkE bb L]∧o=.val (.tup [.nilp,.int .i64 14]):=by
 have f1:=vm_A hs hl ha hA
 have f2:=vm_A hs hl hb hB
 refine qd c0ff 2 (by simp) (by simp) ?_
 repeat'(first|refine vs_ ?_|(refine vr_ ?_<;>try simp only[c1,c2,go_sem,↓reduceIte])|((first|(refine cs_ ?_ ?_<;>intro hc)|refine cj_ ?_|fail|refine qx 0 f1 (bY _) (bYi _ _) ?_|refine qx 0 f2 (bY _) (bYi _ _) ?_)<;>try refine ev_ ?_)|with_reducible exact ti_)
 exact absurd ⟨by assumption,by omega⟩ c3
theorem q5i(hs:okS s)(hl:s.length≤40000)(ha:qq a=true)(hb:qq b=true)(hA:appR s a=(A,0))(hB:appR s b=(B,0))(c1:A.con=[])(c2:B.con=[])(c3:B.var=A.var):
 VCalls Tryz.prog 161 [subE s,stkE bb L] [.ptr 0 0,encW (a,b),.ptr 1 0] fun H' o=>H'=[subE s,stkE bb L]∧o=.val (.tup [.ptr 0 0,.int .i64 0]):=by
 have f1:=vm_A hs hl ha hA
 have f2:=vm_A hs hl hb hB
 refine qd c0ff 2 (by simp) (by simp) ?_
 repeat'(first|refine vs_ ?_|(refine vr_ ?_<;>try simp only[c1,go_sem,↓reduceIte])|((first|(refine cs_ ?_ ?_<;>intro hc)|refine cj_ ?_|fail|refine qx 0 f1 (bY _) (bYi _ _) ?_|refine qx 0 f2 (bY _) (bYi _ _) ?_|refine qbf8 (s:=s) c2 c3 ?_)<;>try refine ev_ ?_)|with_reducible exact ti_)
theorem qbe6(hs:okS s)(hl:s.length≤40000)(ha:qq a=true)(hb:qq b=true)(hA:appR s a=(A,0))(hB:appR s b=(B,0))(hBl:qq B=true)(c1:A.con=[])(hn:¬(B.con=[]∧B.var=A.var))(he:(bndU s A.var B).2≠0):
 VCalls Tryz.prog 161 [subE s,stkE bb L] [.ptr 0 0,encW (a,b),.ptr 1 0] fun H' o=>H'=[subE s,stkE bb L]∧o=.val (.tup [.nilp,.int .i64 (bndU s A.var B).2]):=by
 have f1:=vm_A hs hl ha hA
 have f2:=vm_A hs hl hb hB
 have fn:=q6i hs hl hBl hn he
 have hbv:AV.bds 0 [.int .i64 A.var,encY B]=true:=by simp only[AV.bds,AV.bd,q8,Bool.and_true]
 refine qd c0ff 2 (by simp) (by simp) ?_
 repeat'(first|refine vs_ ?_|(refine vr_ ?_<;>try simp only[c1,go_sem,↓reduceIte])|((first|(refine cs_ ?_ ?_<;>intro hc)|refine cj_ ?_|fail|refine qx 0 f1 (bY _) (bYi _ _) ?_|refine qx 0 f2 (bY _) (bYi _ _) ?_|refine qx 0 fn hbv rfl ?_)<;>try refine ev_ ?_)|with_reducible exact ti_)
theorem qbfx(hs:okS s)(hl:s.length≤40000)(ha:qq a=true)(hb:qq b=true)(hA:appR s a=(A,0))(hB:appR s b=(B,0))(hAl:qq A=true)(c1:A.con≠[])(c2:B.con=[])(he:(bndU s B.var A).2≠0):
 VCalls Tryz.prog 161 [subE s,stkE bb L] [.ptr 0 0,encW (a,b),.ptr 1 0] fun H' o=>H'=[subE s,stkE bb L]∧o=.val (.tup [.nilp,.int .i64 (bndU s B.var A).2]):=by
 have f1:=vm_A hs hl ha hA
 have f2:=vm_A hs hl hb hB
 have fn:=q6i hs hl hAl (fun h=>c1 h.1) he
 have hbv:AV.bds 0 [.int .i64 B.var,encY A]=true:=by simp only[AV.bds,AV.bd,q8,Bool.and_true]
 refine qd c0ff 2 (by simp) (by simp) ?_
 repeat'(first|refine vs_ ?_|(refine vr_ ?_<;>try simp only[c1,c2,go_sem,↓reduceIte])|((first|(refine cs_ ?_ ?_<;>intro hc)|refine cj_ ?_|fail|refine qx 0 f1 (bY _) (bYi _ _) ?_|refine qx 0 f2 (bY _) (bYi _ _) ?_|refine qx 0 fn hbv rfl ?_)<;>try refine ev_ ?_)|with_reducible exact ti_)
theorem q89{r:List Pr}(hs:okS s)(hl:s.length≤40000)(ha:qq a=true)(hb:qq b=true)(hA:appR s a=(A,0))(hB:appR s b=(B,0))(hBl:qq B=true)(c1:A.con=[])(hn:¬(B.con=[]∧B.var=A.var))(hv:A.var∉varY B)(he:behR s [⟨A.var,B⟩]=(r,0)):
 VCalls Tryz.prog 161 [subE s,stkE bb L] [.ptr 0 0,encW (a,b),.ptr 1 0] fun H' o=>H'=[subE s,stkE bb L,subE r]∧o=.val (.tup [.ptr 2 0,.int .i64 0]):=by
 have f1:=vm_A hs hl ha hA
 have f2:=vm_A hs hl hb hB
 refine qd c0ff 3 (by simp) (by simp) ?_
 repeat'(first|refine vs_ ?_|(refine vr_ ?_<;>try simp only[c1,go_sem,↓reduceIte])|((first|(refine cs_ ?_ ?_<;>intro hc)|refine cj_ ?_|fail|refine qx 0 f1 (bY _) (bYi _ _) ?_|refine qx 0 f2 (bY _) (bYi _ _) ?_)<;>try refine ev_ ?_)|with_reducible exact ti_)
 refine qy1 (s:=s) hs hl hBl hn hv he ?_
 (refine ev_ ?_;(try with_reducible exact ti_))
 refine qrk (af':=⟨[(6,.ptr 2 0),(7,.int .i64 0)],[]⟩) (H':=[subE s,stkE bb L,subE r]) ?_ (qsu [0,1,5] rfl (by simp) ?_ ?_ ?_)
 ·repeat'(first|refine vs_ ?_|((first|refine vr_ ?_|(refine cs_ ?_ ?_<;>intro hc)|refine cj_ ?_)<;>try refine ev_ ?_)|with_reducible exact ti_)
 all_goals(try(refine ev_ ?_;(try with_reducible exact ti_)))
theorem q8x{r:List Pr}(hs:okS s)(hl:s.length≤40000)(ha:qq a=true)(hb:qq b=true)(hA:appR s a=(A,0))(hB:appR s b=(B,0))(hAl:qq A=true)(c1:A.con≠[])(c2:B.con=[])(hv:B.var∉varY A)(he:behR s [⟨B.var,A⟩]=(r,0)):
 VCalls Tryz.prog 161 [subE s,stkE bb L] [.ptr 0 0,encW (a,b),.ptr 1 0] fun H' o=>H'=[subE s,stkE bb L,subE r]∧o=.val (.tup [.ptr 2 0,.int .i64 0]):=by
 have f1:=vm_A hs hl ha hA
 have f2:=vm_A hs hl hb hB
 refine qd c0ff 3 (by simp) (by simp) ?_
 repeat'(first|refine vs_ ?_|(refine vr_ ?_<;>try simp only[c1,c2,go_sem,↓reduceIte])|((first|(refine cs_ ?_ ?_<;>intro hc)|refine cj_ ?_|fail|refine qx 0 f1 (bY _) (bYi _ _) ?_|refine qx 0 f2 (bY _) (bYi _ _) ?_)<;>try refine ev_ ?_)|with_reducible exact ti_)
 refine qy1 (s:=s) hs hl hAl (fun h=>c1 h.1) hv he ?_
 (refine ev_ ?_;(try with_reducible exact ti_))
 refine qrk (af':=⟨[(6,.ptr 2 0),(7,.int .i64 0)],[]⟩) (H':=[subE s,stkE bb L,subE r]) ?_ (qsu [0,1,5] rfl (by simp) ?_ ?_ ?_)
 ·repeat'(first|refine vs_ ?_|((first|refine vr_ ?_|(refine cs_ ?_ ?_<;>intro hc)|refine cj_ ?_)<;>try refine ev_ ?_)|with_reducible exact ti_)
 all_goals(try(refine ev_ ?_;(try with_reducible exact ti_)))
inductive StepQ(s:List Pr)(bb:Bool)(L:List (Ty×Ty))(a b:Ty)(q:(List Pr×Int)×List (Ty×Ty)):Prop
 | no (he:q.1.2≠0) (h:VCalls Tryz.prog 161 [subE s,stkE bb L] [.ptr 0 0,encW (a,b),.ptr 1 0] fun H' o=>H'=[subE s,stkE bb L]∧o=.val (.tup [.nilp,.int .i64 q.1.2]))
 | same (he:q.1=(s,0)) (h:VCalls Tryz.prog 161 [subE s,stkE bb L] [.ptr 0 0,encW (a,b),.ptr 1 0] fun H' o=>H'=[subE s,stkE (bb||decide (q.2≠[])) (L++q.2.reverse)]∧o=.val (.tup [.ptr 0 0,.int .i64 0]))
 | new (he:q.1.2=0) (hz:q.2=[]) (h:VCalls Tryz.prog 161 [subE s,stkE bb L] [.ptr 0 0,encW (a,b),.ptr 1 0] fun H' o=>H'=[subE s,stkE bb L,subE q.1.1]∧o=.val (.tup [.ptr 2 0,.int .i64 0]))
theorem q2h(hs:okS s)(hl:s.length≤40000)(ha:qq a=true)(hb:qq b=true)(hLl:L.length≤50000000)(hbb:bb=false->L=[]):StepQ s bb L a b (stpU s a b):=by
 rw[stpU]
 by_cases e1:(appR s a).2=0
 case neg =>
  rw[if_neg e1]
  exact .no e1 (qb1g hs hl ha (A:=(appR s a).1) rfl e1)
 rw[if_pos e1]
 have hA:appR s a=((appR s a).1,0):=Prod.ext rfl e1
 by_cases e2:(appR s b).2=0
 case neg =>
  rw[if_neg e2]
  exact .no e2 (qbmp hs hl ha hb hA (B:=(appR s b).1) rfl e2)
 rw[if_pos e2]
 have hB:appR s b=((appR s b).1,0):=Prod.ext rfl e2
 have hAl:qq (appR s a).1=true:=by obtain⟨_,h1,h2⟩:=qdl hs e1;rw[h2];exact h1
 have hBl:qq (appR s b).1=true:=by obtain⟨_,h1,h2⟩:=qdl hs e2;rw[h2];exact h1
 generalize (appR s a).1=A at hA hAl ⊢
 generalize (appR s b).1=B at hB hBl ⊢
 rw[hdU]
 by_cases c1:A.con=[]
 ·rw[if_pos c1]
  cases qt3 hs A.var hBl with
  | same h1 h2 h =>
    rw[h]
    refine .same rfl ?_
    have:=q5i (bb:=bb) (L:=L) hs hl ha hb hA hB c1 h1 h2
    simpa using this
  | no h h' hn =>
    exact .no h (qbe6 hs hl ha hb hA hB hBl c1 hn h)
  | new r h hn hv h' =>
    rw[h']
    exact .new rfl rfl (q89 hs hl ha hb hA hB hBl c1 hn hv h)
 rw[if_neg c1]
 by_cases c2:B.con=[]
 ·rw[if_pos c2]
  cases qt3 hs B.var hAl with
  | same h1 h2 h=>exact absurd h1 c1
  | no h h' hn=>exact .no h (qbfx hs hl ha hb hA hB hAl c1 c2 h)
  | new r h hn hv h' =>
    rw[h']
    exact .new rfl rfl (q8x hs hl ha hb hA hB hAl c1 c2 hv h)
 rw[if_neg c2]
 by_cases c3:A.con=B.con∧A.args.length=B.args.length
 ·rw[if_pos c3]
  have hz:A.args.length≤5000:=by
   have h1:=((qbc _).1 hAl).1
   have h2:=qjv A.args
   rw[qll] at h1
   omega
  exact .same rfl (q4q hs hl ha hb hA hB c1 c2 c3.1 c3.2 hz hLl hbb)
 ·rw[if_neg c3]
  exact .no (by decide) (qbep hs hl ha hb hA hB c1 c2 c3)
end
set_option maxRecDepth 4000

section
variable {H:List Ent} {Q:List Ent->VO->Prop} {s r:List Pr} {a b:Ty} {bb bc:Bool} {L K:List (Ty×Ty)}
theorem qclt{e:Int}(h:VCalls Tryz.prog 161 [subE s,stkE bb L] [.ptr 0 0,encW (a,b),.ptr 1 0] fun H' o=>H'=[subE s,stkE bb L]∧o=.val (.tup [.nilp,.int .i64 e]))(hq:Q H (.val (.tup [.nilp,.int .i64 e])))(h0:ent H 0=subE s:=by rfl)(h1:ent H 1=stkE bb L:=by rfl)(hl:1<H.length:=by simp):VApp Tryz.prog H (.fn 161 [] []) [.ptr 0 0,encW (a,b),.ptr 1 0] Q:=by
 refine qb1 ?_
 rw[List.nil_append,List.append_nil]
 refine qbr [0,1] h (by simp) ⟨⟨by omega,rfl,by rw[h0];rfl⟩,⟨hl,rfl,by rw[h1];rfl⟩,trivial⟩ (by simp only[AV.bds,AV.bd,qg6,Bool.and_true];rfl) (by simp only[AV.rens,AV.ren,ql8];rfl) fun H1 o ho=>?_
 obtain⟨rfl,rfl⟩:=ho
 have e1:qds H [0,1] [subE s,stkE bb L]=H:=by
  show((H.set 0 (subE s)).set 1 (stkE bb L))++[]=_
  rw[List.append_nil,qcs h0 (by omega),qcs h1 hl]
 rw[e1]
 exact hq
theorem qbxl(h:VCalls Tryz.prog 161 [subE s,stkE bb L] [.ptr 0 0,encW (a,b),.ptr 1 0] fun H' o=>H'=[subE s,stkE bc K]∧o=.val (.tup [.ptr 0 0,.int .i64 0]))(hq:Q (H.set 1 (stkE bc K)) (.val (.tup [.ptr 0 0,.int .i64 0])))(h0:ent H 0=subE s:=by rfl)(h1:ent H 1=stkE bb L:=by rfl)(hl:1<H.length:=by simp):VApp Tryz.prog H (.fn 161 [] []) [.ptr 0 0,encW (a,b),.ptr 1 0] Q:=by
 refine qb1 ?_
 rw[List.nil_append,List.append_nil]
 refine qbr [0,1] h (by simp) ⟨⟨by omega,rfl,by rw[h0];rfl⟩,⟨hl,rfl,by rw[h1];rfl⟩,trivial⟩ (by simp only[AV.bds,AV.bd,qg6,Bool.and_true];rfl) (by simp only[AV.rens,AV.ren,ql8];rfl) fun H1 o ho=>?_
 obtain⟨rfl,rfl⟩:=ho
 have e1:qds H [0,1] [subE s,stkE bc K]=H.set 1 (stkE bc K):=by
  show((H.set 0 (subE s)).set 1 (stkE bc K))++[]=_
  rw[List.append_nil,qcs h0 (by omega)]
 rw[e1]
 exact hq
theorem qckp(h:VCalls Tryz.prog 161 [subE s,stkE bb L] [.ptr 0 0,encW (a,b),.ptr 1 0] fun H' o=>H'=[subE s,stkE bb L,subE r]∧o=.val (.tup [.ptr 2 0,.int .i64 0]))(hq:Q (H++[subE r]) (.val (.tup [.ptr H.length 0,.int .i64 0])))(h0:ent H 0=subE s:=by rfl)(h1:ent H 1=stkE bb L:=by rfl)(hl:1<H.length:=by simp):VApp Tryz.prog H (.fn 161 [] []) [.ptr 0 0,encW (a,b),.ptr 1 0] Q:=by
 refine qb1 ?_
 rw[List.nil_append,List.append_nil]
 refine qbr [0,1] h (by simp) ⟨⟨by omega,rfl,by rw[h0];rfl⟩,⟨hl,rfl,by rw[h1];rfl⟩,trivial⟩ (by simp only[AV.bds,AV.bd,qg6,Bool.and_true];rfl) (by simp only[AV.rens,AV.ren,ql8];rfl) fun H1 o ho=>?_
 obtain⟨rfl,rfl⟩:=ho
 have e1:qds H [0,1] [subE s,stkE bb L,subE r]=H++[subE r]:=by
  show((H.set 0 (subE s)).set 1 (stkE bb L))++[subE r]=_
  rw[qcs h0 (by omega),qcs h1 hl]
 rw[e1]
 show Q _ (.val (.tup [.ptr (H.length+(2-2)) 0,.int .i64 0]))
 exact hq
end
def svSt(x:Nat×List Pr×Bool×List (Ty×Ty)):AF×List Ent:=(⟨[(4,.ptr 0 0),(6,.ptr 1 0)],[]⟩,[subE x.2.1,stkE x.2.2.1 x.2.2.2.reverse])
set_option maxHeartbeats 1000000 in
theorem qyq{V:List Int}(hV:V.length≤10000){l:List (Ty×Ty)}(hl:l.length≤100000)(hI:Inv V [] l){n:Nat}{q:List Pr×Int}(hq:slvU n [] l=some q):VCalls Tryz.prog 111 [] [.sl 6 (qb2 l)] (newQ [] q):=by
 have fp:=q0a false [] l (fun _=>rfl) (by simp only[List.length_nil];omega)
 rw[List.nil_append,Bool.false_or] at fp
 have hbw:AV.bds 0 [.sl 6 (qb2 l)]=true:=by simp only[AV.bds,AV.bd,qde,Bool.and_true]
 have main:∀k,(q.2=0->k=1)->(q.2≠0->k=0)->VCalls Tryz.prog 111 [] [.sl 6 (qb2 l)] (newQ [] q):=fun k hk1 hk0=>by
  refine qd c0fe k (by simp) (by simp) ?_
  unfold k0fe
  refine qij (qil ?_)
  (refine ev_ ?_;(try with_reducible exact ti_))
  refine qks (S:=Unit) (fun _=>True) (fun _=>(⟨[(0,.sl 6 (qb2 l)),(4,.ptr 0 0)],[]⟩,[subE []])) ?_ fun _ _=>?_
  ·repeat'(first|refine vs_ ?_|((first|refine vr_ ?_|refine qjw qri rfl rfl ?_|(refine cs_ ?_ ?_<;>intro hc)|refine cj_ ?_)<;>try refine ev_ ?_)|with_reducible exact ti_)
   refine qj () [0] trivial rfl (by simp) ?_ ?_ ?_<;>(try refine ev_ ?_)<;>(try with_reducible exact ti_)<;>(try simp (disch:=omega) only[qc,and_true,true_and])
  refine qks (S:=Unit) (fun _=>True) (fun _=>(⟨[(0,.sl 6 (qb2 l)),(4,.ptr 0 0),(6,.ptr 1 0)],[]⟩,[subE [],.blk [.nils]])) ?_ fun _ _=>?_
  ·repeat'(first|refine vs_ ?_|((first|refine vr_ ?_|(refine cs_ ?_ ?_<;>intro hc)|refine cj_ ?_)<;>try refine ev_ ?_)|with_reducible exact ti_)
   refine qj () [0,1] trivial rfl (by simp) ?_ ?_ ?_<;>(try refine ev_ ?_)<;>(try with_reducible exact ti_)<;>(try simp (disch:=omega) only[qc,and_true,true_and])
  refine qyh 1 rfl rfl ?_
  simp only[List.set_cons_succ,List.set_cons_zero]
  repeat'(first|refine vs_ ?_|((first|refine vr_ ?_|refine qx 1 fp hbw rfl ?_|(refine cs_ ?_ ?_<;>intro hc)|refine cj_ ?_)<;>try refine ev_ ?_)|with_reducible exact ti_)
  refine qo (S:=Nat×List Pr×Bool×List (Ty×Ty)) (fun x=>slvU x.1 x.2.1 x.2.2.2=some q∧Inv V x.2.1 x.2.2.2∧Bd l.length x.2.1 x.2.2.2∧(x.2.2.1=false->x.2.2.2=[])) svSt (fun x=>x.1) ?_ ?_
  ·refine qj (n,[],decide (l≠[]),l) [0,1] ⟨hq,hI,⟨[],l,rfl,by simp[wtU],by simp⟩,fun h=>by simpa using h⟩ rfl (by simp) ?_ ?_ ?_<;>simp only[svSt]<;>(try refine ev_ ?_)<;>(try with_reducible exact ti_)<;>(try simp (disch:=omega) only[qc,and_true,true_and])
  ·rintro⟨n,s,bb,st⟩ ⟨i1,i2,i3,i4⟩
   dsimp only at i1 i2 i3 i4
   unfold svSt
   dsimp only
   have hsl:=i2.len
   have hbl:=qcec i3
   cases st with
   | nil =>
     rw[qmf] at i1
     simp only[Option.some.injEq] at i1
     subst i1
     have hk:=hk1 rfl
     subst hk
     have f0:=qbkb bb
     have hb0:AV.bd 0 (.tup [encW W0,.bool false])=true:=qwt 0 W0 false
     rw[List.reverse_nil]
     repeat'(first|refine vs_ ?_|((first|refine vr_ ?_|refine qx 1 f0 rfl hb0 ?_|(refine cs_ ?_ ?_<;>intro hc)|refine cj_ ?_)<;>try refine ev_ ?_)|with_reducible exact ti_)
     rw[newQ,if_pos rfl];exact⟨rfl,rfl⟩
   | cons x st =>
     obtain⟨a,b⟩:=x
     have hbb:bb=true:=by
      cases bb with
      | true=>rfl
      | false=>exact absurd (i4 rfl) (by simp)
     subst hbb
     rw[List.length_cons] at hbl
     have f0:=qcbv st.reverse (a,b) (by rw[List.length_reverse];omega)
     have hb0:AV.bd 0 (.tup [encW (a,b),.bool true])=true:=qwt 0 (a,b) true
     obtain⟨ha,hb⟩:=i2.leg (a,b) (by simp)
     obtain⟨m,rfl⟩:∃m,n=m+1:=by
      cases n with
      | zero=>simp[slvU] at i1
      | succ m=>exact⟨m,rfl⟩
     rw[slvU] at i1
     dsimp only at i1
     have hc:=qu4 i2
     have hst:=q2h (bb:=true) (L:=st.reverse) i2.ok (by omega) ha hb (by rw[List.length_reverse];omega) (fun h=>by cases h)
     have hnx:(stpU s a b).1.2=0->Inv V (stpU s a b).1.1 ((stpU s a b).2++st)∧Bd l.length (stpU s a b).1.1 ((stpU s a b).2++st):=fun h0=>⟨(qsq i2 hc h0).1,qb95 i2 i3 hc h0⟩
     generalize stpU s a b=z at i1 hst hnx
     rw[List.reverse_cons]
     cases hst with
     | no he h =>
       rw[if_neg he] at i1
       simp only[Option.some.injEq] at i1
       subst i1
       have hk:=hk0 he
       subst hk
       dsimp only at he hk0 hk1
       have hd:decide (z.1.2=0)=false:=decide_eq_false he
       repeat'(first|refine vs_ ?_|(refine vr_ ?_<;>try simp only[hd,decide_false,go_sem,↓reduceIte])|((first|(refine cs_ ?_ ?_<;>intro hc)|refine cj_ ?_|fail|refine qx 1 f0 rfl hb0 ?_|refine qclt h ?_)<;>try refine ev_ ?_)|with_reducible exact ti_)
       rw[newQ,if_neg he];exact⟨rfl,rfl⟩
     | same he h =>
       obtain⟨⟨z1,z2⟩,z3⟩:=z
       dsimp only at he
       cases he
       rw[if_pos rfl] at i1
       obtain⟨j1,j2⟩:=hnx rfl
       repeat'(first|refine vs_ ?_|((first|refine vr_ ?_|refine qx 1 f0 rfl hb0 ?_|refine qbxl h ?_|(refine cs_ ?_ ?_<;>intro hc)|refine cj_ ?_)<;>try refine ev_ ?_)|with_reducible exact ti_)
       refine qj (m,s,(true||decide (z3≠[])),z3++st) [0,1] ⟨⟨i1,j1,j2,fun h=>by simp at h⟩,Nat.lt_succ_self m⟩ rfl (by simp) ?_ ?_ ?_<;>simp only[svSt,List.reverse_append]<;>(try refine ev_ ?_)<;>(try with_reducible exact ti_)<;>(try simp (disch:=omega) only[qc,and_true,true_and])
     | new he hz h =>
       obtain⟨⟨z1,z2⟩,z3⟩:=z
       dsimp only at he hz
       subst he hz
       rw[if_pos rfl] at i1
       obtain⟨j1,j2⟩:=hnx rfl
       repeat'(first|refine vs_ ?_|((first|refine vr_ ?_|refine qx 1 f0 rfl hb0 ?_|refine qckp h ?_|(refine cs_ ?_ ?_<;>intro hc)|refine cj_ ?_)<;>try refine ev_ ?_)|with_reducible exact ti_)
       refine qj (m,z1,true,[]++st) [3,1] ⟨⟨i1,j1,j2,fun h=>by simp at h⟩,Nat.lt_succ_self m⟩ rfl (by simp) ?_ ?_ ?_<;>simp only[svSt,List.nil_append]<;>(try refine ev_ ?_)<;>(try with_reducible exact ti_)<;>(try simp (disch:=omega) only[qc,and_true,true_and])
 by_cases he:q.2=0
 ·exact main 1 (fun _=>rfl) (fun h=>absurd he h)
 ·exact main 0 (fun h=>absurd h he) (fun _=>rfl)
end Go.Proofs.YtkenggenkmfopaaGreat
