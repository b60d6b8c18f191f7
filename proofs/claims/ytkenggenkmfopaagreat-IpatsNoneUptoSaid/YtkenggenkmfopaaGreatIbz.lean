/- A text of this proof. -/
import Derived.Test.YtkenggenkmfopaaGreatIbb
import Derived.Test.YtkenggenkmfopaaGreatIbq
import Derived.Test.YtkenggenkmfopaaGreatIby
set_option linter.unusedVariables false
set_option linter.unusedSimpArgs false

/- patterns' types: the values; variables, numbers -/
set_option maxRecDepth 4000
namespace Go.Proofs.YtkenggenkmfopaaGreat
open Go Go.RowKit Go.V

def qdn(x:List UInt8×Ty):AV:=.agg [.str x.1,.sl 1 [],.str x.2.con,.int .i64 x.2.var,.sl 3 (qh x.2.args)]
def qf3(l:List (List UInt8×Ty)):List AV:=l.map qdn
theorem qma(k:Nat)(x:List UInt8×Ty):(qdn x).bd k=true:=by simp only[qdn,AV.bd,AV.bds,qbd,Bool.and_true]
theorem qha(k:Nat)(l:List (List UInt8×Ty)):AV.bds k (qf3 l)=true:=by rw[qf3,qb6,List.all_map,List.all_eq_true];exact fun x _=>qma k x
theorem q3z(σ:Nat->Nat)(l:List (List UInt8×Ty)):AV.rens σ (qf3 l)=qf3 l:=qs (m:=0) (fun i hi=>by omega) _ (qha 0 l)
theorem q48(σ:Nat->Nat)(x:List UInt8×Ty):(qdn x).ren σ=qdn x:=ren_same (m:=0) (fun i hi=>by omega) _ (qma 0 x)
theorem q1f(l:List (List UInt8×Ty)):(qf3 l).length=l.length:=by simp[qf3]
abbrev qbay(t:Ty)(ns:List (List UInt8×Ty))(u:Tm):List AV:=[.str t.con,.int .i64 t.var,.sl 3 (qh t.args),.sl 5 (qf3 ns),.int .i64 u.kind,.int .i64 u.num,.str u.name,.sl 1 (ints u.vars),.sl 3 (qh u.types),.sl 6 (Go.Proofs.YtkenggenkmfopaaGreat.encTs u.kids)]
def qgj(t:Ty)(ns:List (List UInt8×Ty))(u:Tm):AV:=.agg (qbay t ns u)
def qip(t:Ty)(ns:List (List UInt8×Ty))(u:Tm)(b:Bool):AV:=.tup [qgj t ns u,.bool b]
theorem qsc(k:Nat)(t:Ty)(ns:List (List UInt8×Ty))(u:Tm):(qgj t ns u).bd k=true:=by simp only[qgj,AV.bd,AV.bds,qbd,qha,qe2,Go.Proofs.YtkenggenkmfopaaGreat.encTs_bd,Bool.and_true]
theorem qi6(k:Nat)(t:Ty)(ns:List (List UInt8×Ty))(u:Tm)(b:Bool):(qip t ns u b).bd k=true:=by simp only[qip,AV.bd,AV.bds,qsc,Bool.and_true]
theorem qbbg(σ:Nat->Nat)(t:Ty)(ns:List (List UInt8×Ty))(u:Tm):(qgj t ns u).ren σ=qgj t ns u:=ren_same (m:=0) (fun i hi=>by omega) _ (qsc 0 t ns u)
theorem qyg(t:Ty)(ns:List (List UInt8×Ty))(u:Tm):(qgj t ns u).cells=qbay t ns u:=rfl
theorem q5k(t:Ty)(ns:List (List UInt8×Ty))(u:Tm):(qgj t ns u).isAgg=true:=rfl
theorem qsb(t:Ty)(ns:List (List UInt8×Ty))(u:Tm):(qgj t ns u).leaf=false:=rfl
theorem qbjm(H:List Ent)(t:Ty)(ns:List (List UInt8×Ty))(u:Tm):co H (.agg [.id,.id,.sl 3,.sl 5,.id,.id,.id,.sl 1,.sl 3,.sl 6]) (qgj t ns u)=qgj t ns u:=by unfold qgj;simp only[qef,qcf,qcx,qgq,qcj]
theorem q3b(t:Ty)(ns:List (List UInt8×Ty))(u:Tm):rdCo (.agg [.id,.id,.sl 3,.sl 5,.id,.id,.id,.sl 1,.sl 3,.sl 6]) (qgj t ns u)=[]:=by unfold qgj;simp only[qce,qbi,qbq,qdh,qbk,List.append_nil]
theorem qbcf(b:Bool)(n off:Nat)(t:Ty)(ns:List (List UInt8×Ty))(u:Tm):fldv b n off (qgj t ns u)=ldc b n off (qbay t ns u):=rfl
attribute [go_sem] qma qha q3z q48 q1f qbay qsc qbbg qyg q5k qsb qbjm q3b qbcf
def DS38:List Da:=[⟨[66,111,111,108],0,[⟨[70,97,108,115,101],[]⟩,⟨[84,114,117,101],[]⟩]⟩,⟨[73,110,116],0,[]⟩,⟨[77],1,[⟨[78],[]⟩,⟨[74],[Y0]⟩]⟩]
def EV:AV:=.agg [.sl 3 (qbv DS38),.sl 3 [],.sl 4 []]
theorem qit(k:Nat):EV.bd k=true:=by simp only[EV,AV.bd,AV.bds,qf5,Bool.and_true]
theorem qcha(σ:Nat->Nat):EV.ren σ=EV:=ren_same (m:=0) (fun i hi=>by omega) _ (qit 0)
theorem qbkr:EV.cells=[.sl 3 (qbv DS38),.sl 3 [],.sl 4 []]:=rfl
theorem qci2:EV.isAgg=true:=rfl
theorem q14:EV.leaf=false:=rfl
theorem qclk(H:List Ent):co H (.agg [.sl 3,.sl 3,.sl 4]) EV=EV:=by unfold EV;simp only[qef,qcf,qcx,qcj]
theorem qbze:rdCo (.agg [.sl 3,.sl 3,.sl 4]) EV=[]:=by unfold EV;simp only[qce,qbi,qbq,qbk,List.append_nil]
theorem qb2f:AV.agg [.sl 3 (qbv DS38),.sl 3 [],.sl 4 []]=EV:=rfl
attribute [go_sem] qit qcha qbkr qci2 q14 qclk qbze qb2f
section
variable {L:List Ent} {Q:List Ent->VO->Prop} {f:FuncId} {e e':Ent} {a b r:AV}
theorem qn5(i:Nat)(h:VM Tryz.prog f e e' [a,.ptr 0 0,b] r)(ha:a.bd 0=true)(hb:b.bd 0=true)(hr:r.bd 0=true)(hq:Q (L.set i e') (.val r))(he1:e.bd 0=true:=by rfl)(he2:e'.bd 0=true:=by rfl)(hi:i<L.length:=by simp)(he:ent L i=e:=by rfl):
 VApp Tryz.prog L (.fn f [] []) [a,.ptr i 0,b] Q:=by
 refine qcw i h hq he1 he2 hi he hr ?_ ?_
 ·have h1:a.ren (sg [i])=a:=ren_same (m:=0) (fun j hj=>by omega) a ha
  have h2:b.ren (sg [i])=b:=ren_same (m:=0) (fun j hj=>by omega) b hb
  rw[List.append_nil]
  simp only[AV.rens,h1,h2]
  rfl
 ·simp only[AV.bds,AV.bd,qgg (Nat.zero_le 1) _ ha,qgg (Nat.zero_le 1) _ hb];rfl
end
def newV(S:SS):Ty:=.mk [] (IntKind.i64.wrap (0-IntKind.i64.wrap (S.vars+1))) []
theorem qcik{S:SS}{n:N}(hk:n.kind=11):VM Tryz.prog 65 (stE S) (stE (varS S)) [EV,.ptr 0 0,enc n] (qip (newV S) [(n.text,newV S)] (.mk 21 0 n.text [] [] []) true):=by
 refine qd c0di 1 (by simp) (by simp) ?_
 have hkd:decide (n.kind=11)=true:=decide_eq_true hk
 have h1:VM Tryz.prog 21 (stE S) (stE (varS S)) [.ptr 0 0] (encY (newV S)):=q5v S
 generalize newV S=v at *
 repeat'(first|refine vs_ ?_|(refine vr_ ?_<;>try simp only[hkd,go_sem,↓reduceIte])|((first|(refine cs_ ?_ ?_<;>intro hc)|refine cj_ ?_|fail|refine qx 0 h1 rfl (q8 0 _) ?_)<;>try refine ev_ ?_)|with_reducible exact ti_)
 all_goals rfl
theorem qck0{S:SS}{n:N}(hk:n.kind=13):VM Tryz.prog 65 (stE S) (stE S) [EV,.ptr 0 0,enc n] (qip (.mk [73,110,116] 0 []) [] (.mk 23 n.num [] [] [] []) true):=by
 refine qd c0di 1 (by simp) (by simp) ?_
 have k1:decide (n.kind=11)=false:=decide_eq_false (by omega)
 have k2:decide (n.kind=12)=false:=decide_eq_false (by omega)
 have k3:decide (n.kind=13)=true:=decide_eq_true hk
 repeat'(first|refine vs_ ?_|(refine vr_ ?_<;>try simp only[k1,k2,k3,go_sem,↓reduceIte])|((first|(refine cs_ ?_ ?_<;>intro hc)|refine cj_ ?_)<;>try refine ev_ ?_)|with_reducible exact ti_)
 all_goals rfl
/-! a constructor's pattern -/
def T38:Ty:=.mk [45,62] 0 [Y0,.mk [77] 0 [Y0]]
theorem q3h:qp Tryz.prog 150 [EV,.str [74]] (.tup [.agg [.sl 1 (ints [0]),.str T38.con,.int .i64 T38.var,.sl 3 (qh T38.args)],.bool true]):=by
 have h:=q2l (ds:=qbv DS38) (cs:=[]) (is:=[]) (l:=DS38) (nm:=[74]) (d:=⟨[77],1,[⟨[78],[]⟩,⟨[74],[Y0]⟩]⟩) (k:=1) rfl rfl rfl rfl (by decide) rfl (by decide)
 have e:putT [] [] (funY [Y0] (ofY [77]))=T38:=rfl
 have h2:qp Tryz.prog 150 [EV,.str [74]] (plA (putT [] [] (funY [Y0] (ofY [77])))):=h
 rw[e] at h2
 exact h2
theorem qkl:qp Tryz.prog 151 [encY T38] (.tup [.sl 3 [encY Y0],encY (.mk [77] 0 [Y0])]):=by
 have h:=qnl (t:=T38) (by decide)
 have e:splA (splY T38)=.tup [.sl 3 [encY Y0],encY (.mk [77] 0 [Y0])]:=rfl
 rwa [e] at h
def mY(v:Ty):Ty:=.mk [77] 0 [v]
theorem q7d(v:Ty):qp Tryz.prog 83 [encY T38,.sl 1 (ints [0]),.sl 3 [encY v]] (encY (.mk [45,62] 0 [v,mY v])):=by
 have h:=qeu [0] [v] T38 (by decide)
 have e:putT [0] [v] T38=.mk [45,62] 0 [v,mY v]:=rfl
 have e2:qh [v]=[encY v]:=by rw[qh,qh]
 rw[e,e2] at h
 exact h
theorem qcdg(v:Ty)(hd:dpY v≤1000)(hs:splY (.mk [45,62] 0 [v,mY v])=([v],mY v)):qp Tryz.prog 151 [encY (.mk [45,62] 0 [v,mY v])] (.tup [.sl 3 [encY v],encY (mY v)]):=by
 have h:=qnl (t:=.mk [45,62] 0 [v,mY v]) (by simp only[dpY,dpYs,mY];omega)
 rw[hs] at h
 have e:splA ([v],mY v)=.tup [.sl 3 [encY v],encY (mY v)]:=by rw[splA,qh,qh]
 rwa [e] at h
theorem qlq(l:List Tm):∀v∈Go.Proofs.YtkenggenkmfopaaGreat.encTs l,v.flat:=fun v hv=>by
 rw[Go.Proofs.YtkenggenkmfopaaGreat.encTs_map] at hv
 obtain⟨t,_,rfl⟩:=List.mem_map.1 hv
 exact .inl ⟨Go.Proofs.YtkenggenkmfopaaGreat.encT_agg t,by rw[Go.Proofs.YtkenggenkmfopaaGreat.encT_cells];rfl⟩
abbrev conF(s:Ent)(n:N)(c:List AV):List Ent:=[s,.blk [.sl 3 (qbv DS38),.sl 3 [],.sl 4 []],.blk (enc n).cells,.blk [.str [],.int .i64 0,.nils,.nils,.int .i64 0,.int .i64 0,.str [],.nils,.nils,.nils],.blk c]
abbrev conE(s:Ent)(n:N)(x:AV):List Ent:=[s,.blk [.sl 3 (qbv DS38),.sl 3 [],.sl 4 []],.blk (enc n).cells,.blk [.str [],.int .i64 0,.nils,.nils,.int .i64 0,.int .i64 0,.str [],.nils,.nils,.nils],.blk [.sl 1 (ints [0]),.str T38.con,.int .i64 T38.var,.sl 3 (qh T38.args)],.blk (yc (.mk [77] 0 [Y0])),.mrow 3 [x]]
set_option maxHeartbeats 2000000 in
theorem q8v{S S2 S3:SS}{n k:N}{t:Ty}{u:Tm}(hT:n.text=[74])(hks:n.kids=[k])
 (hat:VM Tryz.prog 65 (stE (varS S)) (stE S2) [EV,.ptr 0 0,enc k] (qip t [] u true))
 (hU:VM Tryz.prog 12 (stE S2) (stE S3) [.ptr 0 0,encY (newV S),encY t,.int .i64 k.pos] (.bool true)) :
 VM Tryz.prog 98 (stE S) (stE S3) [EV,.ptr 0 0,enc n] (qip (mY (newV S)) [] (.mk 24 0 [74] [] [] [u]) true):=by
 refine qd c0dh 1 (by simp) (by simp) ?_
 have h1:VM Tryz.prog 21 (stE S) (stE (varS S)) [.ptr 0 0] (encY (newV S)):=q5v S
 have hdv:dpY (newV S)≤1000:=(by decide:1≤1000)
 have hsp:splY (.mk [45,62] 0 [newV S,mY (newV S)])=([newV S],mY (newV S)):=rfl
 generalize newV S=v at *
 have hk1:(n.kids.length:Int)=1:=by rw[hks];rfl
 have hS2:=qcdg v hdv hsp
 have hP:=q7d v
 unfold k0dh
 generalize hz1:IC.seq (IC.seq qw6 _) _=z1
 repeat'(first|refine vs_ ?_|(refine vr_ ?_<;>try simp only[hT,hk1,List.length_singleton,List.length_cons,List.length_nil,go_sem,↓reduceIte])|((first|(refine cs_ ?_ ?_<;>intro hc)|refine cj_ ?_|simp (disch:=omega) only[qa,qc]|refine qb q3h fun _=>?_|refine qb qkl fun _=>?_|refine qf q3h ?_|refine qf qkl ?_)<;>try refine ev_ ?_)|with_reducible exact ti_)
 refine⟨⟨by omega,by omega,by unfold maxLen;omega⟩,?_⟩
 subst hz1
 generalize hz2:IC.seq qqv _=z2
 repeat'(first|refine vs_ ?_|((first|refine vr_ ?_|(refine cs_ ?_ ?_<;>intro hc)|refine cj_ ?_|simp (disch:=omega) only[qa,qc])<;>try refine ev_ ?_)|with_reducible exact ti_)
 refine⟨by unfold maxLen;omega,?_⟩
 repeat'(first|refine vs_ ?_|((first|refine vr_ ?_|(refine cs_ ?_ ?_<;>intro hc)|refine cj_ ?_|simp (disch:=omega) only[qa,qc])<;>try refine ev_ ?_)|with_reducible exact ti_)
 refine qo (S:=Nat) (fun i=>i≤1) (fun i=>(⟨[(1,.ptr 0 0),(3,.ptr 1 0),(5,.ptr 2 0),(6,.ptr 3 0),(8,.ptr 4 0),(12,.row 6 1),(58,.int .i64 1),(59,.int .i64 i)],[]⟩,conE (if i=0 then stE S else stE (varS S)) n (if i=0 then zY else encY v))) (fun i=>1-i) ?_ fun i hi=>?_
 ·refine qj 0 [0,1,2,3,4,5,6] (Nat.zero_le _) rfl (by simp) ?_ ?_ ?_<;>simp only[if_true]<;>(try refine ev_ ?_)<;>(try with_reducible exact ti_)<;>(try simp (disch:=omega) only[qc,and_true,true_and])
  exact⟨by rw[hT],rfl,rfl⟩
 by_cases hi0:i=0
 ·subst hi0
  simp only[if_true]
  repeat'(first|refine vs_ ?_|(refine vr_ ?_<;>try simp (disch:=first|omega|(simp only[List.length_set,List.length_append,List.length_cons,List.length_nil];try omega)) only[Int.reduceLT,qc,go_sem,↓reduceIte])|((first|(refine cs_ ?_ ?_<;>intro hc)|refine cj_ ?_|simp (disch:=omega) only[qa,qc]|refine qx 0 h1 rfl (q8 0 _) ?_)<;>try refine ev_ ?_)|with_reducible exact ti_)
  all_goals try(exfalso;omega)
  refine qj 1 [0,1,2,3,4,5,6] ⟨by omega,by omega⟩ rfl (by simp) ?_ ?_ ?_<;>(try refine ev_ ?_)<;>(try with_reducible exact ti_)<;>(try simp (disch:=omega) only[qc,and_true,true_and])
  all_goals rfl
 have hi1:i=1:=by omega
 subst hi1
 simp only[Nat.one_ne_zero,if_false]
 repeat'(first|refine vs_ ?_|(refine vr_ ?_<;>try simp only[Int.reduceLT,go_sem,↓reduceIte])|((first|(refine cs_ ?_ ?_<;>intro hc)|refine cj_ ?_|simp (disch:=omega) only[qa,qc])<;>try refine ev_ ?_)|with_reducible exact ti_)
 all_goals try(exfalso;omega)
 subst hz2
 refine qcp 6 rfl (fun x hx=>?_) ?_
 ·rw[List.mem_singleton] at hx;subst hx;exact .inl ⟨qi9 _,by rw[qh3];rfl⟩
 generalize hz3:IC.seq (IC.seq qsd _) _=z3
 repeat'(first|refine vs_ ?_|(refine vr_ ?_<;>try simp only[hT,go_sem,↓reduceIte])|((first|(refine cs_ ?_ ?_<;>intro hc)|refine cj_ ?_|simp (disch:=omega) only[qa,qc]|refine qb hP fun _=>?_|refine qb hS2 fun _=>?_|refine qf hP ?_|refine qf hS2 ?_)<;>try refine ev_ ?_)|with_reducible exact ti_)
 subst hz3
 generalize hz5:IC.seq qq9 _=z5
 have hk0:(encs n.kids).getD 0 .junk=enc k:=by rw[hks];rfl
 repeat'(first|refine vs_ ?_|((first|refine vr_ ?_|(refine cs_ ?_ ?_<;>intro hc)|refine cj_ ?_|simp (disch:=omega) only[qa,qc])<;>try refine ev_ ?_)|with_reducible exact ti_)
 refine qo (S:=Nat) (fun i=>i≤1) (fun i=>(⟨[(1,.ptr 0 0),(3,.ptr 1 0),(5,.ptr 2 0),(6,.ptr 3 0),(14,.sl 3 [encY v]),(16,.ptr 4 0),(17,.bool true),(84,.sl 5 (encs n.kids)),(85,.int .i64 1),(86,.int .i64 i)],[]⟩,conF (if i=0 then stE (varS S) else stE S3) n (if i=0 then [.str (mY v).con,.int .i64 (mY v).var,.sl 3 (qh (mY v).args),.nils,.int .i64 24,.int .i64 0,.str [74],.nils,.nils,.nils] else qbay (mY v) [] (.mk 24 0 [74] [] [] [u])))) (fun i=>1-i) ?_ fun i hi=>?_
 ·refine qj 0 [0,1,2,3,8] (Nat.zero_le _) rfl (by simp) ?_ ?_ ?_<;>simp only[if_true]<;>(try refine ev_ ?_)<;>(try with_reducible exact ti_)<;>(try simp (disch:=omega) only[qc,and_true,true_and])
  ·rw[hT]
  ·rw[hk1]
 by_cases hi0:i=0
 ·subst hi0
  simp only[if_true]
  have c1:qbe 1 104=True:=eq_true (by unfold qbe;omega)
  have hat':VM Tryz.prog 65 (stE (varS S)) (stE S2) [EV,.ptr 0 0,enc k] (.tup [qgj t [] u,.bool true]):=hat
  have hbU:AV.bds 0 [encY v,encY t,.int .i64 k.pos]=true:=by simp only[AV.bds,AV.bd,q8];rfl
  unfold qqw
  generalize hz4:qsp=z4
  have hne:(qf3 []).length=0:=rfl
  have hne0:qf3 []=[]:=rfl
  repeat'(first|refine vs_ ?_|(refine vr_ ?_<;>try simp (disch:=first|omega|(simp only[List.length_set,List.length_append,List.length_cons,List.length_nil];try omega)) only[Int.reduceLT,qc,hk0,c1,hne0,List.length_nil,go_sem,↓reduceIte])|((first|simp (disch:=omega) only[hk0]|(refine cs_ ?_ ?_<;>intro hc)|refine cj_ ?_|simp (disch:=omega) only[qa,qc]|refine qn5 0 hat' (qit 0) (qc8 0 _) (qi6 0 _ _ _ _) ?_|refine qzq 0 hU hbU rfl ?_)<;>try refine ev_ ?_)|with_reducible exact ti_)
  subst hz4
  have eu:Go.Proofs.YtkenggenkmfopaaGreat.encTs [u]=[Go.Proofs.YtkenggenkmfopaaGreat.encT u]:=by rw[Go.Proofs.YtkenggenkmfopaaGreat.encTs,Go.Proofs.YtkenggenkmfopaaGreat.encTs]
  rw[←eu]
  refine qcp 7 rfl (qlq [u]) ?_
  simp only[List.set_cons_succ,List.set_cons_zero]
  refine qdy 4 9 (.sl 6) rfl ?_
  refine qdy 4 8 (.sl 3) rfl ?_
  refine qdy 4 7 (.sl 1) rfl ?_
  refine qdy 4 3 (.sl 5) rfl ?_
  have hul:(Go.Proofs.YtkenggenkmfopaaGreat.encTs [u]).length=1:=by rw[eu];rfl
  simp only[List.getD_cons_succ,List.getD_cons_zero,List.set_cons_succ,List.set_cons_zero,co,ent,hul,hne,if_true]
  repeat'(first|refine vs_ ?_|(refine vr_ ?_<;>try simp (disch:=first|omega|(simp only[List.length_set,List.length_append,List.length_cons,List.length_nil];try omega)) only[qc,go_sem,↓reduceIte])|((first|(refine cs_ ?_ ?_<;>intro hc)|refine cj_ ?_|simp (disch:=omega) only[qa,qc])<;>try refine ev_ ?_)|with_reducible exact ti_)
  refine qj 1 [0,1,2,3,4] ⟨by omega,by omega⟩ rfl (by simp) ?_ ?_ ?_<;>(try refine ev_ ?_)<;>(try with_reducible exact ti_)<;>(try simp (disch:=omega) only[qc,and_true,true_and])
  all_goals rfl
 have hi1:i=1:=by omega
 subst hi1
 simp only[Nat.one_ne_zero,if_false]
 repeat'(first|refine vs_ ?_|(refine vr_ ?_<;>try simp only[Int.reduceLT,go_sem,↓reduceIte])|((first|(refine cs_ ?_ ?_<;>intro hc)|refine cj_ ?_|simp (disch:=omega) only[qa,qc])<;>try refine ev_ ?_)|with_reducible exact ti_)
 all_goals try(exfalso;omega)
 subst hz5
 repeat'(first|refine vs_ ?_|((first|refine vr_ ?_|(refine cs_ ?_ ?_<;>intro hc)|refine cj_ ?_|simp (disch:=omega) only[qa,qc])<;>try refine ev_ ?_)|with_reducible exact ti_)
 all_goals rfl
def qh9(k:Nat)(t:Ty)(u:Tm):AV:=.agg [.str t.con,.int .i64 t.var,.sl 3 (qh t.args),.row k 1,.int .i64 u.kind,.int .i64 u.num,.str u.name,.sl 1 (ints u.vars),.sl 3 (qh u.types),.sl 6 (Go.Proofs.YtkenggenkmfopaaGreat.encTs u.kids)]
theorem q5l(σ:Nat->Nat)(k:Nat)(t:Ty)(u:Tm):(qh9 k t u).ren σ=qh9 (σ k) t u:=by simp only[qh9,AV.ren,AV.rens,qda,qj0,Go.Proofs.YtkenggenkmfopaaGreat.encTs_ren]
def crSt(S S3:SS)(n:N)(v:Ty)(p:List UInt8×Ty)(u:Tm):Nat->AF×List Ent
 | 0=>(⟨[(1,.ptr 0 0),(3,.ptr 1 0),(5,.ptr 2 0),(6,.ptr 3 0),(14,.sl 3 [encY v]),(16,.ptr 4 0),(17,.bool true),(84,.sl 5 (encs n.kids)),(85,.int .i64 1),(86,.int .i64 0)],[]⟩,conF (stE (varS S)) n [.str (mY v).con,.int .i64 (mY v).var,.sl 3 (qh (mY v).args),.nils,.int .i64 24,.int .i64 0,.str [74],.nils,.nils,.nils])
 | i+1=>(⟨[(1,.ptr 0 0),(3,.ptr 2 0),(5,.ptr 3 0),(6,.ptr 4 0),(14,.sl 3 [encY v]),(16,.ptr 5 0),(17,.bool true),(84,.sl 5 (encs n.kids)),(85,.int .i64 1),(86,.int .i64 (i+1))],[]⟩,[stE S3,.mrow 5 [qdn p],.blk [.sl 3 (qbv DS38),.sl 3 [],.sl 4 []],.blk (enc n).cells,.blk [.str [],.int .i64 0,.nils,.nils,.int .i64 0,.int .i64 0,.str [],.nils,.nils,.nils],.blk [.str (mY v).con,.int .i64 (mY v).var,.sl 3 (qh (mY v).args),.row 1 1,.int .i64 24,.int .i64 0,.str [74],.sl 1 [],.sl 3 [],.sl 6 (Go.Proofs.YtkenggenkmfopaaGreat.encTs [u])]])
set_option maxHeartbeats 2000000 in
theorem qb3o{S S2 S3:SS}{n k:N}{t:Ty}{p:List UInt8×Ty}{u:Tm}(hT:n.text=[74])(hks:n.kids=[k])
 (hat:VM Tryz.prog 65 (stE (varS S)) (stE S2) [EV,.ptr 0 0,enc k] (qip t [p] u true))
 (hU:VM Tryz.prog 12 (stE S2) (stE S3) [.ptr 0 0,encY (newV S),encY t,.int .i64 k.pos] (.bool true)) :
 VCalls Tryz.prog 98 [stE S] [EV,.ptr 0 0,enc n] fun H' o=>H'=[stE S3,.mrow 5 [qdn p]]∧o=.val (.tup [qh9 1 (mY (newV S)) (.mk 24 0 [74] [] [] [u]),.bool true]):=by
 refine qd c0dh 2 (by simp) (by simp) ?_
 have h1:VM Tryz.prog 21 (stE S) (stE (varS S)) [.ptr 0 0] (encY (newV S)):=q5v S
 have hdv:dpY (newV S)≤1000:=(by decide:1≤1000)
 have hsp:splY (.mk [45,62] 0 [newV S,mY (newV S)])=([newV S],mY (newV S)):=rfl
 generalize newV S=v at *
 have hk1:(n.kids.length:Int)=1:=by rw[hks];rfl
 have hS2:=qcdg v hdv hsp
 have hP:=q7d v
 unfold k0dh
 generalize hz1:IC.seq (IC.seq qw6 _) _=z1
 repeat'(first|refine vs_ ?_|(refine vr_ ?_<;>try simp only[hT,hk1,List.length_singleton,List.length_cons,List.length_nil,go_sem,↓reduceIte])|((first|(refine cs_ ?_ ?_<;>intro hc)|refine cj_ ?_|simp (disch:=omega) only[qa,qc]|refine qb q3h fun _=>?_|refine qb qkl fun _=>?_|refine qf q3h ?_|refine qf qkl ?_)<;>try refine ev_ ?_)|with_reducible exact ti_)
 refine⟨⟨by omega,by omega,by unfold maxLen;omega⟩,?_⟩
 subst hz1
 generalize hz2:IC.seq qqv _=z2
 repeat'(first|refine vs_ ?_|((first|refine vr_ ?_|(refine cs_ ?_ ?_<;>intro hc)|refine cj_ ?_|simp (disch:=omega) only[qa,qc])<;>try refine ev_ ?_)|with_reducible exact ti_)
 refine⟨by unfold maxLen;omega,?_⟩
 repeat'(first|refine vs_ ?_|((first|refine vr_ ?_|(refine cs_ ?_ ?_<;>intro hc)|refine cj_ ?_|simp (disch:=omega) only[qa,qc])<;>try refine ev_ ?_)|with_reducible exact ti_)
 refine qo (S:=Nat) (fun i=>i≤1) (fun i=>(⟨[(1,.ptr 0 0),(3,.ptr 1 0),(5,.ptr 2 0),(6,.ptr 3 0),(8,.ptr 4 0),(12,.row 6 1),(58,.int .i64 1),(59,.int .i64 i)],[]⟩,conE (if i=0 then stE S else stE (varS S)) n (if i=0 then zY else encY v))) (fun i=>1-i) ?_ fun i hi=>?_
 ·refine qj 0 [0,1,2,3,4,5,6] (Nat.zero_le _) rfl (by simp) ?_ ?_ ?_<;>simp only[if_true]<;>(try refine ev_ ?_)<;>(try with_reducible exact ti_)<;>(try simp (disch:=omega) only[qc,and_true,true_and])
  exact⟨by rw[hT],rfl,rfl⟩
 by_cases hi0:i=0
 ·subst hi0
  simp only[if_true]
  repeat'(first|refine vs_ ?_|(refine vr_ ?_<;>try simp (disch:=first|omega|(simp only[List.length_set,List.length_append,List.length_cons,List.length_nil];try omega)) only[Int.reduceLT,qc,go_sem,↓reduceIte])|((first|(refine cs_ ?_ ?_<;>intro hc)|refine cj_ ?_|simp (disch:=omega) only[qa,qc]|refine qx 0 h1 rfl (q8 0 _) ?_)<;>try refine ev_ ?_)|with_reducible exact ti_)
  all_goals try(exfalso;omega)
  refine qj 1 [0,1,2,3,4,5,6] ⟨by omega,by omega⟩ rfl (by simp) ?_ ?_ ?_<;>(try refine ev_ ?_)<;>(try with_reducible exact ti_)<;>(try simp (disch:=omega) only[qc,and_true,true_and])
  all_goals rfl
 have hi1:i=1:=by omega
 subst hi1
 simp only[Nat.one_ne_zero,if_false]
 repeat'(first|refine vs_ ?_|(refine vr_ ?_<;>try simp only[Int.reduceLT,go_sem,↓reduceIte])|((first|(refine cs_ ?_ ?_<;>intro hc)|refine cj_ ?_|simp (disch:=omega) only[qa,qc])<;>try refine ev_ ?_)|with_reducible exact ti_)
 all_goals try(exfalso;omega)
 subst hz2
 refine qcp 6 rfl (fun x hx=>?_) ?_
 ·rw[List.mem_singleton] at hx;subst hx;exact .inl ⟨qi9 _,by rw[qh3];rfl⟩
 generalize hz3:IC.seq (IC.seq qsd _) _=z3
 repeat'(first|refine vs_ ?_|(refine vr_ ?_<;>try simp only[hT,go_sem,↓reduceIte])|((first|(refine cs_ ?_ ?_<;>intro hc)|refine cj_ ?_|simp (disch:=omega) only[qa,qc]|refine qb hP fun _=>?_|refine qb hS2 fun _=>?_|refine qf hP ?_|refine qf hS2 ?_)<;>try refine ev_ ?_)|with_reducible exact ti_)
 subst hz3
 generalize hz5:IC.seq qq9 _=z5
 have hk0:(encs n.kids).getD 0 .junk=enc k:=by rw[hks];rfl
 repeat'(first|refine vs_ ?_|((first|refine vr_ ?_|(refine cs_ ?_ ?_<;>intro hc)|refine cj_ ?_|simp (disch:=omega) only[qa,qc])<;>try refine ev_ ?_)|with_reducible exact ti_)
 refine qo (S:=Nat) (fun i=>i≤1) (crSt S S3 n v p u) (fun i=>1-i) ?_ fun i hi=>?_
 ·refine qj 0 [0,1,2,3,8] (Nat.zero_le _) rfl (by simp) ?_ ?_ ?_<;>simp only[crSt]<;>(try refine ev_ ?_)<;>(try with_reducible exact ti_)<;>(try simp (disch:=omega) only[qc,and_true,true_and])
  ·rw[hT]
  ·rw[hk1]
 by_cases hi0:i=0
 ·subst hi0
  simp only[crSt]
  have c1:qbe 1 104=True:=eq_true (by unfold qbe;omega)
  have c2:qbe 1 88=True:=eq_true (by unfold qbe;omega)
  have hat':VM Tryz.prog 65 (stE (varS S)) (stE S2) [EV,.ptr 0 0,enc k] (.tup [qgj t [p] u,.bool true]):=hat
  have hbU:AV.bds 0 [encY v,encY t,.int .i64 k.pos]=true:=by simp only[AV.bds,AV.bd,q8];rfl
  have hne:qf3 [p]=[qdn p]:=rfl
  unfold qqw
  generalize hz4:qsp=z4
  repeat'(first|refine vs_ ?_|(refine vr_ ?_<;>try simp (disch:=first|omega|(simp only[List.length_set,List.length_append,List.length_cons,List.length_nil];try omega)) only[Int.reduceLT,qc,hk0,c1,c2,hne,List.length_singleton,go_sem,↓reduceIte])|((first|simp (disch:=omega) only[hk0]|(refine cs_ ?_ ?_<;>intro hc)|refine cj_ ?_|simp (disch:=omega) only[qa,qc]|refine qn5 0 hat' (qit 0) (qc8 0 _) (qi6 0 _ _ _ _) ?_|refine qzq 0 hU hbU rfl ?_)<;>try refine ev_ ?_)|with_reducible exact ti_)
  subst hz4
  have eu:Go.Proofs.YtkenggenkmfopaaGreat.encTs [u]=[Go.Proofs.YtkenggenkmfopaaGreat.encT u]:=by rw[Go.Proofs.YtkenggenkmfopaaGreat.encTs,Go.Proofs.YtkenggenkmfopaaGreat.encTs]
  rw[←eu]
  refine qcp 8 rfl (qlq [u]) ?_
  simp only[List.set_cons_succ,List.set_cons_zero]
  refine qdy 4 9 (.sl 6) rfl ?_
  refine qdy 4 8 (.sl 3) rfl ?_
  refine qdy 4 7 (.sl 1) rfl ?_
  have hul:(Go.Proofs.YtkenggenkmfopaaGreat.encTs [u]).length=1:=by rw[eu];rfl
  simp only[List.getD_cons_succ,List.getD_cons_zero,List.set_cons_succ,List.set_cons_zero,co,ent,hul,if_true]
  repeat'(first|refine vs_ ?_|(refine vr_ ?_<;>try simp (disch:=first|omega|(simp only[List.length_set,List.length_append,List.length_cons,List.length_nil];try omega)) only[qc,go_sem,↓reduceIte])|((first|(refine cs_ ?_ ?_<;>intro hc)|refine cj_ ?_|simp (disch:=omega) only[qa,qc])<;>try refine ev_ ?_)|with_reducible exact ti_)
  refine qj 1 [0,7,1,2,3,4] ⟨by omega,by omega⟩ rfl (by simp) ?_ ?_ ?_<;>simp only[crSt]<;>(try refine ev_ ?_)<;>(try with_reducible exact ti_)<;>(try simp (disch:=omega) only[qc,and_true,true_and])
  all_goals first | rfl
 have hi1:i=1:=by omega
 subst hi1
 simp only[crSt]
 repeat'(first|refine vs_ ?_|(refine vr_ ?_<;>try simp only[Int.reduceLT,go_sem,↓reduceIte])|((first|(refine cs_ ?_ ?_<;>intro hc)|refine cj_ ?_|simp (disch:=omega) only[qa,qc])<;>try refine ev_ ?_)|with_reducible exact ti_)
 all_goals try(exfalso;omega)
 subst hz5
 repeat'(first|refine vs_ ?_|((first|refine vr_ ?_|(refine cs_ ?_ ?_<;>intro hc)|refine cj_ ?_|simp (disch:=omega) only[qa,qc])<;>try refine ev_ ?_)|with_reducible exact ti_)
 all_goals first | exact⟨rfl,rfl⟩ | rfl
section
variable {L:List Ent} {Q:List Ent->VO->Prop} {f:FuncId} {e e' R:Ent} {a b:AV} {r:Nat->AV}
theorem qwd(i:Nat)(h:VCalls Tryz.prog f [e] [a,.ptr 0 0,b] fun H' o=>H'=[e',R]∧o=.val (r 1))(hr:∀σ k,(r k).ren σ=r (σ k))(ha:a.bd 0=true)(hb:b.bd 0=true)(hq:Q (L.set i e'++[R]) (.val (r L.length)))(he1:e.bd 0=true:=by rfl)(he2:e'.bd 0=true:=by rfl)(hR:R.bd 0=true)(hi:i<L.length:=by simp)(he:ent L i=e:=by rfl)(hd:e≠.dead:=by intro h;cases h):
 VApp Tryz.prog L (.fn f [] []) [a,.ptr i 0,b] Q:=by
 refine qb1 ?_
 rw[List.nil_append,List.append_nil]
 have h1:a.ren (sg [i])=a:=ren_same (m:=0) (fun j hj=>by omega) a ha
 have h2:b.ren (sg [i])=b:=ren_same (m:=0) (fun j hj=>by omega) b hb
 refine qbr [i] h (by simp) ?_ ?_ ?_ fun H1 o ho=>?_
 ·cases e with
  | dead=>exact absurd rfl hd
  | _=>exact⟨⟨hi,Ent.bd_le (Nat.zero_le _) _ he1,by rw[he,Ent.ren_bd0 he1]⟩,trivial⟩
 ·show AV.bds 1 [a,.ptr 0 0,b]=true
  simp only[AV.bds,AV.bd,qgg (Nat.zero_le 1) _ ha,qgg (Nat.zero_le 1) _ hb];rfl
 ·simp only[AV.rens,h1,h2]
  rfl
 ·obtain⟨rfl,rfl⟩:=ho
  have e1:qds L [i] [e',R]=L.set i e'++[R]:=by
   simp only[qds,List.length_singleton,List.take_succ_cons,List.take_zero,List.drop_succ_cons,List.drop_zero,List.map_cons,List.map_nil,qbf,Ent.ren_bd0 he2,Ent.ren_bd0 hR]
  rw[e1]
  simp only[VO.ren,hr]
  exact hq
end
end Go.Proofs.YtkenggenkmfopaaGreat
