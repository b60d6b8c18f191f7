/- Texts of this proof, joined. -/
import Derived.Test.YtkenggenkmfopaaGreatIbz
import Derived.Test.YtkenggenkmfopaaGreatIca
import Derived.Test.YtkenggenkmfopaaGreatIav
import Derived.Test.YtkenggenkmfopaaGreatIbj
set_option linter.unusedVariables false
set_option linter.unusedSimpArgs false

/- patterns' types: At -/
set_option maxRecDepth 4000
namespace Go.Proofs.YtkenggenkmfopaaGreat
open Go Go.RowKit Go.V

theorem q8g{S:SS}{n:N}(hT:n.text=[74])(hk:n.kids.length≠1):VM Tryz.prog 98 (stE S) (stE (qbk0 S 8 n.pos)) [EV,.ptr 0 0,enc n] (qip Y0 [] Go.Proofs.YtkenggenkmfopaaGreat.T0 false):=by
 refine qd c0dh 1 (by simp) (by simp) ?_
 have hF:=q56 S 8 n.pos
 have hk1:¬(1:Int)=n.kids.length:=by omega
 repeat'(first|refine vs_ ?_|(refine vr_ ?_<;>try simp only[hT,hk1,List.length_singleton,List.length_cons,List.length_nil,go_sem,↓reduceIte])|((first|(refine cs_ ?_ ?_<;>intro hc)|refine cj_ ?_|simp (disch:=omega) only[qa,qc]|refine qb q3h fun _=>?_|refine qb qkl fun _=>?_|refine qx 0 hF rfl rfl ?_|refine qf q3h ?_|refine qf qkl ?_)<;>try refine ev_ ?_)|with_reducible exact ti_)
 all_goals rfl
theorem q6a{S S':SS}{n:N}{t:Ty}{ns:List (List UInt8×Ty)}{u:Tm}{b:Bool}(hk:n.kind=14)(h:VM Tryz.prog 98 (stE S) (stE S') [EV,.ptr 0 0,enc n] (qip t ns u b)):VM Tryz.prog 65 (stE S) (stE S') [EV,.ptr 0 0,enc n] (qip t ns u b):=by
 refine qd c0di 1 (by simp) (by simp) ?_
 have k1:decide (n.kind=11)=false:=decide_eq_false (by omega)
 have k2:decide (n.kind=12)=false:=decide_eq_false (by omega)
 have k3:decide (n.kind=13)=false:=decide_eq_false (by omega)
 have h':VM Tryz.prog 98 (stE S) (stE S') [EV,.ptr 0 0,enc n] (.tup [qgj t ns u,.bool b]):=h
 repeat'(first|refine vs_ ?_|(refine vr_ ?_<;>try simp only[k1,k2,k3,go_sem,↓reduceIte])|((first|(refine cs_ ?_ ?_<;>intro hc)|refine cj_ ?_|fail|refine qn5 0 h' (qit 0) (qc8 0 _) (qi6 0 _ _ _ _) ?_)<;>try refine ev_ ?_)|with_reducible exact ti_)
 all_goals rfl
def atA(t:Ty)(ns:List (List UInt8×Ty))(u:Tm)(b:Bool):AV:=.tup [encY t,.sl 5 (qf3 ns),Go.Proofs.YtkenggenkmfopaaGreat.encT u,.bool b]
theorem q64(t:Ty)(ns:List (List UInt8×Ty))(u:Tm)(b:Bool):(atA t ns u b).bd 0=true:=by simp only[atA,AV.bd,AV.bds,q8,qha,Go.Proofs.YtkenggenkmfopaaGreat.encT_bd,Bool.and_true]
theorem qclr{S S':SS}{n:N}{t:Ty}{ns:List (List UInt8×Ty)}{u:Tm}(he:S.err=0)(hp:qp Tryz.prog 64 [enc n] (.bool true))(h:VM Tryz.prog 65 (stE S) (stE S') [EV,.ptr 0 0,enc n] (qip t ns u true)):VM Tryz.prog 34 (stE S) (stE S') [EV,.ptr 0 0,enc n] (atA t ns u true):=by
 refine qd c0dc 1 (by simp) (by simp) ?_
 have hD:=qqy S
 rw[he] at hD
 have h':VM Tryz.prog 65 (stE S) (stE S') [EV,.ptr 0 0,enc n] (.tup [qgj t ns u,.bool true]):=h
 repeat'(first|refine vs_ ?_|((first|refine vr_ ?_|refine qx 0 hD rfl rfl ?_|refine qb hp fun _=>?_|refine qn5 0 h' (qit 0) (qc8 0 _) (qi6 0 _ _ _ _) ?_|refine qf hp ?_|(refine cs_ ?_ ?_<;>intro hc)|refine cj_ ?_)<;>try refine ev_ ?_)|with_reducible exact ti_)
 all_goals rfl
theorem qclw{S S':SS}{n:N}{t:Ty}{ns:List (List UInt8×Ty)}{u:Tm}(he:S.err=0)(hp:qp Tryz.prog 64 [enc n] (.bool true))(h:VM Tryz.prog 65 (stE S) (stE S') [EV,.ptr 0 0,enc n] (qip t ns u false)):VM Tryz.prog 34 (stE S) (stE S') [EV,.ptr 0 0,enc n] (atA Y0 [] Go.Proofs.YtkenggenkmfopaaGreat.T0 false):=by
 refine qd c0dc 1 (by simp) (by simp) ?_
 have hD:=qqy S
 rw[he] at hD
 have h':VM Tryz.prog 65 (stE S) (stE S') [EV,.ptr 0 0,enc n] (.tup [qgj t ns u,.bool false]):=h
 repeat'(first|refine vs_ ?_|((first|refine vr_ ?_|refine qx 0 hD rfl rfl ?_|refine qb hp fun _=>?_|refine qn5 0 h' (qit 0) (qc8 0 _) (qi6 0 _ _ _ _) ?_|refine qf hp ?_|(refine cs_ ?_ ?_<;>intro hc)|refine cj_ ?_)<;>try refine ev_ ?_)|with_reducible exact ti_)
 all_goals rfl
abbrev quu(k:Nat)(t:Ty)(u:Tm):List AV:=[.str t.con,.int .i64 t.var,.sl 3 (qh t.args),.row k 1,.int .i64 u.kind,.int .i64 u.num,.str u.name,.sl 1 (ints u.vars),.sl 3 (qh u.types),.sl 6 (Go.Proofs.YtkenggenkmfopaaGreat.encTs u.kids)]
theorem qog(k:Nat)(t:Ty)(u:Tm):(qh9 k t u).cells=quu k t u:=rfl
theorem q5s(k:Nat)(t:Ty)(u:Tm):(qh9 k t u).isAgg=true:=rfl
theorem qrc(k:Nat)(t:Ty)(u:Tm):(qh9 k t u).leaf=false:=rfl
theorem qbcg(b:Bool)(n off:Nat)(k:Nat)(t:Ty)(u:Tm):fldv b n off (qh9 k t u)=ldc b n off (quu k t u):=rfl
attribute [go_sem] quu qog q5s qrc qbcg
theorem qbno(p:List UInt8×Ty):(Ent.mrow 5 [qdn p]).bd 0=true:=by simp only[Ent.bd,AV.bds,qma,Bool.and_true]
theorem qblc(t:Ty)(u:Tm)(σ:Nat->Nat)(k:Nat):(AV.tup [qh9 k t u,.bool true]).ren σ=.tup [qh9 (σ k) t u,.bool true]:=by simp only[AV.ren,AV.rens,q5l]
theorem qckb{S S':SS}{n:N}{t:Ty}{p:List UInt8×Ty}{u:Tm}(hk:n.kind=14)(h:VCalls Tryz.prog 98 [stE S] [EV,.ptr 0 0,enc n] fun H' o=>H'=[stE S',.mrow 5 [qdn p]]∧o=.val (.tup [qh9 1 t u,.bool true])):
 VCalls Tryz.prog 65 [stE S] [EV,.ptr 0 0,enc n] fun H' o=>H'=[stE S',.mrow 5 [qdn p]]∧o=.val (.tup [qh9 1 t u,.bool true]):=by
 refine qd c0di 2 (by simp) (by simp) ?_
 have k1:decide (n.kind=11)=false:=decide_eq_false (by omega)
 have k2:decide (n.kind=12)=false:=decide_eq_false (by omega)
 have k3:decide (n.kind=13)=false:=decide_eq_false (by omega)
 unfold k0di
 generalize hz:IC.ret=z1
 repeat'(first|refine vs_ ?_|(refine vr_ ?_<;>try simp only[k1,k2,k3,go_sem,↓reduceIte])|((first|(refine cs_ ?_ ?_<;>intro hc)|refine cj_ ?_|fail|refine qwd (r:=fun k=>.tup [qh9 k t u,.bool true]) 0 h (qblc t u) (qit 0) (qc8 0 _) ?_ rfl rfl (qbno p))<;>try refine ev_ ?_)|with_reducible exact ti_)
 subst hz
 refine qrk (af':=⟨[(6,.ptr 2 0),(7,.bool true)],[]⟩) (H':=[stE S',.mrow 5 [qdn p],.blk (qh9 1 t u).cells]) ?_ (qsu [0,4,3] rfl (by simp) ?_ ?_ ?_)
 ·repeat'(first|refine vs_ ?_|((first|refine vr_ ?_|(refine cs_ ?_ ?_<;>intro hc)|refine cj_ ?_)<;>try refine ev_ ?_)|with_reducible exact ti_)
  all_goals first | rfl
 all_goals simp only[qog,quu]
 all_goals(refine ev_ ?_;(try with_reducible exact ti_))
theorem qcjr{S S':SS}{n:N}{t:Ty}{p:List UInt8×Ty}{u:Tm}(he:S.err=0)(hp:qp Tryz.prog 64 [enc n] (.bool true))(h:VCalls Tryz.prog 65 [stE S] [EV,.ptr 0 0,enc n] fun H' o=>H'=[stE S',.mrow 5 [qdn p]]∧o=.val (.tup [qh9 1 t u,.bool true])):
 VCalls Tryz.prog 34 [stE S] [EV,.ptr 0 0,enc n] fun H' o=>H'=[stE S',.mrow 5 [qdn p]]∧o=.val (.tup [encY t,.row 1 1,Go.Proofs.YtkenggenkmfopaaGreat.encT u,.bool true]):=by
 refine qd c0dc 2 (by simp) (by simp) ?_
 have hD:=qqy S
 rw[he] at hD
 unfold k0dc
 generalize hz:IC.seq q6t _=z1
 repeat'(first|refine vs_ ?_|((first|refine vr_ ?_|refine qx 0 hD rfl rfl ?_|refine qb hp fun _=>?_|refine qwd (r:=fun k=>.tup [qh9 k t u,.bool true]) 0 h (qblc t u) (qit 0) (qc8 0 _) ?_ rfl rfl (qbno p)|refine qf hp ?_|(refine cs_ ?_ ?_<;>intro hc)|refine cj_ ?_)<;>try refine ev_ ?_)|with_reducible exact ti_)
 subst hz
 refine qrk (af':=⟨[(6,.ptr 2 0),(7,.nils),(8,.ptr 3 0),(9,.bool false),(12,.ptr 4 0)],[]⟩) (H':=[stE S',.mrow 5 [qdn p],.blk [.str [],.int .i64 0,.nils],.blk [.int .i64 0,.int .i64 0,.str [],.nils,.nils,.nils],.blk (quu 1 t u)]) ?_ (qsu [0,5,3,4,6] rfl (by simp) ?_ ?_ ?_)
 ·repeat'(first|refine vs_ ?_|((first|refine vr_ ?_|(refine cs_ ?_ ?_<;>intro hc)|refine cj_ ?_)<;>try refine ev_ ?_)|with_reducible exact ti_)
  all_goals first | rfl
 all_goals(refine ev_ ?_;(try with_reducible exact ti_))
set_option maxRecDepth 4000

theorem qxu(x:List UInt8×Ty):(qdn x).cells=[.str x.1,.sl 1 [],.str x.2.con,.int .i64 x.2.var,.sl 3 (qh x.2.args)]:=rfl
theorem q8k(x:List UInt8×Ty):(qdn x).isAgg=true:=rfl
theorem qsv(x:List UInt8×Ty):(qdn x).leaf=false:=rfl
theorem qbho(H:List Ent)(x:List UInt8×Ty):co H (.agg [.id,.sl 1,.id,.id,.sl 3]) (qdn x)=qdn x:=by unfold qdn;simp only[qef,qcf,qcx,qgq,qcj]
theorem q3o(x:List UInt8×Ty):rdCo (.agg [.id,.sl 1,.id,.id,.sl 3]) (qdn x)=[]:=by unfold qdn;simp only[qce,qbi,qbq,qdh,qbk,List.append_nil]
attribute [go_sem] qxu q8k qsv qbho q3o
abbrev zY3:List AV:=[.str [],.int .i64 0,.nils]
abbrev zT6:List AV:=[.int .i64 0,.int .i64 0,.str [],.nils,.nils,.nils]
abbrev pA(t:Ty):AV:=.agg [.str [],.str t.con,.int .i64 t.var,.sl 3 (qh t.args)]
def paA(r:Ty)(ns:List (List UInt8×Ty))(u:Tm)(pos e:Int):AV:=.tup [encY r,.sl 5 (qf3 ns),Go.Proofs.YtkenggenkmfopaaGreat.encT u,.int .i64 pos,.int .i64 e]
theorem qbah(r:Ty)(ns:List (List UInt8×Ty))(u:Tm)(pos e:Int):(paA r ns u pos e).bd 0=true:=by simp only[paA,AV.bd,AV.bds,q8,qha,Go.Proofs.YtkenggenkmfopaaGreat.encT_bd,Bool.and_true]
def patS(n:N)(S':SS)(t:Ty)(u:Tm)(l:List (Nat×AV))(H:List Ent):AF×List Ent:=(⟨(3,.ptr 1 0)::(4,.ptr 2 0)::(5,.nils)::(6,.ptr 3 0)::(11,.ptr 4 0)::(12,.ptr 5 0)::(13,.sl 5 [])::(14,.ptr 6 0)::l,[]⟩,[.blk [.sl 3 (qbv DS38),.sl 3 [],.sl 4 []],.blk (enc n).cells,.blk zY3,.blk zT6,stE S',.blk [.str t.con,.int .i64 t.var,.sl 3 (qh t.args)],.blk [.int .i64 u.kind,.int .i64 u.num,.str u.name,.sl 1 (ints u.vars),.sl 3 (qh u.types),.sl 6 (Go.Proofs.YtkenggenkmfopaaGreat.encTs u.kids)]]++H)
section
variable {n:N} {S':SS} {t t2 r:Ty} {u:Tm}
theorem qcjg(hN:qp Tryz.prog 64 [enc n] (.bool true))(hL:qp Tryz.prog 94 [enc n] (.tup [.int .i64 0,.bool true]))
 (hAt:VM Tryz.prog 34 (stE S0) (stE S') [EV,.ptr 0 0,enc n] (atA Y0 [] Go.Proofs.YtkenggenkmfopaaGreat.T0 false)):qp Tryz.prog 63 [EV,enc n] (paA Y0 [] Go.Proofs.YtkenggenkmfopaaGreat.T0 S'.pos S'.err):=by
 refine qe c0dg (by simp) (by simp only[AV.bds,qit,qc8,Bool.and_true]) (qbah _ _ _ _ _) fun hw=>?_
 have hAt':VM Tryz.prog 34 (stE S0) (stE S') [EV,.ptr 0 0,enc n] (.tup [encY Y0,.sl 5 [],Go.Proofs.YtkenggenkmfopaaGreat.encT Go.Proofs.YtkenggenkmfopaaGreat.T0,.bool false]):=hAt
 have hD:=qqy S'
 repeat'(first|refine vs_ ?_|((first|refine vr_ ?_|refine qb hN fun _=>?_|refine qb hL fun _=>?_|refine qr6 ?_|refine qn5 4 hAt' (qit 0) (qc8 0 _) (q64 Y0 [] Go.Proofs.YtkenggenkmfopaaGreat.T0 false) ?_|refine qx 4 hD rfl rfl ?_|refine qf hN ?_|refine qf hL ?_|(refine cs_ ?_ ?_<;>intro hc)|refine cj_ ?_|simp (disch:=omega) only[qa,qc])<;>try refine ev_ ?_)|with_reducible exact ti_)
 all_goals rfl
set_option maxHeartbeats 2000000 in
theorem qb9c(hN:qp Tryz.prog 64 [enc n] (.bool true))(hL:qp Tryz.prog 94 [enc n] (.tup [.int .i64 0,.bool true]))
 (hAt:VM Tryz.prog 34 (stE S0) (stE S') [EV,.ptr 0 0,enc n] (atA t [] u true)) (hT:VM Tryz.prog 15 (stE S') (stE S') [.ptr 0 0,encY t] (encY t2))
 (hV:qp Tryz.prog 95 [.sl 4 [pA t2]] (.sl 1 [])) (hP:qp Tryz.prog 83 [encY t2,.sl 1 [],.sl 3 []] (encY r)):qp Tryz.prog 63 [EV,enc n] (paA r [] u 0 0):=by
 refine qe c0dg (by simp) (by simp only[AV.bds,qit,qc8,Bool.and_true]) (qbah _ _ _ _ _) fun hw=>?_
 have hAt':VM Tryz.prog 34 (stE S0) (stE S') [EV,.ptr 0 0,enc n] (.tup [encY t,.sl 5 [],Go.Proofs.YtkenggenkmfopaaGreat.encT u,.bool true]):=hAt
 unfold k0dg
 generalize hz1:IC.seq (IC.seq qso _) _=z1
 repeat'(first|refine vs_ ?_|((first|refine vr_ ?_|refine qb hN fun _=>?_|refine qb hL fun _=>?_|refine qr6 ?_|refine qn5 4 hAt' (qit 0) (qc8 0 _) (q64 t [] u true) ?_|refine qx 4 hT (qb4l _) (q8 0 _) ?_|refine qf hN ?_|refine qf hL ?_|(refine cs_ ?_ ?_<;>intro hc)|refine cj_ ?_|simp (disch:=omega) only[qa,qc])<;>try refine ev_ ?_)|with_reducible exact ti_)
 subst hz1
 generalize hz2:IC.seq qrq _=z2
 repeat'(first|refine vs_ ?_|((first|refine vr_ ?_|(refine cs_ ?_ ?_<;>intro hc)|refine cj_ ?_|simp (disch:=omega) only[qa,qc])<;>try refine ev_ ?_)|with_reducible exact ti_)
 refine qo (S:=Unit) (fun _=>True) (fun _=>patS n S' t u [(18,.lit 4 [pA t2]),(68,.sl 5 []),(69,.int .i64 0),(70,.int .i64 0)] []) (fun _=>0) ?_ fun _ _=>?_
 ·refine qj () [0,1,2,3,4,5,6] trivial rfl (by simp) ?_ ?_ ?_<;>simp only[patS,List.append_nil]<;>(try refine ev_ ?_)<;>(try with_reducible exact ti_)<;>(try simp (disch:=omega) only[qc,and_true,true_and])
  all_goals rfl
 simp only[patS,List.append_nil]
 repeat'(first|refine vs_ ?_|(refine vr_ ?_<;>try simp only[Int.reduceLT,Int.lt_irrefl,go_sem,↓reduceIte])|((first|(refine cs_ ?_ ?_<;>intro hc)|refine cj_ ?_|simp (disch:=omega) only[qa,qc])<;>try refine ev_ ?_)|with_reducible exact ti_)
 all_goals try(exfalso;omega)
 subst hz2
 generalize hz3:IC.seq (IC.seq qrv _) _=z3
 repeat'(first|refine vs_ ?_|((first|refine vr_ ?_|refine qb hV fun _=>?_|refine qf hV ?_|(refine cs_ ?_ ?_<;>intro hc)|refine cj_ ?_|simp (disch:=omega) only[qa,qc])<;>try refine ev_ ?_)|with_reducible exact ti_)
 subst hz3
 refine qcp 7 rfl (fun x hx=>by cases hx) ?_
 generalize hz4:IC.seq (IC.seq qqs _) _=z4
 repeat'(first|refine vs_ ?_|((first|refine vr_ ?_|(refine cs_ ?_ ?_<;>intro hc)|refine cj_ ?_|simp (disch:=omega) only[qa,qc])<;>try refine ev_ ?_)|with_reducible exact ti_)
 refine qo (S:=Unit) (fun _=>True) (fun _=>patS n S' t u [(18,.lit 4 [pA t2]),(21,.sl 1 []),(22,.row 7 0),(90,.int .i64 0),(91,.int .i64 0)] [.app 3 []]) (fun _=>0) ?_ fun _ _=>?_
 ·refine qj () [0,1,2,3,4,5,6,7] trivial rfl (by simp) ?_ ?_ ?_<;>simp only[patS,List.append_nil,List.cons_append,List.nil_append]<;>(try refine ev_ ?_)<;>(try with_reducible exact ti_)<;>(try simp (disch:=omega) only[qc,and_true,true_and])
  all_goals rfl
 simp only[patS,List.cons_append,List.nil_append]
 repeat'(first|refine vs_ ?_|(refine vr_ ?_<;>try simp only[Int.reduceLT,Int.lt_irrefl,go_sem,↓reduceIte])|((first|(refine cs_ ?_ ?_<;>intro hc)|refine cj_ ?_|simp (disch:=omega) only[qa,qc])<;>try refine ev_ ?_)|with_reducible exact ti_)
 all_goals try(exfalso;omega)
 subst hz4
 generalize hz5:IC.seq qr3 _=z5
 repeat'(first|refine vs_ ?_|((first|refine vr_ ?_|(refine cs_ ?_ ?_<;>intro hc)|refine cj_ ?_|simp (disch:=omega) only[qa,qc])<;>try refine ev_ ?_)|with_reducible exact ti_)
 refine qo (S:=Unit) (fun _=>True) (fun _=>patS n S' t u [(18,.lit 4 [pA t2]),(21,.sl 1 []),(22,.row 7 0),(101,.int .i64 0),(102,.int .i64 0)] [.app 3 []]) (fun _=>0) ?_ fun _ _=>?_
 ·refine qj () [0,1,2,3,4,5,6,7] trivial rfl (by simp) ?_ ?_ ?_<;>simp only[patS,List.append_nil,List.cons_append,List.nil_append]<;>(try refine ev_ ?_)<;>(try with_reducible exact ti_)<;>(try simp (disch:=omega) only[qc,and_true,true_and])
  all_goals rfl
 simp only[patS,List.cons_append,List.nil_append]
 repeat'(first|refine vs_ ?_|(refine vr_ ?_<;>try simp only[Int.reduceLT,Int.lt_irrefl,go_sem,↓reduceIte])|((first|(refine cs_ ?_ ?_<;>intro hc)|refine cj_ ?_|simp (disch:=omega) only[qa,qc])<;>try refine ev_ ?_)|with_reducible exact ti_)
 all_goals try(exfalso;omega)
 subst hz5
 repeat'(first|refine vs_ ?_|((first|refine vr_ ?_|refine qb hP fun _=>?_|refine qf hP ?_|(refine cs_ ?_ ?_<;>intro hc)|refine cj_ ?_|simp (disch:=omega) only[qa,qc])<;>try refine ev_ ?_)|with_reducible exact ti_)
 all_goals rfl
def patR(n:N)(S':SS)(t:Ty)(u:Tm)(e:Ent)(l:List (Nat×AV))(H:List Ent):AF×List Ent:=(⟨(3,.ptr 1 0)::(4,.ptr 2 0)::(5,.nils)::(6,.ptr 3 0)::(11,.ptr 4 0)::(12,.ptr 6 0)::(13,.row 5 1)::(14,.ptr 7 0)::l,[]⟩,[.blk [.sl 3 (qbv DS38),.sl 3 [],.sl 4 []],.blk (enc n).cells,.blk zY3,.blk zT6,stE S',e,.blk [.str t.con,.int .i64 t.var,.sl 3 (qh t.args)],.blk [.int .i64 u.kind,.int .i64 u.num,.str u.name,.sl 1 (ints u.vars),.sl 3 (qh u.types),.sl 6 (Go.Proofs.YtkenggenkmfopaaGreat.encTs u.kids)]]++H)
theorem qbcr(t:Ty)(u:Tm)(σ:Nat->Nat)(k:Nat):(AV.tup [encY t,.row k 1,Go.Proofs.YtkenggenkmfopaaGreat.encT u,.bool true]).ren σ=.tup [encY t,.row (σ k) 1,Go.Proofs.YtkenggenkmfopaaGreat.encT u,.bool true]:=by simp only[AV.ren,AV.rens,qgk,Go.Proofs.YtkenggenkmfopaaGreat.encT_ren]
def psa(n:N)(S':SS)(t t2:Ty)(u:Tm)(p:List UInt8×Ty)(t3:Ty):Nat->AF×List Ent
 | 0=>patR n S' t u (.mrow 5 [qdn p]) [(18,.lit 4 [pA t2]),(68,.row 5 1),(69,.int .i64 1),(70,.int .i64 0)] []
 | i+1=>patR n S' t u (.mrow 5 [qdn p]) [(18,.row 8 2),(68,.row 5 1),(69,.int .i64 1),(70,.int .i64 (i+1))] [.app 4 [pA t2,pA t3]]
set_option maxHeartbeats 4000000 in
theorem qbry{p:List UInt8×Ty}{t3 r3:Ty}{v:Int}(hN:qp Tryz.prog 64 [enc n] (.bool true))(hL:qp Tryz.prog 94 [enc n] (.tup [.int .i64 0,.bool true]))
 (hAt:VCalls Tryz.prog 34 [stE S0] [EV,.ptr 0 0,enc n] fun H' o=>H'=[stE S',.mrow 5 [qdn p]]∧o=.val (.tup [encY t,.row 1 1,Go.Proofs.YtkenggenkmfopaaGreat.encT u,.bool true])) (hT:VM Tryz.prog 15 (stE S') (stE S') [.ptr 0 0,encY t] (encY t2)) (hT3:VM Tryz.prog 15 (stE S') (stE S') [.ptr 0 0,encY p.2] (encY t3))
 (hV:qp Tryz.prog 95 [.sl 4 [pA t2,pA t3]] (.sl 1 [.int .i64 v])) (hP:qp Tryz.prog 83 [encY t2,.sl 1 [.int .i64 v],.sl 3 [encY Y0]] (encY r)) (hP3:qp Tryz.prog 83 [encY t3,.sl 1 [.int .i64 v],.sl 3 [encY Y0]] (encY r3)):qp Tryz.prog 63 [EV,enc n] (paA r [(p.1,r3)] u 0 0):=by
 refine qe c0dg (by simp) (by simp only[AV.bds,qit,qc8,Bool.and_true]) (qbah _ _ _ _ _) fun hw=>?_
 unfold k0dg
 generalize hz1:IC.seq (IC.seq qso _) _=z1
 repeat'(first|refine vs_ ?_|((first|refine vr_ ?_|refine qb hN fun _=>?_|refine qb hL fun _=>?_|refine qr6 ?_|refine qwd (r:=fun k=>.tup [encY t,.row k 1,Go.Proofs.YtkenggenkmfopaaGreat.encT u,.bool true]) 4 hAt (qbcr t u) (qit 0) (qc8 0 _) ?_ rfl rfl (qbno p)|refine qx 4 hT (qb4l _) (q8 0 _) ?_|refine qf hN ?_|refine qf hL ?_|(refine cs_ ?_ ?_<;>intro hc)|refine cj_ ?_|simp (disch:=omega) only[qa,qc])<;>try refine ev_ ?_)|with_reducible exact ti_)
 subst hz1
 generalize hz2:IC.seq qrq _=z2
 repeat'(first|refine vs_ ?_|((first|refine vr_ ?_|(refine cs_ ?_ ?_<;>intro hc)|refine cj_ ?_|simp (disch:=omega) only[qa,qc])<;>try refine ev_ ?_)|with_reducible exact ti_)
 refine⟨by unfold maxLen;omega,?_⟩
 repeat'(first|refine vs_ ?_|((first|refine vr_ ?_|(refine cs_ ?_ ?_<;>intro hc)|refine cj_ ?_|simp (disch:=omega) only[qa,qc])<;>try refine ev_ ?_)|with_reducible exact ti_)
 refine qo (S:=Nat) (fun i=>i≤1) (psa n S' t t2 u p t3) (fun i=>1-i) ?_ fun i hi=>?_
 ·refine qj 0 [0,1,2,3,4,5,6,7] (Nat.zero_le _) rfl (by simp) ?_ ?_ ?_<;>simp only[psa,patR,List.append_nil]<;>(try refine ev_ ?_)<;>(try with_reducible exact ti_)<;>(try simp (disch:=omega) only[qc,and_true,true_and])
  all_goals rfl
 by_cases hi0:i=0
 ·subst hi0
  simp only[psa,patR,List.append_nil]
  have c1:qbe 2 64=True:=eq_true (by unfold qbe;omega)
  repeat'(first|refine vs_ ?_|(refine vr_ ?_<;>try simp (disch:=first|omega|(simp only[List.length_set,List.length_append,List.length_cons,List.length_nil];try omega)) only[Int.reduceLT,qc,c1,go_sem,↓reduceIte])|((first|(refine cs_ ?_ ?_<;>intro hc)|refine cj_ ?_|simp (disch:=omega) only[qa,qc]|refine qx 4 hT3 (qb4l _) (q8 0 _) ?_)<;>try refine ev_ ?_)|with_reducible exact ti_)
  all_goals try(exfalso;omega)
  refine qj 1 [0,1,2,3,4,5,6,7,9] ⟨by omega,by omega⟩ rfl (by simp) ?_ ?_ ?_<;>simp only[psa,patR,List.cons_append,List.nil_append]<;>(try refine ev_ ?_)<;>(try with_reducible exact ti_)<;>(try simp (disch:=omega) only[qc,and_true,true_and])
  all_goals rfl
 have hi1:i=1:=by omega
 subst hi1
 simp only[psa,patR,List.cons_append,List.nil_append]
 repeat'(first|refine vs_ ?_|(refine vr_ ?_<;>try simp only[Int.reduceLT,go_sem,↓reduceIte])|((first|(refine cs_ ?_ ?_<;>intro hc)|refine cj_ ?_|simp (disch:=omega) only[qa,qc])<;>try refine ev_ ?_)|with_reducible exact ti_)
 all_goals try(exfalso;omega)
 subst hz2
 generalize hz3:IC.seq (IC.seq qrv _) _=z3
 repeat'(first|refine vs_ ?_|((first|refine vr_ ?_|refine qb hV fun _=>?_|refine qf hV ?_|(refine cs_ ?_ ?_<;>intro hc)|refine cj_ ?_|simp (disch:=omega) only[qa,qc])<;>try refine ev_ ?_)|with_reducible exact ti_)
 refine⟨⟨by omega,by omega,by unfold maxLen;omega⟩,?_⟩
 subst hz3
 generalize hz4:IC.seq (IC.seq qqs _) _=z4
 repeat'(first|refine vs_ ?_|((first|refine vr_ ?_|(refine cs_ ?_ ?_<;>intro hc)|refine cj_ ?_|simp (disch:=omega) only[qa,qc])<;>try refine ev_ ?_)|with_reducible exact ti_)
 refine⟨by unfold maxLen;omega,?_⟩
 repeat'(first|refine vs_ ?_|((first|refine vr_ ?_|(refine cs_ ?_ ?_<;>intro hc)|refine cj_ ?_|simp (disch:=omega) only[qa,qc])<;>try refine ev_ ?_)|with_reducible exact ti_)
 refine qo (S:=Nat) (fun i=>i≤1) (fun i=>patR n S' t u (.mrow 5 [qdn p]) [(18,.row 8 2),(21,.sl 1 [.int .i64 v]),(22,.row 9 1),(90,.int .i64 1),(91,.int .i64 i)] [.app 4 [pA t2,pA t3],.mrow 3 [.agg [.str [],.int .i64 0,.nils]]]) (fun i=>1-i) ?_ fun i hi=>?_
 ·refine qj 0 [0,1,2,3,4,5,6,7,8,9] (Nat.zero_le _) rfl (by simp) ?_ ?_ ?_<;>simp only[patR,List.cons_append,List.nil_append]<;>(try refine ev_ ?_)<;>(try with_reducible exact ti_)<;>(try simp (disch:=omega) only[qc,and_true,true_and])
  all_goals rfl
 by_cases hi0:i=0
 ·subst hi0
  simp only[patR,List.cons_append,List.nil_append]
  repeat'(first|refine vs_ ?_|(refine vr_ ?_<;>try simp (disch:=first|omega|(simp only[List.length_set,List.length_append,List.length_cons,List.length_nil];try omega)) only[Int.reduceLT,qc,go_sem,↓reduceIte])|((first|(refine cs_ ?_ ?_<;>intro hc)|refine cj_ ?_|simp (disch:=omega) only[qa,qc])<;>try refine ev_ ?_)|with_reducible exact ti_)
  all_goals try(exfalso;omega)
  refine qj 1 [0,1,2,3,4,5,6,7,8,9] ⟨by omega,by omega⟩ rfl (by simp) ?_ ?_ ?_<;>simp only[patR,List.cons_append,List.nil_append]<;>(try refine ev_ ?_)<;>(try with_reducible exact ti_)<;>(try simp (disch:=omega) only[qc,and_true,true_and])
  all_goals rfl
 have hi1:i=1:=by omega
 subst hi1
 simp only[patR,List.cons_append,List.nil_append]
 repeat'(first|refine vs_ ?_|(refine vr_ ?_<;>try simp only[Int.reduceLT,go_sem,↓reduceIte])|((first|(refine cs_ ?_ ?_<;>intro hc)|refine cj_ ?_|simp (disch:=omega) only[qa,qc])<;>try refine ev_ ?_)|with_reducible exact ti_)
 all_goals try(exfalso;omega)
 refine qpe (es:=[encY Y0]) 9 (.agg [.id,.id,.sl 3]) rfl rfl (fun x hx=>?_) ?_
 ·rw[List.mem_singleton] at hx;subst hx;exact .inl ⟨qi9 _,by rw[qh3];rfl⟩
 subst hz4
 generalize hz5:IC.seq qr3 _=z5
 repeat'(first|refine vs_ ?_|((first|refine vr_ ?_|(refine cs_ ?_ ?_<;>intro hc)|refine cj_ ?_|simp (disch:=omega) only[qa,qc])<;>try refine ev_ ?_)|with_reducible exact ti_)
 refine⟨by unfold maxLen;omega,?_⟩
 repeat'(first|refine vs_ ?_|((first|refine vr_ ?_|(refine cs_ ?_ ?_<;>intro hc)|refine cj_ ?_|simp (disch:=omega) only[qa,qc])<;>try refine ev_ ?_)|with_reducible exact ti_)
 refine qo (S:=Nat) (fun i=>i≤1) (fun i=>patR n S' t u (.mrow 5 [if i=0 then qdn p else qdn (p.1,r3)]) [(18,.row 8 2),(21,.sl 1 [.int .i64 v]),(22,.row 9 1),(101,.int .i64 1),(102,.int .i64 i)] [.app 4 [pA t2,pA t3],.app 3 [encY Y0]]) (fun i=>1-i) ?_ fun i hi=>?_
 ·refine qj 0 [0,1,2,3,4,5,6,7,8,9] (Nat.zero_le _) rfl (by simp) ?_ ?_ ?_<;>simp only[patR,List.cons_append,List.nil_append,if_true]<;>(try refine ev_ ?_)<;>(try with_reducible exact ti_)<;>(try simp (disch:=omega) only[qc,and_true,true_and])
  all_goals rfl
 by_cases hi0:i=0
 ·subst hi0
  simp only[patR,List.cons_append,List.nil_append,if_true]
  have w1:IntKind.i64.wrap (0+1)=1:=rfl
  have g1:[pA t2,pA t3].getD 1 .junk=pA t3:=rfl
  repeat'(first|refine vs_ ?_|(refine vr_ ?_<;>try simp only[Int.reduceLT,w1,g1,Int.toNat_one,go_sem,↓reduceIte])|((first|(refine cs_ ?_ ?_<;>intro hc)|refine cj_ ?_|simp (disch:=omega) only[qa,qc]|refine qb hP3 fun _=>?_|refine qf hP3 ?_)<;>try refine ev_ ?_)|with_reducible exact ti_)
  all_goals try(exfalso;omega)
  refine qj 1 [0,1,2,3,4,5,6,7,8,9] ⟨by omega,by omega⟩ rfl (by simp) ?_ ?_ ?_<;>simp only[patR,List.cons_append,List.nil_append,Nat.one_ne_zero,if_false]<;>(try refine ev_ ?_)<;>(try with_reducible exact ti_)<;>(try simp (disch:=omega) only[qc,and_true,true_and])
  all_goals rfl
 have hi1:i=1:=by omega
 subst hi1
 simp only[patR,List.cons_append,List.nil_append,Nat.one_ne_zero,if_false]
 repeat'(first|refine vs_ ?_|(refine vr_ ?_<;>try simp only[Int.reduceLT,go_sem,↓reduceIte])|((first|(refine cs_ ?_ ?_<;>intro hc)|refine cj_ ?_|simp (disch:=omega) only[qa,qc])<;>try refine ev_ ?_)|with_reducible exact ti_)
 all_goals try(exfalso;omega)
 refine qcp 5 rfl (fun x hx=>?_) ?_
 ·rw[List.mem_singleton] at hx;subst hx;exact .inl ⟨rfl,rfl⟩
 subst hz5
 repeat'(first|refine vs_ ?_|((first|refine vr_ ?_|refine qb hP fun _=>?_|refine qf hP ?_|(refine cs_ ?_ ?_<;>intro hc)|refine cj_ ?_|simp (disch:=omega) only[qa,qc])<;>try refine ev_ ?_)|with_reducible exact ti_)
 all_goals rfl
end

def pnx:N:=.mk 11 2 0 [120] []
def pnA:N:=.mk 14 0 0 [74] [pnx]
def pn3:N:=.mk 13 5 3 [] []
def pnI:N:=.mk 14 3 0 [74] [pn3]
def pnB:N:=.mk 14 0 0 [74] [pnI]
def pnK:N:=.mk 14 0 0 [74] [.mk 14 3 0 [74] [.mk 11 5 0 [120] []],.mk 11 8 0 [121] []]
theorem qcgq:qp Tryz.prog 62 [.str [74,32,120]] (.tup [enc pnA,.int .i64 0,.int .i64 0]):=qow (qnf _ (by decide)) (by rw[show patV [74,32,120]=(pnA,0,0) by kernel_rfl];rfl)
theorem qcd1:qp Tryz.prog 62 [.str [74,32,40,74,32,51,41]] (.tup [enc pnB,.int .i64 0,.int .i64 0]):=qow (qnf _ (by decide)) (by rw[show patV [74,32,40,74,32,51,41]=(pnB,0,0) by kernel_rfl];rfl)
theorem qcek:qp Tryz.prog 62 [.str [74,32,40,74,32,120,41,32,121]] (.tup [enc pnK,.int .i64 0,.int .i64 0]):=qow (qnf _ (by decide)) (by rw[show patV [74,32,40,74,32,120,41,32,121]=(pnK,0,0) by kernel_rfl];rfl)
theorem q6c:qp Tryz.prog 64 [enc pnA] (.bool true):=qow (qmt pnA) (by rw[show(lowW pnA&&paW pnA)=true by kernel_rfl])
theorem q62:qp Tryz.prog 64 [enc pnB] (.bool true):=qow (qmt pnB) (by rw[show(lowW pnB&&paW pnB)=true by kernel_rfl])
theorem q7i:qp Tryz.prog 64 [enc pnK] (.bool true):=qow (qmt pnK) (by rw[show(lowW pnK&&paW pnK)=true by kernel_rfl])
theorem qbns:qp Tryz.prog 94 [enc pnA] (.tup [.int .i64 0,.bool true]):=qow (qhu pnA (by simp[pnA,pnx,sz,szs])) (by rw[show linW (vsW pnA) []=(0,true) by kernel_rfl])
theorem qbu9:qp Tryz.prog 94 [enc pnB] (.tup [.int .i64 0,.bool true]):=qow (qhu pnB (by simp[pnB,pnI,pn3,sz,szs])) (by rw[show linW (vsW pnB) []=(0,true) by kernel_rfl])
theorem qbud:qp Tryz.prog 94 [enc pnK] (.tup [.int .i64 0,.bool true]):=qow (qhu pnK (by simp[pnK,sz,szs])) (by rw[show linW (vsW pnK) []=(0,true) by kernel_rfl])
/-! J x -/
def K38:List Pr:=[⟨-1,V2⟩]
def A38:SS:=⟨2,0,0,0,K38,[],[],[],0,0⟩
def u38x:Tm:=.mk 21 0 [120] [] [] []
def u38:Tm:=.mk 24 0 [74] [] [] [u38x]
theorem qclh:WitQ [] V1 V2 (K38,0):=by
 unfold WitQ
 rw[if_pos (by rfl),if_pos (by rfl)]
 exact⟨(K38,0),by rw[UniQ,if_pos ⟨rfl,rfl⟩];exact⟨10,rfl⟩,by rw[if_pos rfl];rfl⟩
theorem qblp:okS K38:=(show newR K38=K38 from rfl) ▸ qkp K38
theorem qbt0:VM Tryz.prog 12 (stE A2) (stE A38) [.ptr 0 0,encY (newV S0),encY V2,.int .i64 pnx.pos] (.bool true):=qk3 (qq3 (S:=A2) 2 qfm (by decide) (by decide) (by decide) (by decide) (by decide) qclh) rfl rfl
theorem qbzj:VM Tryz.prog 65 (stE (varS S0)) (stE A2) [EV,.ptr 0 0,enc pnx] (qip V2 [([120],V2)] u38x true):=qcik (S:=A1) (n:=pnx) rfl
theorem qcbo:qp Tryz.prog 63 [EV,enc pnA] (paA (mY Y0) [([120],Y0)] u38 0 0):=by
 have h1:=qb3o (S:=S0) (S2:=A2) (S3:=A38) (n:=pnA) (k:=pnx) rfl rfl qbzj qbt0
 have h2:=qcjr (S:=S0) rfl q6c (qckb (n:=pnA) rfl h1)
 have hT:VM Tryz.prog 15 (stE A38) (stE A38) [.ptr 0 0,encY (mY (newV S0))] (encY (mY V2)):=qk3 (qwv (S:=A38) (t:=mY V1) (by decide) (qgb qblp) (by decide)) rfl (congrArg encY (by rfl))
 have hT3:VM Tryz.prog 15 (stE A38) (stE A38) [.ptr 0 0,encY V2] (encY V2):=qk3 (qwv (S:=A38) (t:=V2) (by decide) (qgb qblp) (by decide)) rfl (congrArg encY (by rfl))
 have hV:qp Tryz.prog 95 [.sl 4 [pA (mY V2),pA V2]] (.sl 1 [.int .i64 (-2)]):=qql [⟨[],mY V2⟩,⟨[],V2⟩] (by decide)
 have hP:qp Tryz.prog 83 [encY (mY V2),.sl 1 [.int .i64 (-2)],.sl 3 [encY Y0]] (encY (mY Y0)):=qeu [-2] [Y0] (mY V2) (by decide)
 have hP3:qp Tryz.prog 83 [encY V2,.sl 1 [.int .i64 (-2)],.sl 3 [encY Y0]] (encY Y0):=qeu [-2] [Y0] V2 (by decide)
 exact qbry (p:=([120],V2)) q6c qbns h2 hT hT3 hV hP hP3
/-! J (J 3) -/
def KB1:List Pr:=[⟨-2,I0⟩]
def KB2:List Pr:=[⟨-2,I0⟩,⟨-1,mY I0⟩]
def B1:SS:=⟨2,0,0,0,KB1,[],[],[],0,0⟩
def B2:SS:=⟨2,0,0,0,KB2,[],[],[],0,0⟩
def u383:Tm:=.mk 23 3 [] [] [] []
def u38i:Tm:=.mk 24 0 [74] [] [] [u383]
theorem qclf:WitQ [] V2 I0 (KB1,0):=by
 unfold WitQ
 rw[if_pos (by rfl),if_pos (by rfl)]
 exact⟨(KB1,0),by rw[UniQ,if_pos ⟨rfl,rfl⟩];exact⟨10,rfl⟩,by rw[if_pos rfl];rfl⟩
theorem qclu:WitQ KB1 V1 (mY V2) (KB2,0):=by
 unfold WitQ
 rw[if_pos (by kernel_rfl),if_pos (by kernel_rfl)]
 exact⟨([⟨-1,mY I0⟩],0),by rw[UniQ,if_pos ⟨by kernel_rfl,by kernel_rfl⟩];exact⟨10,by kernel_rfl⟩,by rw[if_pos rfl];kernel_rfl⟩
theorem qcjt:okS KB1:=(show newR KB1=KB1 from rfl) ▸ qkp KB1
theorem qcil:okS KB2:=(show newR KB2=KB2 by kernel_rfl) ▸ qkp KB2
theorem qbvf:VM Tryz.prog 12 (stE A2) (stE B1) [.ptr 0 0,encY (newV A1),encY I0,.int .i64 pn3.pos] (.bool true):=qk3 (qq3 (S:=A2) 5 qfm (by decide) (by decide) (by decide) (by decide) (by decide) qclf) rfl rfl
theorem qbox:VM Tryz.prog 12 (stE B1) (stE B2) [.ptr 0 0,encY (newV S0),encY (mY V2),.int .i64 pnI.pos] (.bool true):=qk3 (qq3 (S:=B1) 3 qcjt (by decide) (by decide) (by decide) (by decide) (by decide) qclu) rfl rfl
theorem qbtq:qp Tryz.prog 63 [EV,enc pnB] (paA (mY (mY I0)) [] (.mk 24 0 [74] [] [] [u38i]) 0 0):=by
 have h0:VM Tryz.prog 65 (stE (varS A1)) (stE A2) [EV,.ptr 0 0,enc pn3] (qip I0 [] u383 true):=qck0 (S:=A2) (n:=pn3) rfl
 have h1:=q8v (S:=A1) (S2:=A2) (S3:=B1) (n:=pnI) (k:=pn3) rfl rfl h0 qbvf
 have h2:VM Tryz.prog 65 (stE (varS S0)) (stE B1) [EV,.ptr 0 0,enc pnI] (qip (mY V2) [] u38i true):=q6a (S:=A1) (n:=pnI) rfl h1
 have h3:=q8v (S:=S0) (S2:=B1) (S3:=B2) (n:=pnB) (k:=pnI) rfl rfl h2 qbox
 have h4:=qclr (S:=S0) rfl q62 (q6a (n:=pnB) rfl h3)
 have hT:VM Tryz.prog 15 (stE B2) (stE B2) [.ptr 0 0,encY (mY (newV S0))] (encY (mY (mY I0))):=qk3 (qwv (S:=B2) (t:=mY V1) (by decide) (qgb qcil) (by decide)) rfl (congrArg encY (by rfl))
 have hV:qp Tryz.prog 95 [.sl 4 [pA (mY (mY I0))]] (.sl 1 []):=qql [⟨[],mY (mY I0)⟩] (by decide)
 have hP:qp Tryz.prog 83 [encY (mY (mY I0)),.sl 1 [],.sl 3 []] (encY (mY (mY I0))):=qeu [] [] (mY (mY I0)) (by decide)
 exact qb9c q62 qbu9 h4 hT hV hP
/-! J (J x) y -/
theorem qbow:qp Tryz.prog 63 [EV,enc pnK] (paA Y0 [] Go.Proofs.YtkenggenkmfopaaGreat.T0 0 8):=by
 have h1:=q8g (S:=S0) (n:=pnK) rfl (by decide)
 have h2:=qclw (S:=S0) rfl q7i (q6a (n:=pnK) rfl h1)
 exact qcjg q7i qbud h2
theorem qb3z:qp Tryz.prog 38 [encY (mY Y0)] (.str [77,32,97]):=qke (t:=mY Y0) (by decide) (by decide) (by decide)
theorem qbu3:qp Tryz.prog 38 [encY (mY (mY I0))] (.str [77,32,40,77,32,73,110,116,41]):=qke (t:=mY (mY I0)) (by decide) (by decide) (by decide)
set_option maxRecDepth 4000

def DB38:List Da:=[⟨[66,111,111,108],0,[⟨[70,97,108,115,101],[]⟩,⟨[84,114,117,101],[]⟩]⟩,⟨[73,110,116],0,[]⟩]
theorem q1d:qp Tryz.prog 61 [] (.lit 3 (qbv DB38)):=by
 refine⟨qf4 c0de 0 (by simp) (by simp) ?_,by simp only[go_sem],by simp only[go_sem]⟩
 rw[show rawR s0de=[(.t 0,.id)] from rfl]
 repeat'(first|refine vs_ ?_|((first|refine vr_ ?_|(refine cs_ ?_ ?_<;>intro hc)|refine cj_ ?_)<;>try refine ev_ ?_)|with_reducible exact ti_)
 all_goals rfl
theorem qxm:qp Tryz.prog 33 [] (.bool true):=by
 refine qe c0df (by simp) (by simp only[go_sem]) rfl fun hw=>?_
 have h0:qp Tryz.prog 61 [] (.lit 3 (qbv DB38)):=q1d
 have c1:qbe 3 48=True:=eq_true (by unfold qbe;omega)
 have hl:DB38.length=2:=rfl
 unfold k0df
 generalize hz:IC.seq q44 _=z1
 repeat'(first|refine vs_ ?_|(refine vr_ ?_<;>try simp only[hl,c1,go_sem,↓reduceIte])|((first|(refine cs_ ?_ ?_<;>intro hc)|refine cj_ ?_|simp (disch:=omega) only[qa,qc]|refine qb h0 fun _=>?_)<;>try refine ev_ ?_)|with_reducible exact ti_)
 change VI _ _ _ _ _ _ _ [Ent.app 3 (qbv DS38),Ent.blk [.row 0 3,.nils,.nils]]
 refine qdy 1 2 (.sl 4) rfl ?_
 refine qdy 1 1 (.sl 3) rfl ?_
 refine qdy 1 0 (.sl 3) rfl ?_
 have hl2:(qbv DS38).length=3:=rfl
 simp only[List.getD_cons_succ,List.getD_cons_zero,List.set_cons_succ,List.set_cons_zero,co,ent,hl2,if_true]
 refine qrk (af':=⟨[(1,.ptr 0 0)],[]⟩) (H':=[.blk [.sl 3 (qbv DS38),.sl 3 [],.sl 4 []]]) ?_ (qsu [1] rfl (by simp) ?_ ?_ ?_)
 rotate_left
 ·(refine ev_ ?_;(try with_reducible exact ti_))
 ·(refine ev_ ?_;(try with_reducible exact ti_))
 ·(refine ev_ ?_;(try with_reducible exact ti_))
 subst hz
 have q1:=qcbo
 rw[paA] at q1
 have q2:=qbtq
 rw[paA] at q2
 have q3:=qbow
 rw[paA] at q3
 have n1:=qcgq
 have n2:=qcd1
 have n3:=qcek
 have t1:=qb3z
 have t2:=qbu3
 have e3:u38.kind=24:=rfl
 have e1:[(([120]:List UInt8),Y0)].length=1:=rfl
 have e2:((qf3 [(([120]:List UInt8),Y0)]).getD 0 .junk)=qdn ([120],Y0):=rfl
 generalize (Tm.mk 24 0 [74] [] [] [u38i])=ui at *
 generalize [(([120]:List UInt8),Y0)]=L at *
 generalize mY (mY I0)=tb at *
 generalize mY Y0=ta at *
 generalize Y0=y0 at *
 generalize u38=ua at *
 generalize pnA=na at *
 generalize pnB=nb at *
 generalize pnK=nk at *
 generalize Go.Proofs.YtkenggenkmfopaaGreat.T0=ub at *
 repeat'(first|refine vs_ ?_|(refine vr_ ?_<;>try simp only[Int.reduceLT,Int.reduceEq,decide_true,e1,e3,go_sem,↓reduceIte])|((first|simp (disch:=omega) only[e2]|(refine cs_ ?_ ?_<;>intro hc)|refine cj_ ?_|simp (disch:=omega) only[qa,qc]|refine qb n1 fun _=>?_|refine qb n2 fun _=>?_|refine qb n3 fun _=>?_|refine qb q1 fun _=>?_|refine qb q2 fun _=>?_|refine qb q3 fun _=>?_|refine qb t1 fun _=>?_|refine qb t2 fun _=>?_)<;>try refine ev_ ?_)|with_reducible exact ti_)
 all_goals(exfalso;omega)
set_option maxRecDepth 4000

theorem qbpg(e:EnvT)(n:N):qp Tryz.prog 34 [qfc e,.nilp,enc n] (atA Y0 [] Go.Proofs.YtkenggenkmfopaaGreat.T0 false):=by
 refine qe c0dc (by simp) (by simp only[AV.bds,AV.bd,qjm,qc8,Bool.and_true]) (q64 _ _ _ _) fun hw=>?_
 have hz:AV.agg [.int .i64 0,.int .i64 0,.str [],.sl 1 [],.sl 3 [],.sl 6 []]=encT T0:=qoi
 repeat'(first|refine vs_ ?_|((first|refine vr_ ?_|refine qb qbl5 fun _=>?_|refine qf qbl5 ?_|(refine cs_ ?_ ?_<;>intro hc)|refine cj_ ?_)<;>try refine ev_ ?_)|with_reducible exact ti_)
 all_goals(rw[hz];rfl)
section
variable {P:Program} {f:FuncId} {args:List AV} {L:List Ent} {Q:List Ent->VO->Prop}
theorem qbzl(h:VCalls P f [] args AnyI)(ha:AV.bds 0 args=true)(hq:∀k,Q L (.val (.int .i64 k))):VApp P L (.fn f [] []) args Q:=by
 refine qb1 ?_
 rw[List.nil_append,List.append_nil]
 have:=qdv (H:=L) [] (Q':=Q) h List.nodup_nil (by simp) rfl (by simp) ha (fun H1 o ho=>by
  obtain⟨rfl,k,rfl⟩:=ho
  simp only[qbf,List.take_nil,List.map_nil,List.drop_nil,List.append_nil,VO.ren,AV.ren]
  exact hq k)
 rwa [qs (m:=0) (fun i hi=>by omega) args ha] at this
end
theorem qo3(e:EnvT)(n:N)(hm:∀c∈e.cs,c.ms.length≤1048576):qp Tryz.prog 6 [qfc e,enc n] (.bool true):=by
 refine qe c0dd (by simp) (by simp only[AV.bds,qjm,qc8,Bool.and_true]) rfl fun hw=>?_
 have h33:=q8r e hm
 have h06:=few7 n
 have hA:=qbpg e n
 rw[atA] at hA
 have hS:qp Tryz.prog 16 [encY Y0,.agg [.str [],.int .i64 0,.sl 3 []]] (.bool true):=qp7 Y0 Y0
 have hz:AV.agg [.int .i64 0,.int .i64 0,.str [],.sl 1 [],.sl 3 [],.sl 6 []]=encT Go.Proofs.YtkenggenkmfopaaGreat.T0:=qoi
 have hT:=qxd
 have hT:qp Tryz.prog 29 [encT Go.Proofs.YtkenggenkmfopaaGreat.T0,.agg [.int .i64 0,.int .i64 0,.str [],.sl 1 [],.sl 3 [],.sl 6 []]] (.bool true):=by rw[hz];exact hT
 clear hz
 have hV:=qxm
 generalize Go.Proofs.YtkenggenkmfopaaGreat.T0=u0 at *
 generalize Y0=y0 at *
 repeat'(first|refine vs_ ?_|((first|refine vr_ ?_|refine qb h06 fun _=>?_|(refine cs_ ?_ ?_<;>intro hc)|refine cj_ ?_)<;>try refine ev_ ?_)|with_reducible exact ti_)
 refine qbzl h33 (by simp only[AV.bds,qjm,Bool.and_true]) fun k=>?_
 by_cases hk:k=0
 ·simp only[q9l]
  have hkd:decide (k=0)=true:=decide_eq_true hk
  (simp (disch:=first | omega | (simp only[List.length_set,List.length_append,List.length_cons,List.length_nil];try omega)) only[hkd,go_sem,↓reduceIte])
  repeat'(first|refine vs_ ?_|(refine vr_ ?_<;>try simp only[hkd,go_sem,↓reduceIte])|((first|(refine cs_ ?_ ?_<;>intro hc)|refine cj_ ?_|fail|refine qb hV fun _=>?_)<;>try refine ev_ ?_)|with_reducible exact ti_)
  all_goals rfl
 ·simp only[q9l]
  have hkd:decide (k=0)=false:=decide_eq_false hk
  (simp (disch:=first | omega | (simp only[List.length_set,List.length_append,List.length_cons,List.length_nil];try omega)) only[hkd,go_sem,↓reduceIte])
  cases hf:fewW n
  ·rw[hf] at h06
   have h06:qp Tryz.prog 32 [enc n] (.int .i64 0):=h06
   repeat'(first|refine vs_ ?_|(refine vr_ ?_<;>try simp only[hkd,go_sem,↓reduceIte])|((first|(refine cs_ ?_ ?_<;>intro hc)|refine cj_ ?_|fail|refine qb hV fun _=>?_|refine qb h06 fun _=>?_)<;>try refine ev_ ?_)|with_reducible exact ti_)
   all_goals first | rfl | contradiction
  ·rw[hf] at h06
   have h06:qp Tryz.prog 32 [enc n] (.int .i64 1):=h06
   repeat'(first|refine vs_ ?_|(refine vr_ ?_<;>try simp only[hkd,go_sem,↓reduceIte])|((first|(refine cs_ ?_ ?_<;>intro hc)|refine cj_ ?_|fail|refine qb hV fun _=>?_|refine qb h06 fun _=>?_|refine qb hA fun _=>?_|refine qb hS fun _=>?_|refine qb hT fun _=>?_)<;>try refine ev_ ?_)|with_reducible exact ti_)
   all_goals first | rfl | contradiction
end Go.Proofs.YtkenggenkmfopaaGreat
