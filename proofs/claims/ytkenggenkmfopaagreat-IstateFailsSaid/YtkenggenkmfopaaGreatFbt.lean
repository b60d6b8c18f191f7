/- Texts of this proof, joined. -/
import Derived.Test.YtkenggenkmfopaaGreatFbr
import Derived.Test.YtkenggenkmfopaaGreatFbs
set_option linter.unusedVariables false
set_option linter.unusedSimpArgs false

/- the document's state: a term with all that is known -/
set_option maxRecDepth 4000
namespace Go.Proofs.YtkenggenkmfopaaGreat
open Go Go.RowKit Go.V

abbrev zTc:List AV:=[.int .i64 0,.int .i64 0,.str [],.nils,.nils,.nils]
def wh1(R:RS)(t:Tm)(i:Nat):AF×List Ent:=(⟨[(2,.ptr 0 0),(3,.ptr 1 0),(4,.ptr 2 0),(7,accV 3 (qf ((t.types.take i).map (qhz R)))),(8,.int .i64 i)],[]⟩,[.blk (rsc R),.blk (tmc t),.blk zTc]++accE 3 (qf ((t.types.take i).map (qhz R))))
def wh2(R:RS)(t:Tm)(x:Nat×List Tm):AF×List Ent:=(⟨[(2,.ptr 0 0),(3,.ptr 1 0),(4,.ptr 2 0),(11,accV 3 (qbl x.2)),(12,.int .i64 x.1)],[]⟩,[.blk (rsc R),.blk (tmc t),.blk zTc]++accM 6 (qbl x.2))
set_option maxHeartbeats 2000000 in
theorem q0u{R:RS}(hl:R.known.length≤100000)(ho:okS R.known){t:Tm}(hk:t.kind≠14)(hz:szTm t≤3000)(hs:smK t){f:Tm->Option Tm}(hf:∀x∈t.kids,∀y,f x=some y->qj Tryz.prog 80 [qbx R,encT x] (encT y)){ks:List Tm}(hks:whlK f t.kids=some ks):
 qj Tryz.prog 80 [qbx R,encT t] (encT (.mk t.kind t.num t.name t.vars (t.types.map (qhz R)) ks)):=by
 refine qd c0gc (by simp) (by simp only[go_sem]) (by simp only[qb4]) fun hw=>?_
 obtain⟨s1,s2,s3⟩:=(qse t).1 hs
 rw[qia] at hz
 have hkl:=qjn t.kids
 have hkd:decide (t.kind=14)=false:=decide_eq_false hk
 unfold k0gc
 generalize hz1:IC.seq qzx _=z1
 repeat'(first|refine vs_ ?_|(refine vr_ ?_<;>try simp only[hkd,go_sem,↓reduceIte])|((first|(refine cs_ ?_ ?_<;>intro hc)|refine cj_ ?_)<;>try refine ev_ ?_)|with_reducible exact ti_)
 refine qk (S:=Nat) (fun i=>i≤t.types.length) (wh1 R t) (fun i=>t.types.length-i) ?_ fun i hi=>?_
 ·refine qg 0 [0,1,2] (Nat.zero_le _) rfl (by simp) ?_ ?_ ?_<;>simp only[wh1,List.take_zero,List.map_nil,qf,qq,qw,List.append_nil]<;>(try refine ev_ ?_)<;>(try with_reducible exact ti_)<;>(try simp (disch:=omega) only[qb,and_true,true_and])
 ·unfold wh1
  have hol:(qf ((t.types.take i).map (qhz R))).length=i:=by rw[q9,List.length_map,List.length_take];omega
  by_cases hlt:i<t.types.length
  ·have hg:=ql hlt
   have hltI:(i:Int)<(t.types.length:Int):=by omega
   have hx:=s1 _ (qba hlt)
   have hT:=q14 (R:=R) (t:=t.types.getD i Y0) hl (by omega) (qxt ho hx)
   have e1:qf ((t.types.take i).map (qhz R))++[encY (qhz R (t.types.getD i Y0))]=qf ((t.types.take (i+1)).map (qhz R)):=by rw[qhi hlt,qew];simp only[List.map_append,List.map_cons,List.map_nil]
   have hX:qhz R (t.types.getD i Y0)=if(typR R (t.types.getD i Y0)).2=true then(typR R (t.types.getD i Y0)).1 else t.types.getD i Y0:=rfl
   rw[hX] at e1
   clear hX
   generalize t.types.getD i Y0=x at *
   generalize typR R x=q at *
   obtain⟨u,b⟩:=q
   dsimp only at hT e1
   have c1:qbi (i+1) 48=True:=eq_true (by unfold qbi;omega)
   by_cases h0:i=0
   ·subst h0
    have n1:qf ((t.types.take 0).map (qhz R))=[]:=rfl
    rw[n1] at e1
    rw[n1]
    simp only[qq,qw,List.append_nil]
    have hlt0:(0:Int)<(t.types.length:Int):=by omega
    cases b with
    | true =>
      rw[if_pos rfl] at e1
      repeat'(first|refine vs_ ?_|(refine vr_ ?_<;>try simp (disch:=first|omega|(simp only[List.length_set,List.length_append,List.length_cons,List.length_nil];try omega)) only[hg,hlt0,qb,c1,go_sem,↓reduceIte])|((first|simp (disch:=omega) only[hg]|(refine cs_ ?_ ?_<;>intro hc)|refine cj_ ?_|refine qa hT fun _=>?_|refine qc hT ?_)<;>try refine ev_ ?_)|with_reducible exact ti_)
      refine qg 1 [0,1,2,4] ⟨by omega,by omega⟩ rfl (by simp) ?_ ?_ ?_<;>simp only[wh1,←e1,List.nil_append,qc7,qej]<;>(try refine ev_ ?_)<;>(try with_reducible exact ti_)<;>(try simp (disch:=omega) only[qb,and_true,true_and])
      all_goals rfl
    | false =>
      rw[if_neg (by simp)] at e1
      repeat'(first|refine vs_ ?_|(refine vr_ ?_<;>try simp (disch:=first|omega|(simp only[List.length_set,List.length_append,List.length_cons,List.length_nil];try omega)) only[hg,hlt0,qb,c1,go_sem,↓reduceIte])|((first|simp (disch:=omega) only[hg]|(refine cs_ ?_ ?_<;>intro hc)|refine cj_ ?_|refine qa hT fun _=>?_|refine qc hT ?_)<;>try refine ev_ ?_)|with_reducible exact ti_)
      refine qg 1 [0,1,2,4] ⟨by omega,by omega⟩ rfl (by simp) ?_ ?_ ?_<;>simp only[wh1,←e1,List.nil_append,qc7,qej]<;>(try refine ev_ ?_)<;>(try with_reducible exact ti_)<;>(try simp (disch:=omega) only[qb,and_true,true_and])
      all_goals rfl
   ·have n1:qf ((t.types.take i).map (qhz R))≠[]:=fun h=>h0 (by rw[←hol,h];rfl)
    simp only[q7 n1,qbc n1,hol]
    cases b with
    | true =>
      rw[if_pos rfl] at e1
      repeat'(first|refine vs_ ?_|(refine vr_ ?_<;>try simp (disch:=first|omega|(simp only[List.length_set,List.length_append,List.length_cons,List.length_nil];try omega)) only[hg,hltI,hol,qb,c1,go_sem,↓reduceIte])|((first|simp (disch:=omega) only[hg]|(refine cs_ ?_ ?_<;>intro hc)|refine cj_ ?_|refine qa hT fun _=>?_|refine qc hT ?_)<;>try refine ev_ ?_)|with_reducible exact ti_)
      refine qg (i+1) [0,1,2,5] ⟨by omega,by omega⟩ rfl (by simp) ?_ ?_ ?_<;>simp only[wh1,←e1,qcm,qdh,hol]<;>(try refine ev_ ?_)<;>(try with_reducible exact ti_)<;>(try simp (disch:=omega) only[qb,and_true,true_and])
      ·rw[e1];exact⟨qbm _ _,by rw[qc6]⟩
      ·rw[qo (by omega) (by omega),Int.natCast_add];rfl
    | false =>
      rw[if_neg (by simp)] at e1
      repeat'(first|refine vs_ ?_|(refine vr_ ?_<;>try simp (disch:=first|omega|(simp only[List.length_set,List.length_append,List.length_cons,List.length_nil];try omega)) only[hg,hltI,hol,qb,c1,go_sem,↓reduceIte])|((first|simp (disch:=omega) only[hg]|(refine cs_ ?_ ?_<;>intro hc)|refine cj_ ?_|refine qa hT fun _=>?_|refine qc hT ?_)<;>try refine ev_ ?_)|with_reducible exact ti_)
      refine qg (i+1) [0,1,2,5] ⟨by omega,by omega⟩ rfl (by simp) ?_ ?_ ?_<;>simp only[wh1,←e1,qcm,qdh,hol]<;>(try refine ev_ ?_)<;>(try with_reducible exact ti_)<;>(try simp (disch:=omega) only[qb,and_true,true_and])
      ·rw[e1];exact⟨qbm _ _,by rw[qc6]⟩
      ·rw[qo (by omega) (by omega),Int.natCast_add];rfl
  ·have hie:i=t.types.length:=by omega
   subst hie
   rw[List.take_length] at hol ⊢
   have hnn:¬(t.types.length:Int)<(t.types.length:Int):=by omega
   repeat'(first|refine vs_ ?_|(refine vr_ ?_<;>try simp only[hnn,go_sem,↓reduceIte])|((first|(refine cs_ ?_ ?_<;>intro hc)|refine cj_ ?_)<;>try refine ev_ ?_)|with_reducible exact ti_)
   subst hz1
   obtain⟨TY,hTY⟩:∃TY,t.types.map (qhz R)=TY:=⟨_,rfl⟩
   rw[hTY] at hol ⊢
   obtain⟨t1,ht1⟩:∃t1:Tm,Tm.mk t.kind t.num t.name t.vars TY t.kids=t1:=⟨_,rfl⟩
   have htm:tmc t1=[.int .i64 t.kind,.int .i64 t.num,.str t.name,.sl 1 (ints t.vars),.sl 3 (qf TY),.sl 6 (qbl t.kids)]:=by rw[←ht1];rfl
   have hk1:t1.kids=t.kids:=by rw[←ht1];rfl
   refine qdw (S:=Unit) (fun _=>True) (fun _=>(⟨[(2,.ptr 0 0),(3,.ptr 1 0),(4,.ptr 2 0)],[]⟩,[.blk (rsc R),.blk [.int .i64 t.kind,.int .i64 t.num,.str t.name,.sl 1 (ints t.vars),accV 3 (qf TY),.sl 6 (qbl t.kids)],.blk zTc]++accE 3 (qf TY))) ?_ fun _ _=>?_
   ·by_cases h0:TY=[]
    ·have n1:qf TY=[]:=by rw[h0,qf]
     rw[n1,qq,qw]
     repeat'(first|refine vs_ ?_|((first|refine vr_ ?_|(refine cs_ ?_ ?_<;>intro hc)|refine cj_ ?_)<;>try refine ev_ ?_)|with_reducible exact ti_)
     refine qg () [0,1,2] trivial rfl (by simp) ?_ ?_ ?_<;>simp only[List.append_nil]<;>(try refine ev_ ?_)<;>(try with_reducible exact ti_)<;>(try simp (disch:=omega) only[qb,and_true,true_and])
    ·have n1:qf TY≠[]:=fun h=>h0 (List.length_eq_zero_iff.1 (by rw[←q9,h];rfl))
     rw[q7 n1,qbc n1,hol]
     repeat'(first|refine vs_ ?_|(refine vr_ ?_<;>try simp only[hol,go_sem,↓reduceIte])|((first|(refine cs_ ?_ ?_<;>intro hc)|refine cj_ ?_)<;>try refine ev_ ?_)|with_reducible exact ti_)
     refine qg () [0,1,2,3] trivial rfl (by simp) ?_ ?_ ?_<;>(try refine ev_ ?_)<;>(try with_reducible exact ti_)<;>(try simp (disch:=omega) only[qb,and_true,true_and])
   dsimp only
   generalize hz2:IC.seq (IC.seq qyx _) _=z2
   refine qdw (S:=Unit) (fun _=>True) (fun _=>(⟨[(2,.ptr 0 0),(3,.ptr 1 0),(4,.ptr 2 0),(11,.nils)],[]⟩,[.blk (rsc R),.blk (tmc t1),.blk zTc])) ?_ fun _ _=>?_
   ·by_cases h0:TY=[]
    ·have n1:qf TY=[]:=by rw[h0,qf]
     rw[n1,qq,qw]
     refine qik 1 4 (.sl 3) rfl ?_
     simp only[List.getD_cons_succ,List.getD_cons_zero,List.set_cons_succ,List.set_cons_zero,co,ent,List.append_nil,List.cons_append,List.nil_append]
     repeat'(first|refine vs_ ?_|((first|refine vr_ ?_|(refine cs_ ?_ ?_<;>intro hc)|refine cj_ ?_)<;>try refine ev_ ?_)|with_reducible exact ti_)
     refine qg () [0,1,2] trivial rfl (by simp) ?_ ?_ ?_<;>simp only[htm,n1]<;>(try refine ev_ ?_)<;>(try with_reducible exact ti_)<;>(try simp (disch:=omega) only[qb,and_true,true_and])
    ·have n1:qf TY≠[]:=fun h=>h0 (List.length_eq_zero_iff.1 (by rw[←q9,h];rfl))
     rw[q7 n1,qbc n1,hol]
     refine qik 1 4 (.sl 3) rfl ?_
     simp only[List.getD_cons_succ,List.getD_cons_zero,List.set_cons_succ,List.set_cons_zero,co,ent,hol,if_true,List.cons_append,List.nil_append]
     repeat'(first|refine vs_ ?_|(refine vr_ ?_<;>try simp only[hol,go_sem,↓reduceIte])|((first|(refine cs_ ?_ ?_<;>intro hc)|refine cj_ ?_)<;>try refine ev_ ?_)|with_reducible exact ti_)
     refine qg () [0,1,2] trivial rfl (by simp) ?_ ?_ ?_<;>simp only[htm]<;>(try refine ev_ ?_)<;>(try with_reducible exact ti_)<;>(try simp (disch:=omega) only[qb,and_true,true_and])
   subst hz2
   dsimp only
   have hkb:t1.kids.length≤3000:=by rw[hk1];omega
   rw[←hk1] at hks hkl
   have hf1:∀x∈t1.kids,∀y,f x=some y->qj Tryz.prog 80 [qbx R,encT x] (encT y):=fun x hx=>hf x (by rw[←hk1];exact hx)
   have hfin:Tm.mk t.kind t.num t.name t.vars TY ks=.mk t1.kind t1.num t1.name t1.vars t1.types ks:=by rw[←ht1];rfl
   rw[hfin]
   clear hfin ht1 htm hTY hk1 hf
   repeat'(first|refine vs_ ?_|((first|refine vr_ ?_|(refine cs_ ?_ ?_<;>intro hc)|refine cj_ ?_)<;>try refine ev_ ?_)|with_reducible exact ti_)
   refine qk (S:=Nat×List Tm) (fun x=>x.1≤t1.kids.length∧x.2.length=x.1∧∃ys,whlK f (t1.kids.drop x.1)=some ys∧x.2++ys=ks) (wh2 R t1) (fun x=>t1.kids.length-x.1) ?_ fun x hx=>?_
   ·refine qg (0,[]) [0,1,2] ⟨Nat.zero_le _,rfl,ks,hks,rfl⟩ rfl (by simp) ?_ ?_ ?_<;>simp only[wh2,qbl,qq,qhv,List.append_nil]<;>(try refine ev_ ?_)<;>(try with_reducible exact ti_)<;>(try simp (disch:=omega) only[qb,and_true,true_and])
   ·obtain⟨i,acc⟩:=x
    obtain⟨hi,hacc,ys,hys,hksE⟩:=hx
    dsimp only at hi hacc hys hksE ⊢
    unfold wh2
    dsimp only
    have hol2:(qbl acc).length=i:=by rw[qdl,hacc]
    by_cases hlt:i<t1.kids.length
    ·rw[qfn hlt,whlK] at hys
     have hfx:=hf1 _ (qbh hlt)
     have hg:=qbe hlt
     have hltI:(i:Int)<(t1.kids.length:Int):=by omega
     generalize t1.kids.getD i T0=x at *
     cases hfe:f x with
     | none=>rw[hfe] at hys;cases hys
     | some y =>
       rw[hfe] at hys
       dsimp only at hys
       have hcall:=hfx y hfe
       cases hre:whlK f (t1.kids.drop (i+1)) with
       | none=>rw[hre] at hys;cases hys
       | some zs =>
         rw[hre] at hys
         simp only[Option.some.injEq] at hys
         subst hys
         have e1:qbl acc++[encT y]=qbl (acc++[y]):=qpa acc y
         have c1:qbi (i+1) 104=True:=eq_true (by unfold qbi;omega)
         have hnxt:(acc++[y])++zs=ks:=by rw[←hksE,List.append_assoc];rfl
         have hlen1:(acc++[y]).length=i+1:=by rw[List.length_append,List.length_singleton,hacc]
         by_cases h0:i=0
         ·subst h0
          have ha0:acc=[]:=List.length_eq_zero_iff.1 hacc
          subst ha0
          have n1:qbl ([]:List Tm)=[]:=by rw[qbl]
          rw[n1] at e1 ⊢
          simp only[qq,qhv,List.append_nil]
          have hlt0:(0:Int)<(t1.kids.length:Int):=by omega
          repeat'(first|refine vs_ ?_|(refine vr_ ?_<;>try simp (disch:=first|omega|(simp only[List.length_set,List.length_append,List.length_cons,List.length_nil];try omega)) only[hg,hlt0,qb,c1,go_sem,↓reduceIte])|((first|simp (disch:=omega) only[hg]|(refine cs_ ?_ ?_<;>intro hc)|refine cj_ ?_|refine qa hcall fun _=>?_|refine qc hcall ?_)<;>try refine ev_ ?_)|with_reducible exact ti_)
          have e2:qbl [y]=[encT y]:=by rw[qbl,qbl]
          refine qg (1,[y]) [0,1,2,3] ⟨⟨by dsimp only;omega,hlen1,zs,hre,hnxt⟩,by dsimp only;omega⟩ rfl (by simp) ?_ ?_ ?_<;>simp only[wh2,e2,qc7,qqg]<;>(try refine ev_ ?_)<;>(try with_reducible exact ti_)<;>(try simp (disch:=omega) only[qb,and_true,true_and])
          all_goals first | rfl
         ·have n1:qbl acc≠[]:=fun h=>h0 (by rw[←hol2,h];rfl)
          simp only[q7 n1,qmd n1,hol2]
          repeat'(first|refine vs_ ?_|(refine vr_ ?_<;>try simp (disch:=first|omega|(simp only[List.length_set,List.length_append,List.length_cons,List.length_nil];try omega)) only[hg,hltI,hol2,qb,c1,go_sem,↓reduceIte])|((first|simp (disch:=omega) only[hg]|(refine cs_ ?_ ?_<;>intro hc)|refine cj_ ?_|refine qa hcall fun _=>?_|refine qc hcall ?_)<;>try refine ev_ ?_)|with_reducible exact ti_)
          refine qg (i+1,acc++[y]) [0,1,2,4] ⟨⟨by dsimp only;omega,hlen1,zs,hre,hnxt⟩,by dsimp only;omega⟩ rfl (by simp) ?_ ?_ ?_<;>simp only[wh2,←e1,qcm,qnq,hol2]<;>(try refine ev_ ?_)<;>(try with_reducible exact ti_)<;>(try simp (disch:=omega) only[qb,and_true,true_and])
          ·rw[e1];exact⟨qhn _ _,by rw[qsh]⟩
          ·rw[qo (by omega) (by omega),Int.natCast_add];rfl
    ·have hie:i=t1.kids.length:=by omega
     subst hie
     rw[List.drop_length,whlK] at hys
     simp only[Option.some.injEq] at hys
     subst hys
     rw[List.append_nil] at hksE
     subst hksE
     have hnn2:¬(t1.kids.length:Int)<(t1.kids.length:Int):=by omega
     by_cases h0:acc=[]
     ·subst h0
      have n1:qbl ([]:List Tm)=[]:=by rw[qbl]
      rw[n1]
      simp only[qq,qhv,List.append_nil]
      repeat'(first|refine vs_ ?_|(refine vr_ ?_<;>try simp only[hnn2,go_sem,↓reduceIte])|((first|(refine cs_ ?_ ?_<;>intro hc)|refine cj_ ?_)<;>try refine ev_ ?_)|with_reducible exact ti_)
      all_goals rw[encT,qbl]
     ·have n1:qbl acc≠[]:=fun h=>h0 (List.length_eq_zero_iff.1 (by rw[←qdl,h];rfl))
      simp only[q7 n1,qmd n1,hol2]
      refine qb6 3 rfl (qp2 _) ?_
      repeat'(first|refine vs_ ?_|(refine vr_ ?_<;>try simp only[hnn2,hol2,go_sem,↓reduceIte])|((first|(refine cs_ ?_ ?_<;>intro hc)|refine cj_ ?_)<;>try refine ev_ ?_)|with_reducible exact ti_)
      all_goals rw[encT]
set_option maxRecDepth 4000

theorem qwq{R:RS}(hl:R.known.length≤100000)(ho:okS R.known)(hF:qp1 R.fills):∀(n:Nat) (t r:Tm),szTm t≤3000->smK t->whlF R n t=some r->qj Tryz.prog 80 [qbx R,encT t] (encT r):=by
 intro n
 induction n with
 | zero=>intro t r _ _ h;rw[whlF] at h;cases h
 | succ n ih =>
   intro t r hz hs h
   rw[whlF] at h
   by_cases hk:t.kind=14
   ·rw[if_pos hk] at h
    refine qd c0gc (by simp) (by simp only[go_sem]) (qb4 0 _) fun hw=>?_
    have hkd:decide (t.kind=14)=true:=decide_eq_true hk
    have hfl:=qk2 R t.num
    cases hg:filG R.fills t.num with
    | none =>
      rw[hg] at h hfl
      simp only[Option.some.injEq] at h
      subst h
      have hfl:qj Tryz.prog 79 [qbx R,.int .i64 t.num] (.tup [encT T0,.bool false]):=hfl
      repeat'(first|refine vs_ ?_|(refine vr_ ?_<;>try simp only[hkd,go_sem,↓reduceIte])|((first|(refine cs_ ?_ ?_<;>intro hc)|refine cj_ ?_|refine qa hfl fun _=>?_|refine qc hfl ?_)<;>try refine ev_ ?_)|with_reducible exact ti_)
    | some u =>
      rw[hg] at h hfl
      have hfl:qj Tryz.prog 79 [qbx R,.int .i64 t.num] (.tup [encT u,.bool true]):=hfl
      obtain⟨⟨f1,f2⟩,_⟩:=hF _ (qjk hg)
      have hcall:=ih u r f1 f2 h
      repeat'(first|refine vs_ ?_|(refine vr_ ?_<;>try simp only[hkd,go_sem,↓reduceIte])|((first|(refine cs_ ?_ ?_<;>intro hc)|refine cj_ ?_|refine qa hfl fun _=>?_|refine qa hcall fun _=>?_|refine qc hfl ?_|refine qc hcall ?_)<;>try refine ev_ ?_)|with_reducible exact ti_)
   ·rw[if_neg hk] at h
    cases hq:whlK (whlF R n) t.kids with
    | none=>rw[hq] at h;cases h
    | some ks =>
      rw[hq] at h
      simp only[Option.some.injEq] at h
      subst h
      obtain⟨s1,s2,s3⟩:=(qse t).1 hs
      have hz2:=qia t
      exact q0u hl ho hk hz hs (fun x hx y hy=>ih x y (by have:=qmo hx;omega) (qqp s3 x hx) hy) hq
def terR(t r:Tm):Tm:=if lgTR t=true then(if lgTR r=true then r else T0) else T0
theorem qz4{R:RS}(hl:R.known.length≤100000)(ho:okS R.known)(hF:qp1 R.fills){n:Nat}{t r:Tm}(hz:szTm t≤3000)(hs:smK t)(h:whlF R n t=some r):qj Tryz.prog 49 [qbx R,encT t] (encT (terR t r)):=by
 refine qd c0gd (by simp) (by simp only[go_sem]) (qb4 0 _) fun hw=>?_
 have h1:=qio (qmg t (by omega) hs)
 have h2:=qwq hl ho hF n t r hz hs h
 have h3:=qio (qb8e ho hF n t r hz hs h)
 have hzz:AV.agg [.int .i64 0,.int .i64 0,.str [],.sl 1 [],.sl 3 [],.sl 6 []]=encT T0:=qjb
 unfold terR
 cases c1:lgTR t with
 | false =>
   rw[c1] at h1
   repeat'(first|refine vs_ ?_|(refine vr_ ?_<;>try simp only[hzz,go_sem,↓reduceIte])|((first|(refine cs_ ?_ ?_<;>intro hc)|refine cj_ ?_|fail|refine qa h1 fun _=>?_)<;>try refine ev_ ?_)|with_reducible exact ti_)
 | true =>
   rw[c1] at h1
   cases c2:lgTR r with
   | false =>
     rw[c2] at h3
     repeat'(first|refine vs_ ?_|(refine vr_ ?_<;>try simp only[hzz,go_sem,↓reduceIte])|((first|(refine cs_ ?_ ?_<;>intro hc)|refine cj_ ?_|fail|refine qa h1 fun _=>?_|refine qa h2 fun _=>?_|refine qa h3 fun _=>?_)<;>try refine ev_ ?_)|with_reducible exact ti_)
   | true =>
     rw[c2] at h3
     repeat'(first|refine vs_ ?_|(refine vr_ ?_<;>try simp only[hzz,go_sem,↓reduceIte])|((first|(refine cs_ ?_ ?_<;>intro hc)|refine cj_ ?_|fail|refine qa h1 fun _=>?_|refine qa h2 fun _=>?_|refine qa h3 fun _=>?_)<;>try refine ev_ ?_)|with_reducible exact ti_)
set_option maxRecDepth 4000

theorem qbr8(H:List Ent)(x:Int×Tm):co H (.agg [.id,.id,.id,.id,.sl 1,.sl 3,.sl 6]) (encF x)=encF x:=by
 unfold encF;simp only[qir,qeq,qf5,qom,qeh]
theorem q4v(x:Int×Tm):rdCo (.agg [.id,.id,.id,.id,.sl 1,.sl 3,.sl 6]) (encF x)=[]:=by
 unfold encF;simp only[qeg,qc0,qdi,qf1,qcz,List.append_nil]
attribute [go_sem] qbr8 q4v
theorem q1a(l:List (Int×Tm))(p:Int×Tm):qh3 l++[encF p]=qh3 (l++[p]):=by simp[qh3]
def lowH(h:Int)(l:List Int):Bool:=l.any fun w=>decide (w≤h)
def qgw(R:RS)(h:Int)(t:Tm):Int×RS :=
 if h<0 then(1,R) else if R.holes≤h then(1,R) else if lgTR t=false then(1,R) else if lowH h (holT t)=true then(1,R) else
 match filG R.fills h with
 | some _=>(6,R)
 | none=>(0,{ R with fills:=R.fills++[(h,t)] })
abbrev fiL(R:RS)(t:Tm):List Ent:=[.blk (rsc R),.blk (tmc t),.blk [.int .i64 0,.int .i64 0,.int .i64 0,.int .i64 0,.nils,.nils,.nils,.int .i64 0,.int .i64 0]]
set_option maxHeartbeats 2000000 in
theorem q0h{R:RS}{h:Int}{t:Tm}(hn:R.fills.length≤1000000)(hz:szTm t≤3000)(hs:smK t):qj Tryz.prog 48 [qbx R,.int .i64 h,encT t] (.tup [qbx (qgw R h t).2,.int .i64 (qgw R h t).1]):=by
 refine qd c0gb (by simp) (by simp only[go_sem]) (by simp only[AV.bd,AV.bds,qcx,Bool.and_true]) fun hw=>?_
 have hL:=qio (qmg t (by omega) hs)
 have hsz:=qbmt t
 have hH:=qv2 t (by omega)
 have hFl:=qk2 R h
 unfold qgw
 by_cases h1:h<0
 ·rw[if_pos h1]
  repeat'(first|refine vs_ ?_|(refine vr_ ?_<;>try simp only[h1,go_sem,↓reduceIte])|((first|(refine cs_ ?_ ?_<;>intro hc)|refine cj_ ?_)<;>try refine ev_ ?_)|with_reducible exact ti_)
  all_goals first | rfl
 rw[if_neg h1]
 by_cases h2:R.holes≤h
 ·rw[if_pos h2]
  repeat'(first|refine vs_ ?_|(refine vr_ ?_<;>try simp only[h1,h2,go_sem,↓reduceIte])|((first|(refine cs_ ?_ ?_<;>intro hc)|refine cj_ ?_)<;>try refine ev_ ?_)|with_reducible exact ti_)
  all_goals first | rfl
 rw[if_neg h2]
 cases c3:lgTR t with
 | false =>
   rw[if_pos rfl]
   rw[c3] at hL
   repeat'(first|refine vs_ ?_|(refine vr_ ?_<;>try simp only[h1,h2,go_sem,↓reduceIte])|((first|(refine cs_ ?_ ?_<;>intro hc)|refine cj_ ?_|refine qa hL fun _=>?_|refine qc hL ?_)<;>try refine ev_ ?_)|with_reducible exact ti_)
   all_goals first | rfl
 | true =>
   rw[if_neg (by simp)]
   rw[c3] at hL
   generalize holT t=L at *
   unfold k0gb
   generalize hz1:IC.seq qzj _=z1
   repeat'(first|refine vs_ ?_|(refine vr_ ?_<;>try simp only[h1,h2,go_sem,↓reduceIte])|((first|(refine cs_ ?_ ?_<;>intro hc)|refine cj_ ?_|refine qa hL fun _=>?_|refine qa hH fun _=>?_|refine qc hL ?_|refine qc hH ?_)<;>try refine ev_ ?_)|with_reducible exact ti_)
   refine qk (S:=Nat) (fun i=>i≤L.length∧lowH h (L.drop i)=lowH h L) (fun i=>(⟨[(1,.int .i64 h),(3,.ptr 0 0),(5,.ptr 1 0),(6,.ptr 2 0),(8,.sl 1 (ints L)),(9,.int .i64 i)],[]⟩,fiL R t)) (fun i=>L.length-i) ?_ fun i hi=>?_
   ·refine qg 0 [0,1,2] ⟨Nat.zero_le _,rfl⟩ rfl (by simp) ?_ ?_ ?_<;>(try refine ev_ ?_)<;>(try with_reducible exact ti_)<;>(try simp (disch:=omega) only[qb,and_true,true_and])
   ·obtain⟨hi,ha⟩:=hi
    by_cases hlt:i<L.length
    ·have hg:=qfm hlt
     have hltI:(i:Int)<(L.length:Int):=by omega
     rw[qwx hlt,lowH,List.any_cons] at ha
     generalize L.getD i 0=w at *
     by_cases hwh:w≤h
     ·rw[decide_eq_true hwh,Bool.true_or] at ha
      rw[if_pos ha.symm]
      repeat'(first|refine vs_ ?_|(refine vr_ ?_<;>try simp only[hg,hltI,hwh,go_sem,↓reduceIte])|((first|simp (disch:=omega) only[hg]|(refine cs_ ?_ ?_<;>intro hc)|refine cj_ ?_)<;>try refine ev_ ?_)|with_reducible exact ti_)
      all_goals first | rfl | (exfalso;omega)
     ·rw[decide_eq_false hwh,Bool.false_or] at ha
      repeat'(first|refine vs_ ?_|(refine vr_ ?_<;>try simp (disch:=first|omega|(simp only[List.length_set,List.length_append,List.length_cons,List.length_nil];try omega)) only[hg,hltI,hwh,qb,go_sem,↓reduceIte])|((first|simp (disch:=omega) only[hg]|(refine cs_ ?_ ?_<;>intro hc)|refine cj_ ?_)<;>try refine ev_ ?_)|with_reducible exact ti_)
      all_goals try(exfalso;omega)
      refine qg (i+1) [0,1,2] ⟨⟨by omega,ha⟩,by omega⟩ rfl (by simp) ?_ ?_ ?_<;>(try refine ev_ ?_)<;>(try with_reducible exact ti_)<;>(try simp (disch:=omega) only[qb,and_true,true_and])
      all_goals first | rfl | (rw[qo (by omega) (by omega),Int.natCast_add];rfl)
    ·rw[List.drop_of_length_le (by omega)] at ha
     have hno:lowH h L=false:=ha.symm
     rw[if_neg (by rw[hno];simp)]
     have hnn:¬(i:Int)<(L.length:Int):=by omega
     cases hf:filG R.fills h with
     | some u =>
       rw[hf] at hFl
       have hFl:qj Tryz.prog 79 [qbx R,.int .i64 h] (.tup [encT u,.bool true]):=hFl
       repeat'(first|refine vs_ ?_|(refine vr_ ?_<;>try simp only[hnn,go_sem,↓reduceIte])|((first|(refine cs_ ?_ ?_<;>intro hc)|refine cj_ ?_|refine qa hFl fun _=>?_|refine qc hFl ?_)<;>try refine ev_ ?_)|with_reducible exact ti_)
       all_goals first | (exfalso;omega) | rfl
     | none =>
       rw[hf] at hFl
       have hFl:qj Tryz.prog 79 [qbx R,.int .i64 h] (.tup [encT T0,.bool false]):=hFl
       have hwf:AV.agg [.int .i64 h,.int .i64 t.kind,.int .i64 t.num,.str t.name,.sl 1 (ints t.vars),.sl 3 (qf t.types),.sl 6 (qbl t.kids)]=encF (h,t):=rfl
       have c1:qbi (R.fills.length+1) 112=True:=eq_true (by unfold qbi;omega)
       have c2:qbi R.fills.length 112=True:=eq_true (by unfold qbi;omega)
       have c3':qbi 1 112=True:=eq_true (by unfold qbi;omega)
       by_cases h0:R.fills.length=0
       ·have hnil:R.fills=[]:=List.length_eq_zero_iff.1 h0
        repeat'(first|refine vs_ ?_|(refine vr_ ?_<;>try simp only[hnn,hwf,h0,c1,c2,c3',go_sem,↓reduceIte])|((first|(refine cs_ ?_ ?_<;>intro hc)|refine cj_ ?_|refine qa hFl fun _=>?_|refine qc hFl ?_)<;>try refine ev_ ?_)|with_reducible exact ti_)
        subst hz1
        rw[hnil]
        have hsn:[encF (h,t)]=qh3 [(h,t)]:=rfl
        rw[hsn]
        repeat'(first|refine vs_ ?_|((first|refine vr_ ?_|(refine cs_ ?_ ?_<;>intro hc)|refine cj_ ?_)<;>try refine ev_ ?_)|with_reducible exact ti_)
        all_goals first | rfl
       ·repeat'(first|refine vs_ ?_|(refine vr_ ?_<;>try simp only[hnn,hwf,h0,c1,c2,c3',go_sem,↓reduceIte])|((first|(refine cs_ ?_ ?_<;>intro hc)|refine cj_ ?_|refine qa hFl fun _=>?_|refine qc hFl ?_)<;>try refine ev_ ?_)|with_reducible exact ti_)
        subst hz1
        have hsn:qh3 R.fills++[encF (h,t)]=qh3 (R.fills++[(h,t)]):=q1a _ _
        have hlen:(qh3 (R.fills++[(h,t)])).length=R.fills.length+1:=by rw[ql1,List.length_append];rfl
        have hlen2:(R.fills++[((h,t):Int×Tm)]).length=R.fills.length+1:=by rw[List.length_append];rfl
        rw[hsn]
        repeat'(first|refine vs_ ?_|(refine vr_ ?_<;>try simp only[hlen,hlen2,go_sem,↓reduceIte])|((first|(refine cs_ ?_ ?_<;>intro hc)|refine cj_ ?_)<;>try refine ev_ ?_)|with_reducible exact ti_)
        all_goals first | rfl
end Go.Proofs.YtkenggenkmfopaaGreat
