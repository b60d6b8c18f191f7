/- A text of this proof. -/
import Derived.Test.YtkenggenkmfopaaGreatSbu
import Derived.Test.YtkenggenkmfopaaGreatSbv
set_option linter.unusedVariables false
set_option linter.unusedSimpArgs false

/- the law: types that were made one are the same, now and later -/
set_option maxRecDepth 4000
namespace Go.Proofs.YtkenggenkmfopaaGreat
open Go Go.RowKit Go.V

def R00:RS:=⟨0,0,0,0,[],[],[],0,0⟩
theorem qbif:AV.agg [.int .i64 0,.int .i64 0,.int .i64 0,.int .i64 0,.sl 4 [],.sl 6 [],.sl 7 [],.int .i64 0,.int .i64 0]=qby R00:=rfl
def qre(l:List Dd):List Int:=l.flatMap fun d=>varY d.a++varY d.b
theorem q8z{l:List Dd}{d:Dd}(h:d∈l):(∀w,w∈varY d.a->w∈qre l)∧∀w,w∈varY d.b->w∈qre l :=
 ⟨fun w hw=>List.mem_flatMap.2 ⟨d,h,List.mem_append.2 (.inl hw)⟩,fun w hw=>List.mem_flatMap.2 ⟨d,h,List.mem_append.2 (.inr hw)⟩⟩
theorem q8u{l:List Dd}(h:l.all okD=true):(qre l).length≤400*l.length:=by
 induction l with
 | nil=>simp[qre]
 | cons d r ih =>
   rw[List.all_cons,Bool.and_eq_true] at h
   have h1:=q57 h.1
   have h2:=ih h.2
   have e:qre (d::r)=(varY d.a++varY d.b)++qre r:=by simp[qre]
   have v1:=qip d.a
   have v2:=qip d.b
   rw[e,List.length_append,List.length_append,List.length_cons]
   omega
theorem q4v{l:List Dd}(h:qou l=true):l.length≤60∧l.all okD=true∧(qre l).length≤24000:=by
 unfold qou at h
 rw[Bool.and_eq_true,Bool.and_eq_true,decide_eq_true_eq] at h
 have:=q8u h.1.2
 exact⟨h.1.1,h.1.2,by have:=h.1.1;omega⟩
theorem q3m(V:List Int):J37 V 0 S0 R00 :=
 ⟨⟨qek,fun p hp=>(by cases hp),fun p hp=>(by cases hp),fun p hp=>(by cases hp),fun p hp=>(by cases hp),fun p hp=>(by cases hp)⟩,rfl,rfl,Nat.le_refl _,Nat.le_refl _,⟨by decide,by decide⟩,⟨by decide,by decide⟩,fun p hp=>(by cases hp),fun p hp=>(by cases hp),Nat.le_refl _⟩
theorem qcn4(R:RS)(d:Dd):AV.bds 0 [qby R,encD d]=true:=by simp only[AV.bds,qc3,qri,Bool.and_true]
theorem qci9(R:RS)(c:Bool):AV.bd 0 (.tup [qby R,.bool c])=true:=by simp only[AV.bds,AV.bd,qc3,Bool.and_true]
theorem qn8(t:Ty):qkk t t=true:=(qzj t t).2 rfl
theorem qbh2{S:SS}(h:okS S.known){a:Ty}(ha:szY a≤200):szY (typS S a)≤1000000:=by
 rw[qkb]
 have h1:=q4z h a
 split
 ·split
  ·omega
  ·exact(by decide:szY Y0≤1000000)
 ·exact(by decide:szY Y0≤1000000)
abbrev isI(V:List Int)(l:List Dd)(a b:Ty)(ok:Bool)(x:Nat×SS×RS):Prop:=x.1≤l.length∧J37 V (x.1+1) x.2.1 x.2.2∧(ok=true->putY x.2.1.known a=putY x.2.1.known b)
def isSt(l:List Dd)(a b:Ty)(ok:Bool)(x:Nat×SS×RS):AF×List Ent:=(⟨[(0,.sl 16 (qj0 l)),(4,.ptr 0 0),(5,.ptr 1 0),(7,.ptr 2 0),(8,.ptr 3 0),(9,.bool ok),(10,.int .i64 x.1)],[]⟩,[.blk (yc a),.blk (yc b),stE x.2.1,.blk (rsc x.2.2)])
set_option maxHeartbeats 4000000 in
theorem qop(l:List Dd)(a b:Ty):qj Tryz.prog 3 [.sl 16 (qj0 l),encY a,encY b] (.bool true):=by
 refine qd c0er (by simp) (by simp only[AV.bds,AV.bd,ql3,qx,Bool.and_true]) rfl fun hw=>?_
 have hF:=qbe6 l
 have h16:=qcdi [a,b]
 rw[←qvf] at h16
 have hA:=qd3 a
 have hB:=qd3 b
 by_cases hf:qou l=true
 case neg =>
  have hf:qou l=false:=by simpa using hf
  rw[hf] at hF
  repeat'(first|refine vs_ ?_|((first|refine vr_ ?_|refine qa hF fun _=>?_|refine qa qc6 fun _=>?_|refine qc hF ?_|refine qc qc6 ?_|(refine cs_ ?_ ?_<;>intro hc)|refine cj_ ?_)<;>try refine ev_ ?_)|with_reducible exact ti_)
 rw[hf] at hF
 by_cases hw16:qe0 [a,b]=true
 case neg =>
  rw[if_neg hw16] at h16
  repeat'(first|refine vs_ ?_|(refine vr_ ?_<;>try simp only[Int.reduceEq,decide_true,decide_false,Bool.false_eq_true,go_sem,↓reduceIte])|((first|(refine cs_ ?_ ?_<;>intro hc)|refine cj_ ?_|refine qa hF fun _=>?_|refine qa h16 fun _=>?_|refine qa qc6 fun _=>?_|refine qc hF ?_|refine qc h16 ?_|refine qc qc6 ?_)<;>try refine ev_ ?_)|with_reducible exact ti_)
 rw[if_pos hw16] at h16
 by_cases za:50<qde a
 ·repeat'(first|refine vs_ ?_|(refine vr_ ?_<;>try simp only[Int.reduceEq,decide_true,decide_false,Bool.false_eq_true,za,go_sem,↓reduceIte])|((first|(refine cs_ ?_ ?_<;>intro hc)|refine cj_ ?_|refine qa hF fun _=>?_|refine qa h16 fun _=>?_|refine qa hA fun _=>?_|refine qa hB fun _=>?_|refine qa qc6 fun _=>?_|refine qc hF ?_|refine qc h16 ?_|refine qc hA ?_|refine qc hB ?_|refine qc qc6 ?_)<;>try refine ev_ ?_)|with_reducible exact ti_)
  all_goals contradiction
 by_cases zb:50<qde b
 ·repeat'(first|refine vs_ ?_|(refine vr_ ?_<;>try simp only[Int.reduceEq,decide_true,decide_false,Bool.false_eq_true,za,zb,go_sem,↓reduceIte])|((first|(refine cs_ ?_ ?_<;>intro hc)|refine cj_ ?_|refine qa hF fun _=>?_|refine qa h16 fun _=>?_|refine qa hA fun _=>?_|refine qa hB fun _=>?_|refine qa qc6 fun _=>?_|refine qc hF ?_|refine qc h16 ?_|refine qc hA ?_|refine qc hB ?_|refine qc qc6 ?_)<;>try refine ev_ ?_)|with_reducible exact ti_)
  all_goals contradiction
 have hz:=qwd (l:=[a,b]) (by unfold maxLen;simp) hw16
 have a1:=qdd (l:=[a,b]) (x:=a) (by simp)
 have a2:=qkf (l:=[a,b]) (x:=a) (by simp)
 have b1:=qdd (l:=[a,b]) (x:=b) (by simp)
 have b2:=qkf (l:=[a,b]) (x:=b) (by simp)
 have za':=za
 have zb':=zb
 rw[qfx _ (by omega)] at za' zb'
 obtain⟨f1,f2,f3⟩:=q4v hf
 obtain⟨V,hVe⟩:∃V,varY a++varY b++qre l=V:=⟨_,rfl⟩
 have hV:V.length≤40000:=by
  have v1:=qip a
  have v2:=qip b
  rw[←hVe,List.length_append,List.length_append];omega
 have hVa:∀w,w∈varY a->w∈V:=fun w hw=>by rw[←hVe];simp[hw]
 have hVb:∀w,w∈varY b->w∈V:=fun w hw=>by rw[←hVe];simp[hw]
 have hVd:∀d∈l,(∀w,w∈varY d.a->w∈V)∧∀w,w∈varY d.b->w∈V:=fun d hd=>by
  obtain⟨q1,q2⟩:=q8z hd
  exact⟨fun w hw=>by rw[←hVe];exact List.mem_append.2 (.inr (q1 w hw)),fun w hw=>by rw[←hVe];exact List.mem_append.2 (.inr (q2 w hw))⟩
 obtain⟨q,hq⟩:=qbl2 [] a b
 have hj:=(qbve (q3m V) hVa hVb (S:=S0) (R:=R00) hq 0).1
 have hU:=qjp (S:=S0) 0 qek (by decide) (a:=a) (b:=b) (by omega) (by omega) (by omega) (by omega) hq
 have hR:=qna (R:=R00) 0 qek (by decide) (a:=a) (b:=b) (by omega) (by omega) (by omega) (by omega) hq
 have hone:(uniS S0 q 0).1=true->putY (uniS S0 q 0).2.known a=putY (uniS S0 q 0).2.known b∧qh a=true∧qh b=true:=fun h=>by
  have he:q.2=0:=by
   by_cases he:q.2=0
   ·exact he
   ·rw[uniS,if_pos (show S0.err=0 from rfl),if_neg he] at h;cases h
  obtain⟨_,_,k3,k4,k5⟩:=qo3 (q3m V).inv hVa hVb hq he
  refine⟨?_,k3,k4⟩
  rw[uniS,if_pos (show S0.err=0 from rfl),if_pos he]
  exact k5
 generalize (uniS S0 q 0).1=ok at *
 generalize (uniS S0 q 0).2=S1 at *
 generalize (uniR R00 q 0).1=okR at *
 generalize (uniR R00 q 0).2=R1 at *
 clear hq
 have hll:l.length≤maxLen:=by unfold maxLen;omega
 repeat'(first|refine vs_ ?_|(refine vr_ ?_<;>try simp only[Int.reduceEq,decide_true,decide_false,Bool.false_eq_true,za,zb,qbif,go_sem,↓reduceIte])|((first|(refine cs_ ?_ ?_<;>intro hc)|refine cj_ ?_|refine qa hF fun _=>?_|refine qa h16 fun _=>?_|refine qa hA fun _=>?_|refine qa hB fun _=>?_|refine qa qc6 fun _=>?_|refine qyp ?_|refine qv 2 hU (qbb7 _ _ _) rfl ?_|refine qa hR fun _=>?_|refine qc hF ?_|refine qc h16 ?_|refine qc hA ?_|refine qc hB ?_|refine qc qc6 ?_|refine qc hR ?_)<;>try refine ev_ ?_)|with_reducible exact ti_)
 all_goals try contradiction
 have hS1:J37 V 1 S1 R1:=hj
 refine qk (S:=Nat×SS×RS) (isI V l a b ok) (isSt l a b ok) (fun x=>l.length-x.1) ?_ ?_
 ·refine qf (0,S1,R1) [0,1,2,3] ⟨Nat.zero_le _,hS1,fun h=>(hone h).1⟩ rfl (by simp) ?_ ?_ ?_<;>simp only[isSt]<;>(try refine ev_ ?_)<;>(try with_reducible exact ti_)<;>(try simp (disch:=omega) only[qb,and_true,true_and])
 rintro⟨i,S,R⟩ ⟨hi,hJ,hsame⟩
 dsimp only at hi hJ hsame
 unfold isSt
 dsimp only
 by_cases hlt:i<l.length
 ·have hg:=qts hlt
  have hltI:(i:Int)<(l.length:Int):=by omega
  have hmem:=qub hlt
  have hdk:=List.all_eq_true.1 f2 _ hmem
  obtain⟨va,vb⟩:=hVd _ hmem
  generalize l.getD i D0=d at *
  obtain⟨S',R',hJ',hN,c,hdo⟩:=qcoa hV (by omega) hJ hdk va vb
  have hsame':ok=true->putY S'.known a=putY S'.known b:=fun h=>hN.grow a b (qbi (hone h).2.1) (qbi (hone h).2.2) (hsame h)
  have hl':=hJ'.inv.len
  have tA:=qng (S:=S') (t:=a) (by omega) (qd2 hJ'.inv.ok) (by omega)
  have tB:=qng (S:=S') (t:=b) (by omega) (qd2 hJ'.inv.ok) (by omega)
  have hcalls:ok=true->typS S' b=typS S' a:=fun h=>(q9k (hsame' h) (by rw[qblb (hone h).2.1,qblb (hone h).2.2])).symm
  generalize typS S' a=u at *
  generalize typS S' b=v at *
  unfold q6y
  generalize hz1:IC.seq qq5 _=z1
  repeat'(first|refine vs_ ?_|(refine vr_ ?_<;>try simp (disch:=first|omega|(simp only[List.length_set,List.length_append,List.length_cons,List.length_nil];try omega)) only[hg,hltI,qb,go_sem,↓reduceIte])|((first|simp (disch:=omega) only[hg]|(refine cs_ ?_ ?_<;>intro hc)|refine cj_ ?_|refine qb9 2 hdo (qcn4 _ _) (qci9 _ _) ?_)<;>try refine ev_ ?_)|with_reducible exact ti_)
  subst hz1
  refine qdq (S:=Unit) (fun _=>True) (fun _=>(⟨[(0,.sl 16 (qj0 l)),(4,.ptr 0 0),(5,.ptr 1 0),(7,.ptr 2 0),(8,.ptr 3 0),(9,.bool ok),(10,.int .i64 i),(13,.ptr 4 0),(14,.ptr 5 0)],[]⟩,[.blk (yc a),.blk (yc b),stE S',.blk (rsc R'),.blk (yc u),.blk (yc v)])) ?_ fun _ _=>?_
  ·unfold qq5
   refine qb2h 6 (by rfl) ?_
   simp only[List.drop_succ_cons,List.drop_zero,List.take_succ_cons,List.take_zero]
   (refine ev_ ?_;(try with_reducible exact ti_))
   refine qb9 2 tA (qw9 _) (qtl _) ?_
   (refine ev_ ?_;(try with_reducible exact ti_))
   refine qb9 2 tB (qw9 _) (qtl _) ?_
   (refine ev_ ?_;(try with_reducible exact ti_))
   rw[qb53]
   simp only[List.filter,List.map_cons,List.map_nil,swpN,Nat.reduceAdd,Nat.reduceEqDiff,ne_eq,not_true_eq_false,not_false_eq_true,decide_true,decide_false,if_false,if_true]
   refine⟨?_,?_⟩
   ·(refine ev_ ?_;(try with_reducible exact ti_))
    refine qf () [0,1,2,3,5,6] trivial rfl (by simp) ?_ ?_ ?_<;>(try refine ev_ ?_)<;>(try with_reducible exact ti_)<;>(try simp (disch:=omega) only[qb,and_true,true_and])
   ·(refine ev_ ?_;(try with_reducible exact ti_))
    refine qf () [0,1,2,3,6,5] trivial rfl (by simp) ?_ ?_ ?_<;>(try refine ev_ ?_)<;>(try with_reducible exact ti_)<;>(try simp (disch:=omega) only[qb,and_true,true_and])
  dsimp only
  have hS:=qcy u v
  cases ok with
  | true =>
    have hvu:=hcalls rfl
    subst hvu
    rw[qn8] at hS
    repeat'(first|refine vs_ ?_|(refine vr_ ?_<;>try simp (disch:=first|omega|(simp only[List.length_set,List.length_append,List.length_cons,List.length_nil];try omega)) only[qb,go_sem,↓reduceIte])|((first|(refine cs_ ?_ ?_<;>intro hc)|refine cj_ ?_|refine qa hS fun _=>?_|refine qc hS ?_)<;>try refine ev_ ?_)|with_reducible exact ti_)
    refine qf (i+1,S',R') [0,1,2,3] ⟨⟨by dsimp only;omega,hJ',fun h=>hsame' rfl⟩,by dsimp only;omega⟩ rfl (by simp) ?_ ?_ ?_<;>simp only[isSt]<;>(try refine ev_ ?_)<;>(try with_reducible exact ti_)<;>(try simp (disch:=omega) only[qb,and_true,true_and])
    all_goals first | rfl | (rw[qo (by omega) (by omega),Int.natCast_add];rfl)
  | false =>
    repeat'(first|refine vs_ ?_|(refine vr_ ?_<;>try simp (disch:=first|omega|(simp only[List.length_set,List.length_append,List.length_cons,List.length_nil];try omega)) only[qb,go_sem,↓reduceIte])|((first|(refine cs_ ?_ ?_<;>intro hc)|refine cj_ ?_)<;>try refine ev_ ?_)|with_reducible exact ti_)
    refine qf (i+1,S',R') [0,1,2,3] ⟨⟨by dsimp only;omega,hJ',fun h=>(by cases h)⟩,by dsimp only;omega⟩ rfl (by simp) ?_ ?_ ?_<;>simp only[isSt]<;>(try refine ev_ ?_)<;>(try with_reducible exact ti_)<;>(try simp (disch:=omega) only[qb,and_true,true_and])
    all_goals first | rfl | (rw[qo (by omega) (by omega),Int.natCast_add];rfl)
 ·have hnn:¬(i:Int)<(l.length:Int):=by omega
  have hl':=hJ.inv.len
  have tA:=qng (S:=S) (t:=a) (by omega) (qd2 hJ.inv.ok) (by omega)
  have hsm:=qbh2 (S:=S) hJ.inv.ok (a:=a) (by omega)
  have tU:=qng (S:=S) (t:=typS S a) (by omega) (qd2 hJ.inv.ok) hsm
  have htw:ok=true->typS S a≠Y0->typS S (typS S a)=typS S a:=fun h h0=>q16 hJ.inv (qbi (hone h).2.1) h0
  generalize typS S (typS S a)=w at *
  generalize typS S a=u at *
  have hz0:=qcy u Y0
  have hzw:=qcy w u
  have hzY:AV.agg [.str [],.int .i64 0,.sl 3 []]=encY Y0:=rfl
  cases ok with
  | false =>
    repeat'(first|refine vs_ ?_|(refine vr_ ?_<;>try simp only[hnn,go_sem,↓reduceIte])|((first|(refine cs_ ?_ ?_<;>intro hc)|refine cj_ ?_|refine qv 2 tA (qw9 _) (qtl _) ?_|refine qa qc6 fun _=>?_|refine qc qc6 ?_)<;>try refine ev_ ?_)|with_reducible exact ti_)
  | true =>
    by_cases hu0:u=Y0
    ·rw[hu0,qn8] at hz0
     rw[hu0] at tA
     repeat'(first|refine vs_ ?_|(refine vr_ ?_<;>try simp only[hnn,hzY,go_sem,↓reduceIte])|((first|(refine cs_ ?_ ?_<;>intro hc)|refine cj_ ?_|refine qv 2 tA (qw9 _) (qtl _) ?_|refine qa hz0 fun _=>?_|refine qa qc6 fun _=>?_|refine qc hz0 ?_|refine qc qc6 ?_)<;>try refine ev_ ?_)|with_reducible exact ti_)
    ·have hne:qkk u Y0=false:=by
      cases h:qkk u Y0 with
      | false=>rfl
      | true=>exact absurd ((qzj u Y0).1 h) hu0
     rw[hne] at hz0
     have hwu:=htw rfl hu0
     subst hwu
     rw[qn8] at hzw
     repeat'(first|refine vs_ ?_|(refine vr_ ?_<;>try simp only[hnn,hzY,go_sem,↓reduceIte])|((first|(refine cs_ ?_ ?_<;>intro hc)|refine cj_ ?_|refine qv 2 tA (qw9 _) (qtl _) ?_|refine qb9 2 tU (qw9 _) (qtl _) ?_|refine qa hz0 fun _=>?_|refine qa hzw fun _=>?_|refine qa qc6 fun _=>?_|refine qc hz0 ?_|refine qc hzw ?_|refine qc qc6 ?_)<;>try refine ev_ ?_)|with_reducible exact ti_)
end Go.Proofs.YtkenggenkmfopaaGreat
