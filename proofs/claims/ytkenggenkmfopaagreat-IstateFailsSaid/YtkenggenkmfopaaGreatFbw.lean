/- Texts of this proof, joined. -/
import Derived.Test.YtkenggenkmfopaaGreatFbu
import Derived.Test.YtkenggenkmfopaaGreatFbv
set_option linter.unusedVariables false
set_option linter.unusedSimpArgs false

/- the law: types that were made one are the same, now and later -/
set_option maxRecDepth 4000
namespace Go.Proofs.YtkenggenkmfopaaGreat
open Go Go.RowKit Go.V

def R00:RS:=⟨0,0,0,0,[],[],[],0,0⟩
theorem qbcg:AV.agg [.int .i64 0,.int .i64 0,.int .i64 0,.int .i64 0,.sl 4 [],.sl 6 [],.sl 7 [],.int .i64 0,.int .i64 0]=qbx R00:=rfl
def qqi(l:List Dd):List Int:=l.flatMap fun d=>varY d.a++varY d.b
theorem q4x{l:List Dd}{d:Dd}(h:d∈l):(∀w,w∈varY d.a->w∈qqi l)∧∀w,w∈varY d.b->w∈qqi l :=
 ⟨fun w hw=>List.mem_flatMap.2 ⟨d,h,List.mem_append.2 (.inl hw)⟩,fun w hw=>List.mem_flatMap.2 ⟨d,h,List.mem_append.2 (.inr hw)⟩⟩
theorem q5m{l:List Dd}(h:l.all okD=true):(qqi l).length≤400*l.length:=by
 induction l with
 | nil=>simp[qqi]
 | cons d r ih =>
   rw[List.all_cons,Bool.and_eq_true] at h
   have h1:=q2x h.1
   have h2:=ih h.2
   have e:qqi (d::r)=(varY d.a++varY d.b)++qqi r:=by simp[qqi]
   have v1:=qna d.a
   have v2:=qna d.b
   rw[e,List.length_append,List.length_append,List.length_cons]
   omega
theorem q2v{l:List Dd}(h:qok l=true):l.length≤60∧l.all okD=true∧(qqi l).length≤24000:=by
 unfold qok at h
 rw[Bool.and_eq_true,Bool.and_eq_true,decide_eq_true_eq] at h
 have:=q5m h.1.2
 exact⟨h.1.1,h.1.2,by have:=h.1.1;omega⟩
theorem qbu6(V:List Int):J37 V 0 S0 R00 :=
 ⟨⟨qfi,fun p hp=>(by cases hp),fun p hp=>(by cases hp),fun p hp=>(by cases hp),fun p hp=>(by cases hp),fun p hp=>(by cases hp)⟩,rfl,rfl,Nat.le_refl _,Nat.le_refl _,⟨by decide,by decide⟩,⟨by decide,by decide⟩,fun p hp=>(by cases hp),fun p hp=>(by cases hp),Nat.le_refl _⟩
theorem qcj7(R:RS)(d:Dd):AV.bds 0 [qbx R,encD d]=true:=by simp only[AV.bds,qcx,qp4,Bool.and_true]
theorem qbk3(R:RS)(c:Bool):AV.bd 0 (.tup [qbx R,.bool c])=true:=by simp only[AV.bds,AV.bd,qcx,Bool.and_true]
theorem q2u(t:Ty):qn1 t t=true:=(qbjm t t).2 rfl
set_option maxRecDepth 4000

theorem qboy{S S':SS}(h:S'.known=S.known)(t:Ty):typS S' t=typS S t:=by rw[q7e,q7e,h]
abbrev ifE(n pos:Int)(t:Ty):List Ent:=[.blk [.int .i64 n,.int .i64 pos],.blk (yc t)]
def if1(l:List Dd)(n pos:Int)(t:Ty)(k:Nat)(x:Nat×SS×RS):AF×List Ent:=(⟨[(0,.sl 16 (qju l)),(5,.ptr 1 0),(7,.int .i64 n),(8,.int .i64 pos),(9,.ptr 2 0),(10,.ptr 3 0),(11,.int .i64 k),(12,.int .i64 x.1)],[]⟩,ifE n pos t++[stE x.2.1,.blk (rsc x.2.2)])
def if2(l:List Dd)(n pos:Int)(t u:Ty)(p0 e0:Int)(x:Nat×SS×RS):AF×List Ent:=(⟨[(0,.sl 16 (qju l)),(5,.ptr 1 0),(9,.ptr 2 0),(10,.ptr 3 0),(15,.int .i64 p0),(16,.int .i64 e0),(17,.ptr 4 0),(18,.int .i64 x.1)],[]⟩,ifE n pos t++[stE x.2.1,.blk (rsc x.2.2),.blk (yc u)])
set_option maxHeartbeats 4000000 in
theorem qnv(l:List Dd)(w2:Int×Int)(t:Ty):qj Tryz.prog 4 [.sl 16 (qju l),.agg [.int .i64 w2.1,.int .i64 w2.2],encY t] (.bool true):=by
 obtain⟨n,pos⟩:=w2
 dsimp only
 refine qd c0er (by simp) (by simp only[AV.bds,AV.bd,qlz,qx,Bool.and_true]) rfl fun hw=>?_
 have hF:=qbit l
 have h16:=qb9e [t]
 rw[←q0i] at h16
 have hA:=qes t
 by_cases hf:qok l=true
 case neg =>
  have hf:qok l=false:=by simpa using hf
  rw[hf] at hF
  repeat'(first|refine vs_ ?_|((first|refine vr_ ?_|refine qa hF fun _=>?_|refine qa qfk fun _=>?_|refine qc hF ?_|refine qc qfk ?_|(refine cs_ ?_ ?_<;>intro hc)|refine cj_ ?_)<;>try refine ev_ ?_)|with_reducible exact ti_)
 rw[hf] at hF
 by_cases hw16:qef [t]=true
 case neg =>
  rw[if_neg hw16] at h16
  repeat'(first|refine vs_ ?_|(refine vr_ ?_<;>try simp only[Int.reduceEq,decide_true,decide_false,Bool.false_eq_true,go_sem,↓reduceIte])|((first|(refine cs_ ?_ ?_<;>intro hc)|refine cj_ ?_|refine qa hF fun _=>?_|refine qa h16 fun _=>?_|refine qa qfk fun _=>?_|refine qc hF ?_|refine qc h16 ?_|refine qc qfk ?_)<;>try refine ev_ ?_)|with_reducible exact ti_)
 rw[if_pos hw16] at h16
 by_cases za:200<qdf t
 ·repeat'(first|refine vs_ ?_|(refine vr_ ?_<;>try simp only[Int.reduceEq,decide_true,decide_false,Bool.false_eq_true,za,go_sem,↓reduceIte])|((first|(refine cs_ ?_ ?_<;>intro hc)|refine cj_ ?_|refine qa hF fun _=>?_|refine qa h16 fun _=>?_|refine qa hA fun _=>?_|refine qa qfk fun _=>?_|refine qc hF ?_|refine qc h16 ?_|refine qc hA ?_|refine qc qfk ?_)<;>try refine ev_ ?_)|with_reducible exact ti_)
  all_goals contradiction
 obtain⟨t1,t2⟩:=q5q hw16
 have za':=za
 rw[qfx _ (by omega)] at za'
 obtain⟨f1,f2,f3⟩:=q2v hf
 obtain⟨V,hVe⟩:∃V,qqi l=V:=⟨_,rfl⟩
 have hV:V.length≤40000:=by rw[←hVe];omega
 have hVd:∀d∈l,(∀w,w∈varY d.a->w∈V)∧∀w,w∈varY d.b->w∈V:=fun d hd=>by
  obtain⟨q1,q2⟩:=q4x hd
  exact⟨fun w hw=>by rw[←hVe];exact q1 w hw,fun w hw=>by rw[←hVe];exact q2 w hw⟩
 have hll:l.length≤maxLen:=by unfold maxLen;omega
 obtain⟨k,hk⟩:∃k,l.length / 2=k:=⟨_,rfl⟩
 have hkl:k≤l.length:=by omega
 unfold k0er
 generalize hz1:IC.seq q6l _=z1
 repeat'(first|refine vs_ ?_|(refine vr_ ?_<;>try simp only[Int.reduceEq,decide_true,decide_false,Bool.false_eq_true,za,qbcg,go_sem,↓reduceIte])|((first|(refine cs_ ?_ ?_<;>intro hc)|refine cj_ ?_|refine qa hF fun _=>?_|refine qa h16 fun _=>?_|refine qa hA fun _=>?_|refine qa qfk fun _=>?_|refine qzw ?_|refine qc hF ?_|refine qc h16 ?_|refine qc hA ?_|refine qc qfk ?_)<;>try refine ev_ ?_)|with_reducible exact ti_)
 all_goals try contradiction
 subst hz1
 generalize hz2:IC.seq qxm _=z2
 have hkq:IntKind.i64.wrap ((l.length:Int).tdiv 2)=(k:Int):=by
  have h1:(l.length:Int).tdiv 2=((l.length / 2:Nat):Int):=rfl
  rw[h1,hk,qo (by omega) (by omega)]
 repeat'(first|refine vs_ ?_|(refine vr_ ?_<;>try simp only[hkq,go_sem,↓reduceIte])|((first|(refine cs_ ?_ ?_<;>intro hc)|refine cj_ ?_)<;>try refine ev_ ?_)|with_reducible exact ti_)
 refine qik 3 4 (.sl 4) rfl ?_
 refine qik 3 5 (.sl 6) rfl ?_
 refine qik 3 6 (.sl 7) rfl ?_
 simp only[List.getD_cons_succ,List.getD_cons_zero,List.set_cons_succ,List.set_cons_zero,qbt]
 refine qk (S:=Nat×SS×RS) (fun x=>x.1≤k∧J37 V x.1 x.2.1 x.2.2) (if1 l n pos t k) (fun x=>k-x.1) ?_ ?_
 ·refine qg (0,S0,R00) [0,1,2,3] ⟨Nat.zero_le _,qbu6 V⟩ rfl (by simp) ?_ ?_ ?_<;>simp only[if1]<;>(try refine ev_ ?_)<;>(try with_reducible exact ti_)<;>(try simp (disch:=omega) only[qb,and_true,true_and])
  all_goals rfl
 rintro⟨i,S,R⟩ ⟨hi,hJ⟩
 dsimp only at hi hJ
 unfold if1
 dsimp only
 by_cases hlt:i<k
 ·have hg:=qmy (l:=l) (i:=i) (by omega)
  have hltI:(i:Int)<(k:Int):=by omega
  have hltL:(i:Int)<(l.length:Int):=by omega
  have hmem:=qnb (l:=l) (i:=i) (by omega)
  have hdk:=List.all_eq_true.1 f2 _ hmem
  obtain⟨va,vb⟩:=hVd _ hmem
  generalize l.getD i D0=d at *
  obtain⟨S',R',hJ',hN,c,hdo⟩:=qcgs hV (by omega) hJ hdk va vb
  repeat'(first|refine vs_ ?_|(refine vr_ ?_<;>try simp (disch:=first|omega|(simp only[List.length_set,List.length_append,List.length_cons,List.length_nil];try omega)) only[hg,hltI,hltL,qb,go_sem,↓reduceIte])|((first|simp (disch:=omega) only[hg]|(refine cs_ ?_ ?_<;>intro hc)|refine cj_ ?_|refine qcc 2 hdo (qcj7 _ _) (qbk3 _ _) ?_)<;>try refine ev_ ?_)|with_reducible exact ti_)
  all_goals try(exfalso;omega)
  refine qg (i+1,S',R') [0,1,2,3] ⟨⟨by dsimp only;omega,hJ'⟩,by dsimp only;omega⟩ rfl (by simp) ?_ ?_ ?_<;>simp only[if1]<;>(try refine ev_ ?_)<;>(try with_reducible exact ti_)<;>(try simp (disch:=omega) only[qb,and_true,true_and])
  all_goals first | rfl | (rw[qo (by omega) (by omega),Int.natCast_add];rfl)
 have hik:i=k:=by omega
 subst hik
 have hnn:¬(i:Int)<(i:Int):=by omega
 have h1:=qvd S n pos
 have h2:=qkn R n pos
 have hne:=qbgz (S:=S) n pos
 have hJ1:=(qxk hJ n pos).1
 generalize qmb S n pos=S1 at *
 generalize qu1 R n pos=R1 at *
 have h3:=qvs S1
 have hl1:=hJ1.inv.len
 have h4:=qw7 (S:=S1) (t:=t) (by omega) (qe6 hJ1.inv.ok) (by omega)
 obtain⟨u,hu⟩:∃u,typS S1 t=u:=⟨_,rfl⟩
 rw[hu] at h4
 have hb2:AV.bds 0 [.int .i64 n,.int .i64 pos]=true:=rfl
 repeat'(first|refine vs_ ?_|(refine vr_ ?_<;>try simp only[hnn,go_sem,↓reduceIte])|((first|(refine cs_ ?_ ?_<;>intro hc)|refine cj_ ?_)<;>try refine ev_ ?_)|with_reducible exact ti_)
 subst hz2
 repeat'(first|refine vs_ ?_|((first|refine vr_ ?_|refine qv 2 h1 hb2 rfl ?_|refine qa h2 fun _=>?_|refine qv 2 h3 rfl rfl ?_|refine qv 2 h4 (qb2m _) (qbg8 _) ?_|refine qc h2 ?_|(refine cs_ ?_ ?_<;>intro hc)|refine cj_ ?_)<;>try refine ev_ ?_)|with_reducible exact ti_)
 obtain⟨p0,hp0⟩:∃p0,S1.pos=p0:=⟨_,rfl⟩
 obtain⟨e0,he0⟩:∃e0,S1.err=e0:=⟨_,rfl⟩
 rw[hp0,he0]
 rw[he0] at hne
 refine qk (S:=Nat×SS×RS) (fun x=>x.1≤l.length∧J37 V (x.1+1) x.2.1 x.2.2∧x.2.1.known=S1.known∧x.2.1.err=e0∧x.2.1.pos=p0) (if2 l n pos t u p0 e0) (fun x=>l.length-x.1) ?_ ?_
 ·refine qg (i,S1,R1) [0,1,2,3,4] ⟨by dsimp only;omega,hJ1,rfl,he0,hp0⟩ rfl (by simp) ?_ ?_ ?_<;>simp only[if2]<;>(try refine ev_ ?_)<;>(try with_reducible exact ti_)<;>(try simp (disch:=omega) only[qb,and_true,true_and])
 rintro⟨j,S2,R2⟩ ⟨hj,hJ2,hk2,he2,hp2⟩
 dsimp only at hj hJ2 hk2 he2 hp2
 unfold if2
 dsimp only
 by_cases hlt:j<l.length
 ·have hg:=qmy (l:=l) (i:=j) hlt
  have hltL:(j:Int)<(l.length:Int):=by omega
  have hmem:=qnb (l:=l) (i:=j) hlt
  have hdk:=List.all_eq_true.1 f2 _ hmem
  obtain⟨va,vb⟩:=hVd _ hmem
  generalize l.getD j D0=d at *
  obtain⟨S',R',hJ',hN,c,hdo⟩:=qcgs hV (by omega) hJ2 hdk va vb
  obtain⟨m1,m2,m3⟩:=hN.fail (by rw[he2];exact hne)
  rw[hk2] at m1
  rw[he2] at m2
  rw[hp2] at m3
  have h5:=qvs S'
  rw[m2,m3] at h5
  have hl':=hJ'.inv.len
  have h6:=qw7 (S:=S') (t:=t) (by omega) (qe6 hJ'.inv.ok) (by omega)
  rw[qboy m1,hu] at h6
  have h7:=qdv u u
  rw[q2u] at h7
  repeat'(first|refine vs_ ?_|(refine vr_ ?_<;>try simp (disch:=first|omega|(simp only[List.length_set,List.length_append,List.length_cons,List.length_nil];try omega)) only[hg,hltL,qb,go_sem,↓reduceIte])|((first|simp (disch:=omega) only[hg]|(refine cs_ ?_ ?_<;>intro hc)|refine cj_ ?_|refine qcc 2 hdo (qcj7 _ _) (qbk3 _ _) ?_|refine qv 2 h5 rfl rfl ?_|refine qcc 2 h6 (qb2m _) (qbg8 _) ?_|refine qa h7 fun _=>?_|refine qc h7 ?_)<;>try refine ev_ ?_)|with_reducible exact ti_)
  all_goals try(exfalso;omega)
  refine qg (j+1,S',R') [0,1,2,3,4] ⟨⟨by dsimp only;omega,hJ',m1,m2,m3⟩,by dsimp only;omega⟩ rfl (by simp) ?_ ?_ ?_<;>simp only[if2]<;>(try refine ev_ ?_)<;>(try with_reducible exact ti_)<;>(try simp (disch:=omega) only[qb,and_true,true_and])
  all_goals first | rfl | (rw[qo (by omega) (by omega),Int.natCast_add];rfl)
 ·have hn2:¬(j:Int)<(l.length:Int):=by omega
  have hed:decide (e0=0)=false:=decide_eq_false hne
  repeat'(first|refine vs_ ?_|(refine vr_ ?_<;>try simp only[hn2,hed,go_sem,↓reduceIte])|((first|(refine cs_ ?_ ?_<;>intro hc)|refine cj_ ?_|refine qa qfk fun _=>?_|refine qc qfk ?_)<;>try refine ev_ ?_)|with_reducible exact ti_)
end Go.Proofs.YtkenggenkmfopaaGreat
