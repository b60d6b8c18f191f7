/- Texts of this proof, joined. -/
import Derived.Test.YtkenggenkmfopaaGreatFbr
import Derived.Test.YtkenggenkmfopaaGreatFbq
set_option linter.unusedVariables false
set_option linter.unusedSimpArgs false

/- the document's state: two types made one -/
set_option maxRecDepth 4000
namespace Go.Proofs.YtkenggenkmfopaaGreat
open Go Go.RowKit Go.V

set_option maxHeartbeats 1000000 in
theorem q1f{s:List Pr}{a b:Ty}{q:List Pr×Int}(hs:okS s)(hl:s.length≤40000)(a1:szY a≤20000)(a2:dpY a≤300)(b1:szY b≤20000)(b2:dpY b≤300)(h:WitQ s a b q):qj Tryz.prog 41 [.sl 4 (qz s),encY a,encY b] (rowA q):=by
 have fA:=qe3 hs (t:=a) a1 a2
 have fB:=qe3 hs (t:=b) b1 b2
 have lA:∀t:Ty,(appR s t).2=0->szY (appR s t).1≤20000∧dpY (appR s t).1≤300:=fun t ht=>q9e hs ht
 refine qd c0ev (by simp) (by simp only[AV.bds,AV.bd,qcd,qx,Bool.and_true]) (qkz _ _) fun hw=>?_
 unfold WitQ at h
 have lA1:=lA a
 have lB1:=lA b
 obtain⟨A,hA⟩:∃A,appR s a=A:=⟨_,rfl⟩
 obtain⟨B,hB⟩:∃B,appR s b=B:=⟨_,rfl⟩
 rw[hA] at fA h lA1
 rw[hB] at fB h lB1
 obtain⟨A,ea⟩:=A
 obtain⟨B,eb⟩:=B
 dsimp only at h lA1 lB1
 have fA:qj Tryz.prog 72 [.sl 4 (qz s),encY a] (.tup [encY A,.int .i64 ea]):=fA
 have fB:qj Tryz.prog 72 [.sl 4 (qz s),encY b] (.tup [encY B,.int .i64 eb]):=fB
 by_cases h1:ea=0
 ·rw[if_pos h1] at h
  subst h1
  by_cases h2:eb=0
  ·rw[if_pos h2] at h
   subst h2
   obtain⟨u,hu,h⟩:=h
   obtain⟨o1,o2,o3⟩:=qblm hu
   have hU:=qvz (lA1 rfl).1 (lA1 rfl).2 (lB1 rfl).1 (lB1 rfl).2 hu
   rw[qf0] at hU
   obtain⟨u,ue⟩:=u
   dsimp only at h hU o1 o2
   by_cases h3:ue=0
   ·rw[if_pos h3] at h
    subst h3
    have hT:=qpw hs o1 hl (by omega)
    obtain⟨R,hR⟩:∃R,behR s u=R:=⟨_,rfl⟩
    rw[hR] at hT h
    subst h
    rw[qf0] at hT
    repeat'(first|refine vs_ ?_|(refine vr_ ?_<;>try simp only[Int.reduceEq,decide_true,decide_false,Bool.false_eq_true,go_sem,↓reduceIte])|((first|(refine cs_ ?_ ?_<;>intro hc)|refine cj_ ?_|fail|refine qa fA fun _=>?_|refine qa fB fun _=>?_|refine qa hU fun _=>?_|refine qa hT fun _=>?_)<;>try refine ev_ ?_)|with_reducible exact ti_)
    all_goals rfl
   ·rw[if_neg h3] at h
    subst h
    repeat'(first|refine vs_ ?_|(refine vr_ ?_<;>try simp only[h3,Int.reduceEq,decide_true,decide_false,Bool.false_eq_true,go_sem,↓reduceIte])|((first|(refine cs_ ?_ ?_<;>intro hc)|refine cj_ ?_|fail|refine qa fA fun _=>?_|refine qa fB fun _=>?_|refine qa hU fun _=>?_)<;>try refine ev_ ?_)|with_reducible exact ti_)
    all_goals first | contradiction | rfl
  ·rw[if_neg h2] at h
   subst h
   repeat'(first|refine vs_ ?_|(refine vr_ ?_<;>try simp only[h2,Int.reduceEq,decide_true,decide_false,Bool.false_eq_true,go_sem,↓reduceIte])|((first|(refine cs_ ?_ ?_<;>intro hc)|refine cj_ ?_|fail|refine qa fA fun _=>?_|refine qa fB fun _=>?_)<;>try refine ev_ ?_)|with_reducible exact ti_)
   all_goals first | contradiction | rfl
 ·rw[if_neg h1] at h
  subst h
  repeat'(first|refine vs_ ?_|(refine vr_ ?_<;>try simp only[h1,Int.reduceEq,decide_true,decide_false,Bool.false_eq_true,go_sem,↓reduceIte])|((first|(refine cs_ ?_ ?_<;>intro hc)|refine cj_ ?_|fail|refine qa fA fun _=>?_)<;>try refine ev_ ?_)|with_reducible exact ti_)
  all_goals first | contradiction | rfl
def uniR(R:RS)(q:List Pr×Int)(pos:Int):Bool×RS :=
 if R.err=0 then(if q.2=0 then(true,{ R with known:=q.1 }) else(false,qu1 R (uniE q.2) pos)) else(false,R)
set_option maxHeartbeats 1000000 in
theorem qwo{R:RS}{a b:Ty}{q:List Pr×Int}(pos:Int)(hs:okS R.known)(hl:R.known.length≤40000)(a1:szY a≤20000)(a2:dpY a≤300)(b1:szY b≤20000)(b2:dpY b≤300)(h:WitQ R.known a b q):qj Tryz.prog 13 [qbx R,encY a,encY b,.int .i64 pos] (.tup [qbx (uniR R q pos).2,.bool (uniR R q pos).1]):=by
 have hW:=q1f hs hl a1 a2 b1 b2 h
 refine qd c0ew (by simp) (by simp only[go_sem]) (by simp only[AV.bd,AV.bds,qcx,Bool.and_true]) fun hw=>?_
 rw[qf0] at hW
 obtain⟨k,e⟩:=q
 dsimp only at hW
 unfold uniR
 dsimp only
 by_cases h1:R.err=0
 ·rw[if_pos h1]
  have hd:decide (R.err=0)=true:=decide_eq_true h1
  by_cases h2:e=0
  ·rw[if_pos h2]
   subst h2
   repeat'(first|refine vs_ ?_|(refine vr_ ?_<;>try simp only[hd,Int.reduceEq,decide_true,decide_false,Bool.false_eq_true,go_sem,↓reduceIte])|((first|(refine cs_ ?_ ?_<;>intro hc)|refine cj_ ?_|fail|refine qa hW fun _=>?_)<;>try refine ev_ ?_)|with_reducible exact ti_)
   all_goals first | (exfalso;omega) | rfl
  ·rw[if_neg h2]
   have hF:=qkn R (uniE e) pos
   have hue:uniE e=if e=1 then 2 else e:=rfl
   by_cases h3:e=1
   ·have hu:uniE e=2:=by rw[hue,if_pos h3]
    rw[hu] at hF ⊢
    subst h3
    repeat'(first|refine vs_ ?_|(refine vr_ ?_<;>try simp only[hd,Int.reduceEq,decide_true,decide_false,Bool.false_eq_true,go_sem,↓reduceIte])|((first|(refine cs_ ?_ ?_<;>intro hc)|refine cj_ ?_|fail|refine qa hW fun _=>?_|refine qa hF fun _=>?_)<;>try refine ev_ ?_)|with_reducible exact ti_)
    all_goals first | (exfalso;omega) | rfl
   ·have hu:uniE e=e:=by rw[hue,if_neg h3]
    rw[hu] at hF ⊢
    repeat'(first|refine vs_ ?_|(refine vr_ ?_<;>try simp only[hd,h2,h3,Int.reduceEq,decide_true,decide_false,Bool.false_eq_true,go_sem,↓reduceIte])|((first|(refine cs_ ?_ ?_<;>intro hc)|refine cj_ ?_|fail|refine qa hW fun _=>?_|refine qa hF fun _=>?_)<;>try refine ev_ ?_)|with_reducible exact ti_)
    all_goals first | (exfalso;omega) | rfl
 ·rw[if_neg h1]
  have hd:decide (R.err=0)=false:=decide_eq_false h1
  repeat'(first|refine vs_ ?_|(refine vr_ ?_<;>try simp only[hd,go_sem,↓reduceIte])|((first|(refine cs_ ?_ ?_<;>intro hc)|refine cj_ ?_)<;>try refine ev_ ?_)|with_reducible exact ti_)
  all_goals first | (exfalso;omega) | rfl
set_option maxRecDepth 4000

theorem q03(l m:List Ty):qj Tryz.prog 56 [.sl 3 (qf l),.sl 3 (qf m)] (.bool (qb3 l m)):=by
 refine qd c0et (by simp) (by simp only[go_sem]) rfl fun hw=>?_
 have hl:l.length≤maxLen:=by have:=hw.1.1;rwa [q9] at this
 by_cases hlm:l.length=m.length
 ·have hlmi:(l.length:Int)=m.length:=by omega
  repeat'(first|refine vs_ ?_|(refine vr_ ?_<;>try simp only[hlmi,go_sem,↓reduceIte])|((first|(refine cs_ ?_ ?_<;>intro hc)|refine cj_ ?_)<;>try refine ev_ ?_)|with_reducible exact ti_)
  refine qk (S:=Nat) (fun i=>i≤l.length∧qb3 (l.drop i) (m.drop i)=qb3 l m) (fun i=>(⟨[(0,.sl 3 (qf l)),(1,.sl 3 (qf m)),(5,.int .i64 i)],[]⟩,[])) (fun i=>l.length-i) ?_ fun i hi=>?_
  ·refine qg 0 [] ⟨Nat.zero_le _,rfl⟩ rfl (by simp) ?_ ?_ ?_<;>(try refine ev_ ?_)<;>(try with_reducible exact ti_)<;>(try simp (disch:=omega) only[qb,and_true,true_and])
  ·obtain⟨hi,ha⟩:=hi
   by_cases hlt:i<l.length
   ·have hmt:i<m.length:=by omega
    rw[qid hlt hmt] at ha
    repeat'(first|refine vs_ ?_|(refine vr_ ?_<;>try simp (disch:=first|omega|(simp only[List.length_set,List.length_append,List.length_cons,List.length_nil];try omega)) only[ql,qb,go_sem,↓reduceIte])|((first|(refine cs_ ?_ ?_<;>intro hc)|refine cj_ ?_|refine qa (qdv _ _) fun _=>?_|refine qc (qdv _ _) ?_)<;>try refine ev_ ?_)|with_reducible exact ti_)
    ·rw[←ha,hc];rfl
    ·refine qg (i+1) [] ⟨⟨by omega,by rw[←ha,hc,Bool.true_and]⟩,by omega⟩ rfl (by simp) ?_ ?_ ?_<;>(try refine ev_ ?_)<;>(try with_reducible exact ti_)<;>(try simp (disch:=omega) only[qb,and_true,true_and])
    ·exfalso;omega
   ·rw[qps (by omega) (by omega)] at ha
    repeat'(first|refine vs_ ?_|((first|refine vr_ ?_|(refine cs_ ?_ ?_<;>intro hc)|refine cj_ ?_)<;>try refine ev_ ?_)|with_reducible exact ti_)
    all_goals first | (exfalso;omega) | (rw[←ha])
 ·have hlmi:¬(l.length:Int)=m.length:=by omega
  repeat'(first|refine vs_ ?_|(refine vr_ ?_<;>try simp only[hlmi,go_sem,↓reduceIte])|((first|(refine cs_ ?_ ?_<;>intro hc)|refine cj_ ?_)<;>try refine ev_ ?_)|with_reducible exact ti_)
  rw[qj8 hlm]
mutual
def qot:Tm->Tm->Bool
 | .mk k n s v t ks,.mk k' n' s' v' t' ks'=>decide (k=k')&&decide (n=n')&&decide (s=s')&&decide (v=v')&&qb3 t t'&&qe2 ks ks'
def qe2:List Tm->List Tm->Bool
 | [],[]=>true
 | x::r,y::r'=>qot x y&&qe2 r r'
 | [],_::_=>false
 | _::_,[]=>false
end
theorem q6y(a b:Tm):qot a b=(decide (a.kind=b.kind)&&decide (a.num=b.num)&&decide (a.name=b.name)&&decide (a.vars=b.vars)&&qb3 a.types b.types&&qe2 a.kids b.kids):=by cases a;cases b;rw[qot];rfl
theorem qm3:∀{l m:List Tm},l.length≠m.length->qe2 l m=false
 | [],[],h=>absurd rfl h
 | x::r,y::r',h=>by rw[qe2,qm3 (l:=r) (m:=r') (by simpa using h),Bool.and_false]
 | [],_::_,h=>by rw[qe2]
 | _::_,[],h=>by rw[qe2]
set_option maxHeartbeats 1000000 in
theorem qpi:∀a b,qj Tryz.prog 29 [encT a,encT b] (.bool (qot a b)):=by
 refine Tm.ind fun a ih b=>?_
 refine qd c0eu (by simp) (by simp only[go_sem]) rfl fun hw=>?_
 obtain⟨hk1,hk2,hk3⟩:=qb8 hw.1
 obtain⟨hj1,hj2,hj3⟩:=qb8 hw.2.1
 have hA:=q03 a.types b.types
 rw[q6y]
 by_cases c1:a.kind=b.kind
 case neg =>
  repeat'(first|refine vs_ ?_|(refine vr_ ?_<;>try simp only[c1,go_sem,↓reduceIte])|((first|(refine cs_ ?_ ?_<;>intro hc)|refine cj_ ?_)<;>try refine ev_ ?_)|with_reducible exact ti_)
  all_goals simp[c1]
 by_cases c2:a.num=b.num
 case neg =>
  repeat'(first|refine vs_ ?_|(refine vr_ ?_<;>try simp only[c1,c2,go_sem,↓reduceIte])|((first|(refine cs_ ?_ ?_<;>intro hc)|refine cj_ ?_)<;>try refine ev_ ?_)|with_reducible exact ti_)
  all_goals simp[c2]
 by_cases c3:a.name=b.name
 case neg =>
  repeat'(first|refine vs_ ?_|(refine vr_ ?_<;>try simp only[c1,c2,c3,go_sem,↓reduceIte])|((first|(refine cs_ ?_ ?_<;>intro hc)|refine cj_ ?_)<;>try refine ev_ ?_)|with_reducible exact ti_)
  all_goals simp[c3]
 by_cases c4:a.vars.length=b.vars.length
 case neg =>
  have c4i:¬(a.vars.length:Int)=b.vars.length:=by omega
  have hv:a.vars≠b.vars:=fun h=>c4 (by rw[h])
  repeat'(first|refine vs_ ?_|(refine vr_ ?_<;>try simp only[c1,c2,c3,c4i,go_sem,↓reduceIte])|((first|(refine cs_ ?_ ?_<;>intro hc)|refine cj_ ?_)<;>try refine ev_ ?_)|with_reducible exact ti_)
  all_goals simp[hv]
 have c4i:(a.vars.length:Int)=b.vars.length:=by omega
 by_cases c5:a.kids.length=b.kids.length
 case neg =>
  have c5i:¬(a.kids.length:Int)=b.kids.length:=by omega
  rw[qm3 c5,Bool.and_false]
  repeat'(first|refine vs_ ?_|(refine vr_ ?_<;>try simp only[c1,c2,c3,c4i,c5i,go_sem,↓reduceIte])|((first|(refine cs_ ?_ ?_<;>intro hc)|refine cj_ ?_)<;>try refine ev_ ?_)|with_reducible exact ti_)
 have c5i:(a.kids.length:Int)=b.kids.length:=by omega
 cases c6:qb3 a.types b.types with
 | false =>
   rw[c6] at hA
   rw[Bool.and_false,Bool.false_and]
   repeat'(first|refine vs_ ?_|(refine vr_ ?_<;>try simp only[c1,c2,c3,c4i,c5i,go_sem,↓reduceIte])|((first|(refine cs_ ?_ ?_<;>intro hc)|refine cj_ ?_|refine qa hA fun _=>?_|refine qc hA ?_)<;>try refine ev_ ?_)|with_reducible exact ti_)
 | true =>
 rw[c6] at hA
 have d1:decide (a.kind=b.kind)=true:=decide_eq_true c1
 have d2:decide (a.num=b.num)=true:=decide_eq_true c2
 have d3:decide (a.name=b.name)=true:=decide_eq_true c3
 have d4:decide ((a.vars.length:Int)=b.vars.length)=true:=decide_eq_true c4i
 have d5:decide ((a.kids.length:Int)=b.kids.length)=true:=decide_eq_true c5i
 rw[d1,d2,d3]
 simp only[Bool.true_and,Bool.and_true]
 repeat'(first|refine vs_ ?_|(refine vr_ ?_<;>try simp only[d1,d2,d3,d4,d5,Bool.not_true,Bool.not_false,go_sem,↓reduceIte])|((first|(refine cs_ ?_ ?_<;>intro hc)|refine cj_ ?_|refine qa hA fun _=>?_|refine qc hA ?_)<;>try refine ev_ ?_)|with_reducible exact ti_)
 refine qk (S:=Nat) (fun i=>i≤a.vars.length∧decide (a.vars.drop i=b.vars.drop i)=decide (a.vars=b.vars)) (fun i=>(⟨[(2,.ptr 0 0),(3,.ptr 1 0),(5,.int .i64 i)],[]⟩,[.blk (tmc a),.blk (tmc b)])) (fun i=>a.vars.length-i) ?_ fun i hi=>?_
 ·refine qg 0 [0,1] ⟨Nat.zero_le _,rfl⟩ rfl (by simp) ?_ ?_ ?_<;>(try refine ev_ ?_)<;>(try with_reducible exact ti_)<;>(try simp (disch:=omega) only[qb,and_true,true_and])
 obtain⟨hi,ha⟩:=hi
 by_cases hlt:i<a.vars.length
 ·have hg:=qfm hlt
  have hg':=qfm (l:=b.vars) (i:=i) (by omega)
  have hltI:(i:Int)<(a.vars.length:Int):=by omega
  rw[qwx hlt,qwx (l:=b.vars) (i:=i) (by omega)] at ha
  generalize a.vars.getD i 0=x at *
  generalize b.vars.getD i 0=y at *
  by_cases hxy:x=y
  ·have hd:decide (x=y)=true:=decide_eq_true hxy
   repeat'(first|refine vs_ ?_|(refine vr_ ?_<;>try simp (disch:=first|omega|(simp only[List.length_set,List.length_append,List.length_cons,List.length_nil];try omega)) only[hg,hg',hltI,hd,qb,go_sem,↓reduceIte])|((first|simp (disch:=omega) only[hg]|simp (disch:=omega) only[hg']|(refine cs_ ?_ ?_<;>intro hc)|refine cj_ ?_)<;>try refine ev_ ?_)|with_reducible exact ti_)
   all_goals try(exfalso;omega)
   refine qg (i+1) [0,1] ⟨⟨by omega,by rw[←ha,hxy];simp⟩,by omega⟩ rfl (by simp) ?_ ?_ ?_<;>(try refine ev_ ?_)<;>(try with_reducible exact ti_)<;>(try simp (disch:=omega) only[qb,and_true,true_and])
   all_goals first | rfl | (rw[qo (by omega) (by omega),Int.natCast_add];rfl)
  ·have hd:decide (x=y)=false:=decide_eq_false hxy
   have hv:decide (a.vars=b.vars)=false:=by rw[←ha];simp[hxy]
   rw[hv,Bool.false_and]
   repeat'(first|refine vs_ ?_|(refine vr_ ?_<;>try simp (disch:=first|omega|(simp only[List.length_set,List.length_append,List.length_cons,List.length_nil];try omega)) only[hg,hg',hltI,hd,qb,go_sem,↓reduceIte])|((first|simp (disch:=omega) only[hg]|simp (disch:=omega) only[hg']|(refine cs_ ?_ ?_<;>intro hc)|refine cj_ ?_)<;>try refine ev_ ?_)|with_reducible exact ti_)
   all_goals first | (exfalso;omega)
 ·have hnn:¬(i:Int)<(a.vars.length:Int):=by omega
  rw[List.drop_of_length_le (by omega),List.drop_of_length_le (by omega)] at ha
  rw[←ha,decide_eq_true rfl,Bool.true_and]
  repeat'(first|refine vs_ ?_|(refine vr_ ?_<;>try simp only[hnn,go_sem,↓reduceIte])|((first|(refine cs_ ?_ ?_<;>intro hc)|refine cj_ ?_)<;>try refine ev_ ?_)|with_reducible exact ti_)
  refine qk (S:=Nat) (fun i=>i≤a.kids.length∧qe2 (a.kids.drop i) (b.kids.drop i)=qe2 a.kids b.kids) (fun i=>(⟨[(2,.ptr 0 0),(3,.ptr 1 0),(6,.int .i64 i)],[]⟩,[.blk (tmc a),.blk (tmc b)])) (fun i=>a.kids.length-i) ?_ fun i hi=>?_
  ·refine qg 0 [0,1] ⟨Nat.zero_le _,rfl⟩ rfl (by simp) ?_ ?_ ?_<;>(try refine ev_ ?_)<;>(try with_reducible exact ti_)<;>(try simp (disch:=omega) only[qb,and_true,true_and])
  clear ha
  obtain⟨hi,ha⟩:=hi
  by_cases hlt:i<a.kids.length
  ·have hg:=qbe hlt
   have hg':=qbe (l:=b.kids) (i:=i) (by omega)
   have hltI:(i:Int)<(a.kids.length:Int):=by omega
   have hcall:=ih _ (qbh hlt) (b.kids.getD i T0)
   rw[qfn hlt,qfn (l:=b.kids) (i:=i) (by omega),qe2] at ha
   generalize a.kids.getD i T0=x at *
   generalize b.kids.getD i T0=y at *
   cases hxy:qot x y with
   | true =>
     rw[hxy] at hcall ha
     rw[Bool.true_and] at ha
     repeat'(first|refine vs_ ?_|(refine vr_ ?_<;>try simp (disch:=first|omega|(simp only[List.length_set,List.length_append,List.length_cons,List.length_nil];try omega)) only[hg,hg',hltI,qb,go_sem,↓reduceIte])|((first|simp (disch:=omega) only[hg]|simp (disch:=omega) only[hg']|(refine cs_ ?_ ?_<;>intro hc)|refine cj_ ?_|refine qa hcall fun _=>?_|refine qc hcall ?_)<;>try refine ev_ ?_)|with_reducible exact ti_)
     all_goals try(exfalso;omega)
     refine qg (i+1) [0,1] ⟨⟨by omega,ha⟩,by omega⟩ rfl (by simp) ?_ ?_ ?_<;>(try refine ev_ ?_)<;>(try with_reducible exact ti_)<;>(try simp (disch:=omega) only[qb,and_true,true_and])
     all_goals first | rfl | (rw[qo (by omega) (by omega),Int.natCast_add];rfl)
   | false =>
     rw[hxy] at hcall ha
     rw[Bool.false_and] at ha
     rw[←ha]
     repeat'(first|refine vs_ ?_|(refine vr_ ?_<;>try simp (disch:=first|omega|(simp only[List.length_set,List.length_append,List.length_cons,List.length_nil];try omega)) only[hg,hg',hltI,qb,go_sem,↓reduceIte])|((first|simp (disch:=omega) only[hg]|simp (disch:=omega) only[hg']|(refine cs_ ?_ ?_<;>intro hc)|refine cj_ ?_|refine qa hcall fun _=>?_|refine qc hcall ?_)<;>try refine ev_ ?_)|with_reducible exact ti_)
     all_goals first | (exfalso;omega)
  ·have hnn:¬(i:Int)<(a.kids.length:Int):=by omega
   rw[List.drop_of_length_le (by omega),List.drop_of_length_le (by omega),qe2] at ha
   rw[←ha]
   repeat'(first|refine vs_ ?_|(refine vr_ ?_<;>try simp only[hnn,go_sem,↓reduceIte])|((first|(refine cs_ ?_ ?_<;>intro hc)|refine cj_ ?_)<;>try refine ev_ ?_)|with_reducible exact ti_)
   all_goals first | (exfalso;omega)
set_option maxRecDepth 4000

theorem qv2:∀t,(holT t).length≤1000000->qj Tryz.prog 78 [encT t] (.sl 1 (ints (holT t))):=by
 refine Tm.ind fun t ih hb=>?_
 refine qd c0ge (by simp) (by simp only[go_sem]) (by simp only[AV.bd,qdz]) fun hw=>?_
 obtain⟨hk1,hk2,hk3⟩:=qb8 hw.1
 rw[qe1] at hb ⊢
 by_cases hk:t.kind=14
 ·rw[if_pos hk]
  have hkd:decide (t.kind=14)=true:=decide_eq_true hk
  repeat'(first|refine vs_ ?_|(refine vr_ ?_<;>try simp only[hkd,go_sem,↓reduceIte])|((first|(refine cs_ ?_ ?_<;>intro hc)|refine cj_ ?_)<;>try refine ev_ ?_)|with_reducible exact ti_)
  all_goals first | rfl
 ·rw[if_neg hk] at hb ⊢
  have hkd:decide (t.kind=14)=false:=decide_eq_false hk
  repeat'(first|refine vs_ ?_|(refine vr_ ?_<;>try simp only[hkd,go_sem,↓reduceIte])|((first|(refine cs_ ?_ ?_<;>intro hc)|refine cj_ ?_)<;>try refine ev_ ?_)|with_reducible exact ti_)
  refine qk (S:=Nat) (fun i=>i≤t.kids.length) (fun i=>(⟨[(1,.ptr 0 0),(3,accV 1 (ints (qcy (t.kids.take i)))),(4,.int .i64 i)],[]⟩,[.blk (tmc t)]++accE 1 (ints (qcy (t.kids.take i))))) (fun i=>t.kids.length-i) ?_ fun i hi=>?_
  ·refine qg 0 [0] (Nat.zero_le _) rfl (by simp) ?_ ?_ ?_<;>simp only[List.take_zero,qcy,ints,List.map_nil,qq,qw,List.append_nil]<;>(try refine ev_ ?_)<;>(try with_reducible exact ti_)<;>(try simp (disch:=omega) only[qb,and_true,true_and])
   all_goals rfl
  ·by_cases hlt:i<t.kids.length
   ·have hg:=qbe hlt
    have hltI:(i:Int)<(t.kids.length:Int):=by omega
    have hmem:=qbh hlt
    have hbx:=q26 hmem
    have hba:=qo2 t.kids i
    have hba1:=qo2 t.kids (i+1)
    have hcall:=ih _ hmem (by omega)
    have hsn:qcy (t.kids.take (i+1))=qcy (t.kids.take i)++holT (t.kids.getD i T0):=by
     have:t.kids.take (i+1)=t.kids.take i++[t.kids.getD i T0]:=by rw[List.take_add_one,List.getD_eq_getElem?_getD,List.getElem?_eq_getElem hlt];rfl
     rw[this,qto,qcy,qcy,List.append_nil]
    rw[hsn] at hba1
    rw[List.length_append] at hba1
    generalize t.kids.getD i T0=x at *
    generalize holT x=B at *
    generalize hA:qcy (t.kids.take i)=A at *
    have hnx:(i:Int)+1=((i+1:Nat):Int):=by omega
    have hin:ints ([]:List Int)=[]:=rfl
    have hBl:(ints B).length=B.length:=qck B
    have hAl:(ints A).length=A.length:=qck A
    have hApp:ints A++ints B=ints (A++B):=by simp[ints]
    have c1:qbi (A.length+B.length) 8=True:=eq_true (by unfold qbi;omega)
    have c2:qbi B.length 8=True:=eq_true (by unfold qbi;omega)
    by_cases hA0:A=[]
    ·subst hA0
     rw[hin,qq,qw,List.append_nil]
     rw[hin,List.nil_append] at hApp
     by_cases hB0:B=[]
     ·subst hB0
      repeat'(first|refine vs_ ?_|(refine vr_ ?_<;>try simp (disch:=first|omega|(simp only[List.length_set,List.length_append,List.length_cons,List.length_nil];try omega)) only[hg,hltI,hin,qb,go_sem,↓reduceIte])|((first|simp (disch:=omega) only[hg]|(refine cs_ ?_ ?_<;>intro hc)|refine cj_ ?_|refine qa hcall fun _=>?_)<;>try refine ev_ ?_)|with_reducible exact ti_)
      rw[List.append_nil] at hsn
      refine qg (i+1) [0] ⟨by omega,by omega⟩ rfl (by simp) ?_ ?_ ?_<;>simp only[hsn,hin,qq,qw,List.append_nil]<;>(try refine ev_ ?_)<;>(try with_reducible exact ti_)<;>(try simp (disch:=omega) only[qb,and_true,true_and])
     ·rw[List.nil_append] at hsn
      have hBn:¬B.length=0:=fun h=>hB0 (List.length_eq_zero_iff.1 h)
      have n2:ints B≠[]:=fun h=>hB0 (List.length_eq_zero_iff.1 (by rw[←hBl,h];rfl))
      repeat'(first|refine vs_ ?_|(refine vr_ ?_<;>try simp (disch:=first|omega|(simp only[List.length_set,List.length_append,List.length_cons,List.length_nil];try omega)) only[hg,hltI,c2,hBn,qb,go_sem,↓reduceIte])|((first|simp (disch:=omega) only[hg]|(refine cs_ ?_ ?_<;>intro hc)|refine cj_ ?_|refine qa hcall fun _=>?_)<;>try refine ev_ ?_)|with_reducible exact ti_)
      rw[if_neg hBn]
      repeat'(first|refine vs_ ?_|(refine vr_ ?_<;>try simp (disch:=first|omega|(simp only[List.length_set,List.length_append,List.length_cons,List.length_nil];try omega)) only[c2,qb,go_sem,↓reduceIte])|((first|(refine cs_ ?_ ?_<;>intro hc)|refine cj_ ?_)<;>try refine ev_ ?_)|with_reducible exact ti_)
      refine qg (i+1) [0,1] ⟨by omega,by omega⟩ rfl (by simp) ?_ ?_ ?_<;>simp only[hsn,q7 n2,qbc n2,hBl]<;>(try refine ev_ ?_)<;>(try with_reducible exact ti_)<;>(try simp (disch:=omega) only[qb,and_true,true_and])
    ·have n1:ints A≠[]:=fun h=>hA0 (List.length_eq_zero_iff.1 (by rw[←hAl,h];rfl))
     rw[q7 n1,qbc n1]
     repeat'(first|refine vs_ ?_|(refine vr_ ?_<;>try simp (disch:=first|omega|(simp only[List.length_set,List.length_append,List.length_cons,List.length_nil];try omega)) only[hg,hltI,c1,hAl,hBl,qb,go_sem,↓reduceIte])|((first|simp (disch:=omega) only[hg]|(refine cs_ ?_ ?_<;>intro hc)|refine cj_ ?_|refine qa hcall fun _=>?_)<;>try refine ev_ ?_)|with_reducible exact ti_)
     have n2:ints A++ints B≠[]:=fun h=>n1 (List.append_eq_nil_iff.1 h).1
     have hABl:(ints A++ints B).length=A.length+B.length:=by rw[List.length_append,hAl,hBl]
     refine qg (i+1) [0,2] ⟨by omega,by omega⟩ rfl (by simp) ?_ ?_ ?_<;>simp only[hsn,←hApp,q7 n2,qbc n2,hABl]<;>(try refine ev_ ?_)<;>(try with_reducible exact ti_)<;>(try simp (disch:=omega) only[qb,and_true,true_and])
     all_goals(rw[hApp];exact⟨qdz _ _,by rw[qhs]⟩)
   ·have hie:i=t.kids.length:=by omega
    subst hie
    rw[List.take_length]
    have hnn:¬(t.kids.length:Int)<(t.kids.length:Int):=by omega
    by_cases h0:qcy t.kids=[]
    ·rw[h0]
     simp only[ints,List.map_nil,qq,qw,List.append_nil]
     repeat'(first|refine vs_ ?_|(refine vr_ ?_<;>try simp only[hnn,go_sem,↓reduceIte])|((first|(refine cs_ ?_ ?_<;>intro hc)|refine cj_ ?_)<;>try refine ev_ ?_)|with_reducible exact ti_)
     all_goals first | (exfalso;omega) | rfl
    ·have n1:ints (qcy t.kids)≠[]:=fun h=>h0 (by have:=congrArg List.length h;rw[qck] at this;exact List.length_eq_zero_iff.1 (by simpa using this))
     simp only[q7 n1,qbc n1]
     repeat'(first|refine vs_ ?_|(refine vr_ ?_<;>try simp only[hnn,go_sem,↓reduceIte])|((first|(refine cs_ ?_ ?_<;>intro hc)|refine cj_ ?_)<;>try refine ev_ ?_)|with_reducible exact ti_)
     all_goals first | (exfalso;omega) | rfl
end Go.Proofs.YtkenggenkmfopaaGreat
