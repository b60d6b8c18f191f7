/- Texts of this proof, joined. -/
import Derived.Test.YtkenggenkmfopaaGreatFbm
set_option linter.unusedVariables false
set_option linter.unusedSimpArgs false

/- the state: a term with all that is known -/
set_option maxRecDepth 4000
namespace Go.Proofs.YtkenggenkmfopaaGreat
open Go Go.RowKit Go.V

def typX(vs:List Int)(ts:List Ty)(x:Ty):Ty:=if(typK vs ts x).2=true then(typK vs ts x).1 else x
def trmK(f:Tm->Int->Option (Tm×Int)):List Tm->Int->Option (List Tm×Int)
 | [],lf=>some ([],lf)
 | x :: r, lf => match f x lf with
   | none=>none
   | some p => match trmK f r p.2 with
     | none=>none
     | some q=>some (p.1::q.1,q.2)
def qfd(F:List (Int×Tm))(t:Tm):Option (Nat×Tm):=if t.kind=14 then qfq F t.num else none
def trmF(F:List (Int×Tm))(vs:List Int)(ts:List Ty):Nat->Tm->Int->Option (Tm×Int)
 | 0,_,_=>none
 | n + 1, t, lf => match qfd F t with
   | some p=>trmF F vs ts n p.2 lf
   | none => if IntKind.i64.wrap (lf - 1) < 0 then some (t, IntKind.i64.wrap (lf - 1)) else
     match trmK (trmF F vs ts n) t.kids (IntKind.i64.wrap (lf-1)) with
     | none=>none
     | some q=>some (.mk t.kind t.num t.name t.vars (t.types.map (typX vs ts)) q.1,q.2)
mutual
def smT:Tm->Prop
 | .mk _ _ _ _ l ks=>(∀x∈l,szY x≤1000000)∧l.length≤1000000∧ks.length≤1000000∧smTs ks
def smTs:List Tm->Prop
 | []=>True
 | x::r=>smT x∧smTs r
end
theorem qjf{l:List Tm}(h:smTs l):∀x∈l,smT x:=by
 induction l with
 | nil=>intro x hx;cases hx
 | cons y r ih =>
   rw[smTs] at h
   intro x hx
   rcases List.mem_cons.1 hx with rfl | hx
   ·exact h.1
   ·exact ih h.2 x hx
theorem qh8(t:Tm):smT t↔(∀x∈t.types,szY x≤1000000)∧t.types.length≤1000000∧t.kids.length≤1000000∧smTs t.kids:=by cases t;rw[smT];rfl
def zT:AV:=.agg [.int .i64 0,.int .i64 0,.str [],.nils,.nils,.nils]
def gT(o:List Tm)(n:Nat):List AV:=qbl o++List.replicate (n-o.length) zT
theorem qcf5{o:List Tm}{n:Nat}(h:o.length≤n):(gT o n).length=n:=by rw[gT,List.length_append,qdl,List.length_replicate];omega
theorem gT_0(n:Nat):gT [] n=List.replicate n zT:=by rw[gT,qbl];rfl
theorem qci6(o:List Tm):gT o o.length=qbl o:=by rw[gT,Nat.sub_self,List.replicate_zero,List.append_nil]
theorem qpa(l:List Tm)(x:Tm):qbl l++[encT x]=qbl (l++[x]):=by rw[qcp,qcp,List.map_append];rfl
theorem qcjp{o:List Tm}{n:Nat}(h:o.length<n)(x:Tm):(gT o n).set o.length (encT x)=gT (o++[x]) n:=by
 obtain⟨k,hk⟩:∃k,n-o.length=k+1:=⟨n-o.length-1,by omega⟩
 have hk2:n-(o++[x]).length=k:=by rw[List.length_append,List.length_singleton];omega
 rw[gT,gT,hk,hk2,List.replicate_succ,←qpa,List.set_append_right _ _ (by rw[qdl];exact Nat.le_refl _),qdl,Nat.sub_self,List.set_cons_zero,List.append_assoc]
 rfl
theorem qbtq(k:Nat)(o:List Tm)(n:Nat):AV.bds k (gT o n)=true:=by
 rw[gT,qhp,qhn,qc2]
 simp[zT,AV.bd,AV.bds]
theorem qblh(σ:Nat->Nat)(o:List Tm)(n:Nat):AV.rens σ (gT o n)=gT o n:=qp (m:=0) (fun i hi=>by omega) _ (qbtq 0 o n)
theorem qp2(l:List Tm):∀v∈qbl l,v.flat:=fun v hv=>by
 rw[qcp] at hv
 obtain⟨t,_,rfl⟩:=List.mem_map.1 hv
 exact .inl ⟨qzs t,by rw[qo5];rfl⟩
theorem qbhh{S:SS}{vs:List Int}{ts:List Ty}{lf:Int}{t:Tm}(hh:qfd S.fills t=none)(hl:IntKind.i64.wrap (lf-1)<0):qih S vs ts lf t (IntKind.i64.wrap (lf-1)) t:=by
 unfold qih
 refine qe c0a 5 (by simp) (by simp) ?_
 unfold qfd at hh
 by_cases hk:t.kind=14
 ·rw[if_pos hk] at hh
  have hkd:decide (t.kind=14)=true:=decide_eq_true hk
  have hlk:qqq S.fills t.num=.tup [.agg [.int .i64 0,.int .i64 0,.str [],.nils,.nils,.nils],.bool false]:=by unfold qqq;rw[hh]
  repeat'(first|refine vs_ ?_|(refine vr_ ?_<;>try simp only[hkd,hlk,hl,go_sem,↓reduceIte])|((first|simp (disch:=omega) only[hlk]|(refine cs_ ?_ ?_<;>intro hc)|refine cj_ ?_|refine qv6 3 ?_)<;>try refine ev_ ?_)|with_reducible exact ti_)
 ·have hkd:decide (t.kind=14)=false:=decide_eq_false hk
  repeat'(first|refine vs_ ?_|(refine vr_ ?_<;>try simp only[hkd,hl,go_sem,↓reduceIte])|((first|(refine cs_ ?_ ?_<;>intro hc)|refine cj_ ?_)<;>try refine ev_ ?_)|with_reducible exact ti_)
theorem qjd{α:Type}:∀{l:List (Int×α)} {k:Int} {j:Nat} {u:α},qfq l k=some (j,u)->(k,u)∈l
 | [],k,j,u,h=>by rw[qfq] at h;cases h
 | (a, v) :: r, k, j, u, h => by
   rw[qfq] at h
   split at h
   ·rename_i ha
    simp only[Option.some.injEq,Prod.mk.injEq] at h
    obtain⟨_,rfl⟩:=h
    subst ha
    exact List.mem_cons_self
   ·cases hr:qfq r k with
    | none=>rw[hr] at h;cases h
    | some q =>
      obtain⟨i,w⟩:=q
      rw[hr] at h
      simp only[Option.map_some,Option.some.injEq,Prod.mk.injEq] at h
      obtain⟨_,rfl⟩:=h
      exact List.mem_cons_of_mem _ (qjd hr)
def qx9(S:SS)(vs:List Int)(ts:List Ty)(t:Tm)(ty:List Ty)(x:Nat×List Tm×Int):AF×List Ent:=(⟨[(0,.ptr 0 0),(3,.ptr 5 0),(4,.ptr 6 0),(7,.row 7 t.types.length),(12,.row 8 t.kids.length),(86,.sl 6 (qbl t.kids)),(87,.int .i64 t.kids.length),(88,.int .i64 x.1)],[]⟩,filE S vs ts x.2.2++[.blk (tmc t),.blk [.int .i64 0,.int .i64 0,.str [],.nils,.nils,.nils],.app 3 (qf ty),.mrow 6 (gT x.2.1 t.kids.length)])
def q8z(S:SS)(vs:List Int)(ts:List Ty)(t:Tm)(lf:Int)(i:Nat):AF×List Ent:=(⟨[(0,.ptr 0 0),(3,.ptr 5 0),(4,.ptr 6 0),(7,.row 7 t.types.length),(53,.sl 3 (qf t.types)),(54,.int .i64 t.types.length),(55,.int .i64 i)],[]⟩,filE S vs ts lf++[.blk (tmc t),.blk [.int .i64 0,.int .i64 0,.str [],.nils,.nils,.nils],.mrow 3 (gE ((t.types.take i).map (typX vs ts)) t.types.length)])
set_option maxHeartbeats 2000000 in
theorem qbdd{S:SS}{vs:List Int}{ts:List Ty}{lf lf':Int}{t:Tm}{ks:List Tm}{f:Tm->Int->Option (Tm×Int)}(hh:qfd S.fills t=none)(hl:¬IntKind.i64.wrap (lf-1)<0)(hsm:smT t)
 (hf:∀x∈t.kids,∀l y l2,f x l=some (y,l2)->qih S vs ts l x l2 y) (hk:trmK f t.kids (IntKind.i64.wrap (lf-1))=some (ks,lf')):qih S vs ts lf t lf' (.mk t.kind t.num t.name t.vars (t.types.map (typX vs ts)) ks):=by
 obtain⟨m1,m2,m3,m4⟩:=(qh8 t).1 hsm
 generalize hL:IntKind.i64.wrap (lf-1)=L at *
 unfold qih
 refine qe c0a 5 (by simp) (by simp) ?_
 unfold k0a
 generalize hz:IC.seq (IC.seq qbk6 _) _=z1
 generalize hz2:IC.seq (IC.seq qbk8 _) _=z2
 repeat'(first|refine vs_ ?_|((first|refine vr_ ?_|(refine cs_ ?_ ?_<;>intro hc)|refine cj_ ?_)<;>try refine ev_ ?_)|with_reducible exact ti_)
 subst hz2
 refine qdw (S:=Unit) (fun _=>True) (fun _=>(⟨[(0,.ptr 0 0),(3,.ptr 5 0),(4,.ptr 6 0)],[]⟩,filE S vs ts lf++[.blk (tmc t),.blk [.int .i64 0,.int .i64 0,.str [],.nils,.nils,.nils]])) ?_ fun _ _=>?_
 ·unfold qfd at hh
  by_cases hk:t.kind=14
  ·rw[if_pos hk] at hh
   have hkd:decide (t.kind=14)=true:=decide_eq_true hk
   have hlk:qqq S.fills t.num=.tup [.agg [.int .i64 0,.int .i64 0,.str [],.nils,.nils,.nils],.bool false]:=by unfold qqq;rw[hh]
   repeat'(first|refine vs_ ?_|(refine vr_ ?_<;>try simp only[hkd,hlk,go_sem,↓reduceIte])|((first|simp (disch:=omega) only[hlk]|(refine cs_ ?_ ?_<;>intro hc)|refine cj_ ?_|refine qv6 3 ?_)<;>try refine ev_ ?_)|with_reducible exact ti_)
   refine qg () [0,1,2,3,4,5,6] trivial rfl (by simp) ?_ ?_ ?_<;>(try refine ev_ ?_)<;>(try with_reducible exact ti_)<;>(try simp (disch:=omega) only[qb,and_true,true_and])
  ·have hkd:decide (t.kind=14)=false:=decide_eq_false hk
   repeat'(first|refine vs_ ?_|(refine vr_ ?_<;>try simp only[hkd,go_sem,↓reduceIte])|((first|(refine cs_ ?_ ?_<;>intro hc)|refine cj_ ?_)<;>try refine ev_ ?_)|with_reducible exact ti_)
   refine qg () [0,1,2,3,4,5,6] trivial rfl (by simp) ?_ ?_ ?_<;>(try refine ev_ ?_)<;>(try with_reducible exact ti_)<;>(try simp (disch:=omega) only[qb,and_true,true_and])
 subst hz
 have htyL:((t.types.map (typX vs ts)).length=t.types.length):=by simp
 repeat'(first|refine vs_ ?_|(refine vr_ ?_<;>try simp only[hL,hl,go_sem,↓reduceIte])|((first|(refine cs_ ?_ ?_<;>intro hc)|refine cj_ ?_)<;>try refine ev_ ?_)|with_reducible exact ti_)
 refine⟨by unfold maxLen;omega,?_⟩
 repeat'(first|refine vs_ ?_|(refine vr_ ?_<;>try simp only[hL,hl,go_sem,↓reduceIte])|((first|(refine cs_ ?_ ?_<;>intro hc)|refine cj_ ?_)<;>try refine ev_ ?_)|with_reducible exact ti_)
 refine qk (S:=Nat) (fun i=>i≤t.types.length) (q8z S vs ts t L) (fun i=>t.types.length-i) ?_ fun i hi=>?_
 ·refine qg 0 [0,1,2,3,4,5,6,7] (Nat.zero_le _) rfl (by simp) ?_ ?_ ?_<;>simp only[q8z,List.take_zero,List.map_nil,gE_0,zY]<;>(try refine ev_ ?_)<;>(try with_reducible exact ti_)<;>(try simp (disch:=omega) only[qb,and_true,true_and])
  all_goals exact⟨qqx _ _,(congrArg (Ent.mrow 3) (qlr _ _)).symm⟩
 ·unfold q8z
  have hol:((t.types.take i).map (typX vs ts)).length=i:=by rw[List.length_map,List.length_take];omega
  by_cases hlt:i<t.types.length
  ·have hgl:=q32 (o:=(t.types.take i).map (typX vs ts)) (n:=t.types.length) (by omega)
   have hset:=q20 (o:=(t.types.take i).map (typX vs ts)) (n:=t.types.length) (by omega) (typX vs ts (t.types.getD i Y0))
   rw[hol] at hset
   have hsn:(t.types.take i).map (typX vs ts)++[typX vs ts (t.types.getD i Y0)]=(t.types.take (i+1)).map (typX vs ts):=by rw[qhi hlt,List.map_append];rfl
   rw[hsn] at hset
   have hg:=ql hlt
   have hty:=qpt (vs:=vs) (ts:=ts) (m1 _ (qba hlt))
   have hltI:(i:Int)<(t.types.length:Int):=by omega
   have hX:typX vs ts (t.types.getD i Y0)=if(typK vs ts (t.types.getD i Y0)).2=true then(typK vs ts (t.types.getD i Y0)).1 else t.types.getD i Y0:=rfl
   generalize typX vs ts (t.types.getD i Y0)=X at *
   generalize t.types.getD i Y0=x at *
   generalize typK vs ts x=q at *
   obtain⟨u,b⟩:=q
   dsimp only at hty hX
   cases b with
   | true =>
     rw[if_pos rfl] at hX
     subst hX
     repeat'(first|refine vs_ ?_|(refine vr_ ?_<;>try simp (disch:=first|omega|(simp only[List.length_set,List.length_append,List.length_cons,List.length_nil];try omega)) only[hg,hltI,hgl,qb,go_sem,↓reduceIte])|((first|simp (disch:=omega) only[hg]|(refine cs_ ?_ ?_<;>intro hc)|refine cj_ ?_|refine qa hty fun _=>?_|refine qc hty ?_)<;>try refine ev_ ?_)|with_reducible exact ti_)
     all_goals try(exfalso;omega)
     refine qg (i+1) [0,1,2,3,4,5,6,7] ⟨by omega,by omega⟩ rfl (by simp) ?_ ?_ ?_<;>simp only[q8z,←hset]<;>(try refine ev_ ?_)<;>(try with_reducible exact ti_)<;>(try simp (disch:=omega) only[qb,and_true,true_and])
     all_goals first | (rw[hset];exact⟨qrl _ _ _,by rw[qk6]⟩) | (rw[qo (by omega) (by omega),Int.natCast_add];rfl)
   | false =>
     rw[if_neg (by simp)] at hX
     subst hX
     repeat'(first|refine vs_ ?_|(refine vr_ ?_<;>try simp (disch:=first|omega|(simp only[List.length_set,List.length_append,List.length_cons,List.length_nil];try omega)) only[hg,hltI,hgl,qb,go_sem,↓reduceIte])|((first|simp (disch:=omega) only[hg]|(refine cs_ ?_ ?_<;>intro hc)|refine cj_ ?_|refine qa hty fun _=>?_|refine qc hty ?_)<;>try refine ev_ ?_)|with_reducible exact ti_)
     all_goals try(exfalso;omega)
     refine qg (i+1) [0,1,2,3,4,5,6,7] ⟨by omega,by omega⟩ rfl (by simp) ?_ ?_ ?_<;>simp only[q8z,←hset]<;>(try refine ev_ ?_)<;>(try with_reducible exact ti_)<;>(try simp (disch:=omega) only[qb,and_true,true_and])
     all_goals first | (rw[hset];exact⟨qrl _ _ _,by rw[qk6]⟩) | (rw[qo (by omega) (by omega),Int.natCast_add];rfl)
  ·have hie:i=t.types.length:=by omega
   subst hie
   rw[List.take_length] at hol ⊢
   rw[show gE (t.types.map (typX vs ts)) t.types.length=qf (t.types.map (typX vs ts)) by rw[←q5j,hol]]
   generalize t.types.map (typX vs ts)=TY at *
   refine qb6 7 rfl (qet _) ?_
   have hn:¬(t.types.length:Int)<(t.types.length:Int):=by omega
   repeat'(first|refine vs_ ?_|(refine vr_ ?_<;>try simp only[hn,go_sem,↓reduceIte])|((first|(refine cs_ ?_ ?_<;>intro hc)|refine cj_ ?_)<;>try refine ev_ ?_)|with_reducible exact ti_)
   refine⟨⟨by omega,by unfold maxLen;omega⟩,?_⟩
   repeat'(first|refine vs_ ?_|((first|refine vr_ ?_|(refine cs_ ?_ ?_<;>intro hc)|refine cj_ ?_)<;>try refine ev_ ?_)|with_reducible exact ti_)
   refine qk (S:=Nat×List Tm×Int) (fun x=>x.1≤t.kids.length∧x.2.1.length=x.1∧∃ys,trmK f (t.kids.drop x.1) x.2.2=some (ys,lf')∧x.2.1++ys=ks) (qx9 S vs ts t TY) (fun x=>t.kids.length-x.1) ?_ fun x hx=>?_
   ·refine qg (0,[],L) [0,1,2,3,4,5,6,7,8] ⟨Nat.zero_le _,rfl,ks,hk,rfl⟩ rfl (by simp) ?_ ?_ ?_<;>simp only[qx9,gT_0,zT]<;>(try refine ev_ ?_)<;>(try with_reducible exact ti_)<;>(try simp (disch:=omega) only[qb,and_true,true_and])
    rw[show List.replicate t.kids.length (AV.agg [.int .i64 0,.int .i64 0,.str [],.nils,.nils,.nils])=gT [] t.kids.length from(gT_0 _).symm]
    exact⟨qbtq _ _ _,by rw[qblh]⟩
   ·obtain⟨i,acc,l⟩:=x
    obtain⟨hi,hacc,ys,hys,hks⟩:=hx
    dsimp only at hi hacc hys hks ⊢
    unfold qx9
    dsimp only
    by_cases hlt:i<t.kids.length
    ·rw[qfn hlt,trmK] at hys
     have hfx:=hf _ (qbh hlt)
     have hg:=qbe hlt
     have hltI:(i:Int)<(t.kids.length:Int):=by omega
     generalize t.kids.getD i T0=x at *
     cases hfe:f x l with
     | none=>rw[hfe] at hys;cases hys
     | some pr =>
       obtain⟨y,l2⟩:=pr
       rw[hfe] at hys
       dsimp only at hys
       have hcall:=hfx l y l2 hfe
       cases hre:trmK f (t.kids.drop (i+1)) l2 with
       | none=>rw[hre] at hys;cases hys
       | some qr =>
         obtain⟨zs,l3⟩:=qr
         rw[hre] at hys
         simp only[Option.some.injEq,Prod.mk.injEq] at hys
         obtain⟨rfl,rfl⟩:=hys
         have hgl:=qcf5 (o:=acc) (n:=t.kids.length) (by omega)
         have hset:=qcjp (o:=acc) (n:=t.kids.length) (by omega) y
         rw[hacc] at hset
         repeat'(first|refine vs_ ?_|(refine vr_ ?_<;>try simp (disch:=first|omega|(simp only[List.length_set,List.length_append,List.length_cons,List.length_nil];try omega)) only[hg,hltI,hgl,qb,go_sem,↓reduceIte])|((first|simp (disch:=omega) only[hg]|(refine cs_ ?_ ?_<;>intro hc)|refine cj_ ?_|refine q8i _ hcall ?_)<;>try refine ev_ ?_)|with_reducible exact ti_)
         refine qg (i+1,acc++[y],l2) [0,1,2,3,4,5,6,7,8] ⟨⟨by dsimp only;omega,by dsimp only;rw[List.length_append,List.length_singleton,hacc],zs,hre,by rw[←hks,List.append_assoc];rfl⟩,by dsimp only;omega⟩ rfl (by simp) ?_ ?_ ?_<;>simp only[qx9,←hset]<;>(try refine ev_ ?_)<;>(try with_reducible exact ti_)<;>(try simp (disch:=omega) only[qb,and_true,true_and])
         all_goals first | (rw[hset];exact⟨qbtq _ _ _,by rw[qblh]⟩) | (rw[qo (by omega) (by omega),Int.natCast_add];rfl)
    ·have hie:i=t.kids.length:=by omega
     subst hie
     rw[List.drop_length,trmK] at hys
     simp only[Option.some.injEq,Prod.mk.injEq] at hys
     obtain⟨rfl,rfl⟩:=hys
     rw[List.append_nil] at hks
     subst hks
     rw[show gT acc t.kids.length=qbl acc by rw[←hacc,qci6]]
     refine qb6 8 rfl (qp2 _) ?_
     have hn2:¬(t.kids.length:Int)<(t.kids.length:Int):=by omega
     have ha1:(qbl acc).length=t.kids.length:=by rw[qdl,hacc]
     have ha2:(qf TY).length=t.types.length:=by rw[q9,hol]
     repeat'(first|refine vs_ ?_|(refine vr_ ?_<;>try simp only[hn2,ha1,ha2,go_sem,↓reduceIte])|((first|(refine cs_ ?_ ?_<;>intro hc)|refine cj_ ?_)<;>try refine ev_ ?_)|with_reducible exact ti_)
     rw[encT]
theorem qchl{S:SS}{vs:List Int}{ts:List Ty}(hF:∀p∈S.fills,smT p.2):∀(n:Nat) (t:Tm) (lf:Int) (r:Tm) (l2:Int),smT t->trmF S.fills vs ts n t lf=some (r,l2)->qih S vs ts lf t l2 r:=by
 intro n
 induction n with
 | zero=>intro t lf r l2 _ h;rw[trmF] at h;cases h
 | succ n ih =>
   intro t lf r l2 hsm h
   rw[trmF] at h
   cases hh:qfd S.fills t with
   | some p =>
     obtain⟨j,u⟩:=p
     rw[hh] at h
     dsimp only at h
     have hk:t.kind=14:=by
      unfold qfd at hh
      by_cases hk:t.kind=14
      ·exact hk
      ·rw[if_neg hk] at hh;cases hh
     have hlk:qfq S.fills t.num=some (j,u):=by unfold qfd at hh;rwa [if_pos hk] at hh
     exact qq7 hk hlk (ih u lf r l2 (hF _ (qjd hlk)) h)
   | none =>
     rw[hh] at h
     dsimp only at h
     by_cases hl:IntKind.i64.wrap (lf-1)<0
     ·rw[if_pos hl] at h
      simp only[Option.some.injEq,Prod.mk.injEq] at h
      obtain⟨rfl,rfl⟩:=h
      exact qbhh hh hl
     ·rw[if_neg hl] at h
      cases hk:trmK (trmF S.fills vs ts n) t.kids (IntKind.i64.wrap (lf-1)) with
      | none=>rw[hk] at h;cases h
      | some q =>
        obtain⟨ks,l3⟩:=q
        rw[hk] at h
        simp only[Option.some.injEq,Prod.mk.injEq] at h
        obtain⟨rfl,rfl⟩:=h
        have hks:=qjf ((qh8 t).1 hsm).2.2.2
        exact qbdd hh hl hsm (fun x hx l y l2 hf=>ih x l y l2 (hks x hx) hf) hk
set_option maxRecDepth 4000

mutual
def cntT:Tm->Int->Int->Int
 | .mk _ _ _ v t ks,lf,dp=>if dp<1∨100<(v.length:Int)∨30<(t.length:Int)∨qef t=false then -1 else qis ks (IntKind.i64.wrap (lf-1)) (IntKind.i64.wrap (dp-1))
def qis:List Tm->Int->Int->Int
 | [],lf,_=>lf
 | x::r,lf,dp=>if 0≤lf then qis r (cntT x lf dp) dp else lf
end
theorem q8g(t:Tm)(lf dp:Int):cntT t lf dp=if dp<1∨100<(t.vars.length:Int)∨30<(t.types.length:Int)∨qef t.types=false then -1 else qis t.kids (IntKind.i64.wrap (lf-1)) (IntKind.i64.wrap (dp-1)):=by cases t;rw[cntT];rfl
theorem qul{a:Int}(h:a<0)(l:List Tm)(dp:Int):qis l a dp=a:=by
 cases l with
 | nil=>rw[qis]
 | cons x r=>rw[qis,if_neg (by omega)]
theorem qcad:∀t lf dp,qj Tryz.prog 66 [encT t,.int .i64 lf,.int .i64 dp] (.int .i64 (cntT t lf dp)):=by
 refine Tm.ind fun t ih lf dp=>?_
 refine qd c0eq (by simp) (by simp only[go_sem]) rfl fun hw=>?_
 obtain⟨hk1,hk2,hk3⟩:=qb8 hw.1
 have hF:=qb9e t.types
 rw[q8g]
 generalize qef t.types=fb at *
 obtain⟨L,hL⟩:∃L,IntKind.i64.wrap (lf-1)=L:=⟨_,rfl⟩
 rw[hL]
 by_cases c1:dp<1
 ·rw[if_pos (.inl c1)]
  repeat'(first|refine vs_ ?_|(refine vr_ ?_<;>try simp only[c1,go_sem,↓reduceIte])|((first|(refine cs_ ?_ ?_<;>intro hc)|refine cj_ ?_)<;>try refine ev_ ?_)|with_reducible exact ti_)
 by_cases c2:100<(t.vars.length:Int)
 ·rw[if_pos (.inr (.inl c2))]
  repeat'(first|refine vs_ ?_|(refine vr_ ?_<;>try simp only[c1,c2,go_sem,↓reduceIte])|((first|(refine cs_ ?_ ?_<;>intro hc)|refine cj_ ?_)<;>try refine ev_ ?_)|with_reducible exact ti_)
 by_cases c3:30<(t.types.length:Int)
 ·rw[if_pos (.inr (.inr (.inl c3)))]
  repeat'(first|refine vs_ ?_|(refine vr_ ?_<;>try simp only[c1,c2,c3,go_sem,↓reduceIte])|((first|(refine cs_ ?_ ?_<;>intro hc)|refine cj_ ?_)<;>try refine ev_ ?_)|with_reducible exact ti_)
 cases fb with
 | false =>
   rw[if_pos (.inr (.inr (.inr rfl)))]
   simp only[Bool.false_eq_true,if_false] at hF
   repeat'(first|refine vs_ ?_|(refine vr_ ?_<;>try simp only[c1,c2,c3,Int.reduceEq,decide_true,decide_false,Bool.false_eq_true,go_sem,↓reduceIte])|((first|(refine cs_ ?_ ?_<;>intro hc)|refine cj_ ?_|refine qa hF fun _=>?_)<;>try refine ev_ ?_)|with_reducible exact ti_)
   all_goals first | (exfalso;omega)
 | true =>
   rw[if_neg (by simp;omega)]
   simp only[if_true] at hF
   unfold k0eq
   generalize hz:IC.seq (IC.seq q6z _) _=z1
   repeat'(first|refine vs_ ?_|(refine vr_ ?_<;>try simp only[c1,c2,c3,hL,Int.reduceEq,decide_true,decide_false,Bool.false_eq_true,go_sem,↓reduceIte])|((first|(refine cs_ ?_ ?_<;>intro hc)|refine cj_ ?_|refine qa hF fun _=>?_)<;>try refine ev_ ?_)|with_reducible exact ti_)
   all_goals try(exfalso;omega)
   subst hz
   repeat'(first|refine vs_ ?_|((first|refine vr_ ?_|(refine cs_ ?_ ?_<;>intro hc)|refine cj_ ?_)<;>try refine ev_ ?_)|with_reducible exact ti_)
   refine qk (S:=Nat×Int) (fun s=>s.1≤t.kids.length∧qis (t.kids.drop s.1) s.2 (IntKind.i64.wrap (dp-1))=qis t.kids L (IntKind.i64.wrap (dp-1))) (fun s=>(⟨[(1,.int .i64 s.2),(2,.int .i64 dp),(3,.ptr 0 0),(7,.int .i64 s.1)],[]⟩,[.blk (tmc t)])) (fun s=>t.kids.length-s.1) ?_ fun s hs=>?_
   ·refine qg (0,L) [0] ⟨Nat.zero_le _,rfl⟩ rfl (by simp) ?_ ?_ ?_<;>(try refine ev_ ?_)<;>(try with_reducible exact ti_)<;>(try simp (disch:=omega) only[qb,and_true,true_and])
   ·obtain⟨i,a⟩:=s
    obtain⟨hi,ha⟩:=hs
    dsimp only at hi ha
    by_cases hlt:i<t.kids.length
    ·have hg:=qbe hlt
     have hltI:(i:Int)<(t.kids.length:Int):=by omega
     by_cases ha0:0≤a
     ·have hcall:=ih _ (qbh hlt) a (IntKind.i64.wrap (dp-1))
      rw[qfn hlt,qis,if_pos ha0] at ha
      generalize t.kids.getD i T0=x at *
      repeat'(first|refine vs_ ?_|(refine vr_ ?_<;>try simp (disch:=first|omega|(simp only[List.length_set,List.length_append,List.length_cons,List.length_nil];try omega)) only[hg,hltI,ha0,qb,go_sem,↓reduceIte])|((first|simp (disch:=omega) only[hg]|(refine cs_ ?_ ?_<;>intro hc)|refine cj_ ?_|refine qa hcall fun _=>?_)<;>try refine ev_ ?_)|with_reducible exact ti_)
      all_goals try(exfalso;omega)
      refine qg (i+1,cntT x a (IntKind.i64.wrap (dp-1))) [0] ⟨⟨by dsimp only;omega,ha⟩,by dsimp only;omega⟩ rfl (by simp) ?_ ?_ ?_<;>(try refine ev_ ?_)<;>(try with_reducible exact ti_)<;>(try simp (disch:=omega) only[qb,and_true,true_and])
     ·rw[qul (by omega)] at ha
      repeat'(first|refine vs_ ?_|(refine vr_ ?_<;>try simp only[hltI,ha0,go_sem,↓reduceIte])|((first|(refine cs_ ?_ ?_<;>intro hc)|refine cj_ ?_)<;>try refine ev_ ?_)|with_reducible exact ti_)
      all_goals first | (exfalso;omega) | (rw[←ha])
    ·rw[List.drop_of_length_le (by omega),qis] at ha
     have hltI:¬(i:Int)<(t.kids.length:Int):=by omega
     repeat'(first|refine vs_ ?_|(refine vr_ ?_<;>try simp only[hltI,go_sem,↓reduceIte])|((first|(refine cs_ ?_ ?_<;>intro hc)|refine cj_ ?_)<;>try refine ev_ ?_)|with_reducible exact ti_)
     all_goals first | (exfalso;omega) | (rw[←ha])
set_option maxRecDepth 4000

def qvc(t:Tm):Bool:=decide (0≤cntT t 3000 450)
theorem qbbo(t:Tm):qj Tryz.prog 35 [.sl 6 [encT t]] (.int .i64 (if qvc t=true then 1 else 0)):=by
 refine qd c0eo (by simp) (by simp only[AV.bds,AV.bd,qb4,Bool.and_true]) rfl fun hw=>?_
 have hc:=qcad t 3000 450
 have hf:qvc t=decide (0≤cntT t 3000 450):=rfl
 generalize cntT t 3000 450=c at *
 repeat'(first|refine vs_ ?_|((first|refine vr_ ?_|(refine cs_ ?_ ?_<;>intro hc)|refine cj_ ?_)<;>try refine ev_ ?_)|with_reducible exact ti_)
 refine qk (S:=Nat) (fun i=>i≤1) (fun i=>(⟨[(0,.sl 6 [encT t]),(3,.int .i64 (if i=0 then 3000 else c)),(4,.int .i64 i)],[]⟩,[])) (fun i=>1-i) ?_ fun i hi=>?_
 ·refine qg 0 [] (by omega) rfl (by simp) ?_ ?_ ?_<;>(try refine ev_ ?_)<;>(try with_reducible exact ti_)<;>(try simp (disch:=omega) only[qb,and_true,true_and])
  all_goals exact⟨qb4 _ _,by rw[qjj]⟩
 ·by_cases h0:i=0
  ·subst h0
   have hg:[encT t].getD 0 .junk=encT t:=rfl
   have hlt:(0:Int)<1:=by decide
   repeat'(first|refine vs_ ?_|(refine vr_ ?_<;>try simp only[hg,hlt,if_true,go_sem,↓reduceIte])|((first|simp (disch:=omega) only[hg]|(refine cs_ ?_ ?_<;>intro hc)|refine cj_ ?_|refine qa hc fun _=>?_)<;>try refine ev_ ?_)|with_reducible exact ti_)
   all_goals try(exfalso;omega)
   refine qg 1 [] ⟨by omega,by omega⟩ rfl (by simp) ?_ ?_ ?_<;>(try refine ev_ ?_)<;>(try with_reducible exact ti_)<;>(try simp (disch:=omega) only[qb,and_true,true_and])
   all_goals first | rfl | exact⟨qb4 _ _,by rw[qjj]⟩
  ·have h1:i=1:=by omega
   subst h1
   repeat'(first|refine vs_ ?_|((first|refine vr_ ?_|(refine cs_ ?_ ?_<;>intro hc)|refine cj_ ?_)<;>try refine ev_ ?_)|with_reducible exact ti_)
   ·exact absurd hc (by decide)
   ·rw[hf,decide_eq_false (by omega)];rfl
   ·rw[hf,decide_eq_true (by omega)];rfl
/-! how many nodes -/
mutual
def szTR:Tm->Int
 | .mk _ _ _ _ _ ks=>q08 1 ks
def q08:Int->List Tm->Int
 | a,[]=>a
 | a,x::r=>q08 (IntKind.i64.wrap (a+szTR x)) r
end
theorem qbyb(t:Tm):szTR t=q08 1 t.kids:=by cases t;rw[szTR];rfl
theorem qpk:∀t,qj Tryz.prog 36 [encT t] (.int .i64 (szTR t)):=by
 refine Tm.ind fun t ih=>?_
 refine qd c0ep (by simp) (by simp only[go_sem]) rfl fun hw=>?_
 obtain⟨hk1,hk2,hk3⟩:=qb8 hw.1
 repeat'(first|refine vs_ ?_|((first|refine vr_ ?_|(refine cs_ ?_ ?_<;>intro hc)|refine cj_ ?_)<;>try refine ev_ ?_)|with_reducible exact ti_)
 refine qk (S:=Nat×Int) (fun s=>s.1≤t.kids.length∧q08 s.2 (t.kids.drop s.1)=szTR t) (fun s=>(⟨[(1,.ptr 0 0),(3,.int .i64 s.2),(4,.int .i64 s.1)],[]⟩,[.blk (tmc t)])) (fun s=>t.kids.length-s.1) ?_ fun s hs=>?_
 ·refine qg (0,1) [0] ⟨Nat.zero_le _,(qbyb t).symm⟩ rfl (by simp) ?_ ?_ ?_<;>(try refine ev_ ?_)<;>(try with_reducible exact ti_)<;>(try simp (disch:=omega) only[qb,and_true,true_and])
 ·obtain⟨i,a⟩:=s
  obtain⟨hi,ha⟩:=hs
  dsimp only at hi ha
  by_cases hlt:i<t.kids.length
  ·have hcall:=ih _ (qbh hlt)
   rw[qfn hlt,q08] at ha
   have hg:=qbe hlt
   have hltI:(i:Int)<(t.kids.length:Int):=by omega
   generalize t.kids.getD i T0=x at *
   repeat'(first|refine vs_ ?_|(refine vr_ ?_<;>try simp (disch:=first|omega|(simp only[List.length_set,List.length_append,List.length_cons,List.length_nil];try omega)) only[hg,hltI,qb,go_sem,↓reduceIte])|((first|simp (disch:=omega) only[hg]|(refine cs_ ?_ ?_<;>intro hc)|refine cj_ ?_|refine qa hcall fun _=>?_)<;>try refine ev_ ?_)|with_reducible exact ti_)
   all_goals try(exfalso;omega)
   refine qg (i+1,IntKind.i64.wrap (a+szTR x)) [0] ⟨⟨by dsimp only;omega,ha⟩,by dsimp only;omega⟩ rfl (by simp) ?_ ?_ ?_<;>(try refine ev_ ?_)<;>(try with_reducible exact ti_)<;>(try simp (disch:=omega) only[qb,and_true,true_and])
  ·rw[List.drop_of_length_le (by omega),q08] at ha
   have hltI:¬(i:Int)<(t.kids.length:Int):=by omega
   repeat'(first|refine vs_ ?_|(refine vr_ ?_<;>try simp only[hltI,go_sem,↓reduceIte])|((first|(refine cs_ ?_ ?_<;>intro hc)|refine cj_ ?_)<;>try refine ev_ ?_)|with_reducible exact ti_)
   all_goals first | (exfalso;omega) | (rw[←ha])
set_option maxRecDepth 4000

def D0:Dd:=⟨0,0,0,[],Y0,Y0,T0⟩
def qju(l:List Dd):List AV:=l.map encD
theorem qun(l:List Dd):(qju l).length=l.length:=by simp[qju]
theorem qlz(k:Nat)(l:List Dd):AV.bds k (qju l)=true:=by rw[qju,qc2,List.all_map,List.all_eq_true];exact fun x _=>qp4 k x
theorem q3b(σ:Nat->Nat)(l:List Dd):AV.rens σ (qju l)=qju l:=qp (m:=0) (fun i hi=>by omega) _ (qlz 0 l)
theorem qmy{l:List Dd}{i:Nat}(h:i<l.length):(qju l).getD i .junk=encD (l.getD i D0):=by
 rw[qju,List.getD_eq_getElem?_getD,List.getElem?_map,List.getElem?_eq_getElem h,List.getD_eq_getElem?_getD,List.getElem?_eq_getElem h];rfl
theorem qnb{l:List Dd}{i:Nat}(h:i<l.length):l.getD i D0∈l:=by
 rw[List.getD_eq_getElem?_getD,List.getElem?_eq_getElem h];exact List.getElem_mem h
theorem q1t(d:Dd):(encD d).cells=ddc d:=rfl
theorem qbck(d:Dd):(encD d).isAgg=true:=rfl
attribute [go_sem] qun qlz q3b qp4 qbhw q1t qbck
def okD(d:Dd):Bool:=qef [d.a,d.b]&&!decide (200<qdf d.a)&&!decide (200<qdf d.b)&&qvc d.t&&!decide (60<szTR d.t)
def qed(l:List Dd):Nat:=(l.filter fun d=>decide (d.kind=8)).length
def qok(l:List Dd):Bool:=decide (l.length≤60)&&l.all okD&&decide (qed l≤5)
theorem q8j(l:List Dd):qed l≤l.length:=List.length_filter_le _ _
set_option maxHeartbeats 1000000 in
theorem qbit(l:List Dd):qj Tryz.prog 7 [.sl 16 (qju l)] (.bool (qok l)):=by
 refine qd c0en (by simp) (by simp only[AV.bds,AV.bd,qlz,Bool.and_true]) rfl fun hw=>?_
 have hlm:l.length≤maxLen:=by have:=hw.1.1;rwa [qun] at this
 by_cases hl:l.length≤60
 ·have hlI:¬(60:Int)<(l.length:Int):=by omega
  repeat'(first|refine vs_ ?_|(refine vr_ ?_<;>try simp only[hlI,go_sem,↓reduceIte])|((first|(refine cs_ ?_ ?_<;>intro hc)|refine cj_ ?_)<;>try refine ev_ ?_)|with_reducible exact ti_)
  refine qk (S:=Nat) (fun i=>i≤l.length∧(l.take i).all okD=true) (fun i=>(⟨[(0,.sl 16 (qju l)),(3,.int .i64 (qed (l.take i))),(4,.int .i64 i)],[]⟩,[])) (fun i=>l.length-i) ?_ fun i hi=>?_
  ·refine qg 0 [] ⟨Nat.zero_le _,rfl⟩ rfl (by simp) ?_ ?_ ?_<;>(try refine ev_ ?_)<;>(try with_reducible exact ti_)<;>(try simp (disch:=omega) only[qb,and_true,true_and])
   all_goals rfl
  ·obtain⟨hi,ha⟩:=hi
   by_cases hlt:i<l.length
   ·have hg:=qmy hlt
    have hltI:(i:Int)<(l.length:Int):=by omega
    have hmem:=qnb hlt
    have hsn:l.take (i+1)=l.take i++[l.getD i D0]:=by rw[List.take_add_one,List.getD_eq_getElem?_getD,List.getElem?_eq_getElem hlt];rfl
    generalize l.getD i D0=d at *
    have hbad:okD d=false->qok l=false:=fun h=>by
     unfold qok
     have:l.all okD=false:=by rw[List.all_eq_false];exact⟨d,hmem,by rw[h];simp⟩
     rw[this];simp
    have h1:qj Tryz.prog 8 [.sl 3 [encY d.a,encY d.b]] (.int .i64 (if qef [d.a,d.b]=true then 1 else 0)):=by
     have:=qb9e [d.a,d.b]
     simpa only[qf] using this
    have h2:=qes d.a
    have h3:=qes d.b
    have h4:=qbbo d.t
    have h5:=qpk d.t
    have hok:okD d=(qef [d.a,d.b]&&!decide (200<qdf d.a)&&!decide (200<qdf d.b)&&qvc d.t&&!decide (60<szTR d.t)):=rfl
    generalize qef [d.a,d.b]=fw at *
    generalize qdf d.a=sa at *
    generalize qdf d.b=sb at *
    generalize qvc d.t=f3 at *
    generalize szTR d.t=st at *
    have haf:AV.agg [.str d.a.con,.int .i64 d.a.var,.sl 3 (qf d.a.args)]=encY d.a:=qbd _
    have hbf:AV.agg [.str d.b.con,.int .i64 d.b.var,.sl 3 (qf d.b.args)]=encY d.b:=qbd _
    have htf:AV.agg [.int .i64 d.t.kind,.int .i64 d.t.num,.str d.t.name,.sl 1 (ints d.t.vars),.sl 3 (qf d.t.types),.sl 6 (qbl d.t.kids)]=encT d.t:=qcf _
    cases fw with
    | false =>
      simp only[Bool.false_eq_true,if_false] at h1
      have hno:=hbad (by rw[hok];simp)
      rw[hno]
      repeat'(first|refine vs_ ?_|(refine vr_ ?_<;>try simp only[hg,hltI,haf,hbf,htf,Int.reduceEq,decide_true,decide_false,Bool.false_eq_true,go_sem,↓reduceIte])|((first|simp (disch:=omega) only[hg]|(refine cs_ ?_ ?_<;>intro hc)|refine cj_ ?_|refine qa h1 fun _=>?_|refine qc h1 ?_)<;>try refine ev_ ?_)|with_reducible exact ti_)
      all_goals first | (exfalso;omega)
    | true =>
      simp only[if_true] at h1
      by_cases c2:200<sa
      ·have hno:=hbad (by rw[hok];simp[*])
       rw[hno]
       repeat'(first|refine vs_ ?_|(refine vr_ ?_<;>try simp only[hg,hltI,haf,hbf,htf,c2,Int.reduceEq,decide_true,decide_false,Bool.false_eq_true,go_sem,↓reduceIte])|((first|simp (disch:=omega) only[hg]|(refine cs_ ?_ ?_<;>intro hc)|refine cj_ ?_|refine qa h1 fun _=>?_|refine qa h2 fun _=>?_|refine qc h1 ?_|refine qc h2 ?_)<;>try refine ev_ ?_)|with_reducible exact ti_)
       all_goals first | (exfalso;omega)
      by_cases c3:200<sb
      ·have hno:=hbad (by rw[hok];simp[*])
       rw[hno]
       repeat'(first|refine vs_ ?_|(refine vr_ ?_<;>try simp only[hg,hltI,haf,hbf,htf,c2,c3,Int.reduceEq,decide_true,decide_false,Bool.false_eq_true,go_sem,↓reduceIte])|((first|simp (disch:=omega) only[hg]|(refine cs_ ?_ ?_<;>intro hc)|refine cj_ ?_|refine qa h1 fun _=>?_|refine qa h2 fun _=>?_|refine qa h3 fun _=>?_|refine qc h1 ?_|refine qc h2 ?_|refine qc h3 ?_)<;>try refine ev_ ?_)|with_reducible exact ti_)
       all_goals first | (exfalso;omega)
      cases f3 with
      | false =>
        simp only[Bool.false_eq_true,if_false] at h4
        have hno:=hbad (by rw[hok];simp[*])
        rw[hno]
        repeat'(first|refine vs_ ?_|(refine vr_ ?_<;>try simp only[hg,hltI,haf,hbf,htf,c2,c3,Int.reduceEq,decide_true,decide_false,Bool.false_eq_true,go_sem,↓reduceIte])|((first|simp (disch:=omega) only[hg]|(refine cs_ ?_ ?_<;>intro hc)|refine cj_ ?_|refine qa h1 fun _=>?_|refine qa h2 fun _=>?_|refine qa h3 fun _=>?_|refine qa h4 fun _=>?_|refine qc h1 ?_|refine qc h2 ?_|refine qc h3 ?_|refine qc h4 ?_)<;>try refine ev_ ?_)|with_reducible exact ti_)
        all_goals first | (exfalso;omega)
      | true =>
        simp only[if_true] at h4
        by_cases c5:60<st
        ·have hno:=hbad (by rw[hok];simp[*])
         rw[hno]
         repeat'(first|refine vs_ ?_|(refine vr_ ?_<;>try simp only[hg,hltI,haf,hbf,htf,c2,c3,c5,Int.reduceEq,decide_true,decide_false,Bool.false_eq_true,go_sem,↓reduceIte])|((first|simp (disch:=omega) only[hg]|(refine cs_ ?_ ?_<;>intro hc)|refine cj_ ?_|refine qa h1 fun _=>?_|refine qa h2 fun _=>?_|refine qa h3 fun _=>?_|refine qa h4 fun _=>?_|refine qa h5 fun _=>?_|refine qc h1 ?_|refine qc h2 ?_|refine qc h3 ?_|refine qc h4 ?_|refine qc h5 ?_)<;>try refine ev_ ?_)|with_reducible exact ti_)
         all_goals first | (exfalso;omega)
        have hyes:okD d=true:=by rw[hok];simp[*]
        have hall:(l.take (i+1)).all okD=true:=by rw[hsn,List.all_append,ha];simp[hyes]
        have hfl:qed (l.take i)≤i:=by have:=q8j (l.take i);rw[List.length_take] at this;omega
        by_cases c6:d.kind=8
        ·have hfn:qed (l.take (i+1))=qed (l.take i)+1:=by rw[hsn,qed,List.filter_append,List.length_append];simp[qed,c6]
         have c6d:decide (d.kind=8)=true:=decide_eq_true c6
         repeat'(first|refine vs_ ?_|(refine vr_ ?_<;>try simp only[hg,hltI,haf,hbf,htf,c2,c3,c5,c6d,Int.reduceEq,decide_true,decide_false,Bool.false_eq_true,go_sem,↓reduceIte])|((first|simp (disch:=omega) only[hg]|(refine cs_ ?_ ?_<;>intro hc)|refine cj_ ?_|refine qa h1 fun _=>?_|refine qa h2 fun _=>?_|refine qa h3 fun _=>?_|refine qa h4 fun _=>?_|refine qa h5 fun _=>?_|refine qc h1 ?_|refine qc h2 ?_|refine qc h3 ?_|refine qc h4 ?_|refine qc h5 ?_)<;>try refine ev_ ?_)|with_reducible exact ti_)
         all_goals try(exfalso;omega)
         refine qg (i+1) [] ⟨⟨by omega,hall⟩,by omega⟩ rfl (by simp) ?_ ?_ ?_<;>simp only[hfn]<;>(try refine ev_ ?_)<;>(try with_reducible exact ti_)<;>(try simp (disch:=omega) only[qb,and_true,true_and])
         all_goals(rw[qo (by omega) (by omega),Int.natCast_add];rfl)
        ·have hfn:qed (l.take (i+1))=qed (l.take i):=by rw[hsn,qed,List.filter_append,List.length_append];simp[qed,c6]
         have c6d:decide (d.kind=8)=false:=decide_eq_false c6
         repeat'(first|refine vs_ ?_|(refine vr_ ?_<;>try simp only[hg,hltI,haf,hbf,htf,c2,c3,c5,c6d,Int.reduceEq,decide_true,decide_false,Bool.false_eq_true,go_sem,↓reduceIte])|((first|simp (disch:=omega) only[hg]|(refine cs_ ?_ ?_<;>intro hc)|refine cj_ ?_|refine qa h1 fun _=>?_|refine qa h2 fun _=>?_|refine qa h3 fun _=>?_|refine qa h4 fun _=>?_|refine qa h5 fun _=>?_|refine qc h1 ?_|refine qc h2 ?_|refine qc h3 ?_|refine qc h4 ?_|refine qc h5 ?_)<;>try refine ev_ ?_)|with_reducible exact ti_)
         all_goals try(exfalso;omega)
         refine qg (i+1) [] ⟨⟨by omega,hall⟩,by omega⟩ rfl (by simp) ?_ ?_ ?_<;>simp only[hfn]<;>(try refine ev_ ?_)<;>(try with_reducible exact ti_)<;>(try simp (disch:=omega) only[qb,and_true,true_and])
         all_goals(rw[qo (by omega) (by omega),Int.natCast_add];rfl)
   ·have hie:i=l.length:=by omega
    subst hie
    rw[List.take_length] at ha ⊢
    have hn:¬(l.length:Int)<(l.length:Int):=by omega
    have hF:qok l=decide (qed l≤5):=by unfold qok;rw[decide_eq_true hl,ha];simp
    rw[hF]
    have hdd:decide ((qed l:Int)≤5)=decide (qed l≤5):=by by_cases h:qed l≤5<;>simp[h]<;>omega
    repeat'(first|refine vs_ ?_|(refine vr_ ?_<;>try simp only[hn,go_sem,↓reduceIte])|((first|(refine cs_ ?_ ?_<;>intro hc)|refine cj_ ?_)<;>try refine ev_ ?_)|with_reducible exact ti_)
    rw[hdd]
 ·have hlI:(60:Int)<(l.length:Int):=by omega
  rw[qok,decide_eq_false hl]
  repeat'(first|refine vs_ ?_|(refine vr_ ?_<;>try simp only[hlI,go_sem,↓reduceIte])|((first|(refine cs_ ?_ ?_<;>intro hc)|refine cj_ ?_)<;>try refine ev_ ?_)|with_reducible exact ti_)
end Go.Proofs.YtkenggenkmfopaaGreat
