/- Texts of this proof, joined. -/
import Derived.Test.YtkenggenkmfopaaGreatSbm
set_option linter.unusedVariables false
set_option linter.unusedSimpArgs false

/- the state: a term with all that is known -/
set_option maxRecDepth 4000
namespace Go.Proofs.YtkenggenkmfopaaGreat
open Go Go.RowKit Go.V

def typX(vs:List Int)(ts:List Ty)(x:Ty):Ty:=if(typK vs ts x).2=true then(typK vs ts x).1 else x
def trmK(f:Tm->Int->Option (Tm×Int)):List Tm->Int->Option (List Tm×Int)
 | [],lf=>some ([],lf)
 | x :: r, lf => match f x lf with
   | none=>none
   | some p => match trmK f r p.2 with
     | none=>none
     | some q=>some (p.1::q.1,q.2)
def qfl(F:List (Int×Tm))(t:Tm):Option (Nat×Tm):=if t.kind=14 then qf5 F t.num else none
def trmF(F:List (Int×Tm))(vs:List Int)(ts:List Ty):Nat->Tm->Int->Option (Tm×Int)
 | 0,_,_=>none
 | n + 1, t, lf => match qfl F t with
   | some p=>trmF F vs ts n p.2 lf
   | none => if IntKind.i64.wrap (lf - 1) < 0 then some (t, IntKind.i64.wrap (lf - 1)) else
     match trmK (trmF F vs ts n) t.kids (IntKind.i64.wrap (lf-1)) with
     | none=>none
     | some q=>some (.mk t.kind t.num t.name t.vars (t.types.map (typX vs ts)) q.1,q.2)
mutual
def smT:Tm->Prop
 | .mk _ _ _ _ l ks=>(∀x∈l,szY x≤1000000)∧l.length≤1000000∧ks.length≤1000000∧smTs ks
def smTs:List Tm->Prop
 | []=>True
 | x::r=>smT x∧smTs r
end
theorem qjc{l:List Tm}(h:smTs l):∀x∈l,smT x:=by
 induction l with
 | nil=>intro x hx;cases hx
 | cons y r ih =>
   rw[smTs] at h
   intro x hx
   rcases List.mem_cons.1 hx with rfl | hx
   ·exact h.1
   ·exact ih h.2 x hx
theorem qie(t:Tm):smT t↔(∀x∈t.types,szY x≤1000000)∧t.types.length≤1000000∧t.kids.length≤1000000∧smTs t.kids:=by cases t;rw[smT];rfl
def zT:AV:=.agg [.int .i64 0,.int .i64 0,.str [],.nils,.nils,.nils]
def gT(o:List Tm)(n:Nat):List AV:=qbn o++List.replicate (n-o.length) zT
theorem qcil{o:List Tm}{n:Nat}(h:o.length≤n):(gT o n).length=n:=by rw[gT,List.length_append,qdj,List.length_replicate];omega
theorem gT_0(n:Nat):gT [] n=List.replicate n zT:=by rw[gT,qbn];rfl
theorem qcku(o:List Tm):gT o o.length=qbn o:=by rw[gT,Nat.sub_self,List.replicate_zero,List.append_nil]
theorem qpy(l:List Tm)(x:Tm):qbn l++[encT x]=qbn (l++[x]):=by rw[qcp,qcp,List.map_append];rfl
theorem qcg9{o:List Tm}{n:Nat}(h:o.length<n)(x:Tm):(gT o n).set o.length (encT x)=gT (o++[x]) n:=by
 obtain⟨k,hk⟩:∃k,n-o.length=k+1:=⟨n-o.length-1,by omega⟩
 have hk2:n-(o++[x]).length=k:=by rw[List.length_append,List.length_singleton];omega
 rw[gT,gT,hk,hk2,List.replicate_succ,←qpy,List.set_append_right _ _ (by rw[qdj];exact Nat.le_refl _),qdj,Nat.sub_self,List.set_cons_zero,List.append_assoc]
 rfl
theorem qb1d(k:Nat)(o:List Tm)(n:Nat):AV.bds k (gT o n)=true:=by
 rw[gT,qhm,qhq,qc4]
 simp[zT,AV.bd,AV.bds]
theorem qblk(σ:Nat->Nat)(o:List Tm)(n:Nat):AV.rens σ (gT o n)=gT o n:=qp (m:=0) (fun i hi=>by omega) _ (qb1d 0 o n)
theorem qph(l:List Tm):∀v∈qbn l,v.flat:=fun v hv=>by
 rw[qcp] at hv
 obtain⟨t,_,rfl⟩:=List.mem_map.1 hv
 exact .inl ⟨qzl t,by rw[qpu];rfl⟩
theorem qbie{S:SS}{vs:List Int}{ts:List Ty}{lf:Int}{t:Tm}(hh:qfl S.fills t=none)(hl:IntKind.i64.wrap (lf-1)<0):qil S vs ts lf t (IntKind.i64.wrap (lf-1)) t:=by
 unfold qil
 refine qe c0a 5 (by simp) (by simp) ?_
 unfold qfl at hh
 by_cases hk:t.kind=14
 ·rw[if_pos hk] at hh
  have hkd:decide (t.kind=14)=true:=decide_eq_true hk
  have hlk:qqp S.fills t.num=.tup [.agg [.int .i64 0,.int .i64 0,.str [],.nils,.nils,.nils],.bool false]:=by unfold qqp;rw[hh]
  repeat'(first|refine vs_ ?_|(refine vr_ ?_<;>try simp only[hkd,hlk,hl,go_sem,↓reduceIte])|((first|simp (disch:=omega) only[hlk]|(refine cs_ ?_ ?_<;>intro hc)|refine cj_ ?_|refine qxr 3 ?_)<;>try refine ev_ ?_)|with_reducible exact ti_)
 ·have hkd:decide (t.kind=14)=false:=decide_eq_false hk
  repeat'(first|refine vs_ ?_|(refine vr_ ?_<;>try simp only[hkd,hl,go_sem,↓reduceIte])|((first|(refine cs_ ?_ ?_<;>intro hc)|refine cj_ ?_)<;>try refine ev_ ?_)|with_reducible exact ti_)
theorem qju{α:Type}:∀{l:List (Int×α)} {k:Int} {j:Nat} {u:α},qf5 l k=some (j,u)->(k,u)∈l
 | [],k,j,u,h=>by rw[qf5] at h;cases h
 | (a, v) :: r, k, j, u, h => by
   rw[qf5] at h
   split at h
   ·rename_i ha
    simp only[Option.some.injEq,Prod.mk.injEq] at h
    obtain⟨_,rfl⟩:=h
    subst ha
    exact List.mem_cons_self
   ·cases hr:qf5 r k with
    | none=>rw[hr] at h;cases h
    | some q =>
      obtain⟨i,w⟩:=q
      rw[hr] at h
      simp only[Option.map_some,Option.some.injEq,Prod.mk.injEq] at h
      obtain⟨_,rfl⟩:=h
      exact List.mem_cons_of_mem _ (qju hr)
def q0a(S:SS)(vs:List Int)(ts:List Ty)(t:Tm)(ty:List Ty)(x:Nat×List Tm×Int):AF×List Ent:=(⟨[(0,.ptr 0 0),(3,.ptr 5 0),(4,.ptr 6 0),(7,.row 7 t.types.length),(12,.row 8 t.kids.length),(86,.sl 6 (qbn t.kids)),(87,.int .i64 t.kids.length),(88,.int .i64 x.1)],[]⟩,filE S vs ts x.2.2++[.blk (tmc t),.blk [.int .i64 0,.int .i64 0,.str [],.nils,.nils,.nils],.app 3 (qg ty),.mrow 6 (gT x.2.1 t.kids.length)])
def q7j(S:SS)(vs:List Int)(ts:List Ty)(t:Tm)(lf:Int)(i:Nat):AF×List Ent:=(⟨[(0,.ptr 0 0),(3,.ptr 5 0),(4,.ptr 6 0),(7,.row 7 t.types.length),(53,.sl 3 (qg t.types)),(54,.int .i64 t.types.length),(55,.int .i64 i)],[]⟩,filE S vs ts lf++[.blk (tmc t),.blk [.int .i64 0,.int .i64 0,.str [],.nils,.nils,.nils],.mrow 3 (gE ((t.types.take i).map (typX vs ts)) t.types.length)])
set_option maxHeartbeats 2000000 in
theorem qbel{S:SS}{vs:List Int}{ts:List Ty}{lf lf':Int}{t:Tm}{ks:List Tm}{f:Tm->Int->Option (Tm×Int)}(hh:qfl S.fills t=none)(hl:¬IntKind.i64.wrap (lf-1)<0)(hsm:smT t)
 (hf:∀x∈t.kids,∀l y l2,f x l=some (y,l2)->qil S vs ts l x l2 y) (hk:trmK f t.kids (IntKind.i64.wrap (lf-1))=some (ks,lf')):qil S vs ts lf t lf' (.mk t.kind t.num t.name t.vars (t.types.map (typX vs ts)) ks):=by
 obtain⟨m1,m2,m3,m4⟩:=(qie t).1 hsm
 generalize hL:IntKind.i64.wrap (lf-1)=L at *
 unfold qil
 refine qe c0a 5 (by simp) (by simp) ?_
 unfold k0a
 generalize hz:IC.seq (IC.seq qbl8 _) _=z1
 generalize hz2:IC.seq (IC.seq qbk6 _) _=z2
 repeat'(first|refine vs_ ?_|((first|refine vr_ ?_|(refine cs_ ?_ ?_<;>intro hc)|refine cj_ ?_)<;>try refine ev_ ?_)|with_reducible exact ti_)
 subst hz2
 refine qdq (S:=Unit) (fun _=>True) (fun _=>(⟨[(0,.ptr 0 0),(3,.ptr 5 0),(4,.ptr 6 0)],[]⟩,filE S vs ts lf++[.blk (tmc t),.blk [.int .i64 0,.int .i64 0,.str [],.nils,.nils,.nils]])) ?_ fun _ _=>?_
 ·unfold qfl at hh
  by_cases hk:t.kind=14
  ·rw[if_pos hk] at hh
   have hkd:decide (t.kind=14)=true:=decide_eq_true hk
   have hlk:qqp S.fills t.num=.tup [.agg [.int .i64 0,.int .i64 0,.str [],.nils,.nils,.nils],.bool false]:=by unfold qqp;rw[hh]
   repeat'(first|refine vs_ ?_|(refine vr_ ?_<;>try simp only[hkd,hlk,go_sem,↓reduceIte])|((first|simp (disch:=omega) only[hlk]|(refine cs_ ?_ ?_<;>intro hc)|refine cj_ ?_|refine qxr 3 ?_)<;>try refine ev_ ?_)|with_reducible exact ti_)
   refine qf () [0,1,2,3,4,5,6] trivial rfl (by simp) ?_ ?_ ?_<;>(try refine ev_ ?_)<;>(try with_reducible exact ti_)<;>(try simp (disch:=omega) only[qb,and_true,true_and])
  ·have hkd:decide (t.kind=14)=false:=decide_eq_false hk
   repeat'(first|refine vs_ ?_|(refine vr_ ?_<;>try simp only[hkd,go_sem,↓reduceIte])|((first|(refine cs_ ?_ ?_<;>intro hc)|refine cj_ ?_)<;>try refine ev_ ?_)|with_reducible exact ti_)
   refine qf () [0,1,2,3,4,5,6] trivial rfl (by simp) ?_ ?_ ?_<;>(try refine ev_ ?_)<;>(try with_reducible exact ti_)<;>(try simp (disch:=omega) only[qb,and_true,true_and])
 subst hz
 have htyL:((t.types.map (typX vs ts)).length=t.types.length):=by simp
 repeat'(first|refine vs_ ?_|(refine vr_ ?_<;>try simp only[hL,hl,go_sem,↓reduceIte])|((first|(refine cs_ ?_ ?_<;>intro hc)|refine cj_ ?_)<;>try refine ev_ ?_)|with_reducible exact ti_)
 refine⟨by unfold maxLen;omega,?_⟩
 repeat'(first|refine vs_ ?_|(refine vr_ ?_<;>try simp only[hL,hl,go_sem,↓reduceIte])|((first|(refine cs_ ?_ ?_<;>intro hc)|refine cj_ ?_)<;>try refine ev_ ?_)|with_reducible exact ti_)
 refine qk (S:=Nat) (fun i=>i≤t.types.length) (q7j S vs ts t L) (fun i=>t.types.length-i) ?_ fun i hi=>?_
 ·refine qf 0 [0,1,2,3,4,5,6,7] (Nat.zero_le _) rfl (by simp) ?_ ?_ ?_<;>simp only[q7j,List.take_zero,List.map_nil,gE_0,zY]<;>(try refine ev_ ?_)<;>(try with_reducible exact ti_)<;>(try simp (disch:=omega) only[qb,and_true,true_and])
  all_goals exact⟨qqn _ _,(congrArg (Ent.mrow 3) (qlz _ _)).symm⟩
 ·unfold q7j
  have hol:((t.types.take i).map (typX vs ts)).length=i:=by rw[List.length_map,List.length_take];omega
  by_cases hlt:i<t.types.length
  ·have hgl:=q4w (o:=(t.types.take i).map (typX vs ts)) (n:=t.types.length) (by omega)
   have hset:=q4g (o:=(t.types.take i).map (typX vs ts)) (n:=t.types.length) (by omega) (typX vs ts (t.types.getD i Y0))
   rw[hol] at hset
   have hsn:(t.types.take i).map (typX vs ts)++[typX vs ts (t.types.getD i Y0)]=(t.types.take (i+1)).map (typX vs ts):=by rw[qh0 hlt,List.map_append];rfl
   rw[hsn] at hset
   have hg:=ql hlt
   have hty:=qp8 (vs:=vs) (ts:=ts) (m1 _ (qba hlt))
   have hltI:(i:Int)<(t.types.length:Int):=by omega
   have hX:typX vs ts (t.types.getD i Y0)=if(typK vs ts (t.types.getD i Y0)).2=true then(typK vs ts (t.types.getD i Y0)).1 else t.types.getD i Y0:=rfl
   generalize typX vs ts (t.types.getD i Y0)=X at *
   generalize t.types.getD i Y0=x at *
   generalize typK vs ts x=q at *
   obtain⟨u,b⟩:=q
   dsimp only at hty hX
   cases b with
   | true =>
     rw[if_pos rfl] at hX
     subst hX
     repeat'(first|refine vs_ ?_|(refine vr_ ?_<;>try simp (disch:=first|omega|(simp only[List.length_set,List.length_append,List.length_cons,List.length_nil];try omega)) only[hg,hltI,hgl,qb,go_sem,↓reduceIte])|((first|simp (disch:=omega) only[hg]|(refine cs_ ?_ ?_<;>intro hc)|refine cj_ ?_|refine qa hty fun _=>?_|refine qc hty ?_)<;>try refine ev_ ?_)|with_reducible exact ti_)
     all_goals try(exfalso;omega)
     refine qf (i+1) [0,1,2,3,4,5,6,7] ⟨by omega,by omega⟩ rfl (by simp) ?_ ?_ ?_<;>simp only[q7j,←hset]<;>(try refine ev_ ?_)<;>(try with_reducible exact ti_)<;>(try simp (disch:=omega) only[qb,and_true,true_and])
     all_goals first | (rw[hset];exact⟨qqd _ _ _,by rw[qlc]⟩) | (rw[qo (by omega) (by omega),Int.natCast_add];rfl)
   | false =>
     rw[if_neg (by simp)] at hX
     subst hX
     repeat'(first|refine vs_ ?_|(refine vr_ ?_<;>try simp (disch:=first|omega|(simp only[List.length_set,List.length_append,List.length_cons,List.length_nil];try omega)) only[hg,hltI,hgl,qb,go_sem,↓reduceIte])|((first|simp (disch:=omega) only[hg]|(refine cs_ ?_ ?_<;>intro hc)|refine cj_ ?_|refine qa hty fun _=>?_|refine qc hty ?_)<;>try refine ev_ ?_)|with_reducible exact ti_)
     all_goals try(exfalso;omega)
     refine qf (i+1) [0,1,2,3,4,5,6,7] ⟨by omega,by omega⟩ rfl (by simp) ?_ ?_ ?_<;>simp only[q7j,←hset]<;>(try refine ev_ ?_)<;>(try with_reducible exact ti_)<;>(try simp (disch:=omega) only[qb,and_true,true_and])
     all_goals first | (rw[hset];exact⟨qqd _ _ _,by rw[qlc]⟩) | (rw[qo (by omega) (by omega),Int.natCast_add];rfl)
  ·have hie:i=t.types.length:=by omega
   subst hie
   rw[List.take_length] at hol ⊢
   rw[show gE (t.types.map (typX vs ts)) t.types.length=qg (t.types.map (typX vs ts)) by rw[←q8r,hol]]
   generalize t.types.map (typX vs ts)=TY at *
   refine qb8 7 rfl (qey _) ?_
   have hn:¬(t.types.length:Int)<(t.types.length:Int):=by omega
   repeat'(first|refine vs_ ?_|(refine vr_ ?_<;>try simp only[hn,go_sem,↓reduceIte])|((first|(refine cs_ ?_ ?_<;>intro hc)|refine cj_ ?_)<;>try refine ev_ ?_)|with_reducible exact ti_)
   refine⟨⟨by omega,by unfold maxLen;omega⟩,?_⟩
   repeat'(first|refine vs_ ?_|((first|refine vr_ ?_|(refine cs_ ?_ ?_<;>intro hc)|refine cj_ ?_)<;>try refine ev_ ?_)|with_reducible exact ti_)
   refine qk (S:=Nat×List Tm×Int) (fun x=>x.1≤t.kids.length∧x.2.1.length=x.1∧∃ys,trmK f (t.kids.drop x.1) x.2.2=some (ys,lf')∧x.2.1++ys=ks) (q0a S vs ts t TY) (fun x=>t.kids.length-x.1) ?_ fun x hx=>?_
   ·refine qf (0,[],L) [0,1,2,3,4,5,6,7,8] ⟨Nat.zero_le _,rfl,ks,hk,rfl⟩ rfl (by simp) ?_ ?_ ?_<;>simp only[q0a,gT_0,zT]<;>(try refine ev_ ?_)<;>(try with_reducible exact ti_)<;>(try simp (disch:=omega) only[qb,and_true,true_and])
    rw[show List.replicate t.kids.length (AV.agg [.int .i64 0,.int .i64 0,.str [],.nils,.nils,.nils])=gT [] t.kids.length from(gT_0 _).symm]
    exact⟨qb1d _ _ _,by rw[qblk]⟩
   ·obtain⟨i,acc,l⟩:=x
    obtain⟨hi,hacc,ys,hys,hks⟩:=hx
    dsimp only at hi hacc hys hks ⊢
    unfold q0a
    dsimp only
    by_cases hlt:i<t.kids.length
    ·rw[qf2 hlt,trmK] at hys
     have hfx:=hf _ (qbk hlt)
     have hg:=qbd hlt
     have hltI:(i:Int)<(t.kids.length:Int):=by omega
     generalize t.kids.getD i T0=x at *
     cases hfe:f x l with
     | none=>rw[hfe] at hys;cases hys
     | some pr =>
       obtain⟨y,l2⟩:=pr
       rw[hfe] at hys
       dsimp only at hys
       have hcall:=hfx l y l2 hfe
       cases hre:trmK f (t.kids.drop (i+1)) l2 with
       | none=>rw[hre] at hys;cases hys
       | some qr =>
         obtain⟨zs,l3⟩:=qr
         rw[hre] at hys
         simp only[Option.some.injEq,Prod.mk.injEq] at hys
         obtain⟨rfl,rfl⟩:=hys
         have hgl:=qcil (o:=acc) (n:=t.kids.length) (by omega)
         have hset:=qcg9 (o:=acc) (n:=t.kids.length) (by omega) y
         rw[hacc] at hset
         repeat'(first|refine vs_ ?_|(refine vr_ ?_<;>try simp (disch:=first|omega|(simp only[List.length_set,List.length_append,List.length_cons,List.length_nil];try omega)) only[hg,hltI,hgl,qb,go_sem,↓reduceIte])|((first|simp (disch:=omega) only[hg]|(refine cs_ ?_ ?_<;>intro hc)|refine cj_ ?_|refine q7d _ hcall ?_)<;>try refine ev_ ?_)|with_reducible exact ti_)
         refine qf (i+1,acc++[y],l2) [0,1,2,3,4,5,6,7,8] ⟨⟨by dsimp only;omega,by dsimp only;rw[List.length_append,List.length_singleton,hacc],zs,hre,by rw[←hks,List.append_assoc];rfl⟩,by dsimp only;omega⟩ rfl (by simp) ?_ ?_ ?_<;>simp only[q0a,←hset]<;>(try refine ev_ ?_)<;>(try with_reducible exact ti_)<;>(try simp (disch:=omega) only[qb,and_true,true_and])
         all_goals first | (rw[hset];exact⟨qb1d _ _ _,by rw[qblk]⟩) | (rw[qo (by omega) (by omega),Int.natCast_add];rfl)
    ·have hie:i=t.kids.length:=by omega
     subst hie
     rw[List.drop_length,trmK] at hys
     simp only[Option.some.injEq,Prod.mk.injEq] at hys
     obtain⟨rfl,rfl⟩:=hys
     rw[List.append_nil] at hks
     subst hks
     rw[show gT acc t.kids.length=qbn acc by rw[←hacc,qcku]]
     refine qb8 8 rfl (qph _) ?_
     have hn2:¬(t.kids.length:Int)<(t.kids.length:Int):=by omega
     have ha1:(qbn acc).length=t.kids.length:=by rw[qdj,hacc]
     have ha2:(qg TY).length=t.types.length:=by rw[q8,hol]
     repeat'(first|refine vs_ ?_|(refine vr_ ?_<;>try simp only[hn2,ha1,ha2,go_sem,↓reduceIte])|((first|(refine cs_ ?_ ?_<;>intro hc)|refine cj_ ?_)<;>try refine ev_ ?_)|with_reducible exact ti_)
     rw[encT]
theorem qck0{S:SS}{vs:List Int}{ts:List Ty}(hF:∀p∈S.fills,smT p.2):∀(n:Nat) (t:Tm) (lf:Int) (r:Tm) (l2:Int),smT t->trmF S.fills vs ts n t lf=some (r,l2)->qil S vs ts lf t l2 r:=by
 intro n
 induction n with
 | zero=>intro t lf r l2 _ h;rw[trmF] at h;cases h
 | succ n ih =>
   intro t lf r l2 hsm h
   rw[trmF] at h
   cases hh:qfl S.fills t with
   | some p =>
     obtain⟨j,u⟩:=p
     rw[hh] at h
     dsimp only at h
     have hk:t.kind=14:=by
      unfold qfl at hh
      by_cases hk:t.kind=14
      ·exact hk
      ·rw[if_neg hk] at hh;cases hh
     have hlk:qf5 S.fills t.num=some (j,u):=by unfold qfl at hh;rwa [if_pos hk] at hh
     exact qr1 hk hlk (ih u lf r l2 (hF _ (qju hlk)) h)
   | none =>
     rw[hh] at h
     dsimp only at h
     by_cases hl:IntKind.i64.wrap (lf-1)<0
     ·rw[if_pos hl] at h
      simp only[Option.some.injEq,Prod.mk.injEq] at h
      obtain⟨rfl,rfl⟩:=h
      exact qbie hh hl
     ·rw[if_neg hl] at h
      cases hk:trmK (trmF S.fills vs ts n) t.kids (IntKind.i64.wrap (lf-1)) with
      | none=>rw[hk] at h;cases h
      | some q =>
        obtain⟨ks,l3⟩:=q
        rw[hk] at h
        simp only[Option.some.injEq,Prod.mk.injEq] at h
        obtain⟨rfl,rfl⟩:=h
        have hks:=qjc ((qie t).1 hsm).2.2.2
        exact qbel hh hl hsm (fun x hx l y l2 hf=>ih x l y l2 (hks x hx) hf) hk
set_option maxRecDepth 4000

mutual
def cntT:Tm->Int->Int->Int
 | .mk _ _ _ v t ks,lf,dp=>if dp<1∨100<(v.length:Int)∨30<(t.length:Int)∨qe0 t=false then -1 else qjm ks (IntKind.i64.wrap (lf-1)) (IntKind.i64.wrap (dp-1))
def qjm:List Tm->Int->Int->Int
 | [],lf,_=>lf
 | x::r,lf,dp=>if 0≤lf then qjm r (cntT x lf dp) dp else lf
end
theorem q4s(t:Tm)(lf dp:Int):cntT t lf dp=if dp<1∨100<(t.vars.length:Int)∨30<(t.types.length:Int)∨qe0 t.types=false then -1 else qjm t.kids (IntKind.i64.wrap (lf-1)) (IntKind.i64.wrap (dp-1)):=by cases t;rw[cntT];rfl
theorem qs5{a:Int}(h:a<0)(l:List Tm)(dp:Int):qjm l a dp=a:=by
 cases l with
 | nil=>rw[qjm]
 | cons x r=>rw[qjm,if_neg (by omega)]
theorem qccg:∀t lf dp,qj Tryz.prog 66 [encT t,.int .i64 lf,.int .i64 dp] (.int .i64 (cntT t lf dp)):=by
 refine Tm.ind fun t ih lf dp=>?_
 refine qd c0eq (by simp) (by simp only[go_sem]) rfl fun hw=>?_
 obtain⟨hk1,hk2,hk3⟩:=qcc hw.1
 have hF:=qcdi t.types
 rw[q4s]
 generalize qe0 t.types=fb at *
 obtain⟨L,hL⟩:∃L,IntKind.i64.wrap (lf-1)=L:=⟨_,rfl⟩
 rw[hL]
 by_cases c1:dp<1
 ·rw[if_pos (.inl c1)]
  repeat'(first|refine vs_ ?_|(refine vr_ ?_<;>try simp only[c1,go_sem,↓reduceIte])|((first|(refine cs_ ?_ ?_<;>intro hc)|refine cj_ ?_)<;>try refine ev_ ?_)|with_reducible exact ti_)
 by_cases c2:100<(t.vars.length:Int)
 ·rw[if_pos (.inr (.inl c2))]
  repeat'(first|refine vs_ ?_|(refine vr_ ?_<;>try simp only[c1,c2,go_sem,↓reduceIte])|((first|(refine cs_ ?_ ?_<;>intro hc)|refine cj_ ?_)<;>try refine ev_ ?_)|with_reducible exact ti_)
 by_cases c3:30<(t.types.length:Int)
 ·rw[if_pos (.inr (.inr (.inl c3)))]
  repeat'(first|refine vs_ ?_|(refine vr_ ?_<;>try simp only[c1,c2,c3,go_sem,↓reduceIte])|((first|(refine cs_ ?_ ?_<;>intro hc)|refine cj_ ?_)<;>try refine ev_ ?_)|with_reducible exact ti_)
 cases fb with
 | false =>
   rw[if_pos (.inr (.inr (.inr rfl)))]
   simp only[Bool.false_eq_true,if_false] at hF
   repeat'(first|refine vs_ ?_|(refine vr_ ?_<;>try simp only[c1,c2,c3,Int.reduceEq,decide_true,decide_false,Bool.false_eq_true,go_sem,↓reduceIte])|((first|(refine cs_ ?_ ?_<;>intro hc)|refine cj_ ?_|refine qa hF fun _=>?_)<;>try refine ev_ ?_)|with_reducible exact ti_)
   all_goals first | (exfalso;omega)
 | true =>
   rw[if_neg (by simp;omega)]
   simp only[if_true] at hF
   unfold k0eq
   generalize hz:IC.seq (IC.seq q7t _) _=z1
   repeat'(first|refine vs_ ?_|(refine vr_ ?_<;>try simp only[c1,c2,c3,hL,Int.reduceEq,decide_true,decide_false,Bool.false_eq_true,go_sem,↓reduceIte])|((first|(refine cs_ ?_ ?_<;>intro hc)|refine cj_ ?_|refine qa hF fun _=>?_)<;>try refine ev_ ?_)|with_reducible exact ti_)
   all_goals try(exfalso;omega)
   subst hz
   repeat'(first|refine vs_ ?_|((first|refine vr_ ?_|(refine cs_ ?_ ?_<;>intro hc)|refine cj_ ?_)<;>try refine ev_ ?_)|with_reducible exact ti_)
   refine qk (S:=Nat×Int) (fun s=>s.1≤t.kids.length∧qjm (t.kids.drop s.1) s.2 (IntKind.i64.wrap (dp-1))=qjm t.kids L (IntKind.i64.wrap (dp-1))) (fun s=>(⟨[(1,.int .i64 s.2),(2,.int .i64 dp),(3,.ptr 0 0),(7,.int .i64 s.1)],[]⟩,[.blk (tmc t)])) (fun s=>t.kids.length-s.1) ?_ fun s hs=>?_
   ·refine qf (0,L) [0] ⟨Nat.zero_le _,rfl⟩ rfl (by simp) ?_ ?_ ?_<;>(try refine ev_ ?_)<;>(try with_reducible exact ti_)<;>(try simp (disch:=omega) only[qb,and_true,true_and])
   ·obtain⟨i,a⟩:=s
    obtain⟨hi,ha⟩:=hs
    dsimp only at hi ha
    by_cases hlt:i<t.kids.length
    ·have hg:=qbd hlt
     have hltI:(i:Int)<(t.kids.length:Int):=by omega
     by_cases ha0:0≤a
     ·have hcall:=ih _ (qbk hlt) a (IntKind.i64.wrap (dp-1))
      rw[qf2 hlt,qjm,if_pos ha0] at ha
      generalize t.kids.getD i T0=x at *
      repeat'(first|refine vs_ ?_|(refine vr_ ?_<;>try simp (disch:=first|omega|(simp only[List.length_set,List.length_append,List.length_cons,List.length_nil];try omega)) only[hg,hltI,ha0,qb,go_sem,↓reduceIte])|((first|simp (disch:=omega) only[hg]|(refine cs_ ?_ ?_<;>intro hc)|refine cj_ ?_|refine qa hcall fun _=>?_)<;>try refine ev_ ?_)|with_reducible exact ti_)
      all_goals try(exfalso;omega)
      refine qf (i+1,cntT x a (IntKind.i64.wrap (dp-1))) [0] ⟨⟨by dsimp only;omega,ha⟩,by dsimp only;omega⟩ rfl (by simp) ?_ ?_ ?_<;>(try refine ev_ ?_)<;>(try with_reducible exact ti_)<;>(try simp (disch:=omega) only[qb,and_true,true_and])
     ·rw[qs5 (by omega)] at ha
      repeat'(first|refine vs_ ?_|(refine vr_ ?_<;>try simp only[hltI,ha0,go_sem,↓reduceIte])|((first|(refine cs_ ?_ ?_<;>intro hc)|refine cj_ ?_)<;>try refine ev_ ?_)|with_reducible exact ti_)
      all_goals first | (exfalso;omega) | (rw[←ha])
    ·rw[List.drop_of_length_le (by omega),qjm] at ha
     have hltI:¬(i:Int)<(t.kids.length:Int):=by omega
     repeat'(first|refine vs_ ?_|(refine vr_ ?_<;>try simp only[hltI,go_sem,↓reduceIte])|((first|(refine cs_ ?_ ?_<;>intro hc)|refine cj_ ?_)<;>try refine ev_ ?_)|with_reducible exact ti_)
     all_goals first | (exfalso;omega) | (rw[←ha])
set_option maxRecDepth 4000

def qwm(t:Tm):Bool:=decide (0≤cntT t 3000 450)
theorem qbar(t:Tm):qj Tryz.prog 35 [.sl 6 [encT t]] (.int .i64 (if qwm t=true then 1 else 0)):=by
 refine qd c0eo (by simp) (by simp only[AV.bds,AV.bd,qb5,Bool.and_true]) rfl fun hw=>?_
 have hc:=qccg t 3000 450
 have hf:qwm t=decide (0≤cntT t 3000 450):=rfl
 generalize cntT t 3000 450=c at *
 repeat'(first|refine vs_ ?_|((first|refine vr_ ?_|(refine cs_ ?_ ?_<;>intro hc)|refine cj_ ?_)<;>try refine ev_ ?_)|with_reducible exact ti_)
 refine qk (S:=Nat) (fun i=>i≤1) (fun i=>(⟨[(0,.sl 6 [encT t]),(3,.int .i64 (if i=0 then 3000 else c)),(4,.int .i64 i)],[]⟩,[])) (fun i=>1-i) ?_ fun i hi=>?_
 ·refine qf 0 [] (by omega) rfl (by simp) ?_ ?_ ?_<;>(try refine ev_ ?_)<;>(try with_reducible exact ti_)<;>(try simp (disch:=omega) only[qb,and_true,true_and])
  all_goals exact⟨qb5 _ _,by rw[qi8]⟩
 ·by_cases h0:i=0
  ·subst h0
   have hg:[encT t].getD 0 .junk=encT t:=rfl
   have hlt:(0:Int)<1:=by decide
   repeat'(first|refine vs_ ?_|(refine vr_ ?_<;>try simp only[hg,hlt,if_true,go_sem,↓reduceIte])|((first|simp (disch:=omega) only[hg]|(refine cs_ ?_ ?_<;>intro hc)|refine cj_ ?_|refine qa hc fun _=>?_)<;>try refine ev_ ?_)|with_reducible exact ti_)
   all_goals try(exfalso;omega)
   refine qf 1 [] ⟨by omega,by omega⟩ rfl (by simp) ?_ ?_ ?_<;>(try refine ev_ ?_)<;>(try with_reducible exact ti_)<;>(try simp (disch:=omega) only[qb,and_true,true_and])
   all_goals first | rfl | exact⟨qb5 _ _,by rw[qi8]⟩
  ·have h1:i=1:=by omega
   subst h1
   repeat'(first|refine vs_ ?_|((first|refine vr_ ?_|(refine cs_ ?_ ?_<;>intro hc)|refine cj_ ?_)<;>try refine ev_ ?_)|with_reducible exact ti_)
   ·exact absurd hc (by decide)
   ·rw[hf,decide_eq_false (by omega)];rfl
   ·rw[hf,decide_eq_true (by omega)];rfl
/-! how many nodes -/
mutual
def szTR:Tm->Int
 | .mk _ _ _ _ _ ks=>q2f 1 ks
def q2f:Int->List Tm->Int
 | a,[]=>a
 | a,x::r=>q2f (IntKind.i64.wrap (a+szTR x)) r
end
theorem qb31(t:Tm):szTR t=q2f 1 t.kids:=by cases t;rw[szTR];rfl
theorem qo5:∀t,qj Tryz.prog 36 [encT t] (.int .i64 (szTR t)):=by
 refine Tm.ind fun t ih=>?_
 refine qd c0ep (by simp) (by simp only[go_sem]) rfl fun hw=>?_
 obtain⟨hk1,hk2,hk3⟩:=qcc hw.1
 repeat'(first|refine vs_ ?_|((first|refine vr_ ?_|(refine cs_ ?_ ?_<;>intro hc)|refine cj_ ?_)<;>try refine ev_ ?_)|with_reducible exact ti_)
 refine qk (S:=Nat×Int) (fun s=>s.1≤t.kids.length∧q2f s.2 (t.kids.drop s.1)=szTR t) (fun s=>(⟨[(1,.ptr 0 0),(3,.int .i64 s.2),(4,.int .i64 s.1)],[]⟩,[.blk (tmc t)])) (fun s=>t.kids.length-s.1) ?_ fun s hs=>?_
 ·refine qf (0,1) [0] ⟨Nat.zero_le _,(qb31 t).symm⟩ rfl (by simp) ?_ ?_ ?_<;>(try refine ev_ ?_)<;>(try with_reducible exact ti_)<;>(try simp (disch:=omega) only[qb,and_true,true_and])
 ·obtain⟨i,a⟩:=s
  obtain⟨hi,ha⟩:=hs
  dsimp only at hi ha
  by_cases hlt:i<t.kids.length
  ·have hcall:=ih _ (qbk hlt)
   rw[qf2 hlt,q2f] at ha
   have hg:=qbd hlt
   have hltI:(i:Int)<(t.kids.length:Int):=by omega
   generalize t.kids.getD i T0=x at *
   repeat'(first|refine vs_ ?_|(refine vr_ ?_<;>try simp (disch:=first|omega|(simp only[List.length_set,List.length_append,List.length_cons,List.length_nil];try omega)) only[hg,hltI,qb,go_sem,↓reduceIte])|((first|simp (disch:=omega) only[hg]|(refine cs_ ?_ ?_<;>intro hc)|refine cj_ ?_|refine qa hcall fun _=>?_)<;>try refine ev_ ?_)|with_reducible exact ti_)
   all_goals try(exfalso;omega)
   refine qf (i+1,IntKind.i64.wrap (a+szTR x)) [0] ⟨⟨by dsimp only;omega,ha⟩,by dsimp only;omega⟩ rfl (by simp) ?_ ?_ ?_<;>(try refine ev_ ?_)<;>(try with_reducible exact ti_)<;>(try simp (disch:=omega) only[qb,and_true,true_and])
  ·rw[List.drop_of_length_le (by omega),q2f] at ha
   have hltI:¬(i:Int)<(t.kids.length:Int):=by omega
   repeat'(first|refine vs_ ?_|(refine vr_ ?_<;>try simp only[hltI,go_sem,↓reduceIte])|((first|(refine cs_ ?_ ?_<;>intro hc)|refine cj_ ?_)<;>try refine ev_ ?_)|with_reducible exact ti_)
   all_goals first | (exfalso;omega) | (rw[←ha])
set_option maxRecDepth 4000

def D0:Dd:=⟨0,0,0,[],Y0,Y0,T0⟩
def qj0(l:List Dd):List AV:=l.map encD
theorem qt7(l:List Dd):(qj0 l).length=l.length:=by simp[qj0]
theorem ql3(k:Nat)(l:List Dd):AV.bds k (qj0 l)=true:=by rw[qj0,qc4,List.all_map,List.all_eq_true];exact fun x _=>qri k x
theorem q60(σ:Nat->Nat)(l:List Dd):AV.rens σ (qj0 l)=qj0 l:=qp (m:=0) (fun i hi=>by omega) _ (ql3 0 l)
theorem qts{l:List Dd}{i:Nat}(h:i<l.length):(qj0 l).getD i .junk=encD (l.getD i D0):=by
 rw[qj0,List.getD_eq_getElem?_getD,List.getElem?_map,List.getElem?_eq_getElem h,List.getD_eq_getElem?_getD,List.getElem?_eq_getElem h];rfl
theorem qub{l:List Dd}{i:Nat}(h:i<l.length):l.getD i D0∈l:=by
 rw[List.getD_eq_getElem?_getD,List.getElem?_eq_getElem h];exact List.getElem_mem h
theorem q23(d:Dd):(encD d).cells=ddc d:=rfl
theorem qbhe(d:Dd):(encD d).isAgg=true:=rfl
attribute [go_sem] qt7 ql3 q60 qri qbgn q23 qbhe
def okD(d:Dd):Bool:=qe0 [d.a,d.b]&&!decide (200<qde d.a)&&!decide (200<qde d.b)&&qwm d.t&&!decide (60<szTR d.t)
def qem(l:List Dd):Nat:=(l.filter fun d=>decide (d.kind=8)).length
def qou(l:List Dd):Bool:=decide (l.length≤60)&&l.all okD&&decide (qem l≤5)
theorem q5l(l:List Dd):qem l≤l.length:=List.length_filter_le _ _
set_option maxHeartbeats 1000000 in
theorem qbe6(l:List Dd):qj Tryz.prog 7 [.sl 16 (qj0 l)] (.bool (qou l)):=by
 refine qd c0en (by simp) (by simp only[AV.bds,AV.bd,ql3,Bool.and_true]) rfl fun hw=>?_
 have hlm:l.length≤maxLen:=by have:=hw.1.1;rwa [qt7] at this
 by_cases hl:l.length≤60
 ·have hlI:¬(60:Int)<(l.length:Int):=by omega
  repeat'(first|refine vs_ ?_|(refine vr_ ?_<;>try simp only[hlI,go_sem,↓reduceIte])|((first|(refine cs_ ?_ ?_<;>intro hc)|refine cj_ ?_)<;>try refine ev_ ?_)|with_reducible exact ti_)
  refine qk (S:=Nat) (fun i=>i≤l.length∧(l.take i).all okD=true) (fun i=>(⟨[(0,.sl 16 (qj0 l)),(3,.int .i64 (qem (l.take i))),(4,.int .i64 i)],[]⟩,[])) (fun i=>l.length-i) ?_ fun i hi=>?_
  ·refine qf 0 [] ⟨Nat.zero_le _,rfl⟩ rfl (by simp) ?_ ?_ ?_<;>(try refine ev_ ?_)<;>(try with_reducible exact ti_)<;>(try simp (disch:=omega) only[qb,and_true,true_and])
   all_goals rfl
  ·obtain⟨hi,ha⟩:=hi
   by_cases hlt:i<l.length
   ·have hg:=qts hlt
    have hltI:(i:Int)<(l.length:Int):=by omega
    have hmem:=qub hlt
    have hsn:l.take (i+1)=l.take i++[l.getD i D0]:=by rw[List.take_add_one,List.getD_eq_getElem?_getD,List.getElem?_eq_getElem hlt];rfl
    generalize l.getD i D0=d at *
    have hbad:okD d=false->qou l=false:=fun h=>by
     unfold qou
     have:l.all okD=false:=by rw[List.all_eq_false];exact⟨d,hmem,by rw[h];simp⟩
     rw[this];simp
    have h1:qj Tryz.prog 8 [.sl 3 [encY d.a,encY d.b]] (.int .i64 (if qe0 [d.a,d.b]=true then 1 else 0)):=by
     have:=qcdi [d.a,d.b]
     simpa only[qg] using this
    have h2:=qd3 d.a
    have h3:=qd3 d.b
    have h4:=qbar d.t
    have h5:=qo5 d.t
    have hok:okD d=(qe0 [d.a,d.b]&&!decide (200<qde d.a)&&!decide (200<qde d.b)&&qwm d.t&&!decide (60<szTR d.t)):=rfl
    generalize qe0 [d.a,d.b]=fw at *
    generalize qde d.a=sa at *
    generalize qde d.b=sb at *
    generalize qwm d.t=f3 at *
    generalize szTR d.t=st at *
    have haf:AV.agg [.str d.a.con,.int .i64 d.a.var,.sl 3 (qg d.a.args)]=encY d.a:=qbe _
    have hbf:AV.agg [.str d.b.con,.int .i64 d.b.var,.sl 3 (qg d.b.args)]=encY d.b:=qbe _
    have htf:AV.agg [.int .i64 d.t.kind,.int .i64 d.t.num,.str d.t.name,.sl 1 (ints d.t.vars),.sl 3 (qg d.t.types),.sl 6 (qbn d.t.kids)]=encT d.t:=qcj _
    cases fw with
    | false =>
      simp only[Bool.false_eq_true,if_false] at h1
      have hno:=hbad (by rw[hok];simp)
      rw[hno]
      repeat'(first|refine vs_ ?_|(refine vr_ ?_<;>try simp only[hg,hltI,haf,hbf,htf,Int.reduceEq,decide_true,decide_false,Bool.false_eq_true,go_sem,↓reduceIte])|((first|simp (disch:=omega) only[hg]|(refine cs_ ?_ ?_<;>intro hc)|refine cj_ ?_|refine qa h1 fun _=>?_|refine qc h1 ?_)<;>try refine ev_ ?_)|with_reducible exact ti_)
      all_goals first | (exfalso;omega)
    | true =>
      simp only[if_true] at h1
      by_cases c2:200<sa
      ·have hno:=hbad (by rw[hok];simp[*])
       rw[hno]
       repeat'(first|refine vs_ ?_|(refine vr_ ?_<;>try simp only[hg,hltI,haf,hbf,htf,c2,Int.reduceEq,decide_true,decide_false,Bool.false_eq_true,go_sem,↓reduceIte])|((first|simp (disch:=omega) only[hg]|(refine cs_ ?_ ?_<;>intro hc)|refine cj_ ?_|refine qa h1 fun _=>?_|refine qa h2 fun _=>?_|refine qc h1 ?_|refine qc h2 ?_)<;>try refine ev_ ?_)|with_reducible exact ti_)
       all_goals first | (exfalso;omega)
      by_cases c3:200<sb
      ·have hno:=hbad (by rw[hok];simp[*])
       rw[hno]
       repeat'(first|refine vs_ ?_|(refine vr_ ?_<;>try simp only[hg,hltI,haf,hbf,htf,c2,c3,Int.reduceEq,decide_true,decide_false,Bool.false_eq_true,go_sem,↓reduceIte])|((first|simp (disch:=omega) only[hg]|(refine cs_ ?_ ?_<;>intro hc)|refine cj_ ?_|refine qa h1 fun _=>?_|refine qa h2 fun _=>?_|refine qa h3 fun _=>?_|refine qc h1 ?_|refine qc h2 ?_|refine qc h3 ?_)<;>try refine ev_ ?_)|with_reducible exact ti_)
       all_goals first | (exfalso;omega)
      cases f3 with
      | false =>
        simp only[Bool.false_eq_true,if_false] at h4
        have hno:=hbad (by rw[hok];simp[*])
        rw[hno]
        repeat'(first|refine vs_ ?_|(refine vr_ ?_<;>try simp only[hg,hltI,haf,hbf,htf,c2,c3,Int.reduceEq,decide_true,decide_false,Bool.false_eq_true,go_sem,↓reduceIte])|((first|simp (disch:=omega) only[hg]|(refine cs_ ?_ ?_<;>intro hc)|refine cj_ ?_|refine qa h1 fun _=>?_|refine qa h2 fun _=>?_|refine qa h3 fun _=>?_|refine qa h4 fun _=>?_|refine qc h1 ?_|refine qc h2 ?_|refine qc h3 ?_|refine qc h4 ?_)<;>try refine ev_ ?_)|with_reducible exact ti_)
        all_goals first | (exfalso;omega)
      | true =>
        simp only[if_true] at h4
        by_cases c5:60<st
        ·have hno:=hbad (by rw[hok];simp[*])
         rw[hno]
         repeat'(first|refine vs_ ?_|(refine vr_ ?_<;>try simp only[hg,hltI,haf,hbf,htf,c2,c3,c5,Int.reduceEq,decide_true,decide_false,Bool.false_eq_true,go_sem,↓reduceIte])|((first|simp (disch:=omega) only[hg]|(refine cs_ ?_ ?_<;>intro hc)|refine cj_ ?_|refine qa h1 fun _=>?_|refine qa h2 fun _=>?_|refine qa h3 fun _=>?_|refine qa h4 fun _=>?_|refine qa h5 fun _=>?_|refine qc h1 ?_|refine qc h2 ?_|refine qc h3 ?_|refine qc h4 ?_|refine qc h5 ?_)<;>try refine ev_ ?_)|with_reducible exact ti_)
         all_goals first | (exfalso;omega)
        have hyes:okD d=true:=by rw[hok];simp[*]
        have hall:(l.take (i+1)).all okD=true:=by rw[hsn,List.all_append,ha];simp[hyes]
        have hfl:qem (l.take i)≤i:=by have:=q5l (l.take i);rw[List.length_take] at this;omega
        by_cases c6:d.kind=8
        ·have hfn:qem (l.take (i+1))=qem (l.take i)+1:=by rw[hsn,qem,List.filter_append,List.length_append];simp[qem,c6]
         have c6d:decide (d.kind=8)=true:=decide_eq_true c6
         repeat'(first|refine vs_ ?_|(refine vr_ ?_<;>try simp only[hg,hltI,haf,hbf,htf,c2,c3,c5,c6d,Int.reduceEq,decide_true,decide_false,Bool.false_eq_true,go_sem,↓reduceIte])|((first|simp (disch:=omega) only[hg]|(refine cs_ ?_ ?_<;>intro hc)|refine cj_ ?_|refine qa h1 fun _=>?_|refine qa h2 fun _=>?_|refine qa h3 fun _=>?_|refine qa h4 fun _=>?_|refine qa h5 fun _=>?_|refine qc h1 ?_|refine qc h2 ?_|refine qc h3 ?_|refine qc h4 ?_|refine qc h5 ?_)<;>try refine ev_ ?_)|with_reducible exact ti_)
         all_goals try(exfalso;omega)
         refine qf (i+1) [] ⟨⟨by omega,hall⟩,by omega⟩ rfl (by simp) ?_ ?_ ?_<;>simp only[hfn]<;>(try refine ev_ ?_)<;>(try with_reducible exact ti_)<;>(try simp (disch:=omega) only[qb,and_true,true_and])
         all_goals(rw[qo (by omega) (by omega),Int.natCast_add];rfl)
        ·have hfn:qem (l.take (i+1))=qem (l.take i):=by rw[hsn,qem,List.filter_append,List.length_append];simp[qem,c6]
         have c6d:decide (d.kind=8)=false:=decide_eq_false c6
         repeat'(first|refine vs_ ?_|(refine vr_ ?_<;>try simp only[hg,hltI,haf,hbf,htf,c2,c3,c5,c6d,Int.reduceEq,decide_true,decide_false,Bool.false_eq_true,go_sem,↓reduceIte])|((first|simp (disch:=omega) only[hg]|(refine cs_ ?_ ?_<;>intro hc)|refine cj_ ?_|refine qa h1 fun _=>?_|refine qa h2 fun _=>?_|refine qa h3 fun _=>?_|refine qa h4 fun _=>?_|refine qa h5 fun _=>?_|refine qc h1 ?_|refine qc h2 ?_|refine qc h3 ?_|refine qc h4 ?_|refine qc h5 ?_)<;>try refine ev_ ?_)|with_reducible exact ti_)
         all_goals try(exfalso;omega)
         refine qf (i+1) [] ⟨⟨by omega,hall⟩,by omega⟩ rfl (by simp) ?_ ?_ ?_<;>simp only[hfn]<;>(try refine ev_ ?_)<;>(try with_reducible exact ti_)<;>(try simp (disch:=omega) only[qb,and_true,true_and])
         all_goals(rw[qo (by omega) (by omega),Int.natCast_add];rfl)
   ·have hie:i=l.length:=by omega
    subst hie
    rw[List.take_length] at ha ⊢
    have hn:¬(l.length:Int)<(l.length:Int):=by omega
    have hF:qou l=decide (qem l≤5):=by unfold qou;rw[decide_eq_true hl,ha];simp
    rw[hF]
    have hdd:decide ((qem l:Int)≤5)=decide (qem l≤5):=by by_cases h:qem l≤5<;>simp[h]<;>omega
    repeat'(first|refine vs_ ?_|(refine vr_ ?_<;>try simp only[hn,go_sem,↓reduceIte])|((first|(refine cs_ ?_ ?_<;>intro hc)|refine cj_ ?_)<;>try refine ev_ ?_)|with_reducible exact ti_)
    rw[hdd]
 ·have hlI:(60:Int)<(l.length:Int):=by omega
  rw[qou,decide_eq_false hl]
  repeat'(first|refine vs_ ?_|(refine vr_ ?_<;>try simp only[hlI,go_sem,↓reduceIte])|((first|(refine cs_ ?_ ?_<;>intro hc)|refine cj_ ?_)<;>try refine ev_ ?_)|with_reducible exact ti_)
end Go.Proofs.YtkenggenkmfopaaGreat
