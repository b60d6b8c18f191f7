/- Texts of this proof, joined. -/
import Derived.Test.YtkenggenkmfopaaGreatFat
import Derived.Test.YtkenggenkmfopaaGreatFau
import Derived.Test.YtkenggenkmfopaaGreatFaw
set_option linter.unusedVariables false
set_option linter.unusedSimpArgs false

/- types of System F: whether a type may be -/
set_option maxRecDepth 4000
namespace Go.Proofs.YtkenggenkmfopaaGreat
open Go Go.RowKit Go.V

def qb4h(t:Ty):Ty:=.mk t.con t.var (List.replicate (min t.args.length 4095) Y0)
def okH(t:Ty):Bool:=qm8 t||qx7 (qb4h t)
mutual
def lgF:Ty->Int->Int->Int×Bool
 | .mk c v l,n,k=>if IntKind.i64.wrap (n-1)<0∨k<1 then(IntKind.i64.wrap (n-1),false) else if okH (.mk c v l)=true then lgFs l (IntKind.i64.wrap (n-1)) (IntKind.i64.wrap (k-1)) else(IntKind.i64.wrap (n-1),false)
def lgFs:List Ty->Int->Int->Int×Bool
 | [],n,_=>(n,true)
 | x::r,n,k=>if(lgF x n k).2=true then lgFs r (lgF x n k).1 k else((lgF x n k).1,false)
end
theorem qcfq(t:Ty)(n k:Int):lgF t n k=if IntKind.i64.wrap (n-1)<0∨k<1 then(IntKind.i64.wrap (n-1),false) else if okH t=true then lgFs t.args (IntKind.i64.wrap (n-1)) (IntKind.i64.wrap (k-1)) else(IntKind.i64.wrap (n-1),false):=by
 cases t;rw[lgF];rfl
theorem qqx(k n:Nat):AV.bds k (List.replicate n zY)=true:=qrl k [] n
theorem qlr(σ:Nat->Nat)(n:Nat):AV.rens σ (List.replicate n zY)=List.replicate n zY:=qk6 σ [] n
theorem q4r(n:Nat):qf (List.replicate n Y0)=List.replicate n (encY Y0):=by rw[qcn,List.map_replicate]
theorem qcce(H:List Ent)(n:Nat):(List.replicate n zY).map (co H (.agg [.id,.id,.sl 3]))=qf (List.replicate n Y0):=by
 rw[List.map_replicate,q4r];rfl
theorem q6t(t:Ty)(n:Nat)(h:n=min t.args.length 4095):AV.agg [.str t.con,.int .i64 t.var,.sl 3 (qf (List.replicate n Y0))]=encY (qb4h t):=by
 subst h
 rw[←qbd];rfl
set_option maxHeartbeats 1000000 in
theorem qwi:∀t n k,VM Tryz.prog 121 (numE n) (numE (lgF t n k).1) [.ptr 0 0,encY t,.int .i64 k] (.bool (lgF t n k).2):=by
 refine Ty.ind fun t ih n k=>?_
 refine qha (by kernel_rfl) fun hw=>?_
 have hk:=qci hw.2.1
 refine qe c0bm 1 (by simp) (by simp) ?_
 rw[qcfq]
 by_cases h1:IntKind.i64.wrap (n-1)<0
 ·rw[if_pos (.inl h1)]
  repeat'(first|refine vs_ ?_|(refine vr_ ?_<;>try simp only[h1,go_sem,↓reduceIte])|((first|(refine cs_ ?_ ?_<;>intro hc)|refine cj_ ?_)<;>try refine ev_ ?_)|with_reducible exact ti_)
 by_cases h2:k<1
 ·rw[if_pos (.inr h2)]
  repeat'(first|refine vs_ ?_|(refine vr_ ?_<;>try simp only[h1,h2,go_sem,↓reduceIte])|((first|(refine cs_ ?_ ?_<;>intro hc)|refine cj_ ?_)<;>try refine ev_ ?_)|with_reducible exact ti_)
 rw[if_neg (by omega)]
 obtain⟨N,hN⟩:∃N,IntKind.i64.wrap (n-1)=N:=⟨_,rfl⟩
 rw[hN] at h1 ⊢
 have hcl:=quy t
 cases hd:qm8 t with
 | true =>
   rw[qyd hd] at hcl
   rw[if_pos (by rw[okH,hd];rfl)]
   repeat'(first|refine vs_ ?_|(refine vr_ ?_<;>try simp only[hN,h1,h2,go_sem,↓reduceIte])|((first|(refine cs_ ?_ ?_<;>intro hc)|refine cj_ ?_|refine qa hcl fun _=>?_|refine qc hcl ?_)<;>try refine ev_ ?_)|with_reducible exact ti_)
   refine qk (S:=Nat×Int) (fun s=>s.1≤t.args.length∧lgFs (t.args.drop s.1) s.2 (IntKind.i64.wrap (k-1))=lgFs t.args N (IntKind.i64.wrap (k-1))) (fun s=>(⟨[(0,.ptr 0 0),(2,.int .i64 k),(51,.sl 3 (qf t.args)),(52,.int .i64 t.args.length),(53,.int .i64 s.1)],[]⟩,[numE s.2,.blk (yc t)])) (fun s=>t.args.length-s.1) ?_ fun s hs=>?_
   ·refine qg (0,N) [0,1] ⟨Nat.zero_le _,rfl⟩ rfl (by simp) ?_ ?_ ?_<;>(try refine ev_ ?_)<;>(try with_reducible exact ti_)<;>(try simp (disch:=omega) only[qb,and_true,true_and])
   ·obtain⟨i,a⟩:=s
    obtain⟨hi,ha⟩:=hs
    dsimp only at hi ha
    by_cases hlt:i<t.args.length
    ·have hst:lgFs t.args N (IntKind.i64.wrap (k-1))=if(lgF (t.args.getD i Y0) a (IntKind.i64.wrap (k-1))).2=true then lgFs (t.args.drop (i+1)) (lgF (t.args.getD i Y0) a (IntKind.i64.wrap (k-1))).1 (IntKind.i64.wrap (k-1)) else((lgF (t.args.getD i Y0) a (IntKind.i64.wrap (k-1))).1,false):=by
      rw[←ha,qjt (l:=t.args) (i:=i) hlt,lgFs]
     have hcall:=ih _ (qba hlt) a (IntKind.i64.wrap (k-1))
     generalize lgF (t.args.getD i Y0) a (IntKind.i64.wrap (k-1))=X at hst hcall
     clear ha
     obtain⟨X1,X2⟩:=X
     dsimp only at hcall hst
     cases X2 with
     | false =>
       rw[hst]
       clear hst
       repeat'(first|refine vs_ ?_|(refine vr_ ?_<;>try simp (disch:=first|omega|(simp only[List.length_set,List.length_append,List.length_cons,List.length_nil];try omega)) only[ql,qb,go_sem,↓reduceIte])|((first|(refine cs_ ?_ ?_<;>intro hc)|refine cj_ ?_|refine qca 0 hcall ?_)<;>try refine ev_ ?_)|with_reducible exact ti_)
       all_goals try(exfalso;omega)
     | true =>
       repeat'(first|refine vs_ ?_|(refine vr_ ?_<;>try simp (disch:=first|omega|(simp only[List.length_set,List.length_append,List.length_cons,List.length_nil];try omega)) only[ql,qb,go_sem,↓reduceIte])|((first|(refine cs_ ?_ ?_<;>intro hc)|refine cj_ ?_|refine qca 0 hcall ?_)<;>try refine ev_ ?_)|with_reducible exact ti_)
       all_goals try(exfalso;omega)
       refine qg (i+1,X1) [0,1] ⟨⟨by dsimp only;omega,by rw[hst,if_pos rfl]⟩,by dsimp only;omega⟩ rfl (by simp) ?_ ?_ ?_<;>(try refine ev_ ?_)<;>(try with_reducible exact ti_)<;>(try simp (disch:=omega) only[qb,and_true,true_and])
    ·repeat'(first|refine vs_ ?_|(refine vr_ ?_<;>try simp (disch:=first|omega|(simp only[List.length_set,List.length_append,List.length_cons,List.length_nil];try omega)) only[ql,qb,go_sem,↓reduceIte])|((first|(refine cs_ ?_ ?_<;>intro hc)|refine cj_ ?_)<;>try refine ev_ ?_)|with_reducible exact ti_)
     all_goals try(exfalso;omega)
     rw[←ha,show i=t.args.length by omega,List.drop_length]
     exact⟨rfl,rfl⟩
 | false =>
   rw[qq5 hd] at hcl
   have hmm:(if(4095:Int)<t.args.length then(4095:Int) else t.args.length)=((min t.args.length 4095:Nat):Int):=by split<;>omega
   obtain⟨q,hq⟩:∃q,min t.args.length 4095=q:=⟨_,rfl⟩
   rw[hq] at hmm
   unfold k0bm
   generalize hz:IC.seq qw0 _=z1
   repeat'(first|refine vs_ ?_|(refine vr_ ?_<;>try simp only[hN,h1,h2,go_sem,↓reduceIte])|((first|(refine cs_ ?_ ?_<;>intro hc)|refine cj_ ?_|refine qa hcl fun _=>?_|refine qc hcl ?_)<;>try refine ev_ ?_)|with_reducible exact ti_)
   subst hz
   refine qdw (S:=Unit) (fun _=>True) (fun _=>(⟨[(0,.ptr 0 0),(2,.int .i64 k),(4,.ptr 1 0),(10,.ptr 3 0)],[]⟩,[numE N,.blk (yc t),.mrow 3 (List.replicate q zY),.blk [.str t.con,.int .i64 t.var,.row 2 q]])) ?_ fun _ _=>?_
   ·unfold qw0
    refine qby3 8 10 (by rfl) ?_ ?_
    ·simp only[qq4,Nat.zero_add,Nat.reduceAdd,Nat.reduceEqDiff,if_false,if_true,List.filter,decide_true,decide_false,ne_eq,not_true_eq_false,not_false_eq_true]
     (simp (disch:=first | omega | (simp only[List.length_set,List.length_append,List.length_cons,List.length_nil];try omega)) only[hmm,Int.toNat_natCast,go_sem,↓reduceIte])
     refine⟨by omega,?_⟩
     refine qg () [0,1,3,4] trivial rfl (by simp) ?_ ?_ ?_<;>simp only[zY]<;>(try refine ev_ ?_)<;>(try with_reducible exact ti_)<;>(try simp (disch:=omega) only[qb,and_true,true_and])
     all_goals exact⟨qqx _ _,(congrArg (Ent.mrow 3) (qlr _ q)).symm⟩
    ·simp only[qk3,qgy,posL,List.getElem?_cons_succ,List.getElem?_cons_zero,List.map_cons,List.map_nil,Nat.reduceAdd,Nat.reduceEqDiff,Nat.reduceLT,if_false,if_true,ne_eq,not_true_eq_false,not_false_eq_true,and_true,and_false,true_and,false_and]
     (simp (disch:=first | omega | (simp only[List.length_set,List.length_append,List.length_cons,List.length_nil];try omega)) only[hmm,Int.toNat_natCast,go_sem,↓reduceIte])
     refine⟨by omega,?_⟩
     refine qg () [0,1,4,3] trivial rfl (by simp) ?_ ?_ ?_<;>simp only[zY]<;>(try refine ev_ ?_)<;>(try with_reducible exact ti_)<;>(try simp (disch:=omega) only[qb,and_true,true_and])
     all_goals exact⟨qqx _ _,(congrArg (Ent.mrow 3) (qlr _ q)).symm⟩
   ·refine q2n 2 (.agg [.id,.id,.sl 3]) rfl (qcce _ _) (qet _) ?_
    simp only[List.set_cons_succ,List.set_cons_zero]
    have hlw:=qnh (qb4h t)
    rw[←q6t t q hq.symm] at hlw
    repeat'(first|refine vs_ ?_|(refine vr_ ?_<;>try simp only[List.length_replicate,go_sem,↓reduceIte])|((first|(refine cs_ ?_ ?_<;>intro hc)|refine cj_ ?_|refine qa hlw fun _=>?_|refine qc hlw ?_)<;>try refine ev_ ?_)|with_reducible exact ti_)
    ·rw[if_neg (by rw[okH,hd,hc];simp)]
     exact⟨rfl,rfl⟩
    ·rw[if_pos (by rw[okH,hd,hc];simp)]
     refine qk (S:=Nat×Int) (fun s=>s.1≤t.args.length∧lgFs (t.args.drop s.1) s.2 (IntKind.i64.wrap (k-1))=lgFs t.args N (IntKind.i64.wrap (k-1))) (fun s=>(⟨[(0,.ptr 0 0),(2,.int .i64 k),(51,.sl 3 (qf t.args)),(52,.int .i64 t.args.length),(53,.int .i64 s.1)],[]⟩,[numE s.2,.blk (yc t)])) (fun s=>t.args.length-s.1) ?_ fun s hs=>?_
     ·refine qg (0,N) [0,1] ⟨Nat.zero_le _,rfl⟩ rfl (by simp) ?_ ?_ ?_<;>(try refine ev_ ?_)<;>(try with_reducible exact ti_)<;>(try simp (disch:=omega) only[qb,and_true,true_and])
     ·obtain⟨i,a⟩:=s
      obtain⟨hi,ha⟩:=hs
      dsimp only at hi ha
      by_cases hlt:i<t.args.length
      ·have hst:lgFs t.args N (IntKind.i64.wrap (k-1))=if(lgF (t.args.getD i Y0) a (IntKind.i64.wrap (k-1))).2=true then lgFs (t.args.drop (i+1)) (lgF (t.args.getD i Y0) a (IntKind.i64.wrap (k-1))).1 (IntKind.i64.wrap (k-1)) else((lgF (t.args.getD i Y0) a (IntKind.i64.wrap (k-1))).1,false):=by
        rw[←ha,qjt (l:=t.args) (i:=i) hlt,lgFs]
       have hcall:=ih _ (qba hlt) a (IntKind.i64.wrap (k-1))
       generalize lgF (t.args.getD i Y0) a (IntKind.i64.wrap (k-1))=X at hst hcall
       clear ha
       obtain⟨X1,X2⟩:=X
       dsimp only at hcall hst
       cases X2 with
       | false =>
         rw[hst]
         clear hst
         repeat'(first|refine vs_ ?_|(refine vr_ ?_<;>try simp (disch:=first|omega|(simp only[List.length_set,List.length_append,List.length_cons,List.length_nil];try omega)) only[ql,qb,go_sem,↓reduceIte])|((first|(refine cs_ ?_ ?_<;>intro hc)|refine cj_ ?_|refine qca 0 hcall ?_)<;>try refine ev_ ?_)|with_reducible exact ti_)
         all_goals try(exfalso;omega)
       | true =>
         repeat'(first|refine vs_ ?_|(refine vr_ ?_<;>try simp (disch:=first|omega|(simp only[List.length_set,List.length_append,List.length_cons,List.length_nil];try omega)) only[ql,qb,go_sem,↓reduceIte])|((first|(refine cs_ ?_ ?_<;>intro hc)|refine cj_ ?_|refine qca 0 hcall ?_)<;>try refine ev_ ?_)|with_reducible exact ti_)
         all_goals try(exfalso;omega)
         refine qg (i+1,X1) [0,1] ⟨⟨by dsimp only;omega,by rw[hst,if_pos rfl]⟩,by dsimp only;omega⟩ rfl (by simp) ?_ ?_ ?_<;>(try refine ev_ ?_)<;>(try with_reducible exact ti_)<;>(try simp (disch:=omega) only[qb,and_true,true_and])
      ·repeat'(first|refine vs_ ?_|(refine vr_ ?_<;>try simp (disch:=first|omega|(simp only[List.length_set,List.length_append,List.length_cons,List.length_nil];try omega)) only[ql,qb,go_sem,↓reduceIte])|((first|(refine cs_ ?_ ?_<;>intro hc)|refine cj_ ?_)<;>try refine ev_ ?_)|with_reducible exact ti_)
       all_goals try(exfalso;omega)
       rw[←ha,show i=t.args.length by omega,List.drop_length]
       exact⟨rfl,rfl⟩
set_option maxRecDepth 4000

def lgY(t:Ty):Bool:=(lgF t 4096 100).2
theorem qgs(t:Ty):qj Tryz.prog 82 [encY t] (.bool (lgY t)):=by
 refine qd c0bj (by simp) (by simp only[go_sem]) rfl fun hw=>?_
 repeat'(first|refine vs_ ?_|((first|refine vr_ ?_|refine qca 1 (qwi t 4096 100) ?_|(refine cs_ ?_ ?_<;>intro hc)|refine cj_ ?_)<;>try refine ev_ ?_)|with_reducible exact ti_)
 rfl
theorem qhi{l:List Ty}{i:Nat}(h:i<l.length):l.take (i+1)=l.take i++[l.getD i Y0]:=by
 rw[List.take_add_one,List.getD_eq_getElem?_getD,List.getElem?_eq_getElem h];rfl
mutual
def putT(vs:List Int)(ts:List Ty):Ty->Ty
 | .mk c v l=>if c=[] then(if 0≤idxW v vs 0∧idxW v vs 0<ts.length then ts.getD (idxW v vs 0).toNat Y0 else .mk c v l) else .mk c v (q69 vs ts l)
def q69(vs:List Int)(ts:List Ty):List Ty->List Ty
 | []=>[]
 | x::r=>putT vs ts x::q69 vs ts r
end
theorem q7f(vs:List Int)(ts:List Ty)(l:List Ty):q69 vs ts l=l.map (putT vs ts):=by
 induction l with
 | nil=>rw[q69];rfl
 | cons x r ih=>rw[q69,ih];rfl
theorem qvn(vs:List Int)(ts:List Ty)(t:Ty):putT vs ts t=if t.con=[] then(if 0≤idxW t.var vs 0∧idxW t.var vs 0<ts.length then ts.getD (idxW t.var vs 0).toNat Y0 else t) else .mk t.con t.var (t.args.map (putT vs ts)):=by
 cases t;rw[putT,q7f];rfl
theorem q4s(vs:List Int)(ts:List Ty)(l:List Ty):(l.map (putT vs ts)).length=l.length:=by simp
def ptSt(vs:List Int)(ts:List Ty)(t:Ty)(i:Nat):AF×List Ent:=(⟨[(1,.sl 1 (ints vs)),(2,.sl 3 (qf ts)),(3,.ptr 0 0),(6,.ptr 1 0),(8,.row 2 t.args.length),(36,.sl 3 (qf t.args)),(37,.int .i64 t.args.length),(38,.int .i64 i)],[]⟩,[.blk (yc t),.blk [.str [],.int .i64 0,.nils],.mrow 3 (gE ((t.args.take i).map (putT vs ts)) t.args.length)])
theorem q1w(vs:List Int)(ts:List Ty):∀t,szY t≤1000000->qj Tryz.prog 83 [encY t,.sl 1 (ints vs),.sl 3 (qf ts)] (encY (putT vs ts t)):=by
 refine Ty.ind fun t ih hb=>?_
 refine qd c0bk (by simp) (by simp only[go_sem]) (qx 0 _) fun hw=>?_
 have hk:=qci hw.1
 have hsz:=qdr t
 have hal:=qen t.args
 have htl:ts.length≤maxLen:=by have:=hw.2.2.1.1;rwa [q9] at this
 rw[qvn]
 by_cases hc:t.con=[]
 ·rw[if_pos hc]
  have hf:AV.agg [.str [],.int .i64 t.var,.sl 3 (qf t.args)]=encY t:=by rw[←qbd t,hc]
  have hi:=qrr vs t.var
  generalize idxW t.var vs 0=k at hi
  by_cases h1:0≤k
  ·by_cases h2:k<ts.length
   ·have hkn:(k.toNat:Int)=k:=Int.toNat_of_nonneg h1
    have hg:=ql (l:=ts) (i:=k.toNat) (by omega)
    rw[if_pos ⟨h1,h2⟩]
    repeat'(first|refine vs_ ?_|(refine vr_ ?_<;>try simp only[hc,h1,h2,hg,go_sem,↓reduceIte])|((first|(refine cs_ ?_ ?_<;>intro hc)|refine cj_ ?_|refine qa hi fun _=>?_)<;>try refine ev_ ?_)|with_reducible exact ti_)
    all_goals try(exfalso;omega)
   ·rw[if_neg (by omega)]
    repeat'(first|refine vs_ ?_|(refine vr_ ?_<;>try simp only[hc,h1,h2,go_sem,↓reduceIte])|((first|(refine cs_ ?_ ?_<;>intro hc)|refine cj_ ?_|refine qa hi fun _=>?_)<;>try refine ev_ ?_)|with_reducible exact ti_)
    all_goals try(exfalso;omega)
    all_goals rw[hf]
  ·rw[if_neg (by omega)]
   repeat'(first|refine vs_ ?_|(refine vr_ ?_<;>try simp only[hc,h1,go_sem,↓reduceIte])|((first|(refine cs_ ?_ ?_<;>intro hc)|refine cj_ ?_|refine qa hi fun _=>?_)<;>try refine ev_ ?_)|with_reducible exact ti_)
   all_goals try(exfalso;omega)
   all_goals rw[hf]
 ·rw[if_neg hc]
  have hcd:decide (t.con=[])=false:=decide_eq_false hc
  have ih':∀i,i<t.args.length->qj Tryz.prog 83 [encY (t.args.getD i Y0),.sl 1 (ints vs),.sl 3 (qf ts)] (encY (putT vs ts (t.args.getD i Y0))):=fun i hi=>ih _ (qba hi) (by have:=qdp (qba hi);omega)
  repeat'(first|refine vs_ ?_|(refine vr_ ?_<;>try simp only[hcd,go_sem,↓reduceIte])|((first|(refine cs_ ?_ ?_<;>intro hc)|refine cj_ ?_)<;>try refine ev_ ?_)|with_reducible exact ti_)
  refine qk (S:=Nat) (fun i=>i≤t.args.length) (ptSt vs ts t) (fun i=>t.args.length-i) ?_ fun i hi=>?_
  ·refine qg 0 [0,1,2] (Nat.zero_le _) rfl (by simp) ?_ ?_ ?_<;>simp only[ptSt,List.take_zero,List.map_nil,gE_0,zY]<;>(try refine ev_ ?_)<;>(try with_reducible exact ti_)<;>(try simp (disch:=omega) only[qb,and_true,true_and])
   all_goals exact⟨qqx _ _,(congrArg (Ent.mrow 3) (qlr _ _)).symm⟩
  ·unfold ptSt
   have hol:((t.args.take i).map (putT vs ts)).length=i:=by rw[List.length_map,List.length_take];omega
   by_cases hlt:i<t.args.length
   ·have hgl:=q32 (o:=(t.args.take i).map (putT vs ts)) (n:=t.args.length) (by omega)
    have hset:=q20 (o:=(t.args.take i).map (putT vs ts)) (n:=t.args.length) (by omega) (putT vs ts (t.args.getD i Y0))
    rw[hol] at hset
    have hsn:(t.args.take i).map (putT vs ts)++[putT vs ts (t.args.getD i Y0)]=(t.args.take (i+1)).map (putT vs ts):=by rw[qhi hlt,List.map_append];rfl
    rw[hsn] at hset
    repeat'(first|refine vs_ ?_|(refine vr_ ?_<;>try simp (disch:=first|omega|(simp only[List.length_set,List.length_append,List.length_cons,List.length_nil];try omega)) only[ql,qb,go_sem,↓reduceIte])|((first|(refine cs_ ?_ ?_<;>intro hc)|refine cj_ ?_|refine qa (ih' i hlt) fun _=>?_)<;>try refine ev_ ?_)|with_reducible exact ti_)
    all_goals try(exfalso;omega)
    refine qg (i+1) [0,1,2] ⟨by omega,by omega⟩ rfl (by simp) ?_ ?_ ?_<;>simp only[ptSt,←hset]<;>(try refine ev_ ?_)<;>(try with_reducible exact ti_)<;>(try simp (disch:=omega) only[qb,and_true,true_and])
    all_goals(rw[hset];exact⟨qrl _ _ _,by rw[qk6]⟩)
   ·have hi':i=t.args.length:=by omega
    subst hi'
    rw[List.take_length] at hol ⊢
    rw[show gE (t.args.map (putT vs ts)) t.args.length=qf (t.args.map (putT vs ts)) by rw[←q5j,hol]]
    have hpl:=q4s vs ts t.args
    refine qb6 2 rfl (qet _) ?_
    repeat'(first|refine vs_ ?_|(refine vr_ ?_<;>try simp only[hpl,go_sem,↓reduceIte])|((first|(refine cs_ ?_ ?_<;>intro hc)|refine cj_ ?_)<;>try refine ev_ ?_)|with_reducible exact ti_)
    all_goals try(exfalso;omega)
    all_goals rw[encY]
/-! with what is known -/
def typK(vs:List Int)(ts:List Ty)(t:Ty):Ty×Bool:=if lgY t then(putT vs ts t,lgY (putT vs ts t)) else(Y0,false)
theorem qpt{vs:List Int}{ts:List Ty}{t:Ty}(hb:szY t≤1000000):qj Tryz.prog 51 [encY t,.sl 1 (ints vs),.sl 3 (qf ts)] (.tup [encY (typK vs ts t).1,.bool (typK vs ts t).2]):=by
 refine qd c0bl (by simp) (by simp only[go_sem]) (by simp only[AV.bd,AV.bds,qx,Bool.and_true]) fun hw=>?_
 have h1:=qgs t
 have h2:=q1w vs ts t hb
 have h3:=qgs (putT vs ts t)
 have hz:AV.agg [.str [],.int .i64 0,.sl 3 []]=encY Y0:=rfl
 unfold typK
 cases hl:lgY t with
 | false =>
   rw[hl] at h1
   repeat'(first|refine vs_ ?_|(refine vr_ ?_<;>try simp only[hz,go_sem,↓reduceIte])|((first|(refine cs_ ?_ ?_<;>intro hc)|refine cj_ ?_|fail|refine qa h1 fun _=>?_|refine qc h1 ?_)<;>try refine ev_ ?_)|with_reducible exact ti_)
 | true =>
   rw[hl] at h1
   generalize putT vs ts t=u at h2 h3 ⊢
   generalize lgY u=b at h3 ⊢
   repeat'(first|refine vs_ ?_|(refine vr_ ?_<;>try simp only[hz,go_sem,↓reduceIte])|((first|(refine cs_ ?_ ?_<;>intro hc)|refine cj_ ?_|fail|refine qa h1 fun _=>?_|refine qa h2 fun _=>?_|refine qa h3 fun _=>?_|refine qc h1 ?_|refine qc h2 ?_|refine qc h3 ?_)<;>try refine ev_ ?_)|with_reducible exact ti_)
set_option maxRecDepth 4000

def idxC{α:Type}(g:α->Bool):List α->Nat->Int
 | [],_=>-1
 | x::r,i=>if g x=true then(i:Int) else idxC g r (i+1)
theorem qqd{α:Type}(g:α->Bool):∀(l:List α) (i:Nat),decide (0≤idxC g l i)=l.any g
 | [],i=>rfl
 | x :: r, i => by
   rw[idxC,List.any_cons]
   split
   ·rename_i h;rw[h];simp
   ·rename_i h
    have h:g x=false:=by simpa using h
    rw[h,Bool.false_or,qqd g r (i+1)]
theorem qcfk{f:FuncId}{g:Ty->Bool}{l:List Ty}(hs:∀q∈l,qj Tryz.prog f [encY q] (.bool (g q))):qj Tryz.prog 220 [.sl 3 (qf l),.fn f [] []] (.int .i64 (idxC g l 0)):=by
 refine qd c0be (by simp) (by simp only[go_sem]) rfl fun hw=>?_
 have hl:l.length≤maxLen:=by have:=hw.1.1;rwa [q9] at this
 repeat'(first|refine vs_ ?_|((first|refine vr_ ?_|(refine cs_ ?_ ?_<;>intro hc)|refine cj_ ?_)<;>try refine ev_ ?_)|with_reducible exact ti_)
 refine qk (S:=Nat) (fun i=>i≤l.length∧idxC g (l.drop i) i=idxC g l 0) (fun i=>(⟨[(0,.sl 3 (qf l)),(1,.fn f [] []),(7,.int .i64 l.length),(8,.int .i64 i)],[]⟩,[])) (fun i=>l.length-i) ?_ fun i hi=>?_
 ·refine qg 0 [] ⟨Nat.zero_le _,rfl⟩ rfl (by simp) ?_ ?_ ?_<;>(try refine ev_ ?_)<;>(try with_reducible exact ti_)<;>(try simp (disch:=omega) only[qb,and_true,true_and])
 obtain⟨hi,ha⟩:=hi
 by_cases hlt:i<l.length
 ·have hg:=ql hlt
  have hq:=hs _ (qba hlt)
  rw[qjt hlt,idxC] at ha
  have hltI:(i:Int)<(l.length:Int):=by omega
  generalize l.getD i Y0=q at *
  generalize g q=b at *
  cases b with
  | true =>
    rw[if_pos rfl] at ha
    repeat'(first|refine vs_ ?_|(refine vr_ ?_<;>try simp (disch:=first|omega|(simp only[List.length_set,List.length_append,List.length_cons,List.length_nil];try omega)) only[hg,hltI,qb,go_sem,↓reduceIte])|((first|simp (disch:=omega) only[hg]|(refine cs_ ?_ ?_<;>intro hc)|refine cj_ ?_|refine qa hq fun _=>?_)<;>try refine ev_ ?_)|with_reducible exact ti_)
    all_goals rw[←ha]
  | false =>
    rw[if_neg (by simp)] at ha
    repeat'(first|refine vs_ ?_|(refine vr_ ?_<;>try simp (disch:=first|omega|(simp only[List.length_set,List.length_append,List.length_cons,List.length_nil];try omega)) only[hg,hltI,qb,go_sem,↓reduceIte])|((first|simp (disch:=omega) only[hg]|(refine cs_ ?_ ?_<;>intro hc)|refine cj_ ?_|refine qa hq fun _=>?_)<;>try refine ev_ ?_)|with_reducible exact ti_)
    refine qg (i+1) [] ⟨⟨by omega,ha⟩,by omega⟩ rfl (by simp) ?_ ?_ ?_<;>(try refine ev_ ?_)<;>(try with_reducible exact ti_)<;>(try simp (disch:=omega) only[qb,and_true,true_and])
 ·rw[List.drop_of_length_le (by omega),idxC] at ha
  have hltI:¬(i:Int)<(l.length:Int):=by omega
  repeat'(first|refine vs_ ?_|(refine vr_ ?_<;>try simp only[hltI,go_sem,↓reduceIte])|((first|(refine cs_ ?_ ?_<;>intro hc)|refine cj_ ?_)<;>try refine ev_ ?_)|with_reducible exact ti_)
  all_goals rw[←ha]
theorem qcj0{f:FuncId}{g:Ty->Bool}{l:List Ty}(hs:∀q∈l,qj Tryz.prog f [encY q] (.bool (g q))):qj Tryz.prog 179 [.sl 3 (qf l),.fn f [] []] (.bool (l.any g)):=by
 refine qd c0bf (by simp) (by simp only[go_sem]) rfl fun hw=>?_
 repeat'(first|refine vs_ ?_|((first|refine vr_ ?_|refine qa (qcfk hs) fun _=>?_|(refine cs_ ?_ ?_<;>intro hc)|refine cj_ ?_)<;>try refine ev_ ?_)|with_reducible exact ti_)
 rw[qqd]
theorem qbfz{l:List Tm}(h:(AV.sl 6 (qbl l)).wf):l.length≤maxLen:=by have:=h.1;rwa [qdl] at this
theorem qcjg{f:FuncId}{g:Tm->Bool}{l:List Tm}(hs:∀q∈l,qj Tryz.prog f [encT q] (.bool (g q))):qj Tryz.prog 181 [.sl 6 (qbl l),.fn f [] []] (.int .i64 (idxC g l 0)):=by
 refine qd c0bg (by simp) (by simp only[go_sem]) rfl fun hw=>?_
 have hl:=qbfz hw.1
 repeat'(first|refine vs_ ?_|((first|refine vr_ ?_|(refine cs_ ?_ ?_<;>intro hc)|refine cj_ ?_)<;>try refine ev_ ?_)|with_reducible exact ti_)
 refine qk (S:=Nat) (fun i=>i≤l.length∧idxC g (l.drop i) i=idxC g l 0) (fun i=>(⟨[(0,.sl 6 (qbl l)),(1,.fn f [] []),(7,.int .i64 l.length),(8,.int .i64 i)],[]⟩,[])) (fun i=>l.length-i) ?_ fun i hi=>?_
 ·refine qg 0 [] ⟨Nat.zero_le _,rfl⟩ rfl (by simp) ?_ ?_ ?_<;>(try refine ev_ ?_)<;>(try with_reducible exact ti_)<;>(try simp (disch:=omega) only[qb,and_true,true_and])
 obtain⟨hi,ha⟩:=hi
 by_cases hlt:i<l.length
 ·have hg:=qbe hlt
  have hq:=hs _ (qbh hlt)
  rw[qfn hlt,idxC] at ha
  have hltI:(i:Int)<(l.length:Int):=by omega
  generalize l.getD i T0=q at *
  generalize g q=b at *
  cases b with
  | true =>
    rw[if_pos rfl] at ha
    repeat'(first|refine vs_ ?_|(refine vr_ ?_<;>try simp (disch:=first|omega|(simp only[List.length_set,List.length_append,List.length_cons,List.length_nil];try omega)) only[hg,hltI,qb,go_sem,↓reduceIte])|((first|simp (disch:=omega) only[hg]|(refine cs_ ?_ ?_<;>intro hc)|refine cj_ ?_|refine qa hq fun _=>?_)<;>try refine ev_ ?_)|with_reducible exact ti_)
    all_goals rw[←ha]
  | false =>
    rw[if_neg (by simp)] at ha
    repeat'(first|refine vs_ ?_|(refine vr_ ?_<;>try simp (disch:=first|omega|(simp only[List.length_set,List.length_append,List.length_cons,List.length_nil];try omega)) only[hg,hltI,qb,go_sem,↓reduceIte])|((first|simp (disch:=omega) only[hg]|(refine cs_ ?_ ?_<;>intro hc)|refine cj_ ?_|refine qa hq fun _=>?_)<;>try refine ev_ ?_)|with_reducible exact ti_)
    refine qg (i+1) [] ⟨⟨by omega,ha⟩,by omega⟩ rfl (by simp) ?_ ?_ ?_<;>(try refine ev_ ?_)<;>(try with_reducible exact ti_)<;>(try simp (disch:=omega) only[qb,and_true,true_and])
 ·rw[List.drop_of_length_le (by omega),idxC] at ha
  have hltI:¬(i:Int)<(l.length:Int):=by omega
  repeat'(first|refine vs_ ?_|(refine vr_ ?_<;>try simp only[hltI,go_sem,↓reduceIte])|((first|(refine cs_ ?_ ?_<;>intro hc)|refine cj_ ?_)<;>try refine ev_ ?_)|with_reducible exact ti_)
  all_goals rw[←ha]
theorem qya{f:FuncId}{g:Tm->Bool}{l:List Tm}(hs:∀q∈l,qj Tryz.prog f [encT q] (.bool (g q))):qj Tryz.prog 128 [.sl 6 (qbl l),.fn f [] []] (.bool (l.any g)):=by
 refine qd c0bh (by simp) (by simp only[go_sem]) rfl fun hw=>?_
 repeat'(first|refine vs_ ?_|((first|refine vr_ ?_|refine qa (qcjg hs) fun _=>?_|(refine cs_ ?_ ?_<;>intro hc)|refine cj_ ?_)<;>try refine ev_ ?_)|with_reducible exact ti_)
 rw[qqd]
/-! what a kind has -/
structure Shp where
 nm:Bool
 ct:Bool
 f0:Bool
 ty:Int
 kd:Int
def shpF(k:Int):Option Shp :=
 if k=1∨k=21 then some ⟨true,false,false,0,0⟩ else
 if k=2∨k=14∨k=23 then some ⟨false,true,false,0,0⟩ else
 if k=22 then some ⟨false,false,false,0,0⟩ else
 if k=3∨k=11 then some ⟨true,false,false,1,1⟩ else
 if k=4∨k=9 then some ⟨false,false,false,0,2⟩ else
 if k=5 then some ⟨false,false,false,0,1⟩ else
 if k=6 then some ⟨false,false,false,-1,1⟩ else
 if k=7 then some ⟨true,false,false,-1,0⟩ else
 if k=8∨k=10 then some ⟨false,false,false,0,-1⟩ else
 if k=12 then some ⟨true,false,false,1,-1⟩ else
 if k=13 then some ⟨true,true,true,0,1⟩ else
 if k=24 then some ⟨true,false,false,0,-1⟩ else none
def encS(s:Shp):AV:=.agg [.bool s.nm,.bool s.ct,.bool s.f0,.int .i64 s.ty,.int .i64 s.kd]
def shpA(o:Option Shp):AV:=.tup [encS (o.getD ⟨false,false,false,0,0⟩),.bool o.isSome]
theorem qp3(k:Int):qj Tryz.prog 178 [.int .i64 k] (shpA (shpF k)):=by
 refine qd c0bi (by simp) (by simp only[go_sem]) rfl fun hw=>?_
 repeat'(first|refine vs_ ?_|((first|refine vr_ ?_|(refine cs_ ?_ ?_<;>intro hc)|refine cj_ ?_)<;>try refine ev_ ?_)|with_reducible exact ti_)
 all_goals simp[shpA,shpF,encS, *]
set_option maxRecDepth 4000

theorem qci7(t:Ty):qj Tryz.prog 180 [encY t] (.bool (!lgY t)):=by
 refine qd c0bc (by simp) (by simp only[go_sem]) rfl fun hw=>?_
 have h:=qgs t
 generalize lgY t=b at *
 repeat'(first|refine vs_ ?_|((first|refine vr_ ?_|refine qa h fun _=>?_|(refine cs_ ?_ ?_<;>intro hc)|refine cj_ ?_)<;>try refine ev_ ?_)|with_reducible exact ti_)
def fC1(nm ct f0:Bool)(t:Tm):Bool:=((decide (t.name=[]) == nm)||(!decide (t.num=0)&&!ct))||(decide (t.num<0)&&f0)
def fC2(t:Tm):Bool:=decide (0<(t.vars.length:Int))&&!decide (t.kind=5)&&!decide (t.kind=11)
def fC3(ty kd:Int)(t:Tm):Bool:=(decide (0≤ty)&&!decide ((t.types.length:Int)=ty))||(decide (0≤kd)&&!decide ((t.kids.length:Int)=kd))
def fitS(s:Shp)(t:Tm):Bool :=
 if fC1 s.nm s.ct s.f0 t then false else
 if fC2 t then false else
 if fC3 s.ty s.kd t then false else
 !(t.types.any fun x=>!lgY x)
def fitT(t:Tm):Bool:=match shpF t.kind with
 | none=>false
 | some s=>fitS s t
theorem qb8{t:Tm}(h:(encT t).wf):t.vars.length≤maxLen∧t.types.length≤maxLen∧t.kids.length≤maxLen:=by
 rw[←qcf] at h
 obtain⟨_,_,_,h1,h2,h3,_⟩:=h
 exact⟨by have:=h1.1;rwa [qck] at this,by have:=h2.1;rwa [q9] at this,by have:=h3.1;rwa [qdl] at this⟩
set_option maxHeartbeats 2000000 in
theorem qge(t:Tm):qj Tryz.prog 127 [encT t] (.bool (fitT t)):=by
 refine qd c0bd (by simp) (by simp only[go_sem]) rfl fun hw=>?_
 obtain⟨hk1,hk2,hk3⟩:=qb8 hw.1
 have hs:=qp3 t.kind
 have hf:fitT t=match shpF t.kind with | none=>false | some s=>fitS s t:=rfl
 have hh:=qcj0 (l:=t.types) (g:=fun x=>!lgY x) (fun q _=>qci7 q)
 rw[hf]
 generalize shpF t.kind=o at hs ⊢
 cases o with
 | none =>
   unfold shpA encS at hs
   simp only[Option.getD_none,Option.isSome_none] at hs
   repeat'(first|refine vs_ ?_|((first|refine vr_ ?_|refine qa hs fun _=>?_|(refine cs_ ?_ ?_<;>intro hc)|refine cj_ ?_)<;>try refine ev_ ?_)|with_reducible exact ti_)
 | some s =>
   obtain⟨nm,ct,f0,ty,kd⟩:=s
   unfold shpA encS at hs
   simp only[Option.getD_some,Option.isSome_some] at hs
   obtain⟨R,hR⟩:∃R,fitS ⟨nm,ct,f0,ty,kd⟩ t=R:=⟨_,rfl⟩
   unfold fitS at hR
   dsimp only at hR
   show VI _ _ _ _ _ (retq _ _ fun H' o=>o=VO.val (AV.bool (fitS ⟨nm,ct,f0,ty,kd⟩ t))) _ _
   rw[show fitS ⟨nm,ct,f0,ty,kd⟩ t=R from by unfold fitS;exact hR]
   obtain⟨C1,hC1⟩:∃C,fC1 nm ct f0 t=C:=⟨_,rfl⟩
   obtain⟨C2,hC2⟩:∃C,fC2 t=C:=⟨_,rfl⟩
   obtain⟨C3,hC3⟩:∃C,fC3 ty kd t=C:=⟨_,rfl⟩
   rw[hC1,hC2,hC3] at hR
   unfold k0bd
   generalize hz:IC.seq (IC.seq q5i _) _=z1
   repeat'(first|refine vs_ ?_|((first|refine vr_ ?_|refine qa hs fun _=>?_|(refine cs_ ?_ ?_<;>intro hc)|refine cj_ ?_)<;>try refine ev_ ?_)|with_reducible exact ti_)
   subst hz
   refine qdw (S:=Unit) (fun _=>C1=false) (fun _=>(⟨[(1,.ptr 0 0),(3,.ptr 1 0)],[]⟩,[.blk (tmc t),.blk [.bool nm,.bool ct,.bool f0,.int .i64 ty,.int .i64 kd]])) ?_ fun _ hn1=>?_
   ·repeat'(first|refine vs_ ?_|((first|refine vr_ ?_|(refine cs_ ?_ ?_<;>intro hc)|refine cj_ ?_)<;>try refine ev_ ?_)|with_reducible exact ti_)
    all_goals first
     | (have hp : C1 = true := by (rw [← hC1]; clear hR hC1 hC2 hC3 hh hs; unfold fC1; clear hw hf; first | grind | (by_cases hq : t.name = [] <;> cases nm <;> simp only [hq, decide_true, decide_false] at * <;> grind))
        rw[←hR,if_pos hp];done)
     | (have hp : C1 = false := by (rw [← hC1]; clear hR hC1 hC2 hC3 hh hs; unfold fC1; clear hw hf; first | grind | (by_cases hq : t.name = [] <;> cases nm <;> simp only [hq, decide_true, decide_false] at * <;> grind))
        refine qg () [0,1] hp rfl (by simp) ?_ ?_ ?_<;>(try refine ev_ ?_)<;>(try with_reducible exact ti_)<;>(try simp (disch:=omega) only[qb,and_true,true_and]);done)
    
   rw[hn1,if_neg (by simp)] at hR
   refine qdw (S:=Unit) (fun _=>C2=false) (fun _=>(⟨[(1,.ptr 0 0),(3,.ptr 1 0)],[]⟩,[.blk (tmc t),.blk [.bool nm,.bool ct,.bool f0,.int .i64 ty,.int .i64 kd]])) ?_ fun _ hn2=>?_
   ·repeat'(first|refine vs_ ?_|((first|refine vr_ ?_|(refine cs_ ?_ ?_<;>intro hc)|refine cj_ ?_)<;>try refine ev_ ?_)|with_reducible exact ti_)
    all_goals first
     | (have hp : C2 = true := by (rw [← hC2]; clear hR hC1 hC2 hC3 hh hs; unfold fC2; clear hw hf; first | grind | (by_cases hq : t.name = [] <;> cases nm <;> simp only [hq, decide_true, decide_false] at * <;> grind))
        rw[←hR,if_pos hp];done)
     | (have hp : C2 = false := by (rw [← hC2]; clear hR hC1 hC2 hC3 hh hs; unfold fC2; clear hw hf; first | grind | (by_cases hq : t.name = [] <;> cases nm <;> simp only [hq, decide_true, decide_false] at * <;> grind))
        refine qg () [0,1] hp rfl (by simp) ?_ ?_ ?_<;>(try refine ev_ ?_)<;>(try with_reducible exact ti_)<;>(try simp (disch:=omega) only[qb,and_true,true_and]);done)
    
   rw[hn2,if_neg (by simp)] at hR
   refine qdw (S:=Unit) (fun _=>C3=false) (fun _=>(⟨[(1,.ptr 0 0),(3,.ptr 1 0)],[]⟩,[.blk (tmc t),.blk [.bool nm,.bool ct,.bool f0,.int .i64 ty,.int .i64 kd]])) ?_ fun _ hn3=>?_
   ·repeat'(first|refine vs_ ?_|((first|refine vr_ ?_|(refine cs_ ?_ ?_<;>intro hc)|refine cj_ ?_)<;>try refine ev_ ?_)|with_reducible exact ti_)
    all_goals first
     | (have hp : C3 = true := by (rw [← hC3]; clear hR hC1 hC2 hC3 hh hs; unfold fC3; clear hw hf; first | grind | (by_cases hq : t.name = [] <;> cases nm <;> simp only [hq, decide_true, decide_false] at * <;> grind))
        rw[←hR,if_pos hp];done)
     | (have hp : C3 = false := by (rw [← hC3]; clear hR hC1 hC2 hC3 hh hs; unfold fC3; clear hw hf; first | grind | (by_cases hq : t.name = [] <;> cases nm <;> simp only [hq, decide_true, decide_false] at * <;> grind))
        refine qg () [0,1] hp rfl (by simp) ?_ ?_ ?_<;>(try refine ev_ ?_)<;>(try with_reducible exact ti_)<;>(try simp (disch:=omega) only[qb,and_true,true_and]);done)
    
   rw[hn3,if_neg (by simp)] at hR
   repeat'(first|refine vs_ ?_|((first|refine vr_ ?_|refine qa hh fun _=>?_|(refine cs_ ?_ ?_<;>intro hc)|refine cj_ ?_)<;>try refine ev_ ?_)|with_reducible exact ti_)
   rw[hR]
set_option maxRecDepth 4000

mutual
def patT:Tm->Bool
 | .mk k n s v t ks=>decide (21≤k)&&fitT (.mk k n s v t ks)&&!(qts ks)
def qts:List Tm->Bool
 | []=>false
 | x::r=>!(patT x)||qts r
end
theorem q02(l:List Tm):qts l=l.any fun x=>!patT x:=by
 induction l with
 | nil=>rw[qts];rfl
 | cons x r ih=>rw[qts,ih];rfl
theorem q6j(t:Tm):patT t=(decide (21≤t.kind)&&fitT t&&!(t.kids.any fun x=>!patT x)):=by
 cases t;rw[patT,q02];rfl
theorem qcbr{t:Tm}(h:qj Tryz.prog 130 [encT t] (.bool (patT t))):qj Tryz.prog 182 [encT t] (.bool (!patT t)):=by
 refine qd c0x (by simp) (by simp only[go_sem]) rfl fun hw=>?_
 generalize patT t=b at *
 repeat'(first|refine vs_ ?_|((first|refine vr_ ?_|refine qa h fun _=>?_|(refine cs_ ?_ ?_<;>intro hc)|refine cj_ ?_)<;>try refine ev_ ?_)|with_reducible exact ti_)
theorem quf:∀t,qj Tryz.prog 130 [encT t] (.bool (patT t)):=by
 refine Tm.ind fun t ih=>?_
 refine qd c0y (by simp) (by simp only[go_sem]) rfl fun hw=>?_
 obtain⟨hk1,hk2,hk3⟩:=qb8 hw.1
 have hf:=qge t
 have hh:=qya (l:=t.kids) (g:=fun x=>!patT x) (fun q hq=>qcbr (ih q hq))
 rw[q6j]
 generalize fitT t=b at *
 generalize (t.kids.any fun x=>!patT x)=c at *
 repeat'(first|refine vs_ ?_|((first|refine vr_ ?_|refine qa hf fun _=>?_|refine qa hh fun _=>?_|(refine cs_ ?_ ?_<;>intro hc)|refine cj_ ?_)<;>try refine ev_ ?_)|with_reducible exact ti_)
 all_goals grind
/-! terms, down to some depth -/
mutual
def dpT:Tm->Nat
 | .mk _ _ _ _ _ ks=>dpTs ks+1
def dpTs:List Tm->Nat
 | []=>0
 | x::r=>max (dpT x) (dpTs r)
end
theorem q4w(t:Tm):dpT t=dpTs t.kids+1:=by cases t;rw[dpT];rfl
theorem qbh8{l:List Tm}{x:Tm}(h:x∈l):dpT x≤dpTs l:=by
 induction l with
 | nil=>cases h
 | cons y r ih =>
   rw[dpTs]
   rcases List.mem_cons.1 h with rfl | h
   ·omega
   ·have:=ih h;omega
theorem qke{t x:Tm}(h:x∈t.kids):dpT x+1≤dpT t:=by have:=qbh8 h;rw[q4w t];omega
def isTF:Nat->Tm->Bool
 | 0,_=>false
 | n + 1, t =>
   if decide (21≤t.kind)||decide (t.kind=9)||decide (t.kind=11)||!(fitT t) then false else
   if t.kind=8 then decide (2≤t.kids.length)&&isTF n (t.kids.getD 0 T0)&&!((t.kids.drop 1).any fun k=>decide (k.kind≠9)||!(fitT k)||!(patT (k.kids.getD 0 T0))||!(isTF n (k.kids.getD 1 T0)))
   else if t.kind=10 then decide (1≤t.kids.length)&&isTF n (t.kids.getD (t.kids.length-1) T0)&&!((t.kids.take (t.kids.length-1)).any fun k=>decide (k.kind≠11)||!(fitT k)||!(isTF n (k.kids.getD 0 T0)))
   else !(t.kids.any fun k=>!(isTF n k))
theorem qjh{t:Tm}(h:fitT t=true){s:Shp}(hs:shpF t.kind=some s)(hk:0≤s.kd):(t.kids.length:Int)=s.kd:=by
 unfold fitT at h
 rw[hs] at h
 simp only at h
 unfold fitS at h
 split at h
 ·cases h
 split at h
 ·cases h
 split at h
 ·cases h
 rename_i h3
 unfold fC3 at h3
 by_cases h4:(t.kids.length:Int)=s.kd
 ·exact h4
 ·exfalso
  apply h3
  simp[h4,hk]
def okIT(n:Nat)(t:Tm):Prop:=qj Tryz.prog 86 [encT t] (.bool (isTF n t))
theorem qbh4{n:Nat}{t:Tm}(h:okIT n t):qj Tryz.prog 132 [encT t] (.bool (!isTF n t)):=by
 refine qd c0z (by simp) (by simp only[go_sem]) rfl fun hw=>?_
 have h:qj Tryz.prog 86 [encT t] (.bool (isTF n t)):=h
 generalize isTF n t=b at *
 repeat'(first|refine vs_ ?_|((first|refine vr_ ?_|refine qa h fun _=>?_|(refine cs_ ?_ ?_<;>intro hc)|refine cj_ ?_)<;>try refine ev_ ?_)|with_reducible exact ti_)
theorem qbav{n:Nat}{k:Tm}(h:∀x∈k.kids,okIT n x):qj Tryz.prog 131 [encT k] (.bool (decide (k.kind≠11)||!(fitT k)||!(isTF n (k.kids.getD 0 T0)))):=by
 refine qd c0ba (by simp) (by simp only[go_sem]) rfl fun hw=>?_
 obtain⟨hk1,hk2,hk3⟩:=qb8 hw.1
 have hf:=qge k
 by_cases hk:k.kind=11
 ·have hkd:decide (k.kind=11)=true:=decide_eq_true hk
  cases hft:fitT k with
  | false =>
    rw[hft] at hf
    repeat'(first|refine vs_ ?_|(refine vr_ ?_<;>try simp only[hkd,go_sem,↓reduceIte])|((first|(refine cs_ ?_ ?_<;>intro hc)|refine cj_ ?_|refine qa hf fun _=>?_)<;>try refine ev_ ?_)|with_reducible exact ti_)
    all_goals grind
  | true =>
    have hl:(k.kids.length:Int)=1:=qjh hft (s:=⟨true,false,false,1,1⟩) (by rw[hk];rfl) (by simp)
    have hg:=qbe (l:=k.kids) (i:=0) (by omega)
    have h0:qj Tryz.prog 86 [encT (k.kids.getD 0 T0)] (.bool (isTF n (k.kids.getD 0 T0))):=h _ (qbh (by omega))
    rw[hft] at hf
    generalize isTF n (k.kids.getD 0 T0)=b at *
    repeat'(first|refine vs_ ?_|(refine vr_ ?_<;>try simp only[hkd,hg,go_sem,↓reduceIte])|((first|simp (disch:=omega) only[hg]|(refine cs_ ?_ ?_<;>intro hc)|refine cj_ ?_|refine qa hf fun _=>?_|refine qa h0 fun _=>?_)<;>try refine ev_ ?_)|with_reducible exact ti_)
    all_goals first | (exfalso;omega) | grind
 ·repeat'(first|refine vs_ ?_|(refine vr_ ?_<;>try simp only[hk,go_sem,↓reduceIte])|((first|(refine cs_ ?_ ?_<;>intro hc)|refine cj_ ?_|refine qa hf fun _=>?_)<;>try refine ev_ ?_)|with_reducible exact ti_)
  all_goals grind
theorem qbh5{n:Nat}{k:Tm}(h:∀x∈k.kids,okIT n x):qj Tryz.prog 129 [encT k] (.bool (decide (k.kind≠9)||!(fitT k)||!(patT (k.kids.getD 0 T0))||!(isTF n (k.kids.getD 1 T0)))):=by
 refine qd c0bb (by simp) (by simp only[go_sem]) rfl fun hw=>?_
 obtain⟨hk1,hk2,hk3⟩:=qb8 hw.1
 have hf:=qge k
 by_cases hk:k.kind=9
 ·have hkd:decide (k.kind=9)=true:=decide_eq_true hk
  cases hft:fitT k with
  | false =>
    rw[hft] at hf
    repeat'(first|refine vs_ ?_|(refine vr_ ?_<;>try simp only[hkd,go_sem,↓reduceIte])|((first|(refine cs_ ?_ ?_<;>intro hc)|refine cj_ ?_|refine qa hf fun _=>?_)<;>try refine ev_ ?_)|with_reducible exact ti_)
    all_goals grind
  | true =>
    have hl:(k.kids.length:Int)=2:=qjh hft (s:=⟨false,false,false,0,2⟩) (by rw[hk];rfl) (by simp)
    have hg:=qbe (l:=k.kids) (i:=0) (by omega)
    have hg1:=qbe (l:=k.kids) (i:=1) (by omega)
    have h0:=quf (k.kids.getD 0 T0)
    have h1:qj Tryz.prog 86 [encT (k.kids.getD 1 T0)] (.bool (isTF n (k.kids.getD 1 T0))):=h _ (qbh (by omega))
    rw[hft] at hf
    generalize isTF n (k.kids.getD 1 T0)=b at *
    generalize patT (k.kids.getD 0 T0)=c at *
    repeat'(first|refine vs_ ?_|(refine vr_ ?_<;>try simp only[hkd,hg,hg1,go_sem,↓reduceIte])|((first|simp (disch:=omega) only[hg]|simp (disch:=omega) only[hg1]|(refine cs_ ?_ ?_<;>intro hc)|refine cj_ ?_|refine qa hf fun _=>?_|refine qa h0 fun _=>?_|refine qa h1 fun _=>?_)<;>try refine ev_ ?_)|with_reducible exact ti_)
    all_goals first | (exfalso;omega) | grind
 ·repeat'(first|refine vs_ ?_|(refine vr_ ?_<;>try simp only[hk,go_sem,↓reduceIte])|((first|(refine cs_ ?_ ?_<;>intro hc)|refine cj_ ?_|refine qa hf fun _=>?_)<;>try refine ev_ ?_)|with_reducible exact ti_)
  all_goals grind
set_option maxRecDepth 4000

theorem q0g(n:Nat)(l:List Tm):(qbl l).drop n=qbl (l.drop n):=by rw[qcp,qcp,List.map_drop]
theorem q2i(n:Nat)(l:List Tm):(qbl l).take n=qbl (l.take n):=by rw[qcp,qcp,List.map_take]
theorem qbzj(n:Nat)(t:Tm):isTF (n+1) t =
 if decide (21≤t.kind)||decide (t.kind=9)||decide (t.kind=11)||!(fitT t) then false else
 if t.kind=8 then decide (2≤t.kids.length)&&isTF n (t.kids.getD 0 T0)&&!((t.kids.drop 1).any fun k=>decide (k.kind≠9)||!(fitT k)||!(patT (k.kids.getD 0 T0))||!(isTF n (k.kids.getD 1 T0)))
 else if t.kind=10 then decide (1≤t.kids.length)&&isTF n (t.kids.getD (t.kids.length-1) T0)&&!((t.kids.take (t.kids.length-1)).any fun k=>decide (k.kind≠11)||!(fitT k)||!(isTF n (k.kids.getD 0 T0)))
 else !(t.kids.any fun k=>!(isTF n k)):=by rw[isTF]
set_option maxHeartbeats 1000000 in
theorem qqb:∀n t,dpT t≤n->okIT n t:=by
 intro n
 induction n with
 | zero=>intro t h;have:=q4w t;omega
 | succ n ih =>
 intro t hd
 have ih1:∀x∈t.kids,okIT n x:=fun x hx=>ih x (by have:=qke hx;omega)
 have ih2:∀k∈t.kids,∀x∈k.kids,okIT n x:=fun k hk x hx=>ih x (by have:=qke hk;have:=qke hx;omega)
 refine qd c0w (by simp) (by simp only[go_sem]) rfl fun hw=>?_
 obtain⟨hk1,hk2,hk3⟩:=qb8 hw.1
 have hf:=qge t
 rw[qbzj]
 obtain⟨C,hC⟩:∃C,(decide (21≤t.kind)||decide (t.kind=9)||decide (t.kind=11)||!(fitT t))=C:=⟨_,rfl⟩
 rw[hC]
 cases C with
 | true =>
   rw[if_pos rfl]
   generalize fitT t=b at *
   unfold k0w
   generalize hz:IC.seq q21 _=z1
   repeat'(first|refine vs_ ?_|((first|refine vr_ ?_|refine qa hf fun _=>?_|(refine cs_ ?_ ?_<;>intro hc)|refine cj_ ?_)<;>try refine ev_ ?_)|with_reducible exact ti_)
   all_goals grind
 | false =>
   rw[if_neg (by simp)]
   unfold k0w
   generalize hz:IC.seq q21 _=z1
   generalize hz2:IC.seq (IC.seq qbk7 _) _=z2
   repeat'(first|refine vs_ ?_|((first|refine vr_ ?_|(refine cs_ ?_ ?_<;>intro hc)|refine cj_ ?_)<;>try refine ev_ ?_)|with_reducible exact ti_)
   subst hz2
   refine qdw (S:=Unit) (fun _=>True) (fun _=>(⟨[(1,.ptr 0 0)],[]⟩,[.blk (tmc t)])) ?_ fun _ _=>?_
   ·clear hz
    generalize fitT t=b at *
    repeat'(first|refine vs_ ?_|((first|refine vr_ ?_|refine qa hf fun _=>?_|(refine cs_ ?_ ?_<;>intro hc)|refine cj_ ?_)<;>try refine ev_ ?_)|with_reducible exact ti_)
    all_goals first
     | (exfalso;clear hf ih ih1 ih2 hw;grind)
     | (refine qg () [0] trivial rfl (by simp) ?_ ?_ ?_<;>(try refine ev_ ?_)<;>(try with_reducible exact ti_)<;>(try simp (disch:=omega) only[qb,and_true,true_and]);done)
    
   subst hz
   by_cases h8:t.kind=8
   ·rw[if_pos h8]
    have hk8:decide (t.kind=8)=true:=decide_eq_true h8
    have hh:=qya (l:=t.kids.drop 1) (fun q hq=>qbh5 (n:=n) (ih2 q (List.mem_of_mem_drop hq)))
    by_cases hn:2≤t.kids.length
    ·have h0:qj Tryz.prog 86 [encT (t.kids.getD 0 T0)] (.bool (isTF n (t.kids.getD 0 T0))):=ih1 _ (qbh (by omega))
     have hg:=qbe (l:=t.kids) (i:=0) (by omega)
     have hni:(2:Int)≤t.kids.length:=by omega
     have hn1:((1:Int)≤t.kids.length):=by omega
     rw[decide_eq_true hn]
     generalize isTF n (t.kids.getD 0 T0)=b at *
     generalize List.any (t.kids.drop 1) _=c at *
     rw[←q0g] at hh
     repeat'(first|refine vs_ ?_|(refine vr_ ?_<;>try simp only[hk8,hg,hni,hn1,go_sem,↓reduceIte])|((first|simp (disch:=omega) only[hg]|(refine cs_ ?_ ?_<;>intro hc)|refine cj_ ?_|refine qa h0 fun _=>?_|refine qa hh fun _=>?_)<;>try refine ev_ ?_)|with_reducible exact ti_)
     all_goals first | (exfalso;omega) | grind
    ·rw[decide_eq_false hn]
     repeat'(first|refine vs_ ?_|(refine vr_ ?_<;>try simp only[hk8,go_sem,↓reduceIte])|((first|(refine cs_ ?_ ?_<;>intro hc)|refine cj_ ?_)<;>try refine ev_ ?_)|with_reducible exact ti_)
     all_goals first | (exfalso;omega) | grind
   rw[if_neg h8]
   have hk8:decide (t.kind=8)=false:=decide_eq_false h8
   by_cases h10:t.kind=10
   ·rw[if_pos h10]
    have hk10:decide (t.kind=10)=true:=decide_eq_true h10
    have hh:=qya (l:=t.kids.take (t.kids.length-1)) (fun q hq=>qbav (n:=n) (ih2 q (List.mem_of_mem_take hq)))
    by_cases hn:1≤t.kids.length
    ·have h0:qj Tryz.prog 86 [encT (t.kids.getD (t.kids.length-1) T0)] (.bool (isTF n (t.kids.getD (t.kids.length-1) T0))):=ih1 _ (qbh (by omega))
     have hg:=qbe (l:=t.kids) (i:=t.kids.length-1) (by omega)
     have hni:(1:Int)≤t.kids.length:=by omega
     have hwr:IntKind.i64.wrap ((t.kids.length:Int)-1)=((t.kids.length-1:Nat):Int):=by
      have hml:maxLen=9223372036854775807:=rfl
      rw[qo (by omega) (by omega)];omega
     rw[decide_eq_true hn]
     generalize isTF n (t.kids.getD (t.kids.length-1) T0)=b at *
     generalize List.any (t.kids.take (t.kids.length-1)) _=c at *
     have hwt:(IntKind.i64.wrap ((t.kids.length:Int)-1)).toNat=t.kids.length-1:=by rw[hwr];rfl
     rw[←q2i,←hwt] at hh
     repeat'(first|refine vs_ ?_|(refine vr_ ?_<;>try simp only[hk8,hk10,hg,hni,hwr,Int.toNat_natCast,go_sem,↓reduceIte])|((first|simp (disch:=omega) only[hg]|(refine cs_ ?_ ?_<;>intro hc)|refine cj_ ?_|refine qa h0 fun _=>?_|refine qa hh fun _=>?_)<;>try refine ev_ ?_)|with_reducible exact ti_)
     all_goals first | (exfalso;omega) | grind
    ·rw[decide_eq_false hn]
     repeat'(first|refine vs_ ?_|(refine vr_ ?_<;>try simp only[hk8,hk10,go_sem,↓reduceIte])|((first|(refine cs_ ?_ ?_<;>intro hc)|refine cj_ ?_)<;>try refine ev_ ?_)|with_reducible exact ti_)
     all_goals first | (exfalso;omega) | grind
   rw[if_neg h10]
   have hk10:decide (t.kind=10)=false:=decide_eq_false h10
   have hh:=qya (l:=t.kids) (g:=fun k=>!(isTF n k)) (fun q hq=>qbh4 (n:=n) (ih1 q hq))
   generalize (t.kids.any fun k=>!(isTF n k))=c at *
   repeat'(first|refine vs_ ?_|(refine vr_ ?_<;>try simp only[hk8,hk10,go_sem,↓reduceIte])|((first|(refine cs_ ?_ ?_<;>intro hc)|refine cj_ ?_|refine qa hh fun _=>?_)<;>try refine ev_ ?_)|with_reducible exact ti_)
set_option maxRecDepth 4000

structure YldT(α:Type) where
 m:Nat
 hs:α->List Ent
 i:Nat
 step:α->Int->Tm->α×Bool
 len:∀s,(hs s).length=m
 bd:∀s,(hs s).all (Ent.bd m)=true
 lt:i<m
 live:α->Prop
 keep:∀s l n,live s->(step s l n).2=true->live (step s l n).1
 app:∀s l n,live s->VApp Tryz.prog (hs s) (.opq i) [.int .i64 l,encT n] (fun H' o=>H'=hs (step s l n).1∧o=.val (.bool (step s l n).2))

theorem qbba{α:Type}(y:YldT α)(s:α):(y.hs s).length=y.m:=y.len s
theorem qb1w{α:Type}(y:YldT α)(s:α):(y.hs s).all (Ent.bd y.m)=true:=y.bd s
theorem q4i{α:Type}(y:YldT α)(s:α)(L:List Ent):(y.hs s++L).take y.m=y.hs s:=by rw[←y.len s];simp
theorem qbjc{α:Type}(y:YldT α)(s:α):(y.hs s).all (Ent.bd (y.m+1))=true:=qcaw (by omega) (y.bd s)
theorem qbd1{α:Type}(y:YldT α):decide (y.i<y.m+1)=true:=by have:=y.lt;simp;omega
theorem qbgn{α:Type}(y:YldT α)(s:α)(L:List Ent)(a b:Ent):ent (y.hs s++a::b::L) (y.m+1)=b:=qyr (y.len s)
attribute [go_sem] qbba qb1w q4i qbjc qbd1
section
variable {α:Type} (y:YldT α)
theorem qbhn{s:α}{l:Int}{n:Tm}{L:List Ent}{Q:List Ent->VO->Prop}(hlv:y.live s)(h:Q (y.hs (y.step s l n).1++L) (.val (.bool (y.step s l n).2))):VApp Tryz.prog (y.hs s++L) (.opq y.i) [.int .i64 l,encT n] Q:=by
 refine qbb5 (y.app s l n hlv) (by rw[y.len];exact y.bd s) (by rw[y.len];simpa [AV.bd] using y.lt) (by simp only[go_sem]) ?_
 rintro H1 o ⟨rfl,rfl⟩
 exact⟨by rw[y.len,y.len],by rw[y.len];exact y.bd _,rfl,h⟩
theorem qzl{s s':α}{b:Bool}{l:Int}{n:Tm}{L:List Ent}{Q:List Ent->VO->Prop}(hc:VCalls Tryz.prog 177 (y.hs s) [encT n,.int .i64 l,.opq y.i] (fun H' o=>H'=y.hs s'∧o=.val (.bool b)))(h:Q (y.hs s'++L) (.val (.bool b))):VApp Tryz.prog (y.hs s++L) (.fn 177 [] []) [encT n,.int .i64 l,.opq y.i] Q:=by
 refine qcj (first:=[]) (caps:=[]) ?_
 simp only[List.nil_append,List.append_nil]
 have:=y.lt
 refine qpm hc (by rw[y.len];exact y.bd s) (by simp only[go_sem,this]) ?_
 rintro H1 o ⟨rfl,rfl⟩
 exact⟨by rw[y.len,y.len],by rw[y.len];exact y.bd _,rfl,h⟩
mutual
def qd7(f:α->Int->Tm->α×Bool):Tm->Int->α->α×Bool
 | .mk k p n v t ks,l,s=>if(f s l (.mk k p n v t ks)).2 then qfw f (IntKind.i64.wrap (l+1)) ks (f s l (.mk k p n v t ks)).1 else((f s l (.mk k p n v t ks)).1,false)
def qfw(f:α->Int->Tm->α×Bool):Int->List Tm->α->α×Bool
 | l,[],s=>(s,true)
 | l,x::r,s=>if(qd7 f x l s).2 then qfw f l r (qd7 f x l s).1 else((qd7 f x l s).1,false)
end
theorem qlv(f:α->Int->Tm->α×Bool)(n:Tm)(l:Int)(s:α):qd7 f n l s=if(f s l n).2 then qfw f (IntKind.i64.wrap (l+1)) n.kids (f s l n).1 else((f s l n).1,false):=by cases n;rw[qd7];rfl

theorem qno(l:Int):∀(r:List Tm),(∀x∈r,∀l s,y.live s->(qd7 y.step x l s).2=true->y.live (qd7 y.step x l s).1)->∀s,y.live s->(qfw y.step l r s).2=true->y.live (qfw y.step l r s).1
 | [],_,s,h,_=>h
 | x :: r, hx, s, h, h2 => by
   rw[qfw] at h2 ⊢
   split at h2
   ·rename_i h3
    rw[if_pos h3]
    exact qno l r (fun x hx'=>hx x (by simp[hx'])) _ (hx x (by simp) l s h h3) h2
   ·cases h2
theorem qz3:∀n l s,y.live s->(qd7 y.step n l s).2=true->y.live (qd7 y.step n l s).1:=by
 refine Tm.ind fun n ih l s h h2=>?_
 rw[qlv] at h2 ⊢
 split at h2
 ·rename_i h3
  rw[if_pos h3]
  exact qno y _ n.kids ih _ (y.keep s l n h h3) h2
 ·cases h2

theorem qbvw:∀n l s,y.live s->VCalls Tryz.prog 177 (y.hs s) [encT n,.int .i64 l,.opq y.i] (fun H' o=>H'=y.hs (qd7 y.step n l s).1∧o=.val (.bool (qd7 y.step n l s).2)):=by
 refine Tm.ind fun n ih l s hlv=>?_
 have hlen:=y.len
 have hlt:=y.lt
 refine qha (by kernel_rfl) fun hw=>?_
 have hkl:n.kids.length≤maxLen:=(qb8 hw.1).2.2
 have hbd:∀s,(y.hs s).all (Ent.bd (y.hs s).length)=true:=fun s=>by rw[y.len];exact y.bd s
 refine qe c0v y.m (by rw[hlen];exact Nat.le_refl _) (by simp) ?_
 repeat'(first|refine vs_ ?_|((first|refine vr_ ?_|refine qbhn y hlv ?_|(refine cs_ ?_ ?_<;>intro hc)|refine cj_ ?_)<;>try refine ev_ ?_)|with_reducible exact ti_)
 ·rw[qlv,if_neg (by simpa using hc)]
  exact⟨rfl,rfl⟩
 ·refine qk (S:=Nat×α) (fun s'=>y.live s'.2∧s'.1≤n.kids.length∧qfw y.step (IntKind.i64.wrap (l+1)) (n.kids.drop s'.1) s'.2=qd7 y.step n l s) (fun s'=>(⟨[(1,.int .i64 l),(2,.opq y.i),(15,.sl 6 (qbl n.kids)),(16,.int .i64 n.kids.length),(17,.int .i64 s'.1)],[]⟩,y.hs s'.2++[.blk (encT n).cells])) (fun s=>n.kids.length-s.1) ?_ fun s' hs'=>?_
  ·refine qx4 (0,(y.step s l n).1) [] ⟨y.keep s l n hlv (by simpa using hc),Nat.zero_le _,?_⟩ ?_ ?_ ?_ ?_ ?_ ?_<;>(try refine ev_ ?_)<;>(try with_reducible exact ti_)<;>(try simp (disch:=omega) only[qb,and_true,true_and])
   rw[qlv,if_pos (by simpa using hc)]
  ·obtain⟨i,a⟩:=s'
   obtain⟨hla,hi,ha⟩:=hs'
   dsimp only at hi ha hla
   have hstep:i<n.kids.length->qd7 y.step n l s=if(qd7 y.step (n.kids.getD i T0) (IntKind.i64.wrap (l+1)) a).2 then qfw y.step (IntKind.i64.wrap (l+1)) (n.kids.drop (i+1)) (qd7 y.step (n.kids.getD i T0) (IntKind.i64.wrap (l+1)) a).1 else((qd7 y.step (n.kids.getD i T0) (IntKind.i64.wrap (l+1)) a).1,false):=fun h=>by
    rw[←ha,qfn (l:=n.kids) (i:=i) h,qfw]
   repeat'(first|refine vs_ ?_|(refine vr_ ?_<;>try simp (disch:=first|omega|(simp only[List.length_set,List.length_append,List.length_cons,List.length_nil];try omega)) only[qbe,qb,qbgn,go_sem,↓reduceIte])|((first|(refine cs_ ?_ ?_<;>intro hc)|refine cj_ ?_|refine qzl y (ih _ (qbh (by omega)) _ _ hla) ?_)<;>try refine ev_ ?_)|with_reducible exact ti_)
   ·rw[hstep (by omega),if_neg (by simpa using hc)]
    exact⟨rfl,rfl⟩
   ·refine qx4 (i+1,(qd7 y.step (n.kids.getD i T0) (IntKind.i64.wrap (l+1)) a).1) [.blk (encT (n.kids.getD i T0)).cells] ⟨⟨qz3 y _ _ _ hla (by simpa using hc),by omega,?_⟩,by omega⟩ ?_ ?_ ?_ ?_ ?_ ?_<;>(try refine ev_ ?_)<;>(try with_reducible exact ti_)<;>(try simp (disch:=omega) only[qb,and_true,true_and])
    rw[hstep (by omega),if_pos (by simpa using hc)]
   ·rw[←ha,show i=n.kids.length by omega,List.drop_length]
    exact⟨rfl,rfl⟩

end
set_option maxRecDepth 4000

theorem qbir{α:Type}(y:YldT α){n:Tm}{s:α}(hlv:y.live s):VCalls Tryz.prog 126 (y.hs s) [encT n,.opq y.i] (fun H' o=>H'=y.hs (qd7 y.step n 1 s).1∧o=.val (.tup [])):=by
 have hlen:=y.len
 have hlt:=y.lt
 refine qe c0r y.m (by rw[hlen];exact Nat.le_refl _) (by simp) ?_
 repeat'(first|refine vs_ ?_|((first|refine vr_ ?_|refine qzl y (qbvw y _ _ _ hlv) ?_|(refine cs_ ?_ ?_<;>intro hc)|refine cj_ ?_)<;>try refine ev_ ?_)|with_reducible exact ti_)
theorem qui(t:Tm):qj Tryz.prog 85 [encT t] (.fn 126 [encT t] []):=by
 refine qd c0s (by simp) (by simp only[go_sem]) (by simp only[AV.bd,AV.bds,qb4,Bool.and_true]) fun hw=>?_
 repeat'(first|refine vs_ ?_|((first|refine vr_ ?_|(refine cs_ ?_ ?_<;>intro hc)|refine cj_ ?_)<;>try refine ev_ ?_)|with_reducible exact ti_)
def lglF:Int×Bool->Int->Tm->(Int×Bool)×Bool:=fun p l _=>((IntKind.i64.wrap (p.1+1),decide (4096<IntKind.i64.wrap (p.1+1))||decide (400<l)),!(decide (4096<IntKind.i64.wrap (p.1+1))||decide (400<l)))
def yLgl(t:Tm)(fn:FuncId)(asn bd:Code)(ha:qcl Tryz.prog 19 asn=some qbky)(hb:qcl Tryz.prog 19 bd=some qblq):YldT (Int×Bool) where
 m:=4
 hs:=fun p=>[.blk (tmc t),.blk [.bool false],.blk [.int .i64 p.1],.lp (if p.2 then ⟨.done,some .ret,fn,[7,8].toArray,asn,bd⟩ else ⟨.ready,none,fn,[7,8].toArray,asn,bd⟩) (qqj 19 [(6,.fn 126 [encT t] []),(5,encT t),(3,.ptr 2 0),(2,.ptr 1 0),(1,.ptr 0 0),(0,encT t)])]
 i:=3
 step:=lglF
 len:=fun _=>rfl
 bd:=fun k=>by obtain⟨a,b⟩:=k;cases b<;>(refine ev_ ?_;(try with_reducible exact ti_))
 lt:=by omega
 live:=fun p=>p.2=false
 keep:=fun s l n _ h=>by simpa [lglF] using h
 app:=fun k l x hk=>by
  obtain⟨a,b⟩:=k
  simp only at hk
  subst hk
  refine q0e (k:=4) rfl rfl qtu ha hb (by simp) (by simp) (by simp) fun lp=>?_
  repeat'(first|refine vs_ ?_|((first|refine vr_ ?_|(refine cs_ ?_ ?_<;>intro hc)|refine cj_ ?_)<;>try refine ev_ ?_)|with_reducible exact ti_)
  all_goals(clear ha hb;simp only[lglF, *,decide_true,decide_false,Bool.or_true,Bool.true_or,Bool.or_false,Bool.false_or,Bool.not_true,Bool.not_false,Bool.false_eq_true,↓reduceIte,and_self])
theorem qbsh:∀n l s,s.2=false->(qd7 lglF n l s).1.2=!(qd7 lglF n l s).2:=by
 refine Tm.ind fun n ih l s hs=>?_
 rw[qlv]
 split
 ·rename_i h
  have key:∀(r:List Tm),(∀x∈r,∀l s,s.2=false->(qd7 lglF x l s).1.2=!(qd7 lglF x l s).2)->∀(l:Int) (s:Int×Bool),s.2=false->(qfw lglF l r s).1.2=!(qfw lglF l r s).2:=by
   intro r
   induction r with
   | nil=>intro _ l s hs;rw[qfw];exact hs
   | cons x r ihr =>
     intro hx l s hs
     rw[qfw]
     split
     ·rename_i h3
      exact ihr (fun x hx'=>hx x (by simp[hx'])) l _ (by rw[hx x (by simp) _ _ hs,h3];rfl)
     ·rename_i h3
      simp only[Bool.not_eq_true] at h3
      rw[hx x (by simp) _ _ hs,h3]
  exact key _ ih _ _ (by simpa [lglF] using h)
 ·rename_i h
  have e:(lglF s l n).1.2=!(lglF s l n).2:=by simp[lglF]
  simp only[Bool.not_eq_true] at h
  rw[e,h]
def lglT(t:Tm):Bool:=(qd7 lglF t 1 (0,false)).2&&isTF (dpT t) t
theorem qfc(t:Tm):qj Tryz.prog 54 [encT t] (.bool (lglT t)):=by
 refine qd c0t (by simp) (by simp only[go_sem]) rfl fun hw=>?_
 have hT:qj Tryz.prog 86 [encT t] (.bool (isTF (dpT t) t)):=qqb _ t (Nat.le_refl _)
 repeat'(first|refine vs_ ?_|((first|refine vr_ ?_|refine qa (qui t) fun _=>?_|(refine cs_ ?_ ?_<;>intro hc)|refine cj_ ?_)<;>try refine ev_ ?_)|with_reducible exact ti_)
 refine qch4 rfl (Nat.zero_le _) fun fn asn bd ha hb=>?_
 refine VCalls.mono (qbir (yLgl t fn asn bd ha hb) (n:=t) (s:=(0,false)) rfl) ?_
 rintro H1 o ⟨rfl,rfl⟩
 have hlow:=qbsh t 1 (0,false) rfl
 rw[show qd7 (yLgl t fn asn bd ha hb).step t 1 (0,false)=qd7 lglF t 1 (0,false) from rfl,lglT]
 generalize qd7 lglF t 1 (0,false)=pq at hlow ⊢
 obtain⟨⟨n,p⟩,q⟩:=pq
 simp only at hlow
 subst hlow
 generalize isTF (dpT t) t=b at hT ⊢
 cases q
 ·simp only[yLgl,Bool.not_false,Bool.false_and,go_sem,↓reduceIte]
 ·simp only[yLgl,Bool.not_true,Bool.true_and,go_sem,↓reduceIte]
  repeat'(first|refine vs_ ?_|((first|refine vr_ ?_|refine qa hT fun _=>?_|(refine cs_ ?_ ?_<;>intro hc)|refine cj_ ?_)<;>try refine ev_ ?_)|with_reducible exact ti_)
/-! the least hole -/
mutual
def lstT:Tm->Int->Int
 | .mk k n _ _ _ ks,m=>if k=14 then(if m<n then m else n) else qon ks m
def qon:List Tm->Int->Int
 | [],m=>m
 | x::r,m=>qon r (lstT x m)
end
theorem q5e(t:Tm)(m:Int):lstT t m=if t.kind=14 then(if m<t.num then m else t.num) else qon t.kids m:=by cases t;rw[lstT];rfl
theorem qrw:∀t m,qj Tryz.prog 55 [encT t,.int .i64 m] (.int .i64 (lstT t m)):=by
 refine Tm.ind fun t ih m=>?_
 refine qd c0u (by simp) (by simp only[go_sem]) rfl fun hw=>?_
 obtain⟨hk1,hk2,hk3⟩:=qb8 hw.1
 rw[q5e]
 by_cases hk:t.kind=14
 ·rw[if_pos hk]
  have hkd:decide (t.kind=14)=true:=decide_eq_true hk
  repeat'(first|refine vs_ ?_|(refine vr_ ?_<;>try simp only[hkd,go_sem,↓reduceIte])|((first|(refine cs_ ?_ ?_<;>intro hc)|refine cj_ ?_)<;>try refine ev_ ?_)|with_reducible exact ti_)
 ·rw[if_neg hk]
  have hkd:decide (t.kind=14)=false:=decide_eq_false hk
  repeat'(first|refine vs_ ?_|(refine vr_ ?_<;>try simp only[hkd,go_sem,↓reduceIte])|((first|(refine cs_ ?_ ?_<;>intro hc)|refine cj_ ?_)<;>try refine ev_ ?_)|with_reducible exact ti_)
  refine qk (S:=Nat×Int) (fun s=>s.1≤t.kids.length∧qon (t.kids.drop s.1) s.2=qon t.kids m) (fun s=>(⟨[(1,.int .i64 s.2),(2,.ptr 0 0),(15,.sl 6 (qbl t.kids)),(16,.int .i64 t.kids.length),(17,.int .i64 s.1)],[]⟩,[.blk (tmc t)])) (fun s=>t.kids.length-s.1) ?_ fun s hs=>?_
  ·refine qg (0,m) [0] ⟨Nat.zero_le _,rfl⟩ rfl (by simp) ?_ ?_ ?_<;>(try refine ev_ ?_)<;>(try with_reducible exact ti_)<;>(try simp (disch:=omega) only[qb,and_true,true_and])
  ·obtain⟨i,a⟩:=s
   obtain⟨hi,ha⟩:=hs
   dsimp only at hi ha
   repeat'(first|refine vs_ ?_|(refine vr_ ?_<;>try simp (disch:=first|omega|(simp only[List.length_set,List.length_append,List.length_cons,List.length_nil];try omega)) only[qbe,qb,go_sem,↓reduceIte])|((first|(refine cs_ ?_ ?_<;>intro hc)|refine cj_ ?_|refine qa (ih _ (qbh (by omega)) _) fun _=>?_)<;>try refine ev_ ?_)|with_reducible exact ti_)
   ·refine qg (i+1,lstT (t.kids.getD i T0) a) [0] ⟨⟨by omega,?_⟩,by omega⟩ rfl (by simp) ?_ ?_ ?_<;>(try refine ev_ ?_)<;>(try with_reducible exact ti_)<;>(try simp (disch:=omega) only[qb,and_true,true_and])
    rw[←ha,qfn (l:=t.kids) (i:=i) (by omega),qon]
   ·rw[←ha,show i=t.kids.length by omega,List.drop_length];rfl
end Go.Proofs.YtkenggenkmfopaaGreat
