/- Texts of this proof, joined. -/
import Derived.Test.YtkenggenkmfopaaGreatIax
import Derived.Test.YtkenggenkmfopaaGreatIay
import Derived.Test.YtkenggenkmfopaaGreatIba
import Derived.Test.YtkenggenkmfopaaGreatIal
import Derived.Test.YtkenggenkmfopaaGreatIas
set_option linter.unusedVariables false
set_option linter.unusedSimpArgs false

/- types of System F: whether a type may be -/
set_option maxRecDepth 4000
namespace Go.Proofs.YtkenggenkmfopaaGreat
open Go Go.RowKit Go.V

def qcch(t:Ty):Ty:=.mk t.con t.var (List.replicate (min t.args.length 4095) Y0)
def okH(t:Ty):Bool:=qoo t||qyz (qcch t)
mutual
def lgF:Ty->Int->Int->Int×Bool
 | .mk c v l,n,k=>if IntKind.i64.wrap (n-1)<0∨k<1 then(IntKind.i64.wrap (n-1),false) else if okH (.mk c v l)=true then lgFs l (IntKind.i64.wrap (n-1)) (IntKind.i64.wrap (k-1)) else(IntKind.i64.wrap (n-1),false)
def lgFs:List Ty->Int->Int->Int×Bool
 | [],n,_=>(n,true)
 | x::r,n,k=>if(lgF x n k).2=true then lgFs r (lgF x n k).1 k else((lgF x n k).1,false)
end
theorem qcih(t:Ty)(n k:Int):lgF t n k=if IntKind.i64.wrap (n-1)<0∨k<1 then(IntKind.i64.wrap (n-1),false) else if okH t=true then lgFs t.args (IntKind.i64.wrap (n-1)) (IntKind.i64.wrap (k-1)) else(IntKind.i64.wrap (n-1),false):=by
 cases t;rw[lgF];rfl
theorem qw4(k n:Nat):AV.bds k (List.replicate n zY)=true:=qx2 k [] n
theorem qsl(σ:Nat->Nat)(n:Nat):AV.rens σ (List.replicate n zY)=List.replicate n zY:=qp6 σ [] n
theorem qbbc(n:Nat):qh (List.replicate n Y0)=List.replicate n (encY Y0):=by rw[qcy,List.map_replicate]
theorem qb8g(H:List Ent)(n:Nat):(List.replicate n zY).map (co H (.agg [.id,.id,.sl 3]))=qh (List.replicate n Y0):=by
 rw[List.map_replicate,qbbc];rfl
theorem q71(t:Ty)(n:Nat)(h:n=min t.args.length 4095):AV.agg [.str t.con,.int .i64 t.var,.sl 3 (qh (List.replicate n Y0))]=encY (qcch t):=by
 subst h
 rw[←qb4];rfl
set_option maxHeartbeats 1000000 in
theorem qwp:∀t n k,VM Tryz.prog 121 (numE n) (numE (lgF t n k).1) [.ptr 0 0,encY t,.int .i64 k] (.bool (lgF t n k).2):=by
 refine Ty.ind fun t ih n k=>?_
 refine qfq (by kernel_rfl) fun hw=>?_
 have hk:=qe6 hw.2.1
 refine qd c0cd 1 (by simp) (by simp) ?_
 rw[qcih]
 by_cases h1:IntKind.i64.wrap (n-1)<0
 ·rw[if_pos (.inl h1)]
  repeat'(first|refine vs_ ?_|(refine vr_ ?_<;>try simp only[h1,go_sem,↓reduceIte])|((first|(refine cs_ ?_ ?_<;>intro hc)|refine cj_ ?_|simp (disch:=omega) only[qa,qc])<;>try refine ev_ ?_)|with_reducible exact ti_)
 by_cases h2:k<1
 ·rw[if_pos (.inr h2)]
  repeat'(first|refine vs_ ?_|(refine vr_ ?_<;>try simp only[h1,h2,go_sem,↓reduceIte])|((first|(refine cs_ ?_ ?_<;>intro hc)|refine cj_ ?_|simp (disch:=omega) only[qa,qc])<;>try refine ev_ ?_)|with_reducible exact ti_)
 rw[if_neg (by omega)]
 obtain⟨N,hN⟩:∃N,IntKind.i64.wrap (n-1)=N:=⟨_,rfl⟩
 rw[hN] at h1 ⊢
 have hcl:=qt0 t
 cases hd:qoo t with
 | true =>
   rw[q0v hd] at hcl
   rw[if_pos (by rw[okH,hd];rfl)]
   repeat'(first|refine vs_ ?_|(refine vr_ ?_<;>try simp only[hN,h1,h2,go_sem,↓reduceIte])|((first|(refine cs_ ?_ ?_<;>intro hc)|refine cj_ ?_|simp (disch:=omega) only[qa,qc]|refine qb hcl fun _=>?_|refine qf hcl ?_)<;>try refine ev_ ?_)|with_reducible exact ti_)
   refine qo (S:=Nat×Int) (fun s=>s.1≤t.args.length∧lgFs (t.args.drop s.1) s.2 (IntKind.i64.wrap (k-1))=lgFs t.args N (IntKind.i64.wrap (k-1))) (fun s=>(⟨[(0,.ptr 0 0),(2,.int .i64 k),(51,.sl 3 (qh t.args)),(52,.int .i64 t.args.length),(53,.int .i64 s.1)],[]⟩,[numE s.2,.blk (yc t)])) (fun s=>t.args.length-s.1) ?_ fun s hs=>?_
   ·refine qj (0,N) [0,1] ⟨Nat.zero_le _,rfl⟩ rfl (by simp) ?_ ?_ ?_<;>(try refine ev_ ?_)<;>(try with_reducible exact ti_)<;>(try simp (disch:=omega) only[qc,and_true,true_and])
   ·obtain⟨i,a⟩:=s
    obtain⟨hi,ha⟩:=hs
    dsimp only at hi ha
    by_cases hlt:i<t.args.length
    ·have hst:lgFs t.args N (IntKind.i64.wrap (k-1))=if(lgF (t.args.getD i Y0) a (IntKind.i64.wrap (k-1))).2=true then lgFs (t.args.drop (i+1)) (lgF (t.args.getD i Y0) a (IntKind.i64.wrap (k-1))).1 (IntKind.i64.wrap (k-1)) else((lgF (t.args.getD i Y0) a (IntKind.i64.wrap (k-1))).1,false):=by
      rw[←ha,qsn (l:=t.args) (i:=i) hlt,lgFs]
     have hcall:=ih _ (qcn hlt) a (IntKind.i64.wrap (k-1))
     generalize lgF (t.args.getD i Y0) a (IntKind.i64.wrap (k-1))=X at hst hcall
     clear ha
     obtain⟨X1,X2⟩:=X
     dsimp only at hcall hst
     cases X2 with
     | false =>
       rw[hst]
       clear hst
       repeat'(first|refine vs_ ?_|(refine vr_ ?_<;>try simp (disch:=first|omega|(simp only[List.length_set,List.length_append,List.length_cons,List.length_nil];try omega)) only[qbb,qc,go_sem,↓reduceIte])|((first|(refine cs_ ?_ ?_<;>intro hc)|refine cj_ ?_|simp (disch:=omega) only[qa,qc]|refine qcw 0 hcall ?_)<;>try refine ev_ ?_)|with_reducible exact ti_)
       all_goals try(exfalso;omega)
     | true =>
       repeat'(first|refine vs_ ?_|(refine vr_ ?_<;>try simp (disch:=first|omega|(simp only[List.length_set,List.length_append,List.length_cons,List.length_nil];try omega)) only[qbb,qc,go_sem,↓reduceIte])|((first|(refine cs_ ?_ ?_<;>intro hc)|refine cj_ ?_|simp (disch:=omega) only[qa,qc]|refine qcw 0 hcall ?_)<;>try refine ev_ ?_)|with_reducible exact ti_)
       all_goals try(exfalso;omega)
       refine qj (i+1,X1) [0,1] ⟨⟨by dsimp only;omega,by rw[hst,if_pos rfl]⟩,by dsimp only;omega⟩ rfl (by simp) ?_ ?_ ?_<;>(try refine ev_ ?_)<;>(try with_reducible exact ti_)<;>(try simp (disch:=omega) only[qc,and_true,true_and])
    ·repeat'(first|refine vs_ ?_|(refine vr_ ?_<;>try simp (disch:=first|omega|(simp only[List.length_set,List.length_append,List.length_cons,List.length_nil];try omega)) only[qbb,qc,go_sem,↓reduceIte])|((first|(refine cs_ ?_ ?_<;>intro hc)|refine cj_ ?_|simp (disch:=omega) only[qa,qc])<;>try refine ev_ ?_)|with_reducible exact ti_)
     all_goals try(exfalso;omega)
     rw[←ha,show i=t.args.length by omega,List.drop_length]
     exact⟨rfl,rfl⟩
 | false =>
   rw[qsj hd] at hcl
   have hmm:(if(4095:Int)<t.args.length then(4095:Int) else t.args.length)=((min t.args.length 4095:Nat):Int):=by split<;>omega
   obtain⟨q,hq⟩:∃q,min t.args.length 4095=q:=⟨_,rfl⟩
   rw[hq] at hmm
   unfold k0cd
   generalize hz:IC.seq qxe _=z1
   repeat'(first|refine vs_ ?_|(refine vr_ ?_<;>try simp only[hN,h1,h2,go_sem,↓reduceIte])|((first|(refine cs_ ?_ ?_<;>intro hc)|refine cj_ ?_|simp (disch:=omega) only[qa,qc]|refine qb hcl fun _=>?_|refine qf hcl ?_)<;>try refine ev_ ?_)|with_reducible exact ti_)
   subst hz
   refine qks (S:=Unit) (fun _=>True) (fun _=>(⟨[(0,.ptr 0 0),(2,.int .i64 k),(4,.ptr 1 0),(10,.ptr 3 0)],[]⟩,[numE N,.blk (yc t),.mrow 3 (List.replicate q zY),.blk [.str t.con,.int .i64 t.var,.row 2 q]])) ?_ fun _ _=>?_
   ·unfold qxe
    refine qb3l 8 10 (by rfl) ?_ ?_
    ·simp only[qqt,Nat.zero_add,Nat.reduceAdd,Nat.reduceEqDiff,if_false,if_true,List.filter,decide_true,decide_false,ne_eq,not_true_eq_false,not_false_eq_true]
     (simp (disch:=first | omega | (simp only[List.length_set,List.length_append,List.length_cons,List.length_nil];try omega)) only[hmm,Int.toNat_natCast,go_sem,↓reduceIte])
     refine⟨by omega,?_⟩
     refine qj () [0,1,3,4] trivial rfl (by simp) ?_ ?_ ?_<;>simp only[zY]<;>(try refine ev_ ?_)<;>(try with_reducible exact ti_)<;>(try simp (disch:=omega) only[qc,and_true,true_and])
     all_goals exact⟨qw4 _ _,(congrArg (Ent.mrow 3) (qsl _ q)).symm⟩
    ·simp only[qln,qg9,posL,List.getElem?_cons_succ,List.getElem?_cons_zero,List.map_cons,List.map_nil,Nat.reduceAdd,Nat.reduceEqDiff,Nat.reduceLT,if_false,if_true,ne_eq,not_true_eq_false,not_false_eq_true,and_true,and_false,true_and,false_and]
     (simp (disch:=first | omega | (simp only[List.length_set,List.length_append,List.length_cons,List.length_nil];try omega)) only[hmm,Int.toNat_natCast,go_sem,↓reduceIte])
     refine⟨by omega,?_⟩
     refine qj () [0,1,4,3] trivial rfl (by simp) ?_ ?_ ?_<;>simp only[zY]<;>(try refine ev_ ?_)<;>(try with_reducible exact ti_)<;>(try simp (disch:=omega) only[qc,and_true,true_and])
     all_goals exact⟨qw4 _ _,(congrArg (Ent.mrow 3) (qsl _ q)).symm⟩
   ·refine qpe 2 (.agg [.id,.id,.sl 3]) rfl (qb8g _ _) (qf2 _) ?_
    simp only[List.set_cons_succ,List.set_cons_zero]
    have hlw:=qnt (qcch t)
    rw[←q71 t q hq.symm] at hlw
    repeat'(first|refine vs_ ?_|(refine vr_ ?_<;>try simp only[List.length_replicate,go_sem,↓reduceIte])|((first|(refine cs_ ?_ ?_<;>intro hc)|refine cj_ ?_|simp (disch:=omega) only[qa,qc]|refine qb hlw fun _=>?_|refine qf hlw ?_)<;>try refine ev_ ?_)|with_reducible exact ti_)
    ·rw[if_neg (by rw[okH,hd,hc];simp)]
     exact⟨rfl,rfl⟩
    ·rw[if_pos (by rw[okH,hd,hc];simp)]
     refine qo (S:=Nat×Int) (fun s=>s.1≤t.args.length∧lgFs (t.args.drop s.1) s.2 (IntKind.i64.wrap (k-1))=lgFs t.args N (IntKind.i64.wrap (k-1))) (fun s=>(⟨[(0,.ptr 0 0),(2,.int .i64 k),(51,.sl 3 (qh t.args)),(52,.int .i64 t.args.length),(53,.int .i64 s.1)],[]⟩,[numE s.2,.blk (yc t)])) (fun s=>t.args.length-s.1) ?_ fun s hs=>?_
     ·refine qj (0,N) [0,1] ⟨Nat.zero_le _,rfl⟩ rfl (by simp) ?_ ?_ ?_<;>(try refine ev_ ?_)<;>(try with_reducible exact ti_)<;>(try simp (disch:=omega) only[qc,and_true,true_and])
     ·obtain⟨i,a⟩:=s
      obtain⟨hi,ha⟩:=hs
      dsimp only at hi ha
      by_cases hlt:i<t.args.length
      ·have hst:lgFs t.args N (IntKind.i64.wrap (k-1))=if(lgF (t.args.getD i Y0) a (IntKind.i64.wrap (k-1))).2=true then lgFs (t.args.drop (i+1)) (lgF (t.args.getD i Y0) a (IntKind.i64.wrap (k-1))).1 (IntKind.i64.wrap (k-1)) else((lgF (t.args.getD i Y0) a (IntKind.i64.wrap (k-1))).1,false):=by
        rw[←ha,qsn (l:=t.args) (i:=i) hlt,lgFs]
       have hcall:=ih _ (qcn hlt) a (IntKind.i64.wrap (k-1))
       generalize lgF (t.args.getD i Y0) a (IntKind.i64.wrap (k-1))=X at hst hcall
       clear ha
       obtain⟨X1,X2⟩:=X
       dsimp only at hcall hst
       cases X2 with
       | false =>
         rw[hst]
         clear hst
         repeat'(first|refine vs_ ?_|(refine vr_ ?_<;>try simp (disch:=first|omega|(simp only[List.length_set,List.length_append,List.length_cons,List.length_nil];try omega)) only[qbb,qc,go_sem,↓reduceIte])|((first|(refine cs_ ?_ ?_<;>intro hc)|refine cj_ ?_|simp (disch:=omega) only[qa,qc]|refine qcw 0 hcall ?_)<;>try refine ev_ ?_)|with_reducible exact ti_)
         all_goals try(exfalso;omega)
       | true =>
         repeat'(first|refine vs_ ?_|(refine vr_ ?_<;>try simp (disch:=first|omega|(simp only[List.length_set,List.length_append,List.length_cons,List.length_nil];try omega)) only[qbb,qc,go_sem,↓reduceIte])|((first|(refine cs_ ?_ ?_<;>intro hc)|refine cj_ ?_|simp (disch:=omega) only[qa,qc]|refine qcw 0 hcall ?_)<;>try refine ev_ ?_)|with_reducible exact ti_)
         all_goals try(exfalso;omega)
         refine qj (i+1,X1) [0,1] ⟨⟨by dsimp only;omega,by rw[hst,if_pos rfl]⟩,by dsimp only;omega⟩ rfl (by simp) ?_ ?_ ?_<;>(try refine ev_ ?_)<;>(try with_reducible exact ti_)<;>(try simp (disch:=omega) only[qc,and_true,true_and])
      ·repeat'(first|refine vs_ ?_|(refine vr_ ?_<;>try simp (disch:=first|omega|(simp only[List.length_set,List.length_append,List.length_cons,List.length_nil];try omega)) only[qbb,qc,go_sem,↓reduceIte])|((first|(refine cs_ ?_ ?_<;>intro hc)|refine cj_ ?_|simp (disch:=omega) only[qa,qc])<;>try refine ev_ ?_)|with_reducible exact ti_)
       all_goals try(exfalso;omega)
       rw[←ha,show i=t.args.length by omega,List.drop_length]
       exact⟨rfl,rfl⟩
set_option maxRecDepth 4000

def lgY(t:Ty):Bool:=(lgF t 4096 100).2
theorem qlt(t:Ty):qp Tryz.prog 82 [encY t] (.bool (lgY t)):=by
 refine qe c0ca (by simp) (by simp only[go_sem]) rfl fun hw=>?_
 repeat'(first|refine vs_ ?_|((first|refine vr_ ?_|refine qcw 1 (qwp t 4096 100) ?_|(refine cs_ ?_ ?_<;>intro hc)|refine cj_ ?_)<;>try refine ev_ ?_)|with_reducible exact ti_)
 rfl
theorem q2f{l:List Ty}{i:Nat}(h:i<l.length):l.take (i+1)=l.take i++[l.getD i Y0]:=by
 rw[List.take_add_one,List.getD_eq_getElem?_getD,List.getElem?_eq_getElem h];rfl
mutual
def putT(vs:List Int)(ts:List Ty):Ty->Ty
 | .mk c v l=>if c=[] then(if 0≤idxW v vs 0∧idxW v vs 0<ts.length then ts.getD (idxW v vs 0).toNat Y0 else .mk c v l) else .mk c v (q79 vs ts l)
def q79(vs:List Int)(ts:List Ty):List Ty->List Ty
 | []=>[]
 | x::r=>putT vs ts x::q79 vs ts r
end
theorem q9o(vs:List Int)(ts:List Ty)(l:List Ty):q79 vs ts l=l.map (putT vs ts):=by
 induction l with
 | nil=>rw[q79];rfl
 | cons x r ih=>rw[q79,ih];rfl
theorem qb5v(vs:List Int)(ts:List Ty)(t:Ty):putT vs ts t=if t.con=[] then(if 0≤idxW t.var vs 0∧idxW t.var vs 0<ts.length then ts.getD (idxW t.var vs 0).toNat Y0 else t) else .mk t.con t.var (t.args.map (putT vs ts)):=by
 cases t;rw[putT,q9o];rfl
theorem q83(vs:List Int)(ts:List Ty)(l:List Ty):(l.map (putT vs ts)).length=l.length:=by simp
def ptSt(vs:List Int)(ts:List Ty)(t:Ty)(i:Nat):AF×List Ent:=(⟨[(1,.sl 1 (ints vs)),(2,.sl 3 (qh ts)),(3,.ptr 0 0),(6,.ptr 1 0),(8,.row 2 t.args.length),(36,.sl 3 (qh t.args)),(37,.int .i64 t.args.length),(38,.int .i64 i)],[]⟩,[.blk (yc t),.blk [.str [],.int .i64 0,.nils],.mrow 3 (gE ((t.args.take i).map (putT vs ts)) t.args.length)])
theorem qeu(vs:List Int)(ts:List Ty):∀t,szY t≤1000000->qp Tryz.prog 83 [encY t,.sl 1 (ints vs),.sl 3 (qh ts)] (encY (putT vs ts t)):=by
 refine Ty.ind fun t ih hb=>?_
 refine qe c0cb (by simp) (by simp only[go_sem]) (q8 0 _) fun hw=>?_
 have hk:=qe6 hw.1
 have hsz:=qll t
 have hal:=qjv t.args
 have htl:ts.length≤maxLen:=by have:=hw.2.2.1.1;rwa [qg] at this
 rw[qb5v]
 by_cases hc:t.con=[]
 ·rw[if_pos hc]
  have hf:AV.agg [.str [],.int .i64 t.var,.sl 3 (qh t.args)]=encY t:=by rw[←qb4 t,hc]
  have hi:=qlp vs t.var
  generalize idxW t.var vs 0=k at hi
  by_cases h1:0≤k
  ·by_cases h2:k<ts.length
   ·have hkn:(k.toNat:Int)=k:=Int.toNat_of_nonneg h1
    have hg:=qbb (l:=ts) (i:=k.toNat) (by omega)
    rw[if_pos ⟨h1,h2⟩]
    repeat'(first|refine vs_ ?_|(refine vr_ ?_<;>try simp only[hc,h1,h2,hg,go_sem,↓reduceIte])|((first|(refine cs_ ?_ ?_<;>intro hc)|refine cj_ ?_|simp (disch:=omega) only[qa,qc]|refine qb hi fun _=>?_)<;>try refine ev_ ?_)|with_reducible exact ti_)
    all_goals try(exfalso;omega)
   ·rw[if_neg (by omega)]
    repeat'(first|refine vs_ ?_|(refine vr_ ?_<;>try simp only[hc,h1,h2,go_sem,↓reduceIte])|((first|(refine cs_ ?_ ?_<;>intro hc)|refine cj_ ?_|simp (disch:=omega) only[qa,qc]|refine qb hi fun _=>?_)<;>try refine ev_ ?_)|with_reducible exact ti_)
    all_goals try(exfalso;omega)
    all_goals rw[hf]
  ·rw[if_neg (by omega)]
   repeat'(first|refine vs_ ?_|(refine vr_ ?_<;>try simp only[hc,h1,go_sem,↓reduceIte])|((first|(refine cs_ ?_ ?_<;>intro hc)|refine cj_ ?_|simp (disch:=omega) only[qa,qc]|refine qb hi fun _=>?_)<;>try refine ev_ ?_)|with_reducible exact ti_)
   all_goals try(exfalso;omega)
   all_goals rw[hf]
 ·rw[if_neg hc]
  have hcd:decide (t.con=[])=false:=decide_eq_false hc
  have ih':∀i,i<t.args.length->qp Tryz.prog 83 [encY (t.args.getD i Y0),.sl 1 (ints vs),.sl 3 (qh ts)] (encY (putT vs ts (t.args.getD i Y0))):=fun i hi=>ih _ (qcn hi) (by have:=qot (qcn hi);omega)
  repeat'(first|refine vs_ ?_|(refine vr_ ?_<;>try simp only[hcd,go_sem,↓reduceIte])|((first|(refine cs_ ?_ ?_<;>intro hc)|refine cj_ ?_|simp (disch:=omega) only[qa,qc])<;>try refine ev_ ?_)|with_reducible exact ti_)
  refine qo (S:=Nat) (fun i=>i≤t.args.length) (ptSt vs ts t) (fun i=>t.args.length-i) ?_ fun i hi=>?_
  ·refine qj 0 [0,1,2] (Nat.zero_le _) rfl (by simp) ?_ ?_ ?_<;>simp only[ptSt,List.take_zero,List.map_nil,gE_0,zY]<;>(try refine ev_ ?_)<;>(try with_reducible exact ti_)<;>(try simp (disch:=omega) only[qc,and_true,true_and])
   all_goals exact⟨qw4 _ _,(congrArg (Ent.mrow 3) (qsl _ _)).symm⟩
  ·unfold ptSt
   have hol:((t.args.take i).map (putT vs ts)).length=i:=by rw[List.length_map,List.length_take];omega
   by_cases hlt:i<t.args.length
   ·have hgl:=qblk (o:=(t.args.take i).map (putT vs ts)) (n:=t.args.length) (by omega)
    have hset:=qbln (o:=(t.args.take i).map (putT vs ts)) (n:=t.args.length) (by omega) (putT vs ts (t.args.getD i Y0))
    rw[hol] at hset
    have hsn:(t.args.take i).map (putT vs ts)++[putT vs ts (t.args.getD i Y0)]=(t.args.take (i+1)).map (putT vs ts):=by rw[q2f hlt,List.map_append];rfl
    rw[hsn] at hset
    repeat'(first|refine vs_ ?_|(refine vr_ ?_<;>try simp (disch:=first|omega|(simp only[List.length_set,List.length_append,List.length_cons,List.length_nil];try omega)) only[qbb,qc,go_sem,↓reduceIte])|((first|(refine cs_ ?_ ?_<;>intro hc)|refine cj_ ?_|simp (disch:=omega) only[qa,qc]|refine qb (ih' i hlt) fun _=>?_)<;>try refine ev_ ?_)|with_reducible exact ti_)
    all_goals try(exfalso;omega)
    refine qj (i+1) [0,1,2] ⟨by omega,by omega⟩ rfl (by simp) ?_ ?_ ?_<;>simp only[ptSt,←hset]<;>(try refine ev_ ?_)<;>(try with_reducible exact ti_)<;>(try simp (disch:=omega) only[qc,and_true,true_and])
    all_goals(rw[hset];exact⟨qx2 _ _ _,by rw[qp6]⟩)
   ·have hi':i=t.args.length:=by omega
    subst hi'
    rw[List.take_length] at hol ⊢
    rw[show gE (t.args.map (putT vs ts)) t.args.length=qh (t.args.map (putT vs ts)) by rw[←qblj,hol]]
    have hpl:=q83 vs ts t.args
    refine qcp 2 rfl (qf2 _) ?_
    repeat'(first|refine vs_ ?_|(refine vr_ ?_<;>try simp only[hpl,go_sem,↓reduceIte])|((first|(refine cs_ ?_ ?_<;>intro hc)|refine cj_ ?_|simp (disch:=omega) only[qa,qc])<;>try refine ev_ ?_)|with_reducible exact ti_)
    all_goals try(exfalso;omega)
    all_goals rw[encY]
/-! with what is known -/
def typK(vs:List Int)(ts:List Ty)(t:Ty):Ty×Bool:=if lgY t then(putT vs ts t,lgY (putT vs ts t)) else(Y0,false)
theorem q2r{vs:List Int}{ts:List Ty}{t:Ty}(hb:szY t≤1000000):qp Tryz.prog 51 [encY t,.sl 1 (ints vs),.sl 3 (qh ts)] (.tup [encY (typK vs ts t).1,.bool (typK vs ts t).2]):=by
 refine qe c0cc (by simp) (by simp only[go_sem]) (by simp only[AV.bd,AV.bds,q8,Bool.and_true]) fun hw=>?_
 have h1:=qlt t
 have h2:=qeu vs ts t hb
 have h3:=qlt (putT vs ts t)
 have hz:AV.agg [.str [],.int .i64 0,.sl 3 []]=encY Y0:=rfl
 unfold typK
 cases hl:lgY t with
 | false =>
   rw[hl] at h1
   repeat'(first|refine vs_ ?_|(refine vr_ ?_<;>try simp only[hz,go_sem,↓reduceIte])|((first|(refine cs_ ?_ ?_<;>intro hc)|refine cj_ ?_|fail|refine qb h1 fun _=>?_|refine qf h1 ?_)<;>try refine ev_ ?_)|with_reducible exact ti_)
 | true =>
   rw[hl] at h1
   generalize putT vs ts t=u at h2 h3 ⊢
   generalize lgY u=b at h3 ⊢
   repeat'(first|refine vs_ ?_|(refine vr_ ?_<;>try simp only[hz,go_sem,↓reduceIte])|((first|(refine cs_ ?_ ?_<;>intro hc)|refine cj_ ?_|fail|refine qb h1 fun _=>?_|refine qb h2 fun _=>?_|refine qb h3 fun _=>?_|refine qf h1 ?_|refine qf h2 ?_|refine qf h3 ?_)<;>try refine ev_ ?_)|with_reducible exact ti_)
end Go.Proofs.YtkenggenkmfopaaGreat

/- what data are declared, as data -/
set_option maxRecDepth 4000
namespace Go.V
open Go Go.RowKit
structure Cn where
 name:List UInt8
 types:List Ty
structure Da where
 name:List UInt8
 n:Int
 cons:List Cn
def qhr(x:Cn):AV:=.agg [.str x.name,.sl 3 (qh x.types)]
def qff(l:List Cn):List AV:=l.map qhr
def Cn0:Cn:=⟨[],[]⟩
theorem qr2(k:Nat)(x:Cn):(qhr x).bd k=true:=by simp only[qhr,AV.bd,AV.bds,qbd,Bool.and_true]
theorem qnr(k:Nat)(l:List Cn):AV.bds k (qff l)=true:=by rw[qff,qb6,List.all_map,List.all_eq_true];exact fun x _=>qr2 k x
theorem q1g(σ:Nat->Nat)(l:List Cn):AV.rens σ (qff l)=qff l:=qs (m:=0) (fun i hi=>by omega) _ (qnr 0 l)
theorem q6f(σ:Nat->Nat)(x:Cn):(qhr x).ren σ=qhr x:=ren_same (m:=0) (fun i hi=>by omega) _ (qr2 0 x)
theorem qv4(x:Cn):(qhr x).cells=[.str x.name,.sl 3 (qh x.types)]:=rfl
theorem q81(x:Cn):(qhr x).isAgg=true:=rfl
theorem qrs(x:Cn):(qhr x).leaf=false:=rfl
theorem qbct(H:List Ent)(x:Cn):co H (.agg [.id,.sl 3]) (qhr x)=qhr x:=by simp only[qhr,qef,qcf,qcx,qgq,qcj]
theorem q11(x:Cn):rdCo (.agg [.id,.sl 3]) (qhr x)=[]:=by simp only[qhr,qce,qbi,qbq,qdh,qbk,List.append_nil]
theorem q74(b:Bool)(n off:Nat)(x:Cn):fldv b n off (qhr x)=ldc b n off [.str x.name,.sl 3 (qh x.types)]:=rfl
theorem qpv(l:List Cn):(qff l).length=l.length:=by simp[qff]
theorem qhx{l:List Cn}{i:Nat}(h:i<l.length):(qff l).getD i .junk=qhr (l.getD i Cn0):=by
 rw[qff,List.getD_eq_getElem?_getD,List.getElem?_map,List.getElem?_eq_getElem h,List.getD_eq_getElem?_getD,List.getElem?_eq_getElem h];rfl
theorem qcei{l:List Cn}{i:Nat}(h:i<l.length):l.drop i=l.getD i Cn0::l.drop (i+1):=by
 rw[List.drop_eq_getElem_cons h,List.getD_eq_getElem?_getD,List.getElem?_eq_getElem h];rfl
abbrev dac(x:Da):List AV:=[.str x.name,.int .i64 x.n,.sl 2 (qff x.cons)]
def qe9(x:Da):AV:=.agg (dac x)
def qbv(l:List Da):List AV:=l.map qe9
def Da0:Da:=⟨[],0,[]⟩
theorem q2c(x:Da):AV.agg [.str x.name,.int .i64 x.n,.sl 2 (qff x.cons)]=qe9 x:=rfl
theorem ql5(k:Nat)(x:Da):(qe9 x).bd k=true:=by simp only[qe9,AV.bd,AV.bds,qnr,Bool.and_true]
theorem qf5(k:Nat)(l:List Da):AV.bds k (qbv l)=true:=by rw[qbv,qb6,List.all_map,List.all_eq_true];exact fun x _=>ql5 k x
theorem q4d(σ:Nat->Nat)(l:List Da):AV.rens σ (qbv l)=qbv l:=qs (m:=0) (fun i hi=>by omega) _ (qf5 0 l)
theorem qbau(σ:Nat->Nat)(x:Da):(qe9 x).ren σ=qe9 x:=ren_same (m:=0) (fun i hi=>by omega) _ (ql5 0 x)
theorem qxo(x:Da):(qe9 x).cells=dac x:=rfl
theorem qbaj(x:Da):(qe9 x).isAgg=true:=rfl
theorem qrz(x:Da):(qe9 x).leaf=false:=rfl
theorem qbid(H:List Ent)(x:Da):co H (.agg [.id,.id,.sl 2]) (qe9 x)=qe9 x:=by simp only[qe9,qef,qcf,qcx,qgq,qcj]
theorem q3m(x:Da):rdCo (.agg [.id,.id,.sl 2]) (qe9 x)=[]:=by simp only[qe9,qce,qbi,qbq,qdh,qbk,List.append_nil]
theorem q9d(b:Bool)(n off:Nat)(x:Da):fldv b n off (qe9 x)=ldc b n off (dac x):=rfl
theorem qpp(l:List Da):(qbv l).length=l.length:=by simp[qbv]
theorem qpj{l:List Da}{i:Nat}(h:i<l.length):(qbv l).getD i .junk=qe9 (l.getD i Da0):=by
 rw[qbv,List.getD_eq_getElem?_getD,List.getElem?_map,List.getElem?_eq_getElem h,List.getD_eq_getElem?_getD,List.getElem?_eq_getElem h];rfl
theorem qce3{l:List Da}{i:Nat}(h:i<l.length):l.drop i=l.getD i Da0::l.drop (i+1):=by
 rw[List.drop_eq_getElem_cons h,List.getD_eq_getElem?_getD,List.getElem?_eq_getElem h];rfl
theorem qud{l:List Da}{i:Nat}(h:i<l.length):l.getD i Da0∈l:=by
 rw[List.getD_eq_getElem?_getD,List.getElem?_eq_getElem h];exact List.getElem_mem h
theorem quf{n:Nat}{l:List Cn}(h:(AV.sl n (qff l)).wf):l.length≤maxLen:=by have:=h.1;rwa [qpv] at this
theorem q4v{n:Nat}{l:List Da}(h:(AV.sl n (qbv l)).wf):l.length≤maxLen:=by have:=h.1;rwa [qpp] at this
attribute [go_sem] q74 q11 qr2 qnr q6f q1g qbct q81 qv4 qrs qpv
attribute [go_sem] dac q9d q3m ql5 qf5 qbau q4d qbid qbaj qxo q2c qrz qpp
end Go.V
namespace Go.Proofs.YtkenggenkmfopaaGreat
open Go Go.RowKit Go.V

def tabK(name:List UInt8):List Cn->Nat->Option Nat
 | [],_=>none
 | c::r,k=>if c.name=name then some k else tabK name r (k+1)
def tabC(name:List UInt8):List Da->Option (Da×Nat)
 | []=>none
 | d :: r => match tabK name d.cons 0 with
   | some k=>some (d,k)
   | none=>tabC name r
def tabA:Option (Da×Nat)->AV
 | some p=>.tup [qe9 p.1,.int .i64 p.2,.bool true]
 | none=>.tup [qe9 Da0,.int .i64 0,.bool false]
theorem qb3w(o:Option (Da×Nat)):(tabA o).bd 0=true:=by cases o<;>simp only[tabA,AV.bd,AV.bds,ql5,Bool.and_true]
abbrev zDa:List AV:=[.str [],.int .i64 0,.nils]
def tcSt(l:List Da)(nm:List UInt8)(i:Nat):AF×List Ent:=(⟨[(1,.str nm),(4,.ptr 0 0),(11,.sl 3 (qbv l)),(12,.int .i64 l.length),(13,.int .i64 i)],[]⟩,[.blk zDa])
def qbji(l:List Da)(nm:List UInt8)(i:Nat)(d:Da)(k:Nat):AF×List Ent:=(⟨[(1,.str nm),(4,.ptr 0 0),(8,.ptr 1 0),(11,.sl 3 (qbv l)),(12,.int .i64 l.length),(13,.int .i64 i),(18,.sl 2 (qff d.cons)),(19,.int .i64 d.cons.length),(20,.int .i64 k)],[]⟩,[.blk zDa,.blk (dac d)])
set_option maxHeartbeats 1000000 in
theorem q3v(l:List Da)(nm:List UInt8):qp Tryz.prog 200 [.sl 3 (qbv l),.str nm] (tabA (tabC nm l)):=by
 refine qe c0e (by simp) (by simp only[AV.bds,AV.bd,qf5,Bool.and_true]) (qb3w _) fun hw=>?_
 have hl:=q4v hw.1
 repeat'(first|refine vs_ ?_|((first|refine vr_ ?_|(refine cs_ ?_ ?_<;>intro hc)|refine cj_ ?_|simp (disch:=omega) only[qa,qc])<;>try refine ev_ ?_)|with_reducible exact ti_)
 refine qo (S:=Nat) (fun i=>i≤l.length∧tabC nm (l.drop i)=tabC nm l) (tcSt l nm) (fun i=>l.length-i) ?_ fun i hi=>?_
 ·refine qj 0 [0] ⟨Nat.zero_le _,rfl⟩ rfl (by simp) ?_ ?_ ?_<;>simp only[tcSt]<;>(try refine ev_ ?_)<;>(try with_reducible exact ti_)<;>(try simp (disch:=omega) only[qc,and_true,true_and])
 obtain⟨hi,ha⟩:=hi
 unfold tcSt
 by_cases hlt:i<l.length
 ·have hg:=qpj hlt
  have hltI:(i:Int)<(l.length:Int):=by omega
  have hcl:(l.getD i Da0).cons.length≤maxLen:=by
   have h1:=(qi2 _).1 hw.1.2 (qe9 (l.getD i Da0)) (by rw[qbv];exact List.mem_map.2 ⟨_,qud hlt,rfl⟩)
   exact quf h1.2.2.1
  rw[qce3 hlt,tabC] at ha
  generalize l.getD i Da0=d at *
  repeat'(first|refine vs_ ?_|(refine vr_ ?_<;>try simp only[hg,hltI,go_sem,↓reduceIte])|((first|simp (disch:=omega) only[hg]|(refine cs_ ?_ ?_<;>intro hc)|refine cj_ ?_|simp (disch:=omega) only[qa,qc])<;>try refine ev_ ?_)|with_reducible exact ti_)
  refine qo (S:=Nat) (fun k=>k≤d.cons.length∧tabK nm (d.cons.drop k) k=tabK nm d.cons 0) (qbji l nm i d) (fun k=>d.cons.length-k) ?_ fun k hk=>?_
  ·refine qj 0 [0,1] ⟨Nat.zero_le _,rfl⟩ rfl (by simp) ?_ ?_ ?_<;>simp only[qbji]<;>(try refine ev_ ?_)<;>(try with_reducible exact ti_)<;>(try simp (disch:=omega) only[qc,and_true,true_and])
  obtain⟨hk,hb⟩:=hk
  unfold qbji
  by_cases hlk:k<d.cons.length
  ·have hgk:=qhx hlk
   have hlkI:(k:Int)<(d.cons.length:Int):=by omega
   rw[qcei hlk,tabK] at hb
   generalize d.cons.getD k Cn0=c at *
   by_cases hcn:c.name=nm
   ·rw[if_pos hcn] at hb
    rw[←hb] at ha
    rw[←ha]
    have hcd:decide (c.name=nm)=true:=decide_eq_true hcn
    repeat'(first|refine vs_ ?_|(refine vr_ ?_<;>try simp only[hgk,hlkI,hcd,go_sem,↓reduceIte])|((first|simp (disch:=omega) only[hgk]|(refine cs_ ?_ ?_<;>intro hc)|refine cj_ ?_|simp (disch:=omega) only[qa,qc])<;>try refine ev_ ?_)|with_reducible exact ti_)
    all_goals first | (exfalso;omega) | rfl
   ·rw[if_neg hcn] at hb
    have hcd:decide (c.name=nm)=false:=decide_eq_false hcn
    repeat'(first|refine vs_ ?_|(refine vr_ ?_<;>try simp (disch:=first|omega|(simp only[List.length_set,List.length_append,List.length_cons,List.length_nil];try omega)) only[hgk,hlkI,hcd,qc,go_sem,↓reduceIte])|((first|simp (disch:=omega) only[hgk]|(refine cs_ ?_ ?_<;>intro hc)|refine cj_ ?_|simp (disch:=omega) only[qa,qc])<;>try refine ev_ ?_)|with_reducible exact ti_)
    all_goals try(exfalso;omega)
    refine qj (k+1) [0,1] ⟨⟨by omega,hb⟩,by omega⟩ rfl (by simp) ?_ ?_ ?_<;>simp only[qbji]<;>(try refine ev_ ?_)<;>(try with_reducible exact ti_)<;>(try simp (disch:=omega) only[qc,and_true,true_and])
    all_goals first | rfl | (rw[qz (by omega) (by omega),Int.natCast_add];rfl)
  ·have hnn:¬(k:Int)<(d.cons.length:Int):=by omega
   rw[List.drop_of_length_le (by omega),tabK] at hb
   rw[←hb] at ha
   repeat'(first|refine vs_ ?_|(refine vr_ ?_<;>try simp (disch:=first|omega|(simp only[List.length_set,List.length_append,List.length_cons,List.length_nil];try omega)) only[hnn,qc,go_sem,↓reduceIte])|((first|(refine cs_ ?_ ?_<;>intro hc)|refine cj_ ?_|simp (disch:=omega) only[qa,qc])<;>try refine ev_ ?_)|with_reducible exact ti_)
   all_goals try(exfalso;omega)
   refine qj (i+1) [0] ⟨⟨by omega,ha⟩,by omega⟩ rfl (by simp) ?_ ?_ ?_<;>simp only[tcSt]<;>(try refine ev_ ?_)<;>(try with_reducible exact ti_)<;>(try simp (disch:=omega) only[qc,and_true,true_and])
   all_goals first | rfl | (rw[qz (by omega) (by omega),Int.natCast_add];rfl)
 ·have hnn:¬(i:Int)<(l.length:Int):=by omega
  rw[List.drop_of_length_le (by omega),tabC] at ha
  rw[←ha]
  repeat'(first|refine vs_ ?_|(refine vr_ ?_<;>try simp only[hnn,go_sem,↓reduceIte])|((first|(refine cs_ ?_ ?_<;>intro hc)|refine cj_ ?_|simp (disch:=omega) only[qa,qc])<;>try refine ev_ ?_)|with_reducible exact ti_)
  all_goals first | (exfalso;omega) | rfl
/-! one variable -/
theorem qp8:qp Tryz.prog 203 [.int .i64 0,.int .i64 1] (.sl 1 (ints [0])):=by
 refine qe c0f (by simp) (by simp only[go_sem]) rfl fun hw=>?_
 have c1:qbe 1 8=True:=eq_true (by unfold qbe;omega)
 repeat'(first|refine vs_ ?_|(refine vr_ ?_<;>try simp only[Int.reduceLT,Int.reduceLE,if_true,if_false,go_sem,↓reduceIte])|((first|(refine cs_ ?_ ?_<;>intro hc)|refine cj_ ?_|simp (disch:=omega) only[qa,qc])<;>try refine ev_ ?_)|with_reducible exact ti_)
 refine qo (S:=Nat) (fun i=>i≤1) (fun i=>(⟨[(0,.int .i64 0),(5,accV 0 (ints (List.replicate i 0))),(8,.int .i64 1),(9,.int .i64 i)],[]⟩,accE 1 (ints (List.replicate i 0)))) (fun i=>1-i) ?_ fun i hi=>?_
 ·refine qj 0 [] (Nat.zero_le _) rfl (by simp) ?_ ?_ ?_<;>simp only[List.replicate_zero,ints,List.map_nil,qi,qk]<;>(try refine ev_ ?_)<;>(try with_reducible exact ti_)<;>(try simp (disch:=omega) only[qc,and_true,true_and])
  all_goals rfl
 have h1:ints (List.replicate 1 0)=[.int .i64 0]:=rfl
 have h0:ints (List.replicate 0 0)=[]:=rfl
 by_cases hi0:i=0
 ·subst hi0
  rw[h0,qi,qk]
  have hw1:IntKind.i64.wrap (0+0)=0:=rfl
  repeat'(first|refine vs_ ?_|(refine vr_ ?_<;>try simp (disch:=first|omega|(simp only[List.length_set,List.length_append,List.length_cons,List.length_nil];try omega)) only[Int.reduceLT,qc,c1,hw1,go_sem,↓reduceIte])|((first|(refine cs_ ?_ ?_<;>intro hc)|refine cj_ ?_|simp (disch:=omega) only[qa,qc])<;>try refine ev_ ?_)|with_reducible exact ti_)
  all_goals try(exfalso;omega)
  refine qj 1 [0] ⟨by omega,by omega⟩ rfl (by simp) ?_ ?_ ?_<;>simp only[h1,qd1,qd6]<;>(try refine ev_ ?_)<;>(try with_reducible exact ti_)<;>(try simp (disch:=omega) only[qc,and_true,true_and])
  all_goals first | rfl
 ·have hi1:i=1:=by omega
  subst hi1
  rw[h1,qd1,qd6]
  repeat'(first|refine vs_ ?_|(refine vr_ ?_<;>try simp only[Int.reduceLT,go_sem,↓reduceIte])|((first|(refine cs_ ?_ ?_<;>intro hc)|refine cj_ ?_|simp (disch:=omega) only[qa,qc])<;>try refine ev_ ?_)|with_reducible exact ti_)
  all_goals first | (exfalso;omega) | rfl
def ofY(con:List UInt8):Ty:=.mk con 0 [.mk [] 0 []]
theorem q6b(con:List UInt8):qp Tryz.prog 202 [.str con,.int .i64 1] (encY (ofY con)):=by
 refine qe c0g (by simp) (by simp only[go_sem]) (q8 0 _) fun hw=>?_
 have hR:qp Tryz.prog 203 [.int .i64 0,.int .i64 1] (.sl 1 [.int .i64 0]):=qp8
 have c1:qbe 1 48=True:=eq_true (by unfold qbe;omega)
 have hy:AV.agg [.str [],.int .i64 0,.sl 3 []]=encY Y0:=rfl
 repeat'(first|refine vs_ ?_|(refine vr_ ?_<;>try simp only[List.length_singleton,go_sem,↓reduceIte])|((first|(refine cs_ ?_ ?_<;>intro hc)|refine cj_ ?_|simp (disch:=omega) only[qa,qc]|refine qb hR fun _=>?_)<;>try refine ev_ ?_)|with_reducible exact ti_)
 refine qo (S:=Nat) (fun i=>i≤1) (fun i=>(⟨[(4,.ptr 0 0),(5,.ptr 1 0),(11,.sl 1 [.int .i64 0]),(12,.int .i64 1),(13,.int .i64 i)],[]⟩,[.blk [.str [],.int .i64 0,.nils],.blk [.str con,.int .i64 0,if i=0 then .nils else .row 2 1]]++(if i=0 then [] else [.app 3 [encY Y0]]))) (fun i=>1-i) ?_ fun i hi=>?_
 ·refine qj 0 [0,1] (Nat.zero_le _) rfl (by simp) ?_ ?_ ?_<;>simp only[if_true,List.append_nil]<;>(try refine ev_ ?_)<;>(try with_reducible exact ti_)<;>(try simp (disch:=omega) only[qc,and_true,true_and])
 by_cases hi0:i=0
 ·subst hi0
  simp only[if_true,List.append_nil]
  repeat'(first|refine vs_ ?_|(refine vr_ ?_<;>try simp (disch:=first|omega|(simp only[List.length_set,List.length_append,List.length_cons,List.length_nil];try omega)) only[Int.reduceLT,qc,c1,hy,go_sem,↓reduceIte])|((first|(refine cs_ ?_ ?_<;>intro hc)|refine cj_ ?_|simp (disch:=omega) only[qa,qc])<;>try refine ev_ ?_)|with_reducible exact ti_)
  all_goals try(exfalso;omega)
  refine qj 1 [0,1,2] ⟨by omega,by omega⟩ rfl (by simp) ?_ ?_ ?_<;>(try refine ev_ ?_)<;>(try with_reducible exact ti_)<;>(try simp (disch:=omega) only[qc,and_true,true_and])
  all_goals first | rfl
 ·have hi1:i=1:=by omega
  subst hi1
  simp only[Nat.one_ne_zero,if_false,List.cons_append,List.nil_append]
  repeat'(first|refine vs_ ?_|(refine vr_ ?_<;>try simp only[Int.reduceLT,go_sem,↓reduceIte])|((first|(refine cs_ ?_ ?_<;>intro hc)|refine cj_ ?_|simp (disch:=omega) only[qa,qc])<;>try refine ev_ ?_)|with_reducible exact ti_)
  all_goals first | (exfalso;omega) | (rw[ofY,encY,qh,qh];rfl)
theorem qta{t:Ty}(h:szY t≤1000000):qp Tryz.prog 204 [encY t] (encY (putT [] [] t)):=by
 refine qe c0h (by simp) (by simp only[go_sem]) (q8 0 _) fun hw=>?_
 have hP:qp Tryz.prog 83 [encY t,.sl 1 [],.sl 3 []] (encY (putT [] [] t)):=qeu [] [] t h
 repeat'(first|refine vs_ ?_|((first|refine vr_ ?_|refine qb hP fun _=>?_|(refine cs_ ?_ ?_<;>intro hc)|refine cj_ ?_)<;>try refine ev_ ?_)|with_reducible exact ti_)
def plA(t:Ty):AV:=.tup [.agg [.sl 1 (ints [0]),.str t.con,.int .i64 t.var,.sl 3 (qh t.args)],.bool true]
theorem qchn(t:Ty):(plA t).bd 0=true:=by simp only[plA,AV.bd,AV.bds,qe2,qbd,Bool.and_true]
theorem q2l{ds cs is:List AV}{l:List Da}{nm:List UInt8}{d:Da}{k:Nat}(hds:ds=qbv l)(hcs:AV.bds 0 cs=true)(his:AV.bds 0 is=true)(ht:tabC nm l=some (d,k))(hk:k<d.cons.length)(hn:d.n=1)(hz:szY (funY (d.cons.getD k Cn0).types (ofY d.name))≤1000000):
 qp Tryz.prog 150 [.agg [.sl 3 ds,.sl 3 cs,.sl 4 is],.str nm] (plA (putT [] [] (funY (d.cons.getD k Cn0).types (ofY d.name)))):=by
 subst hds
 refine qe c0i (by simp) (by simp only[AV.bds,AV.bd,qf5,hcs,his,Bool.and_true]) (qchn _) fun hw=>?_
 have hT:=q3v l nm
 rw[ht] at hT
 have hT:qp Tryz.prog 200 [.sl 3 (qbv l),.str nm] (.tup [qe9 d,.int .i64 k,.bool true]):=hT
 have hO:=q6b d.name
 have hg:=qhx hk
 have hkI:(k:Int)<(d.cons.length:Int):=by omega
 generalize d.cons.getD k Cn0=c at *
 have hF:=qbb5 c.types (ofY d.name)
 have hC:=qta hz
 generalize funY c.types (ofY d.name)=t at *
 generalize putT [] [] t=u at *
 have hR:qp Tryz.prog 203 [.int .i64 0,.int .i64 1] (.sl 1 (ints [0])):=qp8
 repeat'(first|refine vs_ ?_|(refine vr_ ?_<;>try simp only[hg,hn,hkI,go_sem,↓reduceIte])|((first|simp (disch:=omega) only[hg]|(refine cs_ ?_ ?_<;>intro hc)|refine cj_ ?_|simp (disch:=omega) only[qa,qc]|refine qb hT fun _=>?_|refine qb hO fun _=>?_|refine qb hF fun _=>?_|refine qb hR fun _=>?_|refine qb hC fun _=>?_|refine qf hT ?_|refine qf hO ?_|refine qf hF ?_|refine qf hR ?_|refine qf hC ?_)<;>try refine ev_ ?_)|with_reducible exact ti_)
 all_goals rfl
end Go.Proofs.YtkenggenkmfopaaGreat
