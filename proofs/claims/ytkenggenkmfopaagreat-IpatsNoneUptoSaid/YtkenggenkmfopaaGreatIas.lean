/- Texts of this proof, joined. -/
import Derived.Test.YtkenggenkmfopaaGreatIar
import Derived.Test.YtkenggenkmfopaaGreatIah
set_option linter.unusedVariables false
set_option linter.unusedSimpArgs false

/- terms: whether a variable stands in a type; functions' types -/
set_option maxRecDepth 4000
namespace Go.Proofs.YtkenggenkmfopaaGreat
open Go Go.RowKit Go.V

def hasN(v:Int)(t:Ty):Bool:=decide (t.con=[])&&decide (t.var=v)
def q27(v:Int)(u:Unit)(t:Ty)(_:Int):Unit×Bool:=(u,!hasN v t)
theorem has1(v:Int)(t:Ty)(k:Int):VM Tryz.prog 243 (.blk [.int .i64 v]) (.blk [.int .i64 v]) [encY t,.int .i64 k,.ptr 0 0] (.bool (!hasN v t)):=by
 refine qd c0j 1 (by simp) (by simp) ?_
 repeat'(first|refine vs_ ?_|((first|refine vr_ ?_|(refine cs_ ?_ ?_<;>intro hc)|refine cj_ ?_)<;>try refine ev_ ?_)|with_reducible exact ti_)
 all_goals simp_all[hasN]
mutual
theorem qchv(v:Int):∀(t:Ty) (k:Int),(qdb (q27 v) t () k).2=!decide (v∈varY t)
 | .mk c x l, k => by
   rw[qdb,varY]
   by_cases hc:c=[]
   ·by_cases hx:x=v
    ·rw[if_neg (by simp[q27,hasN,Ty.con,Ty.var,hc,hx])];simp[hc,hx]
    ·rw[if_pos (by simp[q27,hasN,Ty.con,Ty.var,hc,hx]),qbbh v l];simp[hc,Ne.symm hx]
   ·rw[if_pos (by simp[q27,hasN,Ty.con,hc]),qbbh v l];simp[hc]
theorem qbbh(v:Int):∀(l:List Ty) (u:Unit) (k:Int),(qcd (q27 v) l u k).2=!decide (v∈qdt l)
 | [],u,k=>by rw[qcd,qdt];simp
 | x :: r, u, k => by
   have h1:=qchv v x k
   rw[qcd,qdt]
   cases u
   by_cases hv:v∈varY x
   ·rw[if_neg (by rw[h1];simp[hv])];simp[hv]
   ·rw[if_pos (by rw[h1];simp[hv]),qbbh v r];simp[hv]
end
theorem qvd(t:Ty)(v:Int):qp Tryz.prog 233 [encY t,.int .i64 v] (.bool (decide (v∈varY t))):=by
 refine qe c0k (by simp) (by simp only[go_sem]) rfl fun hw=>?_
 have hwalk:=qkn (S:=Unit) (st:=fun _=>.blk [.int .i64 v]) (step:=q27 v) (f:=243) (ok:=fun _ _=>True) (fun _=>rfl) (fun _ _ _ _ _=>trivial) (fun _ _ _=>trivial) (fun u t k _=>has1 v t k) t () 1 trivial
 rw[qchv] at hwalk
 repeat'(first|refine vs_ ?_|((first|refine vr_ ?_|refine qcw 1 hwalk ?_|(refine cs_ ?_ ?_<;>intro hc)|refine cj_ ?_)<;>try refine ev_ ?_)|with_reducible exact ti_)
 rw[Bool.not_not]

/-! functions' types -/
def fun2(a b:Ty):Ty:=.mk arrW 0 [a,b]
def funY(l:List Ty)(to:Ty):Ty:=l.foldr fun2 to
theorem qcld{j:Nat}(h:j≤maxLen):IntKind.i64.wrap (((j+1:Nat):Int)-1-1)=(j:Int)-1:=by
 unfold maxLen at h
 rw[qz (by omega) (by omega)];omega
theorem qoy(l:List Ty):VCalls Tryz.prog 230 [] [.sl 3 (qh l)] (fun H1 o=>H1=[.blk [.sl 3 (qh l)]]∧o=.val (.fn 242 [] [.ptr 0 0])):=by
 refine qd c0l 1 (by simp) (by simp) ?_
 repeat'(first|refine vs_ ?_|((first|refine vr_ ?_|(refine cs_ ?_ ?_<;>intro hc)|refine cj_ ?_)<;>try refine ev_ ?_)|with_reducible exact ti_)
theorem q4s{l:List Ty}{H:List Ent}{Q:List Ent->VO->Prop}(h:Q (H++[.blk [.sl 3 (qh l)]]) (.val (.fn 242 [] [.ptr H.length 0]))):VApp Tryz.prog H (.fn 230 [] []) [.sl 3 (qh l)] Q :=
 qjz (qoy l) (by simp only[AV.bds,AV.bd,qbd,Bool.and_true]) (by rintro _ _ ⟨rfl,rfl⟩;simpa [qds,qbf,sg',VO.ren,AV.ren,AV.rens,Ent.ren,qda] using h)
section
variable {S:Type} {l:List Ty} {m i p:Nat} {hs:S->List Ent} {f:Ty->S->S} (hlen:∀s,(hs s).length=m) (hbd:∀s,(hs s).all (Ent.bd m)=true) (hi:i<m) (hpm:p<m) (hp:∀s,ent (hs s) p=.blk [.sl 3 (qh l)])
 (app:∀s k n (Q:List Ent->VO->Prop),Q (hs (f n s)) (.val (.bool true))->VApp Tryz.prog (hs s) (.opq i) [.int .i64 k,encY n] Q)
include hlen hbd hi hpm hp app
theorem qbi1(hl:l.length≤maxLen)(to:S):VCalls Tryz.prog 242 (hs to) [.opq i,.ptr p 0] (fun H' o=>H'=hs (l.foldr f to)∧o=.val (.tup [])):=by
 refine qd c0m m (by rw[hlen];exact Nat.le_refl _) (by simp) ?_
 have ht:∀s,(hs s).take m=hs s:=fun s=>by rw[←hlen s];simp
 have h0:IntKind.i64.wrap ((l.length:Int)-1)=(l.length:Int)-1:=by unfold maxLen at hl;exact qz (by omega) (by omega)
 have hlt:∀s,decide (i<(hs s).length)=true:=fun s=>by rw[hlen];exact decide_eq_true hi
 unfold k0m
 repeat'(first|refine vs_ ?_|(refine vr_ ?_<;>try simp only[hp,h0,go_sem,↓reduceIte])|((first|(refine cs_ ?_ ?_<;>intro hc)|refine cj_ ?_|simp (disch:=omega) only[qa,qc])<;>try refine ev_ ?_)|with_reducible exact ti_)
 refine qo (S:=Nat) (fun j=>j≤l.length) (fun j=>(⟨[(0,.opq i),(1,.ptr p 0),(3,.int .i64 ((j:Int)-1))],[]⟩,hs ((l.drop j).foldr f to))) (fun j=>j) ?_ fun j hj=>?_
 ·refine qlj l.length [] (Nat.le_refl _) ?_ ?_ ?_ ?_ ?_ ?_<;>simp only[List.drop_length]<;>(try refine ev_ ?_)<;>(try with_reducible exact ti_)<;>(try simp (disch:=omega) only[qc,and_true,true_and])
  ·rw[hlen,hlen];exact Nat.le_refl _
  ·rfl
  ·rw[hlen];exact hbd _
  ·rw[hlen,decide_eq_true hi,decide_eq_true hpm];exact⟨rfl,rfl⟩
 ·cases j with
  | zero =>
    repeat'(first|refine vs_ ?_|(refine vr_ ?_<;>try simp only[hp,ht,go_sem,↓reduceIte])|((first|(refine cs_ ?_ ?_<;>intro hc)|refine cj_ ?_|simp (disch:=omega) only[qa,qc])<;>try refine ev_ ?_)|with_reducible exact ti_)
    ·exfalso;omega
    ·rw[hlen];exact⟨Nat.le_refl _,hbd _⟩
  | succ j =>
    have hj':j<l.length:=by omega
    have hjj:((j+1:Nat):Int)-1=(j:Int):=by omega
    have hd:=qcld (j:=j) (by omega)
    rw[hjj] at hd
    have hp':=qbb hj'
    rw[hjj]
    repeat'(first|refine vs_ ?_|(refine vr_ ?_<;>try simp only[hp,hp',hd,go_sem,↓reduceIte])|((first|simp (disch:=omega) only[hp']|(refine cs_ ?_ ?_<;>intro hc)|refine cj_ ?_|simp (disch:=omega) only[qa,qc]|refine app _ _ _ _ ?_)<;>try refine ev_ ?_)|with_reducible exact ti_)
    refine qlj j [] ⟨by omega,by omega⟩ ?_ ?_ ?_ ?_ ?_ ?_<;>simp only[qsn hj',List.foldr_cons]<;>(try refine ev_ ?_)<;>(try with_reducible exact ti_)<;>(try simp (disch:=omega) only[qc,and_true,true_and])
    ·rw[hlen,hlen];exact Nat.le_refl _
    ·rw[hlen];exact hbd _
    ·rw[hlen,decide_eq_true hi,decide_eq_true hpm];exact⟨rfl,rfl⟩
end
def fnV(x:Bool×Ty):AV:=if x.1=true then .lit 3 (qh x.2.args) else .sl 3 (qh x.2.args)
def fnS(a:Ty)(x:Bool×Ty):Bool×Ty:=(true,fun2 a x.2)
theorem qbxw(l:List Ty)(to:Ty):(l.foldr fnS (false,to)).2=funY l to:=by
 induction l with
 | nil=>rfl
 | cons a r ih=>rw[List.foldr_cons,fnS,ih];rfl
def funH(l:List Ty)(fn:FuncId)(asn bd:Code)(t0:Ty)(x:Bool×Ty):List Ent:=[.blk [.str x.2.con,.int .i64 x.2.var,fnV x],.blk [.str [],.int .i64 0,.nils],.blk [.sl 3 (qh l)],
 .lp ⟨.ready,none,fn,[9,10].toArray,asn,bd⟩ (qg7 16 [(8,.fn 242 [] [.ptr 2 0]),(7,.sl 3 (qh l)),(4,.ptr 1 0),(3,.ptr 0 0),(0,.sl 3 (qh l)),(1,encY t0)])]
theorem qce7(k:Nat)(x:Bool×Ty):(fnV x).bd k=true:=by rw[fnV];split<;>simp only[AV.bd,qbd]
theorem qbl4(H:List Ent)(x:Bool×Ty):co H (.sl 3) (fnV x)=.sl 3 (qh x.2.args):=by rw[fnV];split<;>rfl
theorem qbex(x:Bool×Ty):(fnV x).leaf=true:=by rw[fnV];split<;>rfl
theorem qbwx{l:List Ty}{t0:Ty}{fn:FuncId}{asn bd:Code}(ha:qb0 Tryz.prog 16 asn=some qbli)(hb:qb0 Tryz.prog 16 bd=some qbl8)(x:Bool×Ty)(k:Int)(n:Ty)(Q:List Ent->VO->Prop)(h:Q (funH l fn asn bd t0 (fnS n x)) (.val (.bool true))):VApp Tryz.prog (funH l fn asn bd t0 x) (.opq 3) [.int .i64 k,encY n] Q:=by
 unfold funH at h ⊢
 refine qkv (k:=4) rfl rfl qjr ha hb (by simp) (by simp) (by simp) fun lp=>?_
 refine qdy 0 2 (.sl 3) rfl ?_
 simp only[List.getD_cons_succ,List.getD_cons_zero,qbl4,List.set_cons_zero,List.set_cons_succ]
 repeat'(first|refine vs_ ?_|((first|refine vr_ ?_|(refine cs_ ?_ ?_<;>intro hc)|refine cj_ ?_|simp (disch:=omega) only[qa,qc])<;>try refine ev_ ?_)|with_reducible exact ti_)
 exact h
theorem qbb5(l:List Ty)(to:Ty):qp Tryz.prog 201 [.sl 3 (qh l),encY to] (encY (funY l to)):=by
 refine qe c0n (by simp) (by simp only[go_sem]) (q8 0 _) fun hw=>?_
 have hl:l.length≤maxLen:=by have:=hw.1.1;rwa [qg] at this
 repeat'(first|refine vs_ ?_|((first|refine vr_ ?_|refine q4s ?_|(refine cs_ ?_ ?_<;>intro hc)|refine cj_ ?_)<;>try refine ev_ ?_)|with_reducible exact ti_)
 refine q0d rfl (Nat.zero_le _) fun fn asn bd ha hb=>?_
 refine VCalls.mono (qbi1 (hs:=funH l fn asn bd to) (f:=fnS) (m:=4) (i:=3) (p:=2) (fun _=>rfl) (fun x=>?_) (by omega) (by omega) (fun _=>rfl) (fun s k n Q h=>qbwx ha hb s k n Q h) hl (false,to)) ?_
 ·unfold funH
  simp only[List.all_cons,List.all_nil,Ent.bd,AV.bds,AV.bd,qce7,qbd,go_sem,q8]
 ·rintro H1 o ⟨rfl,rfl⟩
  have hf:=qbxw l to
  generalize l.foldr fnS (false,to)=x at hf ⊢
  unfold funH
  rw[←hf]
  repeat'(first|refine vs_ ?_|(refine vr_ ?_<;>try simp only[qbl4,qbex,go_sem,↓reduceIte])|((first|(refine cs_ ?_ ?_<;>intro hc)|refine cj_ ?_)<;>try refine ev_ ?_)|with_reducible exact ti_)
  all_goals exact qb4 _
/-! what is split -/
def splF:Nat->Ty->List Ty×Ty
 | 0,t=>([],t)
 | n+1,t=>if t.con=arrW∧t.args.length=2 then(t.args.getD 0 Y0::(splF n (t.args.getD 1 Y0)).1,(splF n (t.args.getD 1 Y0)).2) else([],t)
def splY(t:Ty):List Ty×Ty:=splF (dpY t) t
theorem qya{t:Ty}{i:Nat}(h:i<t.args.length):dpY (t.args.getD i Y0)+1≤dpY t:=by
 have:=qxb (qcn h)
 rw[qz1 t];omega
theorem qok:∀(n m:Nat) (t:Ty),dpY t≤n->dpY t≤m->splF n t=splF m t
 | 0,m,t,h,_=>by have:=qrh t;omega
 | n+1,0,t,_,h=>by have:=qrh t;omega
 | n + 1, m + 1, t, h1, h2 => by
   rw[splF,splF]
   split
   ·rename_i hc
    have:=qya (t:=t) (i:=1) (by omega)
    rw[qok n m _ (by omega) (by omega)]
   ·rfl
theorem qym(t:Ty):splY t=if t.con=arrW∧t.args.length=2 then(t.args.getD 0 Y0::(splY (t.args.getD 1 Y0)).1,(splY (t.args.getD 1 Y0)).2) else([],t):=by
 have hp:=qrh t
 obtain⟨n,hn⟩:∃n,dpY t=n+1:=⟨dpY t-1,by omega⟩
 rw[splY,hn,splF]
 split
 ·rename_i hc
  have:=qya (t:=t) (i:=1) (by omega)
  rw[qok n (dpY (t.args.getD 1 Y0)) _ (by omega) (Nat.le_refl _)];rfl
 ·rfl
def splA(p:List Ty×Ty):AV:=.tup [.sl 3 (qh p.1),encY p.2]
theorem qfy{l:List Ty}(h:l≠[]):qh l≠[]:=by cases l with | nil=>exact absurd rfl h | cons _ _=>simp[qh]
def q9y(x:List Ty×Ty):AF×List Ent:=(⟨[(1,.ptr 0 0),(3,.ptr 1 0),(4,accV 2 (qh x.1))],[]⟩,[.blk (yc x.2),.blk [.str [],.int .i64 0,.nils]]++accE 3 (qh x.1))
def splI(t:Ty)(x:List Ty×Ty):Prop:=splY t=(x.1++(splY x.2).1,(splY x.2).2)∧dpY x.2≤dpY t∧x.1.length+dpY x.2≤dpY t
set_option maxHeartbeats 1000000 in
theorem qnl{t:Ty}(hd:dpY t≤1000000):qp Tryz.prog 151 [encY t] (splA (splY t)):=by
 refine qe c0o (by simp) (by simp only[go_sem]) (by simp only[splA,AV.bd,AV.bds,qbd,q8,Bool.and_true]) fun hw=>?_
 have hk:=qe6 hw.1
 repeat'(first|refine vs_ ?_|((first|refine vr_ ?_|(refine cs_ ?_ ?_<;>intro hc)|refine cj_ ?_|simp (disch:=omega) only[qa,qc])<;>try refine ev_ ?_)|with_reducible exact ti_)
 refine qo (S:=List Ty×Ty) (splI t) q9y (fun x=>dpY x.2) ?_ fun x hx=>?_
 ·refine qj ([],t) [0,1] ⟨rfl,Nat.le_refl _,by simp⟩ rfl (by simp) ?_ ?_ ?_<;>simp only[q9y,qh,qi,qk,List.append_nil]<;>(try refine ev_ ?_)<;>(try with_reducible exact ti_)<;>(try simp (disch:=omega) only[qc,and_true,true_and])
 ·obtain⟨a,u⟩:=x
  obtain⟨h1,h2,h3⟩:=hx
  dsimp only at h1 h2 h3
  unfold q9y
  by_cases hc1:u.con=[45,62]
  ·by_cases hc2:u.args.length=2
   ·have hc2i:(u.args.length:Int)=2:=by omega
    have hs:splY u=(u.args.getD 0 Y0::(splY (u.args.getD 1 Y0)).1,(splY (u.args.getD 1 Y0)).2):=by rw[qym,if_pos ⟨hc1,hc2⟩]
    have hdp:=qya (t:=u) (i:=1) (by omega)
    have g0:=qbb (l:=u.args) (i:=0) (by omega)
    have g1:=qbb (l:=u.args) (i:=1) (by omega)
    have hnx:splI t (a++[u.args.getD 0 Y0],u.args.getD 1 Y0):=⟨by rw[h1,hs];simp,by dsimp only;omega,by dsimp only;rw[List.length_append,List.length_singleton];omega⟩
    have hcap:qbe (a.length+1) 48=True:=eq_true (by unfold qbe;omega)
    have hcap0:qbe 1 48=True:=eq_true (by unfold qbe;omega)
    by_cases ha:a=[]
    ·subst ha
     simp only[qh,qi,qk,List.append_nil]
     repeat'(first|refine vs_ ?_|(refine vr_ ?_<;>try simp only[hc1,hc2i,g0,g1,hcap0,go_sem,↓reduceIte])|((first|simp (disch:=omega) only[g0]|simp (disch:=omega) only[g1]|simp (disch:=omega) only[hcap0]|(refine cs_ ?_ ?_<;>intro hc)|refine cj_ ?_|simp (disch:=omega) only[qa,qc])<;>try refine ev_ ?_)|with_reducible exact ti_)
     refine qj ([u.args.getD 0 Y0],u.args.getD 1 Y0) [0,1,2] ⟨hnx,by dsimp only;omega⟩ rfl (by simp) ?_ ?_ ?_<;>simp only[q9y,qh,qd1,qd6]<;>(try refine ev_ ?_)<;>(try with_reducible exact ti_)<;>(try simp (disch:=omega) only[qc,and_true,true_and])
    ·simp only[qm (qfy ha),qn (qfy ha)]
     repeat'(first|refine vs_ ?_|(refine vr_ ?_<;>try simp only[hc1,hc2i,g0,g1,hcap,go_sem,↓reduceIte])|((first|simp (disch:=omega) only[g0]|simp (disch:=omega) only[g1]|simp (disch:=omega) only[hcap]|(refine cs_ ?_ ?_<;>intro hc)|refine cj_ ?_|simp (disch:=omega) only[qa,qc])<;>try refine ev_ ?_)|with_reducible exact ti_)
     refine qj (a++[u.args.getD 0 Y0],u.args.getD 1 Y0) [0,1,3] ⟨hnx,by dsimp only;omega⟩ rfl (by simp) ?_ ?_ ?_<;>simp only[q9y,←qew,qd8,qd9,qg]<;>(try refine ev_ ?_)<;>(try with_reducible exact ti_)<;>(try simp (disch:=omega) only[qc,and_true,true_and])
     all_goals(rw[qew,qda];exact⟨qbd _ _,rfl⟩)
   ·have hc2i:¬(u.args.length:Int)=2:=by omega
    have hs:splY u=([],u):=by rw[qym,if_neg (fun h=>hc2 h.2)]
    have hfin:splA (splY t)=.tup [.sl 3 (qh a),.agg [.str [45,62],.int .i64 u.var,.sl 3 (qh u.args)]]:=by
     rw[h1,hs]
     show AV.tup [.sl 3 (qh (a++[])),encY u]=_
     rw[List.append_nil,←qb4 u,hc1]
    rw[hfin]
    by_cases ha:a=[]
    ·subst ha
     simp only[qh,qi,qk,List.append_nil]
     repeat'(first|refine vs_ ?_|(refine vr_ ?_<;>try simp only[hc1,hc2i,go_sem,↓reduceIte])|((first|(refine cs_ ?_ ?_<;>intro hc)|refine cj_ ?_|simp (disch:=omega) only[qa,qc])<;>try refine ev_ ?_)|with_reducible exact ti_)
    ·simp only[qm (qfy ha),qn (qfy ha)]
     repeat'(first|refine vs_ ?_|(refine vr_ ?_<;>try simp only[hc1,hc2i,go_sem,↓reduceIte])|((first|(refine cs_ ?_ ?_<;>intro hc)|refine cj_ ?_|simp (disch:=omega) only[qa,qc])<;>try refine ev_ ?_)|with_reducible exact ti_)
  ·have hs:splY u=([],u):=by rw[qym,if_neg (fun h=>hc1 h.1)]
   have hfin:splA (splY t)=.tup [.sl 3 (qh a),encY u]:=by
    rw[h1,hs]
    show AV.tup [.sl 3 (qh (a++[])),encY u]=_
    rw[List.append_nil]
   rw[hfin]
   by_cases ha:a=[]
   ·subst ha
    simp only[qh,qi,qk,List.append_nil]
    repeat'(first|refine vs_ ?_|(refine vr_ ?_<;>try simp only[hc1,go_sem,↓reduceIte])|((first|(refine cs_ ?_ ?_<;>intro hc)|refine cj_ ?_|simp (disch:=omega) only[qa,qc])<;>try refine ev_ ?_)|with_reducible exact ti_)
   ·simp only[qm (qfy ha),qn (qfy ha)]
    repeat'(first|refine vs_ ?_|(refine vr_ ?_<;>try simp only[hc1,go_sem,↓reduceIte])|((first|(refine cs_ ?_ ?_<;>intro hc)|refine cj_ ?_|simp (disch:=omega) only[qa,qc])<;>try refine ev_ ?_)|with_reducible exact ti_)
end Go.Proofs.YtkenggenkmfopaaGreat

/- terms as data; those that wait -/
namespace Go.Proofs.YtkenggenkmfopaaGreat
open Go Go.RowKit Go.V

inductive Tm where
 | mk (kind num:Int) (name:List UInt8) (vars:List Int) (types:List Ty) (kids:List Tm)
def Tm.kind:Tm->Int | .mk k _ _ _ _ _=>k
def Tm.num:Tm->Int | .mk _ n _ _ _ _=>n
def Tm.name:Tm->List UInt8 | .mk _ _ s _ _ _=>s
def Tm.vars:Tm->List Int | .mk _ _ _ v _ _=>v
def Tm.types:Tm->List Ty | .mk _ _ _ _ t _=>t
def Tm.kids:Tm->List Tm | .mk _ _ _ _ _ ks=>ks
mutual
def encT:Tm->AV
 | .mk k n s v t ks=>.agg [.int .i64 k,.int .i64 n,.str s,.sl 1 (ints v),.sl 3 (qh t),.sl 6 (encTs ks)]
def encTs:List Tm->List AV
 | []=>[]
 | x::r=>encT x::encTs r
end
theorem encTs_map(l:List Tm):encTs l=l.map encT:=by
 induction l with
 | nil=>rw[encTs];rfl
 | cons x r ih=>rw[encTs,ih];rfl
abbrev tmc(n:Tm):List AV:=[.int .i64 n.kind,.int .i64 n.num,.str n.name,.sl 1 (ints n.vars),.sl 3 (qh n.types),.sl 6 (encTs n.kids)]
theorem qeb(n:Tm):AV.agg [.int .i64 n.kind,.int .i64 n.num,.str n.name,.sl 1 (ints n.vars),.sl 3 (qh n.types),.sl 6 (encTs n.kids)]=encT n:=by
 cases n;simp only[encT,Tm.kind,Tm.num,Tm.name,Tm.vars,Tm.types,Tm.kids]
theorem encT_cells(n:Tm):(encT n).cells=tmc n:=by rw[←qeb];rfl
theorem Tm.ind{p:Tm->Prop}(h:∀n:Tm,(∀x∈n.kids,p x)->p n):∀n,p n:=by
 intro n
 refine Tm.rec (motive_1:=p) (motive_2:=fun l=>∀x∈l,p x) (fun k m s v t ks ih=>h (.mk k m s v t ks) ih) (fun x hx=>by cases hx) (fun x r h1 h2 y hy=>?_) n
 rcases List.mem_cons.1 hy with rfl | hy
 ·exact h1
 ·exact h2 y hy
theorem encT_bd(k:Nat):∀n,(encT n).bd k=true:=Tm.ind fun n ih=>by
 rw[←qeb]
 simp only[AV.bd,AV.bds,qe2,qbd,Bool.true_and,Bool.and_true]
 rw[encTs_map,qb6,List.all_map,List.all_eq_true]
 exact ih
theorem encTs_bd(k:Nat)(l:List Tm):AV.bds k (encTs l)=true:=by
 rw[encTs_map,qb6,List.all_map,List.all_eq_true];exact fun x _=>encT_bd k x
theorem encT_ren(σ:Nat->Nat)(n:Tm):(encT n).ren σ=encT n:=ren_same (m:=0) (fun i hi=>by omega) _ (encT_bd 0 n)
theorem encTs_ren(σ:Nat->Nat)(l:List Tm):AV.rens σ (encTs l)=encTs l:=qs (m:=0) (fun i hi=>by omega) _ (encTs_bd 0 l)
theorem qxg(H:List Ent)(n:Tm):co H (.agg [.id,.id,.id,.sl 1,.sl 3,.sl 6]) (encT n)=encT n:=by
 rw[←qeb];simp only[qef,qcf,qcx,qgq,qcj]
theorem qn9(n:Tm):rdCo (.agg [.id,.id,.id,.sl 1,.sl 3,.sl 6]) (encT n)=[]:=by
 rw[←qeb];simp only[qce,qbi,qbq,qdh,qbk,List.append_nil]
theorem encT_agg(n:Tm):(encT n).isAgg=true:=by cases n;rfl
theorem qho(n:Tm):(encT n).leaf=false:=by cases n;rfl
theorem qft(l:List Tm):(encTs l).length=l.length:=by rw[encTs_map];simp
def T0:Tm:=.mk 0 0 [] [] [] []
theorem qre(b:Bool)(n off:Nat)(x:Tm):fldv b n off (encT x)=ldc b n off (tmc x):=by rw[←qeb];rfl
theorem qoi:AV.agg [.int .i64 0,.int .i64 0,.str [],.sl 1 [],.sl 3 [],.sl 6 []]=encT T0:=by simp only[T0,encT,ints,List.map_nil,qh,encTs]
attribute [go_sem] tmc qre qn9 encT_bd encTs_bd encT_ren encTs_ren qxg encT_agg encT_cells qeb qho qft
structure Wt where
 p:Pd
 pos:Int
 hole:Int
def qis(x:Wt):AV:=.agg [.str x.p.cls,.str x.p.ty.con,.int .i64 x.p.ty.var,.sl 3 (qh x.p.ty.args),.int .i64 x.pos,.int .i64 x.hole]
def qe3(l:List Wt):List AV:=l.map qis
abbrev wtc(x:Wt):List AV:=[.str x.p.cls,.str x.p.ty.con,.int .i64 x.p.ty.var,.sl 3 (qh x.p.ty.args),.int .i64 x.pos,.int .i64 x.hole]
theorem q3e(x:Wt):AV.agg [.str x.p.cls,.str x.p.ty.con,.int .i64 x.p.ty.var,.sl 3 (qh x.p.ty.args),.int .i64 x.pos,.int .i64 x.hole]=qis x:=rfl
theorem qyk(x:Wt):(qis x).cells=wtc x:=rfl
theorem qq6(k:Nat)(x:Wt):(qis x).bd k=true:=by simp only[qis,AV.bd,AV.bds,qbd,Bool.and_true]
theorem qjg(k:Nat)(l:List Wt):AV.bds k (qe3 l)=true:=by rw[qe3,qb6,List.all_map,List.all_eq_true];exact fun x _=>qq6 k x
theorem q77(σ:Nat->Nat)(x:Wt):(qis x).ren σ=qis x:=ren_same (m:=0) (fun i hi=>by omega) _ (qq6 0 x)
theorem qh8(σ:Nat->Nat)(l:List Wt):AV.rens σ (qe3 l)=qe3 l:=qs (m:=0) (fun i hi=>by omega) _ (qjg 0 l)
theorem qbf6(H:List Ent)(x:Wt):co H (.agg [.id,.id,.id,.sl 3,.id,.id]) (qis x)=qis x:=by
 simp only[qis,qef,qcf,qcx,qgq,qcj]
theorem q2o(x:Wt):rdCo (.agg [.id,.id,.id,.sl 3,.id,.id]) (qis x)=[]:=by
 simp only[qis,qce,qbi,qbq,qdh,qbk,List.append_nil]
theorem q6h(x:Wt):(qis x).isAgg=true:=rfl
theorem qqu(x:Wt):(qis x).leaf=false:=rfl
theorem q3j(l:List Wt):(qe3 l).length=l.length:=by simp[qe3]
theorem qv9(n:Nat)(l:List Wt):(qe3 l).take n=qe3 (l.take n):=by simp[qe3]
theorem qv5(n:Nat)(l:List Wt):(qe3 l).drop n=qe3 (l.drop n):=by simp[qe3]
theorem q59(b:Bool)(n off:Nat)(p:Wt):fldv b n off (qis p)=ldc b n off (wtc p):=rfl
attribute [go_sem] wtc q59 q2o qq6 qjg q77 qh8 qbf6 q6h qyk q3e qqu q3j qv9 qv5
end Go.Proofs.YtkenggenkmfopaaGreat
