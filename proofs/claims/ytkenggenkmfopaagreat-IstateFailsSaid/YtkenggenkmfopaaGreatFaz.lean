/- Texts of this proof, joined. -/
import Derived.Test.YtkenggenkmfopaaGreatFaw
import Derived.Test.YtkenggenkmfopaaGreatFar
set_option linter.unusedVariables false
set_option linter.unusedSimpArgs false

/- substitutions: put into a type, walked -/
set_option maxRecDepth 4000
namespace Go.Proofs.YtkenggenkmfopaaGreat
open Go Go.RowKit Go.V

theorem qyl{f:FuncId}{args:List AV}{r r':AV}(h:qj Tryz.prog f args r)(e:r=r'):qj Tryz.prog f args r':=e ▸ h
abbrev blE(b:Bool)(c:Nat)(lf:Int):Ent:=.blk [svA b c,.int .i64 lf]
theorem qci5(b:Bool)(c:Nat)(lf:Int)(n:Nat)(h:c<n):(blE b c lf).bd n=true:=by simp only[blE,Ent.bd,AV.bds,q5h b c n h,AV.bd,Bool.and_true]
theorem q6o(b:Bool)(c:Nat)(lf:Int)(σ:Nat->Nat):(blE b c lf).ren σ=blE b (σ c) lf:=by simp only[blE,Ent.ren,AV.rens,qvp,AV.ren]
abbrev putF:FuncId:=84
def qciy(R:World->(Nat->Nat->Prop)->Gh->Prop)(b:Bool)(t:Ty)(lf k lf':Int)(t':Ty):Prop :=
 VCalls Tryz.prog putF [blE b 1 lf,.cus R] [.ptr 0 0,encY t,.int .i64 k] fun H' o=>H'=[blE b 1 lf',.cus R]∧o=.val (encY t')
section
variable {R:World->(Nat->Nat->Prop)->Gh->Prop} {b:Bool} {s:List Pr} {t t':Ty} {lf k lf':Int} {H:List Ent} {Q:List Ent->VO->Prop}
theorem qw5(a c:Nat)(h:qciy R b t lf k lf' t')(hac:a≠c)(hq:Q (H.set a (blE b c lf')) (.val (encY t')))(h0:ent H a=blE b c lf:=by rfl)(h1:ent H c=.cus R:=by rfl)(ha:a<H.length:=by simp)(hc:c<H.length:=by simp):
 VApp Tryz.prog H (.fn putF [] []) [.ptr a 0,encY t,.int .i64 k] Q:=by
 refine qcj ?_
 rw[List.nil_append,List.append_nil]
 refine qbs [a,c] h (by simp[hac]) ⟨⟨ha,qci5 _ _ _ _ (by simp),by rw[h0,q6o];rfl⟩,⟨hc,rfl,by rw[h1];rfl⟩,trivial⟩ (by simp only[AV.bds,AV.bd,qx,Bool.and_true];rfl) (by simp only[AV.rens,AV.ren,qhq];rfl) fun H1 o ho=>?_
 obtain⟨rfl,rfl⟩:=ho
 have e1:qe7 H [a,c] [blE b 1 lf',.cus R]=H.set a (blE b c lf'):=by
  show((H.set a ((blE b 1 lf').ren _)).set c (.cus R))++[]=_
  rw[List.append_nil,q6o]
  have h1':ent (H.set a (blE b (sg' [a,c] H.length 1) lf')) c=.cus R:=by
   rw[←h1]
   exact q2m hac
  exact qcg h1' (by simpa using hc)
 rw[e1]
 simp only[VO.ren,qhq]
 exact hq
theorem qb7y(hG:VM Tryz.prog 123 (.cus R) (.cus R) [svA b 0,.int .i64 k] (getV s k)){K:Md->AV->List Ent->Prop}{raws:List AV}(hq:K (.meth 1 (.cus R) (.cus R)) (getV s k) H)(h1:ent H 1=.cus R:=by rfl)(hl:1<H.length:=by simp):
 DApp Tryz.prog H (.fn 123 [] []) [svA b 1,.int .i64 k] raws K:=by
 refine .inr (.inr (.inl ⟨getV s k,1,.cus R,.cus R,⟨by simp,h1,fun H₀ h0=>?_⟩,?_⟩))
 ·have hl0:=(List.getElem?_eq_some_iff.1 (qbj h0 (by simp))).1
  exact qca 1 hG ⟨rfl,rfl⟩ rfl rfl hl0 h0 (qbv5 0 _ _) (by simp only[AV.rens,qvp,AV.ren];rfl) (by simp only[AV.bds,q5h b 0 1 (by omega),AV.bd,Bool.and_true])
 ·rw[qcg h1 hl]
  exact hq
end
theorem qz9{l:List Ty}{i:Nat}(h:i<l.length):l.take (i+1)=l.take i++[l.getD i Y0]:=by
 rw[List.take_add_one,List.getD_eq_getElem?_getD,List.getElem?_eq_getElem h];rfl
def plSt(R:World->(Nat->Nat->Prop)->Gh->Prop)(b:Bool)(s:List Pr)(t:Ty)(lf k:Int)(i:Nat):AF×List Ent :=
 (⟨[(0, .ptr 0 0), (2, .int .i64 k), (4, .ptr 2 0), (6, .ptr 3 0), (9, .row 4 t.args.length), (57, .int .i64 t.args.length), (58, .int .i64 i)], []⟩,
   [blE b 1 (brun s (t.args.take i) (lf-1) (k+1)).1,.cus R,.blk (yc t),.blk [.str [],.int .i64 0,.nils],.mrow 3 (gE (brun s (t.args.take i) (lf-1) (k+1)).2 t.args.length)])
theorem qb3t{R:World->(Nat->Nat->Prop)->Gh->Prop}{b:Bool}{s:List Pr}(hG:∀v,VM Tryz.prog 123 (.cus R) (.cus R) [svA b 0,.int .i64 v] (getV s v))(hs:okR s):
 ∀t,bare t->szY t≤20000->∀lf k:Int,0≤lf->lf≤4096->0≤k->k+dpY t≤1000->qciy R b t lf k (bput s t lf k).1 (bput s t lf k).2:=by
 refine Ty.ind fun t ih hb hz lf k h0 h1 h2 h3=>?_
 refine qe c0dx 2 (by simp) (by simp) ?_
 rw[qbpe]
 rw[qcak] at hb
 have hsz:=qdr t
 have hal:=qen t.args
 have w1:IntKind.i64.wrap (lf-1)=lf-1:=qo (by omega) (by omega)
 by_cases hc:t.con=[]
 ·have hcd:decide (t.con=[])=true:=decide_eq_true hc
  have hargs:=hb.1 hc
  rw[if_pos hc]
  cases hlk:qm t.var s with
  | some u =>
    have hu:=qj1 hs hlk
    have hg:getV s t.var=.tup [encY u,.bool true]:=by rw[getV,hlk];rfl
    have hS:qj Tryz.prog 124 [encY u] (.int .i64 (szY u)):=qyl (q1m u) (by rw[qr7 u 0 1 (by omega) (by omega)];simp)
    have hD:qj Tryz.prog 125 [encY u] (.int .i64 (dpY u)):=qyl (qxc u) (by rw[qsj u 0 1 (by omega) (by omega) (by omega)];simp only;congr 1;omega)
    have hcp:=qfb u (by omega)
    have w2:IntKind.i64.wrap (lf-szY u)=lf-szY u:=qo (by omega) (by omega)
    have w3:IntKind.i64.wrap (k+dpY u)=k+dpY u:=qo (by omega) (by omega)
    simp only
    by_cases hd:101<k+dpY u
    ·rw[if_pos hd]
     have hdd:decide (101<k+(dpY u:Int))=true:=decide_eq_true hd
     repeat'(first|refine vs_ ?_|(refine vr_ ?_<;>try simp only[hcd,hg,w2,w3,hdd,go_sem,↓reduceIte])|((first|simp (disch:=omega) only[hg]|(refine cs_ ?_ ?_<;>intro hc)|refine cj_ ?_|refine qa hS fun _=>?_|refine qa hD fun _=>?_|refine qa hcp fun _=>?_|refine qb7y (hG _) ?_|refine qc hS ?_|refine qc hD ?_|refine qc hcp ?_)<;>try refine ev_ ?_)|with_reducible exact ti_)
    ·rw[if_neg hd]
     have hdd:decide (101<k+(dpY u:Int))=false:=decide_eq_false hd
     repeat'(first|refine vs_ ?_|(refine vr_ ?_<;>try simp only[hcd,hg,w2,w3,hdd,go_sem,↓reduceIte])|((first|simp (disch:=omega) only[hg]|(refine cs_ ?_ ?_<;>intro hc)|refine cj_ ?_|refine qa hS fun _=>?_|refine qa hD fun _=>?_|refine qa hcp fun _=>?_|refine qb7y (hG _) ?_|refine qc hS ?_|refine qc hD ?_|refine qc hcp ?_)<;>try refine ev_ ?_)|with_reducible exact ti_)
  | none =>
    have hg:getV s t.var=.tup [encY Y0,.bool false]:=by rw[getV,hlk];rfl
    have hbp:qdq s t.args (lf-1) (k+1)=(lf-1,some []):=by rw[hargs,qdq]
    rw[hbp]
    have hal0:t.args.length=0:=by rw[hargs];rfl
    repeat'(first|refine vs_ ?_|(refine vr_ ?_<;>try simp only[hcd,hg,w1,go_sem,↓reduceIte])|((first|simp (disch:=omega) only[hg]|(refine cs_ ?_ ?_<;>intro hc)|refine cj_ ?_|refine qb7y (hG _) ?_)<;>try refine ev_ ?_)|with_reducible exact ti_)
    refine qk (S:=Unit) (fun _=>True) (fun _=>(⟨[(0,.ptr 0 0),(2,.int .i64 k),(4,.ptr 2 0),(6,.ptr 3 0),(9,.row 5 t.args.length),(57,.int .i64 t.args.length),(58,.int .i64 (0:Nat))],[]⟩,[blE b 1 (lf-1),.cus R,.blk (yc t),.blk [.str [],.int .i64 0,.nils],.blk (yc Y0),.mrow 3 (gE [] t.args.length)])) (fun _=>0) ?_ fun x hx=>?_
    ·refine qg () [0,1,2,3,4,5] trivial rfl (by simp) ?_ ?_ ?_<;>simp only[gE_0,zY]<;>(try refine ev_ ?_)<;>(try with_reducible exact ti_)<;>(try simp (disch:=omega) only[qb,and_true,true_and])
     all_goals
      rw[show List.replicate t.args.length (AV.agg [AV.str [],AV.int IntKind.i64 0,AV.nils])=gE [] t.args.length from rfl]
      exact⟨qrl _ _ _,by rw[qk6]⟩
    ·rw[show gE [] t.args.length=qf [] by rw[hal0];rfl]
     refine qb6 5 rfl (qet _) ?_
     repeat'(first|refine vs_ ?_|((first|refine vr_ ?_|(refine cs_ ?_ ?_<;>intro hc)|refine cj_ ?_)<;>try refine ev_ ?_)|with_reducible exact ti_)
     all_goals try(exfalso;omega)
     all_goals
      rw[if_pos hal0.symm]
      exact⟨by simp only[AV.bd,qbm],rfl⟩
 ·have hcd:decide (t.con=[])=false:=decide_eq_false hc
  rw[if_neg hc]
  have hk1:IntKind.i64.wrap (k+1)=k+1:=qo (by omega) (by omega)
  simp only
  repeat'(first|refine vs_ ?_|(refine vr_ ?_<;>try simp only[hcd,w1,go_sem,↓reduceIte])|((first|(refine cs_ ?_ ?_<;>intro hc)|refine cj_ ?_)<;>try refine ev_ ?_)|with_reducible exact ti_)
  refine⟨⟨by omega,by unfold maxLen;omega⟩,?_⟩
  repeat'(first|refine vs_ ?_|(refine vr_ ?_<;>try simp only[hcd,w1,go_sem,↓reduceIte])|((first|(refine cs_ ?_ ?_<;>intro hc)|refine cj_ ?_)<;>try refine ev_ ?_)|with_reducible exact ti_)
  refine qk (S:=Nat) (fun i=>i≤t.args.length∧∀j,j<i->0≤(brun s (t.args.take j) (lf-1) (k+1)).1) (plSt R b s t lf k) (fun i=>t.args.length-i) ?_ fun i hi=>?_
  ·refine qg 0 [0,1,2,3,4] ⟨Nat.zero_le _,fun j hj=>by omega⟩ rfl (by simp) ?_ ?_ ?_<;>simp only[plSt,List.take_zero,brun,gE_0,zY]<;>(try refine ev_ ?_)<;>(try with_reducible exact ti_)<;>(try simp (disch:=omega) only[qb,and_true,true_and])
   all_goals
    rw[show List.replicate t.args.length (AV.agg [AV.str [],AV.int IntKind.i64 0,AV.nils])=gE [] t.args.length from rfl]
    exact⟨qrl _ _ _,by rw[qk6]⟩
  ·obtain⟨hi,hpos⟩:=hi
   have htl:(t.args.take i).length=i:=by rw[List.length_take];omega
   have hrng:=qyq hs (k+1) (t.args.take i) (lf-1) (fun j hj=>by
    rw[htl] at hj
    rw[List.take_take,Nat.min_eq_left (by omega)]
    exact hpos j hj) (by omega) (by omega)
   have hbl:=qxy s (t.args.take i) (lf-1) (k+1)
   rw[htl] at hbl
   unfold plSt
   by_cases hlt:i<t.args.length
   ·have hsn:=qr9 s (t.args.getD i Y0) (k+1) (t.args.take i) (lf-1)
    rw[←qz9 hlt] at hsn
    obtain⟨B,hB⟩:∃B,brun s (t.args.take i) (lf-1) (k+1)=B:=⟨_,rfl⟩
    have hpi:(brun s (t.args.take i) (lf-1) (k+1)).1=B.1:=by rw[hB]
    by_cases hneg:B.1<0
    ·rw[q06 hlt hpos (by rw[hB];exact hneg)]
     rw[hB]
     have hnd:decide (B.1<0)=true:=decide_eq_true hneg
     repeat'(first|refine vs_ ?_|(refine vr_ ?_<;>try simp (disch:=first|omega|(simp only[List.length_set,List.length_append,List.length_cons,List.length_nil];try omega)) only[hnd,qb,go_sem,↓reduceIte])|((first|(refine cs_ ?_ ?_<;>intro hc)|refine cj_ ?_)<;>try refine ev_ ?_)|with_reducible exact ti_)
     all_goals(exfalso;omega)
    ·have hnd:decide (B.1<0)=false:=decide_eq_false hneg
     have hm:=qba hlt
     have hszm:=qdp hm
     have hdpm:=qnu hm
     have hput:=ih _ hm (qtz hb.2 _ hm) (by omega) B.1 (k+1) (by omega) (by rw[hB] at hrng;omega) (by omega) (by have:=qrv t;omega)
     rw[hB] at hsn hbl ⊢
     have hset:=q20 (o:=B.2) (n:=t.args.length) (by omega) (bput s (t.args.getD i Y0) B.1 (k+1)).2
     rw[hbl] at hset
     have hgl:=q32 (o:=B.2) (n:=t.args.length) (by omega)
     repeat'(first|refine vs_ ?_|(refine vr_ ?_<;>try simp (disch:=first|omega|(simp only[List.length_set,List.length_append,List.length_cons,List.length_nil];try omega)) only[hnd,ql,qb,hk1,go_sem,↓reduceIte])|((first|(refine cs_ ?_ ?_<;>intro hc)|refine cj_ ?_|refine qw5 0 1 hput (by simp) ?_)<;>try refine ev_ ?_)|with_reducible exact ti_)
     ·have hnn:∀j,j<i+1->0≤(brun s (t.args.take j) (lf-1) (k+1)).1:=fun j hj=>by
       by_cases hji:j=i
       ·subst hji
        rw[hB];omega
       ·exact hpos j (by omega)
      refine qg (i+1) [0,1,2,3,4] ⟨⟨by omega,hnn⟩,by omega⟩ rfl (by simp) ?_ ?_ ?_<;>simp only[hsn,←hset]<;>(try refine ev_ ?_)<;>(try with_reducible exact ti_)<;>(try simp (disch:=omega) only[qb,and_true,true_and])
      ·rw[hset];exact⟨qrl _ _ _,by rw[qk6]⟩
      ·rw[qo (by omega) (by omega),Int.natCast_add];rfl
     ·exfalso;omega
   ·have hie:i=t.args.length:=by omega
    subst hie
    rw[q42 hpos]
    rw[List.take_length] at hbl ⊢
    obtain⟨B,hB⟩:∃B,brun s t.args (lf-1) (k+1)=B:=⟨_,rfl⟩
    rw[hB] at hbl ⊢
    rw[show gE B.2 t.args.length=qf B.2 by rw[←hbl,q5j]]
    refine qb6 4 rfl (qet _) ?_
    repeat'(first|refine vs_ ?_|((first|refine vr_ ?_|(refine cs_ ?_ ?_<;>intro hc)|refine cj_ ?_)<;>try refine ev_ ?_)|with_reducible exact ti_)
    all_goals try(exfalso;omega)
    all_goals
     rw[if_pos hbl]
     exact⟨by simp only[AV.bd,qbm],rfl⟩
set_option maxRecDepth 4000

def qblr(l:List Pr):Prop:=∀p∈l,szY p.ty≤20000∧dpY p.ty≤300
theorem qob{s:List Pr}(h:okS s):qblr s:=fun p hp=>by have:=qp5 h p hp;omega
theorem qn2:∀(l s:List Pr) (p:Pr),addR s (l++[p])=(setR (addR s l) p.v p.ty).1
 | [],s,p=>rfl
 | x::l,s,p=>by rw[List.cons_append,addR,addR,qn2 l]
theorem qko{l:List Pr}{i:Nat}(h:i<l.length):l.take (i+1)=l.take i++[l.getD i R0]:=by
 rw[List.take_add_one,List.getD_eq_getElem?_getD,List.getElem?_eq_getElem h];rfl
theorem qrq{l:List Pr}{i:Nat}(h:i<l.length)(s:List Pr):addR s (l.take (i+1))=(setR (addR s (l.take i)) (l.getD i R0).v (l.getD i R0).ty).1:=by rw[qko h,qn2]
theorem qyp{s:List Pr}(hs:okR s):∀t,sizR s t≤4096*szY t:=Ty.ind fun t ih=>by
 rw[qrc,qdr]
 have key:∀l:List Ty,(∀x∈l,sizR s x≤4096*szY x)->qdx s l≤4096*szYs l:=fun l=>by
  induction l with
  | nil=>intro _;rw[qdx];omega
  | cons x r ihr =>
    intro h
    rw[qdx,szYs]
    have:=h x (by simp)
    have:=ihr fun y hy=>h y (by simp[hy])
    omega
 have h1:=key t.args ih
 split
 ·cases hl:qm t.var s with
  | some u=>have:=qj1 hs hl;simp only;omega
  | none=>simp only;omega
 ·omega
theorem q2c(s:List Pr){l:List Ty}{i:Nat}(h:i<l.length):qdx s (l.take (i+1))=qdx s (l.take i)+sizR s (l.getD i Y0):=by
 have h1:l.take (i+1)=l.take i++[l.getD i Y0]:=by
  rw[List.take_add_one,List.getD_eq_getElem?_getD,List.getElem?_eq_getElem h];rfl
 rw[h1]
 generalize l.take i=a
 induction a with
 | nil=>simp[qdx]
 | cons x a ih=>rw[List.cons_append,qdx,qdx,ih];omega
theorem qy4{s:List Pr}(hs:okR s):∀l,qdx s l≤4096*szYs l
 | []=>by rw[qdx];omega
 | x::r=>by rw[qdx,szYs];have:=qyp hs x;have:=qy4 hs r;omega
theorem qtf{s:List Pr}{v:Int}{u:Ty}(h:qm v s=some u):getA s v=.tup [encY u,.bool true]:=by rw[getA,h]
theorem qu0{s:List Pr}{v:Int}(h:qm v s=none):getA s v=.tup [encY Y0,.bool false]:=by rw[getA,h]
theorem q00{s:List Pr}(hs:okR s):∀t,szY t≤1000000->qj Tryz.prog 113 [.sl 4 (qz s),encY t] (.int .i64 (sizR s t)):=by
 refine Ty.ind fun t ih hb=>?_
 refine qd c0ea (by simp) (by simp only[go_sem]) rfl fun hw=>?_
 have hk:=qci hw.2.1
 have hsz:=qdr t
 have f:=qn6 s t.var
 by_cases hc:t.con=[]
 ·cases hl:qm t.var s with
  | some u =>
    have hu:=qj1 hs hl
    rw[qtf hl] at f
    have g:=qes u
    rw[qfx u (by omega)] at g
    have e:sizR s t=szY u:=by rw[qrc,if_pos hc,hl]
    rw[e]
    repeat'(first|refine vs_ ?_|(refine vr_ ?_<;>try simp only[hc,go_sem,↓reduceIte])|((first|(refine cs_ ?_ ?_<;>intro hc)|refine cj_ ?_|refine qa f fun _=>?_|refine qa g fun _=>?_)<;>try refine ev_ ?_)|with_reducible exact ti_)
  | none =>
    rw[qu0 hl] at f
    have e:sizR s t=1:=by rw[qrc,if_pos hc,hl]
    rw[e]
    repeat'(first|refine vs_ ?_|(refine vr_ ?_<;>try simp only[hc,go_sem,↓reduceIte])|((first|(refine cs_ ?_ ?_<;>intro hc)|refine cj_ ?_|refine qa f fun _=>?_)<;>try refine ev_ ?_)|with_reducible exact ti_)
 ·have ih':∀i,i<t.args.length->qj Tryz.prog 113 [.sl 4 (qz s),encY (t.args.getD i Y0)] (.int .i64 (sizR s (t.args.getD i Y0))):=fun i hi=>ih _ (qba hi) (by have:=qdp (qba hi);omega)
  have e:sizR s t=1+qdx s t.args:=by rw[qrc,if_neg hc]
  rw[e]
  repeat'(first|refine vs_ ?_|(refine vr_ ?_<;>try simp only[hc,go_sem,↓reduceIte])|((first|(refine cs_ ?_ ?_<;>intro hc)|refine cj_ ?_)<;>try refine ev_ ?_)|with_reducible exact ti_)
  refine qk (S:=Nat) (fun i=>i≤t.args.length) (fun i=>(⟨[(0,.sl 4 (qz s)),(3,.ptr 0 0),(7,.int .i64 ((1+qdx s (t.args.take i):Nat):Int)),(8,.int .i64 i)],[]⟩,[.blk (yc t)])) (fun i=>t.args.length-i) ?_ fun i hi=>?_
  ·refine qg 0 [0] (Nat.zero_le _) rfl (by simp) ?_ ?_ ?_<;>simp only[List.take_zero,qdx]<;>(try refine ev_ ?_)<;>(try with_reducible exact ti_)<;>(try simp (disch:=omega) only[qb,and_true,true_and])
  ·by_cases hlt:i<t.args.length
   ·have h1:=q2c s hlt
    have h2:=qy4 hs (t.args.take i)
    have h3:=qmw t.args i
    have h4:=qyp hs (t.args.getD i Y0)
    have h5:=qdp (qba hlt)
    have hwr:IntKind.i64.wrap (((1+qdx s (t.args.take i):Nat):Int)+(sizR s (t.args.getD i Y0):Int))=((1+qdx s (t.args.take (i+1)):Nat):Int):=by rw[h1,qo (by omega) (by omega)];omega
    repeat'(first|refine vs_ ?_|(refine vr_ ?_<;>try simp (disch:=first|omega|(simp only[List.length_set,List.length_append,List.length_cons,List.length_nil];try omega)) only[ql,qb,hwr,go_sem,↓reduceIte])|((first|simp (disch:=omega) only[ql]|simp (disch:=omega) only[hwr]|(refine cs_ ?_ ?_<;>intro hc)|refine cj_ ?_|refine qa (ih' i hlt) fun _=>?_)<;>try refine ev_ ?_)|with_reducible exact ti_)
    ·refine qg (i+1) [0] ⟨by omega,by omega⟩ rfl (by simp) ?_ ?_ ?_<;>(try refine ev_ ?_)<;>(try with_reducible exact ti_)<;>(try simp (disch:=omega) only[qb,and_true,true_and])
    ·omega
   ·have hti:t.args.take i=t.args:=List.take_of_length_le (by omega)
    rw[hti]
    repeat'(first|refine vs_ ?_|((first|refine vr_ ?_|(refine cs_ ?_ ?_<;>intro hc)|refine cj_ ?_)<;>try refine ev_ ?_)|with_reducible exact ti_)
    omega
theorem q1i(s:List Pr){l:List Ty}{i:Nat}(h:i<l.length):qf (qbz s (l.take (i+1)))=qf (qbz s (l.take i))++[encY (putY s (l.getD i Y0))]:=by
 have h1:l.take (i+1)=l.take i++[l.getD i Y0]:=by
  rw[List.take_add_one,List.getD_eq_getElem?_getD,List.getElem?_eq_getElem h];rfl
 rw[h1,qhh,qhh,List.map_append,qcn,qcn,List.map_append];rfl
def rpSt(s:List Pr)(t:Ty)(i:Nat):AF×List Ent :=
 (⟨[(0,.sl 4 (qz s)),(3,.ptr 0 0),(4,.ptr 1 0),(7,accV 2 (qf (qbz s (t.args.take i)))),(8,.int .i64 i)],[]⟩,.blk (yc t)::.blk [.str [],.int .i64 0,.nils]::accE 3 (qf (qbz s (t.args.take i))))
set_option maxHeartbeats 1000000 in
theorem q4p{s:List Pr}:∀t,szY t≤1000000->qj Tryz.prog 114 [.sl 4 (qz s),encY t] (encY (putY s t)):=by
 refine Ty.ind fun t ih hb=>?_
 refine qd c0eb (by simp) (by simp only[go_sem]) (qx 0 _) fun hw=>?_
 have hk:=qci hw.2.1
 have hsz:=qdr t
 have hal:=qen t.args
 have f:=qn6 s t.var
 by_cases hc:t.con=[]
 ·cases hl:qm t.var s with
  | some u =>
    rw[qtf hl] at f
    have e:putY s t=u:=by rw[qq3,if_pos hc,hl]
    rw[e]
    repeat'(first|refine vs_ ?_|(refine vr_ ?_<;>try simp only[hc,qbd,go_sem,↓reduceIte])|((first|(refine cs_ ?_ ?_<;>intro hc)|refine cj_ ?_|refine qa f fun _=>?_)<;>try refine ev_ ?_)|with_reducible exact ti_)
  | none =>
    rw[qu0 hl] at f
    have e:putY s t=t:=by rw[qq3,if_pos hc,hl]
    rw[e]
    have hy:AV.agg [.str [],.int .i64 t.var,.sl 3 (qf t.args)]=encY t:=by rw[←qbd,hc]
    repeat'(first|refine vs_ ?_|(refine vr_ ?_<;>try simp only[hc,hy,go_sem,↓reduceIte])|((first|(refine cs_ ?_ ?_<;>intro hc)|refine cj_ ?_|refine qa f fun _=>?_)<;>try refine ev_ ?_)|with_reducible exact ti_)
 ·have ih':∀i,i<t.args.length->qj Tryz.prog 114 [.sl 4 (qz s),encY (t.args.getD i Y0)] (encY (putY s (t.args.getD i Y0))):=fun i hi=>ih _ (qba hi) (by have:=qdp (qba hi);omega)
  have e:putY s t=.mk t.con t.var (qbz s t.args):=by rw[qq3,if_neg hc]
  have hy:AV.agg [.str t.con,.int .i64 t.var,.sl 3 (qf (qbz s t.args))]=encY (.mk t.con t.var (qbz s t.args)):=by rw[encY]
  rw[e]
  repeat'(first|refine vs_ ?_|(refine vr_ ?_<;>try simp only[hc,go_sem,↓reduceIte])|((first|(refine cs_ ?_ ?_<;>intro hc)|refine cj_ ?_)<;>try refine ev_ ?_)|with_reducible exact ti_)
  refine qk (S:=Nat) (fun i=>i≤t.args.length) (rpSt s t) (fun i=>t.args.length-i) ?_ fun i hi=>?_
  ·refine qg 0 [0,1] (Nat.zero_le _) rfl (by simp) ?_ ?_ ?_<;>simp only[rpSt,List.take_zero,qbz,qnn,qq,qw]<;>(try refine ev_ ?_)<;>(try with_reducible exact ti_)<;>(try simp (disch:=omega) only[qb,and_true,true_and])
  ·have hlm:(qf (qbz s (t.args.take i))).length=i:=by rw[q9,qjm,List.length_take];omega
   have hcap:qbi (i+1) 48=True:=eq_true (capY (by omega))
   have hcap1:qbi 1 48=True:=eq_true (capY (by omega))
   unfold rpSt
   by_cases hlt:i<t.args.length
   ·have hs:=q1i s hlt
    by_cases h0:i=0
    ·subst h0
     simp only[List.take_zero,qbz,qnn,qq,qw,List.nil_append] at hs ⊢
     repeat'(first|refine vs_ ?_|(refine vr_ ?_<;>try simp (disch:=first|omega|(simp only[List.length_set,List.length_append,List.length_cons,List.length_nil];try omega)) only[ql,qb,go_sem,↓reduceIte])|((first|simp (disch:=omega) only[ql]|simp (disch:=omega) only[hcap1]|(refine cs_ ?_ ?_<;>intro hc)|refine cj_ ?_|refine qa (ih' 0 hlt) fun _=>?_)<;>try refine ev_ ?_)|with_reducible exact ti_)
     ·refine qg 1 [0,1,2] ⟨by omega,by omega⟩ rfl (by simp) ?_ ?_ ?_<;>simp only[rpSt,hs,qc7,qej]<;>(try refine ev_ ?_)<;>(try with_reducible exact ti_)<;>(try simp (disch:=omega) only[qb,and_true,true_and])
      all_goals(rw[qkj])
     ·omega
    ·have hne:qf (qbz s (t.args.take i))≠[]:=fun h=>h0 (by rw[←hlm,h];rfl)
     simp only[q7 hne,qbc hne,hlm]
     have hlm2:(qbz s (t.args.take i)).length=i:=by rw[qjm,List.length_take];omega
     repeat'(first|refine vs_ ?_|(refine vr_ ?_<;>try simp (disch:=first|omega|(simp only[List.length_set,List.length_append,List.length_cons,List.length_nil];try omega)) only[ql,qb,hlm,hlm2,go_sem,↓reduceIte])|((first|simp (disch:=omega) only[ql]|simp (disch:=omega) only[hcap]|(refine cs_ ?_ ?_<;>intro hc)|refine cj_ ?_|refine qa (ih' i hlt) fun _=>?_)<;>try refine ev_ ?_)|with_reducible exact ti_)
     ·refine qg (i+1) [0,1,3] ⟨by omega,by omega⟩ rfl (by simp) ?_ ?_ ?_<;>simp only[rpSt,hs,qcm,qdh,hlm]<;>(try refine ev_ ?_)<;>(try with_reducible exact ti_)<;>(try simp (disch:=omega) only[qb,and_true,true_and])
      all_goals(rw[←hs];exact⟨qbm _ _,by rw[qc6]⟩)
     ·omega
   ·have hti:t.args.take i=t.args:=List.take_of_length_le (by omega)
    rw[hti] at hlm ⊢
    by_cases h0:t.args=[]
    ·have hp:qbz s t.args=[]:=by rw[h0,qbz]
     rw[hp] at hlm hy ⊢
     simp only[qnn,qq,qw] at hy ⊢
     repeat'(first|refine vs_ ?_|(refine vr_ ?_<;>try simp only[qbt,hy,go_sem,↓reduceIte])|((first|(refine cs_ ?_ ?_<;>intro hc)|refine cj_ ?_)<;>try refine ev_ ?_)|with_reducible exact ti_)
     ·omega
    ·have hne:qf (qbz s t.args)≠[]:=fun h=>h0 (by have:=congrArg List.length h;rw[q9,qjm] at this;exact List.length_eq_zero_iff.1 this)
     simp only[q7 hne,qbc hne,hlm]
     repeat'(first|refine vs_ ?_|(refine vr_ ?_<;>try simp only[hlm,hy,go_sem,↓reduceIte])|((first|(refine cs_ ?_ ?_<;>intro hc)|refine cj_ ?_)<;>try refine ev_ ?_)|with_reducible exact ti_)
     ·omega
set_option maxRecDepth 4000

theorem qcef{s:List Pr}(hs:okR s):∀t,dpY (putY s t)≤dpY t+100:=Ty.ind fun t ih=>by
 rw[qq3]
 split
 ·cases hl:qm t.var s with
  | some u=>have:=qj1 hs hl;simp only;omega
  | none=>simp only;omega
 ·rw[qrv t]
  show dpY (.mk _ _ _)≤_
  rw[dpY]
  have key:∀l:List Ty,(∀x∈l,dpY (putY s x)≤dpY x+100)->dpYs (qbz s l)≤dpYs l+100:=fun l=>by
   induction l with
   | nil=>intro _;rw[qbz,dpYs];omega
   | cons x r ihr =>
     intro h
     rw[qbz,dpYs,dpYs]
     have:=h x (by simp)
     have:=ihr fun y hy=>h y (by simp[hy])
     omega
  have:=key t.args ih
  omega
theorem qe3{s:List Pr}(hs:okS s){t:Ty}(h1:szY t≤20000)(h2:dpY t≤300):qj Tryz.prog 72 [.sl 4 (qz s),encY t] (typA (appR s t)):=by
 refine qd c0dz (by simp) (by simp only[go_sem]) (qq8 _ _) fun hw=>?_
 have f1:=qds h1 h2
 cases ht:qi t with
 | false =>
   rw[ht] at f1
   have e:appR s t=(Y0,1):=by rw[appR,if_neg (by rw[ht];simp)]
   rw[e,typA]
   repeat'(first|refine vs_ ?_|(refine vr_ ?_<;>try simp only[qtn,qbt,go_sem,↓reduceIte])|((first|(refine cs_ ?_ ?_<;>intro hc)|refine cj_ ?_|fail|refine qa f1 fun _=>?_)<;>try refine ev_ ?_)|with_reducible exact ti_)
 | true =>
   rw[ht] at f1
   have hz:=qsz ht
   have f2:=q00 (qp5 hs) t (by omega)
   by_cases hb:4096<sizR s t
   ·have e:appR s t=(Y0,2):=by rw[appR,if_pos ht,if_pos hb]
    rw[e,typA]
    repeat'(first|refine vs_ ?_|(refine vr_ ?_<;>try simp only[qtn,qbt,go_sem,↓reduceIte])|((first|(refine cs_ ?_ ?_<;>intro hc)|refine cj_ ?_|fail|refine qa f1 fun _=>?_|refine qa f2 fun _=>?_)<;>try refine ev_ ?_)|with_reducible exact ti_)
    omega
   ·have hp:=qre s t (qdt t (qf8 ht))
    have hd:=qcef (qp5 hs) t
    have f3:=q4p (s:=s) t (by omega)
    have f4:=qds (t:=putY s t) (by omega) (by omega)
    cases hu:qi (putY s t) with
    | false =>
      rw[hu] at f4
      have e:appR s t=(Y0,2):=by rw[appR,if_pos ht,if_neg hb,if_neg (by rw[hu];simp)]
      rw[e,typA]
      repeat'(first|refine vs_ ?_|(refine vr_ ?_<;>try simp only[qtn,qbt,go_sem,↓reduceIte])|((first|(refine cs_ ?_ ?_<;>intro hc)|refine cj_ ?_|fail|refine qa f1 fun _=>?_|refine qa f2 fun _=>?_|refine qa f3 fun _=>?_|refine qa f4 fun _=>?_)<;>try refine ev_ ?_)|with_reducible exact ti_)
    | true =>
      rw[hu] at f4
      have e:appR s t=(putY s t,0):=by rw[appR,if_pos ht,if_neg hb,if_pos hu]
      rw[e,typA]
      repeat'(first|refine vs_ ?_|(refine vr_ ?_<;>try simp only[qtn,qbt,go_sem,↓reduceIte])|((first|(refine cs_ ?_ ?_<;>intro hc)|refine cj_ ?_|fail|refine qa f1 fun _=>?_|refine qa f2 fun _=>?_|refine qa f3 fun _=>?_|refine qa f4 fun _=>?_)<;>try refine ev_ ?_)|with_reducible exact ti_)
      omega
set_option maxRecDepth 4000

theorem q09{t acc s:List Pr}{i:Nat}(h:i<s.length):qfl t acc (s.drop i)=if(appR t (s.getD i R0).ty).2=0 then qfl t (acc++[⟨(s.getD i R0).v,(appR t (s.getD i R0).ty).1⟩]) (s.drop (i+1)) else([],(appR t (s.getD i R0).ty).2):=by rw[qccv h,qfl]
def thV(a:List Pr)(t:List Pr)(i:Nat):AV:=if i=0 then accV 0 (qz a) else .sl 4 (qz (addR a (t.take i)))
theorem qsv(a t:List Pr):thV a t 0=accV 0 (qz a):=rfl
theorem qcd5(a t:List Pr)(i:Nat):thV a t (i+1)=.sl 4 (qz (addR a (t.take (i+1)))):=rfl
theorem qbku(a t:List Pr){i:Nat}(h:i≠0):thV a t i=.sl 4 (qz (addR a (t.take i))):=if_neg h
def thE(a:List Pr)(i:Nat):List Ent:=if i=0 then accE 4 (qz a) else []
theorem qqv(a:List Pr):thE a 0=accE 4 (qz a):=rfl
theorem qb13(a:List Pr)(i:Nat):thE a (i+1)=[]:=rfl
theorem qbln(a:List Pr){i:Nat}(h:i≠0):thE a i=[]:=if_neg h
def rtS1(s t:List Pr)(x:Nat×List Pr):AF×List Ent:=(⟨[(0,.sl 4 (qz s)),(1,.sl 4 (qz t)),(6,accV 0 (qz x.2)),(7,.int .i64 x.1)],[]⟩,accE 4 (qz x.2))
def rtS2(s t a:List Pr)(i:Nat):AF×List Ent:=(⟨[(0,.sl 4 (qz s)),(1,.sl 4 (qz t)),(6,thV a t i),(10,.int .i64 i)],[]⟩,thE a i)
set_option maxHeartbeats 2000000 in
theorem qs0{s t a:List Pr}(h1:a.length≤40000)(ht:qblr t)(h2:t.length≤40000)(hml:t.length≤maxLen):VI Tryz.prog none 65 0 (.loop qyt) (blq 2 (sq Tryz.prog none 65 0 (k0dy_r18.seq IC.ret)
 (retq 0 [(RV.t 4,Co.sl 4),(RV.t 5,Co.id)] fun H' o=>o=VO.val (rowA (addR a t,0))))) (rtS2 s t a 0).1 (rtS2 s t a 0).2:=by
 refine qk (S:=Nat) (fun i=>i≤t.length) (rtS2 s t a) (fun i=>t.length-i) ?_ fun i hi=>?_
 ·by_cases hn:a=[]
  ·subst hn
   refine qg 0 [] (Nat.zero_le _) rfl (by simp) ?_ ?_ ?_<;>simp only[rtS2,qsv,qqv,qdj,qq,qw]<;>(try refine ev_ ?_)<;>(try with_reducible exact ti_)<;>(try simp (disch:=omega) only[qb,and_true,true_and])
  ·have hne:=qhw hn
   refine qg 0 [0] (Nat.zero_le _) (by simp[rtS2,qqv,qbc hne,qbcj]) (by simp) ?_ ?_ ?_<;>simp only[rtS2,qsv,qqv,q7 hne,qbc hne,qbk]<;>(try refine ev_ ?_)<;>(try with_reducible exact ti_)<;>(try simp (disch:=omega) only[qb,and_true,true_and])
 have hlen:=qlo (t.take i) a
 rw[List.length_take] at hlen
 unfold rtS2
 by_cases hlt:i<t.length
 ·have hp:=ht _ (qfa hlt)
  have f:=q4m (s:=addR a (t.take i)) (v:=(t.getD i R0).v) (by omega) hp.1 hp.2
  have hstep:=qrq hlt a
  by_cases h0:i=0
  ·subst h0
   rw[List.take_zero,addR] at f hstep
   by_cases hn:a=[]
   ·subst hn
    simp only[qsv,qqv,qdj,qq,qw]
    repeat'(first|refine vs_ ?_|(refine vr_ ?_<;>try simp (disch:=first|omega|(simp only[List.length_set,List.length_append,List.length_cons,List.length_nil];try omega)) only[qs,qb,qfe,qbt,go_sem,↓reduceIte])|((first|simp (disch:=omega) only[qs]|simp (disch:=omega) only[rowA]|(refine cs_ ?_ ?_<;>intro hc)|refine cj_ ?_|refine qa f fun _=>?_|refine qc f ?_)<;>try refine ev_ ?_)|with_reducible exact ti_)
    ·refine qg 1 [] ⟨by omega,by omega⟩ rfl (by simp) ?_ ?_ ?_<;>simp only[rtS2,qcd5,qb13,hstep]<;>(try refine ev_ ?_)<;>(try with_reducible exact ti_)<;>(try simp (disch:=omega) only[qb,and_true,true_and])
     all_goals first | rfl | (rw[qkj])
    ·omega
   ·have hne:=qhw hn
    simp only[qsv,qqv,q7 hne,qbc hne,qbk]
    repeat'(first|refine vs_ ?_|(refine vr_ ?_<;>try simp (disch:=first|omega|(simp only[List.length_set,List.length_append,List.length_cons,List.length_nil];try omega)) only[qs,qb,qfe,qbk,go_sem,↓reduceIte])|((first|simp (disch:=omega) only[qs]|simp (disch:=omega) only[rowA]|(refine cs_ ?_ ?_<;>intro hc)|refine cj_ ?_|refine qa f fun _=>?_|refine qc f ?_)<;>try refine ev_ ?_)|with_reducible exact ti_)
    ·refine qg 1 [] ⟨by omega,by omega⟩ (by simp[qbcj]) (by simp) ?_ ?_ ?_<;>simp only[rtS2,qcd5,qb13,hstep]<;>(try refine ev_ ?_)<;>(try with_reducible exact ti_)<;>(try simp (disch:=omega) only[qb,and_true,true_and])
     all_goals first | rfl | (rw[qkj])
    ·omega
  ·simp only[qbku a t h0,qbln a h0]
   repeat'(first|refine vs_ ?_|(refine vr_ ?_<;>try simp (disch:=first|omega|(simp only[List.length_set,List.length_append,List.length_cons,List.length_nil];try omega)) only[qs,qb,qfe,go_sem,↓reduceIte])|((first|simp (disch:=omega) only[qs]|simp (disch:=omega) only[rowA]|(refine cs_ ?_ ?_<;>intro hc)|refine cj_ ?_|refine qa f fun _=>?_|refine qc f ?_)<;>try refine ev_ ?_)|with_reducible exact ti_)
   ·refine qg (i+1) [] ⟨by omega,by omega⟩ rfl (by simp) ?_ ?_ ?_<;>simp only[rtS2,qcd5,qb13,hstep]<;>(try refine ev_ ?_)<;>(try with_reducible exact ti_)<;>(try simp (disch:=omega) only[qb,and_true,true_and])
   ·omega
 ·have hti:t.take i=t:=List.take_of_length_le (by omega)
  by_cases h0:i=0
  ·subst h0
   have ht0:t=[]:=List.length_eq_zero_iff.1 (by omega)
   subst ht0
   rw[addR,rowA]
   by_cases hn:a=[]
   ·subst hn
    simp only[qsv,qqv,qdj,qq,qw]
    repeat'(first|refine vs_ ?_|(refine vr_ ?_<;>try simp only[qbt,go_sem,↓reduceIte])|((first|(refine cs_ ?_ ?_<;>intro hc)|refine cj_ ?_)<;>try refine ev_ ?_)|with_reducible exact ti_)
    ·omega
   ·have hne:=qhw hn
    simp only[qsv,qqv,q7 hne,qbc hne,qbk]
    repeat'(first|refine vs_ ?_|(refine vr_ ?_<;>try simp only[qbk,go_sem,↓reduceIte])|((first|(refine cs_ ?_ ?_<;>intro hc)|refine cj_ ?_)<;>try refine ev_ ?_)|with_reducible exact ti_)
    ·omega
  ·simp only[qbku a t h0,qbln a h0,hti,rowA]
   repeat'(first|refine vs_ ?_|((first|refine vr_ ?_|(refine cs_ ?_ ?_<;>intro hc)|refine cj_ ?_)<;>try refine ev_ ?_)|with_reducible exact ti_)
   ·omega
set_option maxHeartbeats 2000000 in
theorem qpw{s t:List Pr}(hs:okS s)(ht:okS t)(h1:s.length≤40000)(h2:t.length≤40000):qj Tryz.prog 74 [.sl 4 (qz s),.sl 4 (qz t)] (rowA (behR s t)):=by
 refine qd c0dy (by simp) (by simp only[go_sem]) (qkz _ _) fun hw=>?_
 have hml:=(qlp hw.1).1
 have hmt:=(qlp hw.2.1).1
 repeat'(first|refine vs_ ?_|((first|refine vr_ ?_|(refine cs_ ?_ ?_<;>intro hc)|refine cj_ ?_)<;>try refine ev_ ?_)|with_reducible exact ti_)
 refine qk (S:=Nat×List Pr) (fun x=>x.1≤s.length∧qfl t x.2 (s.drop x.1)=qfl t [] s∧x.2.length=x.1) (rtS1 s t) (fun x=>s.length-x.1) ?_ fun x hx=>?_
 ·refine qg (0,[]) [] ⟨Nat.zero_le _,rfl,rfl⟩ rfl (by simp) ?_ ?_ ?_<;>simp only[rtS1,qdj,qq,qw]<;>(try refine ev_ ?_)<;>(try with_reducible exact ti_)<;>(try simp (disch:=omega) only[qb,and_true,true_and])
 ·obtain⟨i,a⟩:=x
  obtain⟨hi,ha,hq⟩:=hx
  dsimp only at hi ha hq
  have hcap1:qbi 1 56=True:=eq_true (capR (by omega))
  have hcap:qbi (a.length+1) 56=True:=eq_true (capR (by omega))
  unfold rtS1
  by_cases hlt:i<s.length
  ·have hp:=qob hs _ (qfa hlt)
   have f:=qe3 ht hp.1 hp.2
   rw[q09 hlt] at ha
   by_cases he:(appR t (s.getD i R0).ty).2=0
   ·rw[if_pos he] at ha
    by_cases h0:a=[]
    ·subst h0
     simp only[qdj,qq,qw,List.nil_append] at ha ⊢
     repeat'(first|refine vs_ ?_|(refine vr_ ?_<;>try simp (disch:=first|omega|(simp only[List.length_set,List.length_append,List.length_cons,List.length_nil];try omega)) only[qs,qb,qfe,he,qj0,go_sem,↓reduceIte])|((first|simp (disch:=omega) only[qs]|simp (disch:=omega) only[typA]|simp (disch:=omega) only[he]|simp (disch:=omega) only[hcap1]|(refine cs_ ?_ ?_<;>intro hc)|refine cj_ ?_|refine qa f fun _=>?_|refine qc f ?_)<;>try refine ev_ ?_)|with_reducible exact ti_)
     ·have hi0:i=0:=by rw[←hq];rfl
      refine qg (i+1,[⟨(s.getD i R0).v,(appR t (s.getD i R0).ty).1⟩]) [1] ⟨⟨by dsimp only;omega,ha,by simp;omega⟩,by dsimp only;omega⟩ rfl (by simp) ?_ ?_ ?_<;>simp only[rtS1,←q8s,qc7,qej]<;>(try refine ev_ ?_)<;>(try with_reducible exact ti_)<;>(try simp (disch:=omega) only[qb,and_true,true_and])
     ·omega
    ·have hne:=qhw h0
     simp only[q7 hne,qbc hne,qbk]
     repeat'(first|refine vs_ ?_|(refine vr_ ?_<;>try simp (disch:=first|omega|(simp only[List.length_set,List.length_append,List.length_cons,List.length_nil];try omega)) only[qs,qb,qfe,he,qj0,qbk,go_sem,↓reduceIte])|((first|simp (disch:=omega) only[qs]|simp (disch:=omega) only[typA]|simp (disch:=omega) only[he]|simp (disch:=omega) only[hcap]|(refine cs_ ?_ ?_<;>intro hc)|refine cj_ ?_|refine qa f fun _=>?_|refine qc f ?_)<;>try refine ev_ ?_)|with_reducible exact ti_)
     ·refine qg (i+1,a++[⟨(s.getD i R0).v,(appR t (s.getD i R0).ty).1⟩]) [2] ⟨⟨by dsimp only;omega,ha,by simp;omega⟩,by dsimp only;omega⟩ rfl (by simp) ?_ ?_ ?_<;>simp only[rtS1,←qkk,qcm,qdh,qbk]<;>(try refine ev_ ?_)<;>(try with_reducible exact ti_)<;>(try simp (disch:=omega) only[qb,and_true,true_and])
      all_goals(simp only[qkk];exact⟨qcd _ _,by rw[qi5]⟩)
     ·omega
   ·rw[if_neg he] at ha
    have e:behR s t=([],(appR t (s.getD i R0).ty).2):=by rw[behR,←ha,if_neg he]
    rw[e,rowA]
    by_cases h0:a=[]
    ·subst h0
     simp only[qdj,qq,qw]
     repeat'(first|refine vs_ ?_|(refine vr_ ?_<;>try simp (disch:=first|omega|(simp only[List.length_set,List.length_append,List.length_cons,List.length_nil];try omega)) only[qs,qb,qfe,he,qbt,go_sem,↓reduceIte])|((first|simp (disch:=omega) only[qs]|simp (disch:=omega) only[typA]|simp (disch:=omega) only[he]|(refine cs_ ?_ ?_<;>intro hc)|refine cj_ ?_|refine qa f fun _=>?_|refine qc f ?_)<;>try refine ev_ ?_)|with_reducible exact ti_)
     ·omega
    ·have hne:=qhw h0
     simp only[q7 hne,qbc hne,qbk]
     repeat'(first|refine vs_ ?_|(refine vr_ ?_<;>try simp (disch:=first|omega|(simp only[List.length_set,List.length_append,List.length_cons,List.length_nil];try omega)) only[qs,qb,qfe,he,qbk,qbt,go_sem,↓reduceIte])|((first|simp (disch:=omega) only[qs]|simp (disch:=omega) only[typA]|simp (disch:=omega) only[he]|(refine cs_ ?_ ?_<;>intro hc)|refine cj_ ?_|refine qa f fun _=>?_|refine qc f ?_)<;>try refine ev_ ?_)|with_reducible exact ti_)
     ·rfl
     ·omega
  ·have hthen:qfl t [] s=(a,0):=by rw[←ha,List.drop_of_length_le (by omega),qfl]
   have e:behR s t=(addR a t,0):=by rw[behR,hthen,if_pos rfl]
   rw[e]
   by_cases h0:a=[]
   ·subst h0
    simp only[qdj,qq,qw]
    repeat'(first|refine vs_ ?_|((first|refine vr_ ?_|(refine cs_ ?_ ?_<;>intro hc)|refine cj_ ?_)<;>try refine ev_ ?_)|with_reducible exact ti_)
    ·omega
    refine qs2 (qs0 (s:=s) (t:=t) (a:=[]) (by omega) (qob ht) h2 hmt) (qrx [] rfl (by simp) ?_ ?_ ?_)<;>simp only[rtS2,qsv,qqv,qdj,qq,qw]<;>(try refine ev_ ?_)<;>(try with_reducible exact ti_)<;>(try simp (disch:=omega) only[qb,and_true,true_and])
   ·have hne:=qhw h0
    simp only[q7 hne,qbc hne,qbk]
    repeat'(first|refine vs_ ?_|((first|refine vr_ ?_|(refine cs_ ?_ ?_<;>intro hc)|refine cj_ ?_)<;>try refine ev_ ?_)|with_reducible exact ti_)
    ·omega
    refine qs2 (qs0 (s:=s) (t:=t) (a:=a) (by omega) (qob ht) h2 hmt) (qrx [0] rfl (by simp) ?_ ?_ ?_)<;>simp only[rtS2,qsv,qqv,q7 hne,qbc hne,qbk]<;>(try refine ev_ ?_)<;>(try with_reducible exact ti_)<;>(try simp (disch:=omega) only[qb,and_true,true_and])
end Go.Proofs.YtkenggenkmfopaaGreat
