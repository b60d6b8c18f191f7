/- Texts of this proof, joined. -/
import Derived.Test.YtkenggenkmfopaaGreatIba
import Derived.Test.YtkenggenkmfopaaGreatIav
set_option linter.unusedVariables false
set_option linter.unusedSimpArgs false

/- substitutions: put into a type, walked -/
set_option maxRecDepth 4000
namespace Go.Proofs.YtkenggenkmfopaaGreat
open Go Go.RowKit Go.V

theorem qmq{f:FuncId}{args:List AV}{r r':AV}(h:qp Tryz.prog f args r)(e:r=r'):qp Tryz.prog f args r':=e ▸ h
abbrev blE(b:Bool)(c:Nat)(lf:Int):Ent:=.blk [svA b c,.int .i64 lf]
theorem qcex(b:Bool)(c:Nat)(lf:Int)(n:Nat)(h:c<n):(blE b c lf).bd n=true:=by simp only[blE,Ent.bd,AV.bds,qba1 b c n h,AV.bd,Bool.and_true]
theorem q4f(b:Bool)(c:Nat)(lf:Int)(σ:Nat->Nat):(blE b c lf).ren σ=blE b (σ c) lf:=by simp only[blE,Ent.ren,AV.rens,qx9,AV.ren]
abbrev putF:FuncId:=84
def qcda(R:World->(Nat->Nat->Prop)->Gh->Prop)(b:Bool)(t:Ty)(lf k lf':Int)(t':Ty):Prop :=
 VCalls Tryz.prog putF [blE b 1 lf,.cus R] [.ptr 0 0,encY t,.int .i64 k] fun H' o=>H'=[blE b 1 lf',.cus R]∧o=.val (encY t')
section
variable {R:World->(Nat->Nat->Prop)->Gh->Prop} {b:Bool} {s:List Pr} {t t':Ty} {lf k lf':Int} {H:List Ent} {Q:List Ent->VO->Prop}
theorem qwk(a c:Nat)(h:qcda R b t lf k lf' t')(hac:a≠c)(hq:Q (H.set a (blE b c lf')) (.val (encY t')))(h0:ent H a=blE b c lf:=by rfl)(h1:ent H c=.cus R:=by rfl)(ha:a<H.length:=by simp)(hc:c<H.length:=by simp):
 VApp Tryz.prog H (.fn putF [] []) [.ptr a 0,encY t,.int .i64 k] Q:=by
 refine qb1 ?_
 rw[List.nil_append,List.append_nil]
 refine qbr [a,c] h (by simp[hac]) ⟨⟨ha,qcex _ _ _ _ (by simp),by rw[h0,q4f];rfl⟩,⟨hc,rfl,by rw[h1];rfl⟩,trivial⟩ (by simp only[AV.bds,AV.bd,q8,Bool.and_true];rfl) (by simp only[AV.rens,AV.ren,qgk];rfl) fun H1 o ho=>?_
 obtain⟨rfl,rfl⟩:=ho
 have e1:qds H [a,c] [blE b 1 lf',.cus R]=H.set a (blE b c lf'):=by
  show((H.set a ((blE b 1 lf').ren _)).set c (.cus R))++[]=_
  rw[List.append_nil,q4f]
  have h1':ent (H.set a (blE b (sg' [a,c] H.length 1) lf')) c=.cus R:=by
   rw[←h1]
   exact qb9 hac
  exact qcs h1' (by simpa using hc)
 rw[e1]
 simp only[VO.ren,qgk]
 exact hq
theorem qbto(hG:VM Tryz.prog 123 (.cus R) (.cus R) [svA b 0,.int .i64 k] (getV s k)){K:Md->AV->List Ent->Prop}{raws:List AV}(hq:K (.meth 1 (.cus R) (.cus R)) (getV s k) H)(h1:ent H 1=.cus R:=by rfl)(hl:1<H.length:=by simp):
 DApp Tryz.prog H (.fn 123 [] []) [svA b 1,.int .i64 k] raws K:=by
 refine .inr (.inr (.inl ⟨getV s k,1,.cus R,.cus R,⟨by simp,h1,fun H₀ h0=>?_⟩,?_⟩))
 ·have hl0:=(List.getElem?_eq_some_iff.1 (qba h0 (by simp))).1
  exact qcw 1 hG ⟨rfl,rfl⟩ rfl rfl hl0 h0 (qb03 0 _ _) (by simp only[AV.rens,qx9,AV.ren];rfl) (by simp only[AV.bds,qba1 b 0 1 (by omega),AV.bd,Bool.and_true])
 ·rw[qcs h1 hl]
  exact hq
end
theorem q2y{l:List Ty}{i:Nat}(h:i<l.length):l.take (i+1)=l.take i++[l.getD i Y0]:=by
 rw[List.take_add_one,List.getD_eq_getElem?_getD,List.getElem?_eq_getElem h];rfl
def plSt(R:World->(Nat->Nat->Prop)->Gh->Prop)(b:Bool)(s:List Pr)(t:Ty)(lf k:Int)(i:Nat):AF×List Ent :=
 (⟨[(0, .ptr 0 0), (2, .int .i64 k), (4, .ptr 2 0), (6, .ptr 3 0), (9, .row 4 t.args.length), (57, .int .i64 t.args.length), (58, .int .i64 i)], []⟩,
   [blE b 1 (brun s (t.args.take i) (lf-1) (k+1)).1,.cus R,.blk (yc t),.blk [.str [],.int .i64 0,.nils],.mrow 3 (gE (brun s (t.args.take i) (lf-1) (k+1)).2 t.args.length)])
theorem qb89{R:World->(Nat->Nat->Prop)->Gh->Prop}{b:Bool}{s:List Pr}(hG:∀v,VM Tryz.prog 123 (.cus R) (.cus R) [svA b 0,.int .i64 v] (getV s v))(hs:okR s):
 ∀t,bare t->szY t≤20000->∀lf k:Int,0≤lf->lf≤4096->0≤k->k+dpY t≤1000->qcda R b t lf k (bput s t lf k).1 (bput s t lf k).2:=by
 refine Ty.ind fun t ih hb hz lf k h0 h1 h2 h3=>?_
 refine qd c0db 2 (by simp) (by simp) ?_
 rw[qb6h]
 rw[qbwi] at hb
 have hsz:=qll t
 have hal:=qjv t.args
 have w1:IntKind.i64.wrap (lf-1)=lf-1:=qz (by omega) (by omega)
 by_cases hc:t.con=[]
 ·have hcd:decide (t.con=[])=true:=decide_eq_true hc
  have hargs:=hb.1 hc
  rw[if_pos hc]
  cases hlk:q6 t.var s with
  | some u =>
    have hu:=qzm hs hlk
    have hg:getV s t.var=.tup [encY u,.bool true]:=by rw[getV,hlk];rfl
    have hS:qp Tryz.prog 124 [encY u] (.int .i64 (szY u)):=qmq (q3y u) (by rw[qvx u 0 1 (by omega) (by omega)];simp)
    have hD:qp Tryz.prog 125 [encY u] (.int .i64 (dpY u)):=qmq (qxn u) (by rw[qte u 0 1 (by omega) (by omega) (by omega)];simp only;congr 1;omega)
    have hcp:=qfg u (by omega)
    have w2:IntKind.i64.wrap (lf-szY u)=lf-szY u:=qz (by omega) (by omega)
    have w3:IntKind.i64.wrap (k+dpY u)=k+dpY u:=qz (by omega) (by omega)
    simp only
    by_cases hd:101<k+dpY u
    ·rw[if_pos hd]
     have hdd:decide (101<k+(dpY u:Int))=true:=decide_eq_true hd
     repeat'(first|refine vs_ ?_|(refine vr_ ?_<;>try simp only[hcd,hg,w2,w3,hdd,go_sem,↓reduceIte])|((first|simp (disch:=omega) only[hg]|(refine cs_ ?_ ?_<;>intro hc)|refine cj_ ?_|simp (disch:=omega) only[qa,qc]|refine qb hS fun _=>?_|refine qb hD fun _=>?_|refine qb hcp fun _=>?_|refine qbto (hG _) ?_|refine qf hS ?_|refine qf hD ?_|refine qf hcp ?_)<;>try refine ev_ ?_)|with_reducible exact ti_)
    ·rw[if_neg hd]
     have hdd:decide (101<k+(dpY u:Int))=false:=decide_eq_false hd
     repeat'(first|refine vs_ ?_|(refine vr_ ?_<;>try simp only[hcd,hg,w2,w3,hdd,go_sem,↓reduceIte])|((first|simp (disch:=omega) only[hg]|(refine cs_ ?_ ?_<;>intro hc)|refine cj_ ?_|simp (disch:=omega) only[qa,qc]|refine qb hS fun _=>?_|refine qb hD fun _=>?_|refine qb hcp fun _=>?_|refine qbto (hG _) ?_|refine qf hS ?_|refine qf hD ?_|refine qf hcp ?_)<;>try refine ev_ ?_)|with_reducible exact ti_)
  | none =>
    have hg:getV s t.var=.tup [encY Y0,.bool false]:=by rw[getV,hlk];rfl
    have hbp:qdr s t.args (lf-1) (k+1)=(lf-1,some []):=by rw[hargs,qdr]
    rw[hbp]
    have hal0:t.args.length=0:=by rw[hargs];rfl
    repeat'(first|refine vs_ ?_|(refine vr_ ?_<;>try simp only[hcd,hg,w1,go_sem,↓reduceIte])|((first|simp (disch:=omega) only[hg]|(refine cs_ ?_ ?_<;>intro hc)|refine cj_ ?_|simp (disch:=omega) only[qa,qc]|refine qbto (hG _) ?_)<;>try refine ev_ ?_)|with_reducible exact ti_)
    refine qo (S:=Unit) (fun _=>True) (fun _=>(⟨[(0,.ptr 0 0),(2,.int .i64 k),(4,.ptr 2 0),(6,.ptr 3 0),(9,.row 5 t.args.length),(57,.int .i64 t.args.length),(58,.int .i64 (0:Nat))],[]⟩,[blE b 1 (lf-1),.cus R,.blk (yc t),.blk [.str [],.int .i64 0,.nils],.blk (yc Y0),.mrow 3 (gE [] t.args.length)])) (fun _=>0) ?_ fun x hx=>?_
    ·refine qj () [0,1,2,3,4,5] trivial rfl (by simp) ?_ ?_ ?_<;>simp only[gE_0,zY]<;>(try refine ev_ ?_)<;>(try with_reducible exact ti_)<;>(try simp (disch:=omega) only[qc,and_true,true_and])
     all_goals
      rw[show List.replicate t.args.length (AV.agg [AV.str [],AV.int IntKind.i64 0,AV.nils])=gE [] t.args.length from rfl]
      exact⟨qx2 _ _ _,by rw[qp6]⟩
    ·rw[show gE [] t.args.length=qh [] by rw[hal0];rfl]
     refine qcp 5 rfl (qf2 _) ?_
     repeat'(first|refine vs_ ?_|((first|refine vr_ ?_|(refine cs_ ?_ ?_<;>intro hc)|refine cj_ ?_|simp (disch:=omega) only[qa,qc])<;>try refine ev_ ?_)|with_reducible exact ti_)
     all_goals try(exfalso;omega)
     all_goals
      rw[if_pos hal0.symm]
      exact⟨by simp only[AV.bd,qbd],rfl⟩
 ·have hcd:decide (t.con=[])=false:=decide_eq_false hc
  rw[if_neg hc]
  have hk1:IntKind.i64.wrap (k+1)=k+1:=qz (by omega) (by omega)
  simp only
  repeat'(first|refine vs_ ?_|(refine vr_ ?_<;>try simp only[hcd,w1,go_sem,↓reduceIte])|((first|(refine cs_ ?_ ?_<;>intro hc)|refine cj_ ?_|simp (disch:=omega) only[qa,qc])<;>try refine ev_ ?_)|with_reducible exact ti_)
  refine⟨⟨by omega,by unfold maxLen;omega⟩,?_⟩
  repeat'(first|refine vs_ ?_|(refine vr_ ?_<;>try simp only[hcd,w1,go_sem,↓reduceIte])|((first|(refine cs_ ?_ ?_<;>intro hc)|refine cj_ ?_|simp (disch:=omega) only[qa,qc])<;>try refine ev_ ?_)|with_reducible exact ti_)
  refine qo (S:=Nat) (fun i=>i≤t.args.length∧∀j,j<i->0≤(brun s (t.args.take j) (lf-1) (k+1)).1) (plSt R b s t lf k) (fun i=>t.args.length-i) ?_ fun i hi=>?_
  ·refine qj 0 [0,1,2,3,4] ⟨Nat.zero_le _,fun j hj=>by omega⟩ rfl (by simp) ?_ ?_ ?_<;>simp only[plSt,List.take_zero,brun,gE_0,zY]<;>(try refine ev_ ?_)<;>(try with_reducible exact ti_)<;>(try simp (disch:=omega) only[qc,and_true,true_and])
   all_goals
    rw[show List.replicate t.args.length (AV.agg [AV.str [],AV.int IntKind.i64 0,AV.nils])=gE [] t.args.length from rfl]
    exact⟨qx2 _ _ _,by rw[qp6]⟩
  ·obtain⟨hi,hpos⟩:=hi
   have htl:(t.args.take i).length=i:=by rw[List.length_take];omega
   have hrng:=qzf hs (k+1) (t.args.take i) (lf-1) (fun j hj=>by
    rw[htl] at hj
    rw[List.take_take,Nat.min_eq_left (by omega)]
    exact hpos j hj) (by omega) (by omega)
   have hbl:=qy7 s (t.args.take i) (lf-1) (k+1)
   rw[htl] at hbl
   unfold plSt
   by_cases hlt:i<t.args.length
   ·have hsn:=qu9 s (t.args.getD i Y0) (k+1) (t.args.take i) (lf-1)
    rw[←q2y hlt] at hsn
    obtain⟨B,hB⟩:∃B,brun s (t.args.take i) (lf-1) (k+1)=B:=⟨_,rfl⟩
    have hpi:(brun s (t.args.take i) (lf-1) (k+1)).1=B.1:=by rw[hB]
    by_cases hneg:B.1<0
    ·rw[q26 hlt hpos (by rw[hB];exact hneg)]
     rw[hB]
     have hnd:decide (B.1<0)=true:=decide_eq_true hneg
     repeat'(first|refine vs_ ?_|(refine vr_ ?_<;>try simp (disch:=first|omega|(simp only[List.length_set,List.length_append,List.length_cons,List.length_nil];try omega)) only[hnd,qc,go_sem,↓reduceIte])|((first|(refine cs_ ?_ ?_<;>intro hc)|refine cj_ ?_|simp (disch:=omega) only[qa,qc])<;>try refine ev_ ?_)|with_reducible exact ti_)
     all_goals(exfalso;omega)
    ·have hnd:decide (B.1<0)=false:=decide_eq_false hneg
     have hm:=qcn hlt
     have hszm:=qot hm
     have hdpm:=qxb hm
     have hput:=ih _ hm (qtv hb.2 _ hm) (by omega) B.1 (k+1) (by omega) (by rw[hB] at hrng;omega) (by omega) (by have:=qz1 t;omega)
     rw[hB] at hsn hbl ⊢
     have hset:=qbln (o:=B.2) (n:=t.args.length) (by omega) (bput s (t.args.getD i Y0) B.1 (k+1)).2
     rw[hbl] at hset
     have hgl:=qblk (o:=B.2) (n:=t.args.length) (by omega)
     repeat'(first|refine vs_ ?_|(refine vr_ ?_<;>try simp (disch:=first|omega|(simp only[List.length_set,List.length_append,List.length_cons,List.length_nil];try omega)) only[hnd,qbb,qc,hk1,go_sem,↓reduceIte])|((first|(refine cs_ ?_ ?_<;>intro hc)|refine cj_ ?_|simp (disch:=omega) only[qa,qc]|refine qwk 0 1 hput (by simp) ?_)<;>try refine ev_ ?_)|with_reducible exact ti_)
     ·have hnn:∀j,j<i+1->0≤(brun s (t.args.take j) (lf-1) (k+1)).1:=fun j hj=>by
       by_cases hji:j=i
       ·subst hji
        rw[hB];omega
       ·exact hpos j (by omega)
      refine qj (i+1) [0,1,2,3,4] ⟨⟨by omega,hnn⟩,by omega⟩ rfl (by simp) ?_ ?_ ?_<;>simp only[hsn,←hset]<;>(try refine ev_ ?_)<;>(try with_reducible exact ti_)<;>(try simp (disch:=omega) only[qc,and_true,true_and])
      ·rw[hset];exact⟨qx2 _ _ _,by rw[qp6]⟩
      ·rw[qz (by omega) (by omega),Int.natCast_add];rfl
     ·exfalso;omega
   ·have hie:i=t.args.length:=by omega
    subst hie
    rw[q91 hpos]
    rw[List.take_length] at hbl ⊢
    obtain⟨B,hB⟩:∃B,brun s t.args (lf-1) (k+1)=B:=⟨_,rfl⟩
    rw[hB] at hbl ⊢
    rw[show gE B.2 t.args.length=qh B.2 by rw[←hbl,qblj]]
    refine qcp 4 rfl (qf2 _) ?_
    repeat'(first|refine vs_ ?_|((first|refine vr_ ?_|(refine cs_ ?_ ?_<;>intro hc)|refine cj_ ?_|simp (disch:=omega) only[qa,qc])<;>try refine ev_ ?_)|with_reducible exact ti_)
    all_goals try(exfalso;omega)
    all_goals
     rw[if_pos hbl]
     exact⟨by simp only[AV.bd,qbd],rfl⟩
set_option maxRecDepth 4000

theorem qnc:∀(l s:List Pr) (p:Pr),addR s (l++[p])=(setR (addR s l) p.v p.ty).1
 | [],s,p=>rfl
 | x::l,s,p=>by rw[List.cons_append,addR,addR,qnc l]
theorem qpm{l:List Pr}{i:Nat}(h:i<l.length):l.take (i+1)=l.take i++[l.getD i R0]:=by
 rw[List.take_add_one,List.getD_eq_getElem?_getD,List.getElem?_eq_getElem h];rfl
theorem q9e{l:List Pr}{i:Nat}(h:i<l.length)(s:List Pr):addR s (l.take (i+1))=(setR (addR s (l.take i)) (l.getD i R0).v (l.getD i R0).ty).1:=by rw[qpm h,qnc]
set_option maxRecDepth 4000

set_option maxRecDepth 4000

set_option maxRecDepth 4000

theorem qkj{l:List Pr}{i:Nat}(h:i<l.length):l.take (i+1)=l.take i++[l.getD i R0]:=by
 rw[List.take_add_one,List.getD_eq_getElem?_getD,List.getElem?_eq_getElem h];rfl
def smlR(l:List Pr):Prop:=∀p∈l,szY p.ty≤20000∧dpY p.ty≤300
theorem qtl{l:List Pr}(hs:smlR l)(hl:l.length≤100000):VCalls Tryz.prog 39 [] [.sl 4 (qck l)] fun H' o=>H'=[subE (newR l)]∧o=.val (.ptr 0 0):=by
 refine qd c0da 1 (by simp) (by simp) ?_
 repeat'(first|refine vs_ ?_|((first|refine vr_ ?_|(refine cs_ ?_ ?_<;>intro hc)|refine cj_ ?_|simp (disch:=omega) only[qa,qc])<;>try refine ev_ ?_)|with_reducible exact ti_)
 refine qyh 0 rfl rfl ?_
 refine qo (S:=Nat) (fun i=>i≤l.length) (fun i=>(⟨[(3,.ptr 0 0),(8,.sl 4 (qck l)),(9,.int .i64 l.length),(10,.int .i64 i)],[]⟩,[subE (newR (l.take i))])) (fun i=>l.length-i) ?_ fun i hi=>?_
 ·refine qj 0 [0] (Nat.zero_le _) rfl (by simp) ?_ ?_ ?_<;>simp only[List.take_zero,newR,addR,qmo]<;>(try refine ev_ ?_)<;>(try with_reducible exact ti_)<;>(try simp (disch:=omega) only[qc,and_true,true_and])
  all_goals rfl
 ·by_cases hlt:i<l.length
  ·have hok:=qkp (l.take i)
   have hln:=qbgz (l.take i)
   rw[List.length_take] at hln
   have hm:=hs _ (qhz hlt)
   have hn:newR (l.take (i+1))=(setR (newR (l.take i)) (l.getD i R0).v (l.getD i R0).ty).1:=by rw[qkj hlt,newR,qnc];rfl
   have hp:=qc3 hlt
   repeat'(first|refine vs_ ?_|(refine vr_ ?_<;>try simp (disch:=first|omega|(simp only[List.length_set,List.length_append,List.length_cons,List.length_nil];try omega)) only[hp,qc,go_sem,↓reduceIte])|((first|simp (disch:=omega) only[hp]|(refine cs_ ?_ ?_<;>intro hc)|refine cj_ ?_|simp (disch:=omega) only[qa,qc]|refine qcw 0 (qld hok.1 (by omega) _ hm.1 hm.2) ?_)<;>try refine ev_ ?_)|with_reducible exact ti_)
   ·refine qj (i+1) [0] ⟨by omega,by omega⟩ rfl (by simp) ?_ ?_ ?_<;>simp only[hn]<;>(try refine ev_ ?_)<;>(try with_reducible exact ti_)<;>(try simp (disch:=omega) only[qc,and_true,true_and])
    all_goals rw[qz (by omega) (by omega),Int.natCast_add];rfl
   ·exfalso;omega
  ·have hie:i=l.length:=by omega
   subst hie
   rw[List.take_length]
   repeat'(first|refine vs_ ?_|((first|refine vr_ ?_|(refine cs_ ?_ ?_<;>intro hc)|refine cj_ ?_|simp (disch:=omega) only[qa,qc])<;>try refine ev_ ?_)|with_reducible exact ti_)
   all_goals(exfalso;omega)
set_option maxRecDepth 4000

theorem quj{R:World->(Nat->Nat->Prop)->Gh->Prop}{b:Bool}{s:List Pr}(hG:∀v,VM Tryz.prog 123 (.cus R) (.cus R) [svA b 0,.int .i64 v] (getV s v))(hs:okS s){t:Ty}(h1:szY t≤20000)(h2:dpY t≤300):
 VM Tryz.prog 53 (.cus R) (.cus R) [svA b 0,encY t] (typA (appR s t)):=by
 refine qd c0cz 1 (by simp) (by simp) ?_
 have hLg:=qee h1 h2
 rw[←qcaq hs]
 by_cases hlg:qq t=true
 ·obtain⟨q1,q2,q3⟩:=(qbc t).1 hlg
  have hput:=qb89 hG (qb6p hs) t (qev t q3) h1 4096 1 (by omega) (by omega) (by omega) (by omega)
  rw[hlg] at hLg
  by_cases hn:(bput s t 4096 1).1<0
  ·have hnd:decide ((bput s t 4096 1).1<0)=true:=decide_eq_true hn
   rw[appP,if_pos hlg,if_pos hn]
   repeat'(first|refine vs_ ?_|(refine vr_ ?_<;>try simp only[hnd,go_sem,↓reduceIte])|((first|(refine cs_ ?_ ?_<;>intro hc)|refine cj_ ?_|fail|refine qb hLg fun _=>?_|refine qwk 3 0 hput (by simp) ?_)<;>try refine ev_ ?_)|with_reducible exact ti_)
   all_goals rfl
  ·have hnd:decide ((bput s t 4096 1).1<0)=false:=decide_eq_false hn
   rw[appP,if_pos hlg,if_neg hn]
   repeat'(first|refine vs_ ?_|(refine vr_ ?_<;>try simp only[hnd,go_sem,↓reduceIte])|((first|(refine cs_ ?_ ?_<;>intro hc)|refine cj_ ?_|fail|refine qb hLg fun _=>?_|refine qwk 3 0 hput (by simp) ?_)<;>try refine ev_ ?_)|with_reducible exact ti_)
   all_goals rfl
 ·rw[appP,if_neg hlg]
  have hlg:qq t=false:=by simpa using hlg
  rw[hlg] at hLg
  repeat'(first|refine vs_ ?_|((first|refine vr_ ?_|refine qb hLg fun _=>?_|(refine cs_ ?_ ?_<;>intro hc)|refine cj_ ?_)<;>try refine ev_ ?_)|with_reducible exact ti_)
  all_goals rfl
set_option maxRecDepth 4000

def zR:AV:=.agg [.int .i64 0,.str [],.int .i64 0,.nils]
def cpR(l:List Pr)(i:Nat):List AV:=qck (l.take i)++List.replicate (l.length-i) zR
theorem qb9a{l:List Pr}{i:Nat}(h:i≤l.length):(cpR l i).length=l.length:=by
 rw[cpR,List.length_append,qf8,List.length_take,List.length_replicate];omega
theorem qceg(l:List Pr):cpR l 0=List.replicate l.length zR:=by rw[cpR,List.take_zero,q9h,Nat.sub_zero];rfl
theorem qb3u(l:List Pr):cpR l l.length=qck l:=by rw[cpR,List.take_length,Nat.sub_self,List.replicate_zero,List.append_nil]
theorem q5x{l:List Pr}{i:Nat}(h:i<l.length):(cpR l i).set i (encR (l.getD i R0))=cpR l (i+1):=by
 have h2:(qck (l.take i)).length=i:=by rw[qf8,List.length_take];omega
 obtain⟨k,hk⟩:∃k,l.length-i=k+1:=⟨l.length-i-1,by omega⟩
 have hk2:l.length-(i+1)=k:=by omega
 rw[cpR,cpR,hk,hk2,List.replicate_succ,qkj h,←q3r,List.set_append_right _ _ (by omega),h2,Nat.sub_self,List.set_cons_zero,List.append_assoc]
 rfl
theorem qzi(k:Nat)(l:List Pr)(i:Nat):AV.bds k (cpR l i)=true:=by
 rw[cpR,qk8,qem,qb6]
 simp[zR,AV.bd,AV.bds]
theorem qxl(σ:Nat->Nat)(l:List Pr)(i:Nat):AV.rens σ (cpR l i)=cpR l i:=qs (m:=0) (fun i hi=>by omega) _ (qzi 0 l i)
attribute [go_sem] qzi qxl
theorem q7t:VCalls Tryz.prog 81 [.blk [.nils]] [.ptr 0 0] (qc9 fun H' o=>H'=[subE []]∧o=.val (.sl 4 (qck []))):=by
 refine qd c0cy 1 (by simp) (by simp) ?_
 repeat'(first|refine vs_ ?_|((first|refine vr_ ?_|(refine cs_ ?_ ?_<;>intro hc)|refine cj_ ?_|simp (disch:=omega) only[qa,qc])<;>try refine ev_ ?_)|with_reducible exact ti_)
 refine qo (S:=Unit) (fun _=>True) (fun _=>(⟨[(3,.row 1 0),(18,.int .i64 (0:Nat)),(19,.int .i64 (0:Nat))],[]⟩,[.blk [.nils],.mrow 4 []])) (fun _=>0) ?_ fun x hx=>?_
 ·refine qj () [0,1] trivial rfl (by simp) ?_ ?_ ?_<;>(try refine ev_ ?_)<;>(try with_reducible exact ti_)<;>(try simp (disch:=omega) only[qc,and_true,true_and])
  all_goals rfl
 ·refine qcp 1 rfl (fun v hv=>by simp at hv) ?_
  repeat'(first|refine vs_ ?_|((first|refine vr_ ?_|(refine cs_ ?_ ?_<;>intro hc)|refine cj_ ?_|simp (disch:=omega) only[qa,qc])<;>try refine ev_ ?_)|with_reducible exact ti_)
  ·exact absurd hc (by omega)
  ·exact qi3 rfl (by simp) rfl ⟨rfl,rfl⟩
theorem qbc9{s:List Pr}(hs:s≠[])(hl:s.length≤100000)(ho:smlR s):VCalls Tryz.prog 81 [.blk [.row 1 s.length],qcu s] [.ptr 0 0] (qc9 fun H' o=>H'=[subE s]∧o=.val (.sl 4 (qck s))):=by
 refine qd c0cy 2 (by simp) (by simp) ?_
 repeat'(first|refine vs_ ?_|((first|refine vr_ ?_|(refine cs_ ?_ ?_<;>intro hc)|refine cj_ ?_|simp (disch:=omega) only[qa,qc])<;>try refine ev_ ?_)|with_reducible exact ti_)
 have hm:s.length≤maxLen:=by unfold maxLen;omega
 refine⟨hm,⟨by omega,by omega⟩,?_⟩
 repeat'(first|refine vs_ ?_|((first|refine vr_ ?_|(refine cs_ ?_ ?_<;>intro hc)|refine cj_ ?_|simp (disch:=omega) only[qa,qc])<;>try refine ev_ ?_)|with_reducible exact ti_)
 refine qo (S:=Nat) (fun i=>i≤s.length) (fun i=>(⟨[(3,.row 2 s.length),(17,.row 1 s.length),(18,.int .i64 s.length),(19,.int .i64 i)],[]⟩,[.blk [.row 1 s.length],qcu s,.mrow 4 (cpR s i)])) (fun i=>s.length-i) ?_ fun i hi=>?_
 ·refine qj 0 [0,1,2] (Nat.zero_le _) rfl (by simp) ?_ ?_ ?_<;>simp only[qceg,zR]<;>(try refine ev_ ?_)<;>(try with_reducible exact ti_)<;>(try simp (disch:=omega) only[qc,and_true,true_and])
  all_goals
   rw[show List.replicate s.length (AV.agg [AV.int .i64 0,AV.str [],AV.int .i64 0,AV.nils])=cpR s 0 from(qceg _).symm]
   exact⟨qzi _ _ _,by rw[qxl]⟩
 ·by_cases hlt:i<s.length
  ·have hp:=qc3 hlt
   have hc:=qb9a hi
   have hcp:=qfg (s.getD i R0).ty (by have:=(ho _ (qhz hlt)).1;omega)
   repeat'(first|refine vs_ ?_|(refine vr_ ?_<;>try simp (disch:=first|omega|(simp only[List.length_set,List.length_append,List.length_cons,List.length_nil];try omega)) only[hp,qc,go_sem,↓reduceIte])|((first|simp (disch:=omega) only[hp]|(refine cs_ ?_ ?_<;>intro hc)|refine cj_ ?_|simp (disch:=omega) only[qa,qc]|refine qb hcp fun _=>?_|refine qf hcp ?_)<;>try refine ev_ ?_)|with_reducible exact ti_)
   ·refine qj (i+1) [0,1,2] ⟨by omega,by omega⟩ rfl (by simp) ?_ ?_ ?_<;>simp only[←q5x hlt]<;>(try refine ev_ ?_)<;>(try with_reducible exact ti_)<;>(try simp (disch:=omega) only[qc,and_true,true_and])
    all_goals(rw[q5x hlt];exact⟨qzi _ _ _,by rw[qxl]⟩)
   ·exfalso;omega
  ·have hie:i=s.length:=by omega
   subst hie
   rw[qb3u]
   refine qcp 2 rfl (qpo _) ?_
   repeat'(first|refine vs_ ?_|((first|refine vr_ ?_|(refine cs_ ?_ ?_<;>intro hc)|refine cj_ ?_|simp (disch:=omega) only[qa,qc])<;>try refine ev_ ?_)|with_reducible exact ti_)
   all_goals try(exfalso;omega)
   all_goals exact qe7 1 hs rfl rfl (by simp) (by simp) (by simp[AV.bd,qem]) ⟨rfl,rfl⟩
theorem qfv{s:List Pr}(hl:s.length≤100000)(ho:smlR s):VM Tryz.prog 81 (subE s) (subE s) [.ptr 0 0] (.sl 4 (qck s)):=by
 by_cases hs:s=[]
 ·subst hs
  exact qek (by rw[qmo];exact q7t) rfl
 ·exact qek (by have:=qbc9 hs hl ho;rwa [←qsw hs] at this) rfl
end Go.Proofs.YtkenggenkmfopaaGreat
