/- Texts of this proof, joined. -/
import Derived.Test.YtkenggenkmfopaaGreatFar
import Derived.Test.YtkenggenkmfopaaGreatFas
import Derived.Test.YtkenggenkmfopaaGreatFan
import Derived.Test.YtkenggenkmfopaaGreatFap
set_option linter.unusedVariables false
set_option linter.unusedSimpArgs false

/- substitutions: a type in new memory; the search; the row of pairs that a substitution is -/
set_option maxRecDepth 4000
namespace Go.Proofs.YtkenggenkmfopaaGreat
open Go Go.RowKit Go.V

def zY:AV:=.agg [.str [],.int .i64 0,.nils]
def cpE(l:List Ty)(i:Nat):List AV:=qf (l.take i)++List.replicate (l.length-i) zY
theorem qb22{l:List Ty}{i:Nat}(h:i≤l.length):(cpE l i).length=l.length:=by
 rw[cpE,List.length_append,q9,List.length_take,List.length_replicate];omega
theorem qce0(l:List Ty):cpE l 0=List.replicate l.length zY:=by rw[cpE,List.take_zero,qf,Nat.sub_zero];rfl
theorem qb2j(l:List Ty):cpE l l.length=qf l:=by rw[cpE,List.take_length,Nat.sub_self,List.replicate_zero,List.append_nil]
theorem q3o{l:List Ty}{i:Nat}(h:i<l.length):(cpE l i).set i (encY (l.getD i Y0))=cpE l (i+1):=by
 have h1:l.take (i+1)=l.take i++[l.getD i Y0]:=by
  rw[List.take_add_one,List.getD_eq_getElem?_getD,List.getElem?_eq_getElem h];rfl
 have h2:(qf (l.take i)).length=i:=by rw[q9,List.length_take];omega
 obtain⟨k,hk⟩:∃k,l.length-i=k+1:=⟨l.length-i-1,by omega⟩
 have hk2:l.length-(i+1)=k:=by omega
 rw[cpE,cpE,hk,hk2,List.replicate_succ,h1,←qew,List.set_append_right _ _ (by omega),h2,Nat.sub_self,List.set_cons_zero,List.append_assoc]
 rfl
theorem qyw(k:Nat)(l:List Ty)(i:Nat):AV.bds k (cpE l i)=true:=by
 rw[cpE,qhp,qbm,qc2]
 simp[zY,AV.bd,AV.bds]
theorem qwk(σ:Nat->Nat)(l:List Ty)(i:Nat):AV.rens σ (cpE l i)=cpE l i:=qp (m:=0) (fun i hi=>by omega) _ (qyw 0 l i)
attribute [go_sem] qyw qwk
theorem qet(l:List Ty):∀v∈qf l,v.flat:=fun v hv=>by
 rw[qcn] at hv
 obtain⟨t,_,rfl⟩:=List.mem_map.1 hv
 exact .inl ⟨qyv t,q2k t⟩
def cpSt(t:Ty)(i:Nat):AF×List Ent:=(⟨[(1,.ptr 0 0),(2,.ptr 1 0),(3,.row 2 t.args.length),(11,.sl 3 (qf t.args)),(12,.int .i64 t.args.length),(13,.int .i64 i)],[]⟩,[.blk (yc t),.blk [.str [],.int .i64 0,.nils],.mrow 3 (cpE t.args i)])
theorem qfb:∀t,szY t≤1000000->qj Tryz.prog 109 [encY t] (encY t):=by
 refine Ty.ind fun t ih hb=>?_
 refine qd c0cw (by simp) (by simp only[go_sem]) (qx 0 _) fun hw=>?_
 have hk:=qci hw.1
 have hsz:=qdr t
 have hal:=qen t.args
 have ih':∀i,i<t.args.length->qj Tryz.prog 109 [encY (t.args.getD i Y0)] (encY (t.args.getD i Y0)):=fun i hi=>ih _ (qba hi) (by have:=qdp (qba hi);omega)
 repeat'(first|refine vs_ ?_|((first|refine vr_ ?_|(refine cs_ ?_ ?_<;>intro hc)|refine cj_ ?_)<;>try refine ev_ ?_)|with_reducible exact ti_)
 refine qk (S:=Nat) (fun i=>i≤t.args.length) (cpSt t) (fun i=>t.args.length-i) ?_ fun i hi=>?_
 ·refine qg 0 [0,1,2] (Nat.zero_le _) rfl (by simp) ?_ ?_ ?_<;>simp only[cpSt,qce0,zY]<;>(try refine ev_ ?_)<;>(try with_reducible exact ti_)<;>(try simp (disch:=omega) only[qb,and_true,true_and])
  all_goals
   rw[show List.replicate t.args.length (AV.agg [.str [],.int .i64 0,.nils])=cpE t.args 0 from(qce0 _).symm]
   exact⟨qyw _ _ _,by rw[qwk]⟩
 ·unfold cpSt
  by_cases hlt:i<t.args.length
  ·have hc:=qb22 hi
   repeat'(first|refine vs_ ?_|(refine vr_ ?_<;>try simp (disch:=first|omega|(simp only[List.length_set,List.length_append,List.length_cons,List.length_nil];try omega)) only[ql,qb,go_sem,↓reduceIte])|((first|(refine cs_ ?_ ?_<;>intro hc)|refine cj_ ?_|refine qa (ih' i hlt) fun _=>?_)<;>try refine ev_ ?_)|with_reducible exact ti_)
   ·refine qg (i+1) [0,1,2] ⟨by omega,by omega⟩ rfl (by simp) ?_ ?_ ?_<;>simp only[cpSt,←q3o hlt]<;>(try refine ev_ ?_)<;>(try with_reducible exact ti_)<;>(try simp (disch:=omega) only[qb,and_true,true_and])
    all_goals(rw[q3o hlt];exact⟨qyw _ _ _,by rw[qwk]⟩)
   ·omega
  ·have hi':i=t.args.length:=by omega
   subst hi'
   rw[qb2j]
   refine qb6 2 rfl (qet _) ?_
   repeat'(first|refine vs_ ?_|((first|refine vr_ ?_|(refine cs_ ?_ ?_<;>intro hc)|refine cj_ ?_)<;>try refine ev_ ?_)|with_reducible exact ti_)
   omega
set_option maxRecDepth 4000

/-! what is cut off -/
def cutP(p s:List UInt8):List UInt8×Bool:=if pfx p s then(s.drop p.length,true) else(s,false)
def sfx(p s:List UInt8):Bool:=decide (p.length≤s.length)&&decide (s.drop (s.length-p.length)=p)
def cutS(p s:List UInt8):List UInt8×Bool:=if sfx p s then(s.take (s.length-p.length),true) else(s,false)
def cutA(x:List UInt8×Bool):AV:=.tup [.str x.1,.bool x.2]
theorem qcgq{p s:List UInt8}(h:pfx p s=true):p.length≤s.length:=by
 have:=congrArg List.length (of_decide_eq_true h)
 rw[List.length_take] at this
 omega
theorem qmq(s p:List UInt8):qj Tryz.prog 240 [.str s,.str p] (cutA (cutP p s)):=by
 refine qd c0bn (by simp) (by simp only[go_sem]) rfl fun hw=>?_
 cases hp:pfx p s with
 | false =>
   have he:cutA (cutP p s)=.tup [.str s,.bool false]:=by rw[cutP,hp];rfl
   rw[he]
   repeat'(first|refine vs_ ?_|(refine vr_ ?_<;>try simp only[hp,go_sem,↓reduceIte])|((first|(refine cs_ ?_ ?_<;>intro hc)|refine cj_ ?_|fail|refine qa (qe5 _ _) fun _=>?_)<;>try refine ev_ ?_)|with_reducible exact ti_)
 | true =>
   have hl:=qcgq hp
   have he:cutA (cutP p s)=.tup [.str (s.drop p.length),.bool true]:=by rw[cutP,hp];rfl
   rw[he]
   repeat'(first|refine vs_ ?_|(refine vr_ ?_<;>try simp only[hp,go_sem,↓reduceIte])|((first|(refine cs_ ?_ ?_<;>intro hc)|refine cj_ ?_|fail|refine qa (qe5 _ _) fun _=>?_)<;>try refine ev_ ?_)|with_reducible exact ti_)
theorem qkv(s p:List UInt8):qj Tryz.prog 218 [.str s,.str p] (cutA (cutP p s)):=by
 refine qd c0bo (by simp) (by simp only[go_sem]) rfl fun hw=>?_
 obtain⟨x,hx⟩:∃x,cutP p s=x:=⟨_,rfl⟩
 have h:=qmq s p
 rw[hx] at h ⊢
 unfold cutA at h ⊢
 repeat'(first|refine vs_ ?_|((first|refine vr_ ?_|refine qa h fun _=>?_|(refine cs_ ?_ ?_<;>intro hc)|refine cj_ ?_)<;>try refine ev_ ?_)|with_reducible exact ti_)
theorem qg6(s p:List UInt8):qj Tryz.prog 246 [.str s,.str p] (.bool (sfx p s)):=by
 refine qd c0bp (by simp) (by simp only[go_sem]) rfl fun hw=>?_
 have hsl:s.length≤maxLen:=hw.1
 have hml:maxLen=9223372036854775807:=rfl
 by_cases hle:p.length≤s.length
 ·have hli:((p.length:Int)≤(s.length:Int)):=by omega
  have hwr:IntKind.i64.wrap ((s.length:Int)-p.length)=((s.length-p.length:Nat):Int):=by rw[qo (by omega) (by omega)];omega
  repeat'(first|refine vs_ ?_|(refine vr_ ?_<;>try simp only[hwr,hli,Int.toNat_natCast,go_sem,↓reduceIte])|((first|(refine cs_ ?_ ?_<;>intro hc)|refine cj_ ?_)<;>try refine ev_ ?_)|with_reducible exact ti_)
  all_goals simp[sfx,hle]
 ·have hli:¬((p.length:Int)≤(s.length:Int)):=by omega
  repeat'(first|refine vs_ ?_|(refine vr_ ?_<;>try simp only[hli,go_sem,↓reduceIte])|((first|(refine cs_ ?_ ?_<;>intro hc)|refine cj_ ?_)<;>try refine ev_ ?_)|with_reducible exact ti_)
  all_goals simp[sfx,hle]
theorem qmc(s p:List UInt8):qj Tryz.prog 241 [.str s,.str p] (cutA (cutS p s)):=by
 refine qd c0bq (by simp) (by simp only[go_sem]) rfl fun hw=>?_
 cases hp:sfx p s with
 | false =>
   have he:cutA (cutS p s)=.tup [.str s,.bool false]:=by rw[cutS,hp];rfl
   rw[he]
   repeat'(first|refine vs_ ?_|(refine vr_ ?_<;>try simp only[hp,go_sem,↓reduceIte])|((first|(refine cs_ ?_ ?_<;>intro hc)|refine cj_ ?_|fail|refine qa (qg6 _ _) fun _=>?_)<;>try refine ev_ ?_)|with_reducible exact ti_)
 | true =>
   have hl:p.length≤s.length:=by
    rw[sfx,Bool.and_eq_true] at hp
    exact of_decide_eq_true hp.1
   have he:cutA (cutS p s)=.tup [.str (s.take (s.length-p.length)),.bool true]:=by rw[cutS,hp];rfl
   rw[he]
   have hsl:s.length≤maxLen:=hw.1
   have hml:maxLen=9223372036854775807:=rfl
   have hwr:IntKind.i64.wrap ((s.length:Int)-p.length)=((s.length-p.length:Nat):Int):=by rw[qo (by omega) (by omega)];omega
   repeat'(first|refine vs_ ?_|(refine vr_ ?_<;>try simp only[hp,hwr,Int.toNat_natCast,go_sem,↓reduceIte])|((first|(refine cs_ ?_ ?_<;>intro hc)|refine cj_ ?_|fail|refine qa (qg6 _ _) fun _=>?_)<;>try refine ev_ ?_)|with_reducible exact ti_)
theorem qkt(s p:List UInt8):qj Tryz.prog 219 [.str s,.str p] (cutA (cutS p s)):=by
 refine qd c0br (by simp) (by simp only[go_sem]) rfl fun hw=>?_
 obtain⟨x,hx⟩:∃x,cutS p s=x:=⟨_,rfl⟩
 have h:=qmc s p
 rw[hx] at h ⊢
 unfold cutA at h ⊢
 repeat'(first|refine vs_ ?_|((first|refine vr_ ?_|refine qa h fun _=>?_|(refine cs_ ?_ ?_<;>intro hc)|refine cj_ ?_)<;>try refine ev_ ?_)|with_reducible exact ti_)
/-! the type of what is known of a class -/
def clsW(s:List UInt8):List UInt8:=(cutS [125] (cutP [123] s).1).1
def qm8(t:Ty):Bool:=(cutP [123] t.con).2&&(cutS [125] (cutP [123] t.con).1).2&&conW (clsW t.con)&&decide (t.args.length=1)&&decide (t.var=0)
def clsA(t:Ty):AV:=if qm8 t=true then .tup [.str (clsW t.con),encY (t.args.getD 0 Y0),.bool true] else .tup [.str [],encY Y0,.bool false]
theorem qq5{t:Ty}(h:qm8 t=false):clsA t=.tup [.str [],encY Y0,.bool false]:=by rw[clsA,h];rfl
theorem qyd{t:Ty}(h:qm8 t=true):clsA t=.tup [.str (clsW t.con),encY (t.args.getD 0 Y0),.bool true]:=by rw[clsA,if_pos h]
theorem quy(t:Ty):qj Tryz.prog 174 [encY t] (clsA t):=by
 refine qd c0bs (by simp) (by simp only[go_sem]) (by unfold clsA;split<;>simp only[AV.bd,AV.bds,qx,Bool.and_true]) fun hw=>?_
 have hk:=qci hw.1
 have h1:=qkv t.con [123]
 obtain⟨⟨a,p⟩,ha⟩:∃x,cutP [123] t.con=x:=⟨_,rfl⟩
 have h2:=qkt a [125]
 obtain⟨⟨b,q⟩,hb⟩:∃x,cutS [125] a=x:=⟨_,rfl⟩
 have hcl:clsW t.con=b:=by rw[clsW,ha,hb]
 have hd:qm8 t=(p&&q&&conW b&&decide (t.args.length=1)&&decide (t.var=0)):=by rw[qm8,ha];simp only[hb,hcl]
 rw[ha] at h1
 rw[hb] at h2
 unfold cutA at h1 h2
 have hz:AV.agg [.str [],.int .i64 0,.sl 3 []]=encY Y0:=rfl
 cases p with
 | false =>
   rw[qq5 (by rw[hd];simp)]
   repeat'(first|refine vs_ ?_|(refine vr_ ?_<;>try simp only[hz,go_sem,↓reduceIte])|((first|(refine cs_ ?_ ?_<;>intro hc)|refine cj_ ?_|refine qa h1 fun _=>?_|refine qa h2 fun _=>?_|refine qc h1 ?_|refine qc h2 ?_)<;>try refine ev_ ?_)|with_reducible exact ti_)
 | true => cases q with
   | false =>
     rw[qq5 (by rw[hd];simp)]
     repeat'(first|refine vs_ ?_|(refine vr_ ?_<;>try simp only[hz,go_sem,↓reduceIte])|((first|(refine cs_ ?_ ?_<;>intro hc)|refine cj_ ?_|refine qa h1 fun _=>?_|refine qa h2 fun _=>?_|refine qc h1 ?_|refine qc h2 ?_)<;>try refine ev_ ?_)|with_reducible exact ti_)
   | true =>
     repeat'(first|refine vs_ ?_|(refine vr_ ?_<;>try simp (disch:=first|omega|(simp only[List.length_set,List.length_append,List.length_cons,List.length_nil];try omega)) only[hz,ql,go_sem,↓reduceIte])|((first|(refine cs_ ?_ ?_<;>intro hc)|refine cj_ ?_|refine qa h1 fun _=>?_|refine qa h2 fun _=>?_|refine qa (ql2 _) fun _=>?_|refine qc h1 ?_|refine qc h2 ?_|refine qc (ql2 _) ?_)<;>try refine ev_ ?_)|with_reducible exact ti_)
     all_goals first | (exfalso;omega) | (rw[qq5 (by rw[hd];simp_all<;>omega)];done) | (rw[qyd (by rw[hd];simp_all<;>omega),hcl];done)
end Go.Proofs.YtkenggenkmfopaaGreat
