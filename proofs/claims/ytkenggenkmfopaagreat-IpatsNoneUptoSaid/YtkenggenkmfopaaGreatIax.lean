/- Texts of this proof, joined. -/
import Derived.Test.YtkenggenkmfopaaGreatIav
import Derived.Test.YtkenggenkmfopaaGreatIaw
import Derived.Test.YtkenggenkmfopaaGreatIas
import Derived.Test.YtkenggenkmfopaaGreatIar
set_option linter.unusedVariables false
set_option linter.unusedSimpArgs false

/- substitutions: a type in new memory; the search; the row of pairs that a substitution is -/
set_option maxRecDepth 4000
namespace Go.Proofs.YtkenggenkmfopaaGreat
open Go Go.RowKit Go.V

def zY:AV:=.agg [.str [],.int .i64 0,.nils]
def cpE(l:List Ty)(i:Nat):List AV:=qh (l.take i)++List.replicate (l.length-i) zY
theorem qbm1{l:List Ty}{i:Nat}(h:i≤l.length):(cpE l i).length=l.length:=by
 rw[cpE,List.length_append,qg,List.length_take,List.length_replicate];omega
theorem qcgw(l:List Ty):cpE l 0=List.replicate l.length zY:=by rw[cpE,List.take_zero,qh,Nat.sub_zero];rfl
theorem qbwl(l:List Ty):cpE l l.length=qh l:=by rw[cpE,List.take_length,Nat.sub_self,List.replicate_zero,List.append_nil]
theorem q7k{l:List Ty}{i:Nat}(h:i<l.length):(cpE l i).set i (encY (l.getD i Y0))=cpE l (i+1):=by
 have h1:l.take (i+1)=l.take i++[l.getD i Y0]:=by
  rw[List.take_add_one,List.getD_eq_getElem?_getD,List.getElem?_eq_getElem h];rfl
 have h2:(qh (l.take i)).length=i:=by rw[qg,List.length_take];omega
 obtain⟨k,hk⟩:∃k,l.length-i=k+1:=⟨l.length-i-1,by omega⟩
 have hk2:l.length-(i+1)=k:=by omega
 rw[cpE,cpE,hk,hk2,List.replicate_succ,h1,←qew,List.set_append_right _ _ (by omega),h2,Nat.sub_self,List.set_cons_zero,List.append_assoc]
 rfl
theorem q0x(k:Nat)(l:List Ty)(i:Nat):AV.bds k (cpE l i)=true:=by
 rw[cpE,qk8,qbd,qb6]
 simp[zY,AV.bd,AV.bds]
theorem qx8(σ:Nat->Nat)(l:List Ty)(i:Nat):AV.rens σ (cpE l i)=cpE l i:=qs (m:=0) (fun i hi=>by omega) _ (q0x 0 l i)
attribute [go_sem] q0x qx8
theorem qf2(l:List Ty):∀v∈qh l,v.flat:=fun v hv=>by
 rw[qcy] at hv
 obtain⟨t,_,rfl⟩:=List.mem_map.1 hv
 exact .inl ⟨qi9 t,q1n t⟩
def cpSt(t:Ty)(i:Nat):AF×List Ent:=(⟨[(1,.ptr 0 0),(2,.ptr 1 0),(3,.row 2 t.args.length),(11,.sl 3 (qh t.args)),(12,.int .i64 t.args.length),(13,.int .i64 i)],[]⟩,[.blk (yc t),.blk [.str [],.int .i64 0,.nils],.mrow 3 (cpE t.args i)])
theorem qfg:∀t,szY t≤1000000->qp Tryz.prog 109 [encY t] (encY t):=by
 refine Ty.ind fun t ih hb=>?_
 refine qe c0ck (by simp) (by simp only[go_sem]) (q8 0 _) fun hw=>?_
 have hk:=qe6 hw.1
 have hsz:=qll t
 have hal:=qjv t.args
 have ih':∀i,i<t.args.length->qp Tryz.prog 109 [encY (t.args.getD i Y0)] (encY (t.args.getD i Y0)):=fun i hi=>ih _ (qcn hi) (by have:=qot (qcn hi);omega)
 repeat'(first|refine vs_ ?_|((first|refine vr_ ?_|(refine cs_ ?_ ?_<;>intro hc)|refine cj_ ?_|simp (disch:=omega) only[qa,qc])<;>try refine ev_ ?_)|with_reducible exact ti_)
 refine qo (S:=Nat) (fun i=>i≤t.args.length) (cpSt t) (fun i=>t.args.length-i) ?_ fun i hi=>?_
 ·refine qj 0 [0,1,2] (Nat.zero_le _) rfl (by simp) ?_ ?_ ?_<;>simp only[cpSt,qcgw,zY]<;>(try refine ev_ ?_)<;>(try with_reducible exact ti_)<;>(try simp (disch:=omega) only[qc,and_true,true_and])
  all_goals
   rw[show List.replicate t.args.length (AV.agg [.str [],.int .i64 0,.nils])=cpE t.args 0 from(qcgw _).symm]
   exact⟨q0x _ _ _,by rw[qx8]⟩
 ·unfold cpSt
  by_cases hlt:i<t.args.length
  ·have hc:=qbm1 hi
   repeat'(first|refine vs_ ?_|(refine vr_ ?_<;>try simp (disch:=first|omega|(simp only[List.length_set,List.length_append,List.length_cons,List.length_nil];try omega)) only[qbb,qc,go_sem,↓reduceIte])|((first|(refine cs_ ?_ ?_<;>intro hc)|refine cj_ ?_|simp (disch:=omega) only[qa,qc]|refine qb (ih' i hlt) fun _=>?_)<;>try refine ev_ ?_)|with_reducible exact ti_)
   ·refine qj (i+1) [0,1,2] ⟨by omega,by omega⟩ rfl (by simp) ?_ ?_ ?_<;>simp only[cpSt,←q7k hlt]<;>(try refine ev_ ?_)<;>(try with_reducible exact ti_)<;>(try simp (disch:=omega) only[qc,and_true,true_and])
    all_goals(rw[q7k hlt];exact⟨q0x _ _ _,by rw[qx8]⟩)
   ·omega
  ·have hi':i=t.args.length:=by omega
   subst hi'
   rw[qbwl]
   refine qcp 2 rfl (qf2 _) ?_
   repeat'(first|refine vs_ ?_|((first|refine vr_ ?_|(refine cs_ ?_ ?_<;>intro hc)|refine cj_ ?_|simp (disch:=omega) only[qa,qc])<;>try refine ev_ ?_)|with_reducible exact ti_)
   omega
set_option maxRecDepth 4000

/-! what is cut off -/
def cutP(p s:List UInt8):List UInt8×Bool:=if pfx p s then(s.drop p.length,true) else(s,false)
def sfx(p s:List UInt8):Bool:=decide (p.length≤s.length)&&decide (s.drop (s.length-p.length)=p)
def cutS(p s:List UInt8):List UInt8×Bool:=if sfx p s then(s.take (s.length-p.length),true) else(s,false)
def cutA(x:List UInt8×Bool):AV:=.tup [.str x.1,.bool x.2]
theorem qcjk{p s:List UInt8}(h:pfx p s=true):p.length≤s.length:=by
 have:=congrArg List.length (of_decide_eq_true h)
 rw[List.length_take] at this
 omega
theorem qm6(s p:List UInt8):qp Tryz.prog 240 [.str s,.str p] (cutA (cutP p s)):=by
 refine qe c0ce (by simp) (by simp only[go_sem]) rfl fun hw=>?_
 cases hp:pfx p s with
 | false =>
   have he:cutA (cutP p s)=.tup [.str s,.bool false]:=by rw[cutP,hp];rfl
   rw[he]
   repeat'(first|refine vs_ ?_|(refine vr_ ?_<;>try simp only[hp,go_sem,↓reduceIte])|((first|(refine cs_ ?_ ?_<;>intro hc)|refine cj_ ?_|fail|refine qb (qe8 _ _) fun _=>?_)<;>try refine ev_ ?_)|with_reducible exact ti_)
 | true =>
   have hl:=qcjk hp
   have he:cutA (cutP p s)=.tup [.str (s.drop p.length),.bool true]:=by rw[cutP,hp];rfl
   rw[he]
   repeat'(first|refine vs_ ?_|(refine vr_ ?_<;>try simp only[hp,go_sem,↓reduceIte])|((first|(refine cs_ ?_ ?_<;>intro hc)|refine cj_ ?_|fail|refine qb (qe8 _ _) fun _=>?_)<;>try refine ev_ ?_)|with_reducible exact ti_)
theorem qk4(s p:List UInt8):qp Tryz.prog 218 [.str s,.str p] (cutA (cutP p s)):=by
 refine qe c0cf (by simp) (by simp only[go_sem]) rfl fun hw=>?_
 obtain⟨x,hx⟩:∃x,cutP p s=x:=⟨_,rfl⟩
 have h:=qm6 s p
 rw[hx] at h ⊢
 unfold cutA at h ⊢
 repeat'(first|refine vs_ ?_|((first|refine vr_ ?_|refine qb h fun _=>?_|(refine cs_ ?_ ?_<;>intro hc)|refine cj_ ?_)<;>try refine ev_ ?_)|with_reducible exact ti_)
theorem qhk(s p:List UInt8):qp Tryz.prog 246 [.str s,.str p] (.bool (sfx p s)):=by
 refine qe c0cg (by simp) (by simp only[go_sem]) rfl fun hw=>?_
 have hsl:s.length≤maxLen:=hw.1
 have hml:maxLen=9223372036854775807:=rfl
 by_cases hle:p.length≤s.length
 ·have hli:((p.length:Int)≤(s.length:Int)):=by omega
  have hwr:IntKind.i64.wrap ((s.length:Int)-p.length)=((s.length-p.length:Nat):Int):=by rw[qz (by omega) (by omega)];omega
  repeat'(first|refine vs_ ?_|(refine vr_ ?_<;>try simp only[hwr,hli,Int.toNat_natCast,go_sem,↓reduceIte])|((first|(refine cs_ ?_ ?_<;>intro hc)|refine cj_ ?_)<;>try refine ev_ ?_)|with_reducible exact ti_)
  all_goals simp[sfx,hle]
 ·have hli:¬((p.length:Int)≤(s.length:Int)):=by omega
  repeat'(first|refine vs_ ?_|(refine vr_ ?_<;>try simp only[hli,go_sem,↓reduceIte])|((first|(refine cs_ ?_ ?_<;>intro hc)|refine cj_ ?_)<;>try refine ev_ ?_)|with_reducible exact ti_)
  all_goals simp[sfx,hle]
theorem qo0(s p:List UInt8):qp Tryz.prog 241 [.str s,.str p] (cutA (cutS p s)):=by
 refine qe c0ch (by simp) (by simp only[go_sem]) rfl fun hw=>?_
 cases hp:sfx p s with
 | false =>
   have he:cutA (cutS p s)=.tup [.str s,.bool false]:=by rw[cutS,hp];rfl
   rw[he]
   repeat'(first|refine vs_ ?_|(refine vr_ ?_<;>try simp only[hp,go_sem,↓reduceIte])|((first|(refine cs_ ?_ ?_<;>intro hc)|refine cj_ ?_|fail|refine qb (qhk _ _) fun _=>?_)<;>try refine ev_ ?_)|with_reducible exact ti_)
 | true =>
   have hl:p.length≤s.length:=by
    rw[sfx,Bool.and_eq_true] at hp
    exact of_decide_eq_true hp.1
   have he:cutA (cutS p s)=.tup [.str (s.take (s.length-p.length)),.bool true]:=by rw[cutS,hp];rfl
   rw[he]
   have hsl:s.length≤maxLen:=hw.1
   have hml:maxLen=9223372036854775807:=rfl
   have hwr:IntKind.i64.wrap ((s.length:Int)-p.length)=((s.length-p.length:Nat):Int):=by rw[qz (by omega) (by omega)];omega
   repeat'(first|refine vs_ ?_|(refine vr_ ?_<;>try simp only[hp,hwr,Int.toNat_natCast,go_sem,↓reduceIte])|((first|(refine cs_ ?_ ?_<;>intro hc)|refine cj_ ?_|fail|refine qb (qhk _ _) fun _=>?_)<;>try refine ev_ ?_)|with_reducible exact ti_)
theorem qkf(s p:List UInt8):qp Tryz.prog 219 [.str s,.str p] (cutA (cutS p s)):=by
 refine qe c0ci (by simp) (by simp only[go_sem]) rfl fun hw=>?_
 obtain⟨x,hx⟩:∃x,cutS p s=x:=⟨_,rfl⟩
 have h:=qo0 s p
 rw[hx] at h ⊢
 unfold cutA at h ⊢
 repeat'(first|refine vs_ ?_|((first|refine vr_ ?_|refine qb h fun _=>?_|(refine cs_ ?_ ?_<;>intro hc)|refine cj_ ?_)<;>try refine ev_ ?_)|with_reducible exact ti_)
/-! the type of what is known of a class -/
def clsW(s:List UInt8):List UInt8:=(cutS [125] (cutP [123] s).1).1
def qoo(t:Ty):Bool:=(cutP [123] t.con).2&&(cutS [125] (cutP [123] t.con).1).2&&conW (clsW t.con)&&decide (t.args.length=1)&&decide (t.var=0)
def clsA(t:Ty):AV:=if qoo t=true then .tup [.str (clsW t.con),encY (t.args.getD 0 Y0),.bool true] else .tup [.str [],encY Y0,.bool false]
theorem qsj{t:Ty}(h:qoo t=false):clsA t=.tup [.str [],encY Y0,.bool false]:=by rw[clsA,h];rfl
theorem q0v{t:Ty}(h:qoo t=true):clsA t=.tup [.str (clsW t.con),encY (t.args.getD 0 Y0),.bool true]:=by rw[clsA,if_pos h]
theorem qt0(t:Ty):qp Tryz.prog 174 [encY t] (clsA t):=by
 refine qe c0cj (by simp) (by simp only[go_sem]) (by unfold clsA;split<;>simp only[AV.bd,AV.bds,q8,Bool.and_true]) fun hw=>?_
 have hk:=qe6 hw.1
 have h1:=qk4 t.con [123]
 obtain⟨⟨a,p⟩,ha⟩:∃x,cutP [123] t.con=x:=⟨_,rfl⟩
 have h2:=qkf a [125]
 obtain⟨⟨b,q⟩,hb⟩:∃x,cutS [125] a=x:=⟨_,rfl⟩
 have hcl:clsW t.con=b:=by rw[clsW,ha,hb]
 have hd:qoo t=(p&&q&&conW b&&decide (t.args.length=1)&&decide (t.var=0)):=by rw[qoo,ha];simp only[hb,hcl]
 rw[ha] at h1
 rw[hb] at h2
 unfold cutA at h1 h2
 have hz:AV.agg [.str [],.int .i64 0,.sl 3 []]=encY Y0:=rfl
 cases p with
 | false =>
   rw[qsj (by rw[hd];simp)]
   repeat'(first|refine vs_ ?_|(refine vr_ ?_<;>try simp only[hz,go_sem,↓reduceIte])|((first|(refine cs_ ?_ ?_<;>intro hc)|refine cj_ ?_|simp (disch:=omega) only[qa,qc]|refine qb h1 fun _=>?_|refine qb h2 fun _=>?_|refine qf h1 ?_|refine qf h2 ?_)<;>try refine ev_ ?_)|with_reducible exact ti_)
 | true => cases q with
   | false =>
     rw[qsj (by rw[hd];simp)]
     repeat'(first|refine vs_ ?_|(refine vr_ ?_<;>try simp only[hz,go_sem,↓reduceIte])|((first|(refine cs_ ?_ ?_<;>intro hc)|refine cj_ ?_|simp (disch:=omega) only[qa,qc]|refine qb h1 fun _=>?_|refine qb h2 fun _=>?_|refine qf h1 ?_|refine qf h2 ?_)<;>try refine ev_ ?_)|with_reducible exact ti_)
   | true =>
     repeat'(first|refine vs_ ?_|(refine vr_ ?_<;>try simp (disch:=first|omega|(simp only[List.length_set,List.length_append,List.length_cons,List.length_nil];try omega)) only[hz,qbb,go_sem,↓reduceIte])|((first|(refine cs_ ?_ ?_<;>intro hc)|refine cj_ ?_|simp (disch:=omega) only[qa,qc]|refine qb h1 fun _=>?_|refine qb h2 fun _=>?_|refine qb (qhs _) fun _=>?_|refine qf h1 ?_|refine qf h2 ?_|refine qf (qhs _) ?_)<;>try refine ev_ ?_)|with_reducible exact ti_)
     all_goals first | (exfalso;omega) | (rw[qsj (by rw[hd];simp_all<;>omega)];done) | (rw[q0v (by rw[hd];simp_all<;>omega),hcl];done)
end Go.Proofs.YtkenggenkmfopaaGreat
