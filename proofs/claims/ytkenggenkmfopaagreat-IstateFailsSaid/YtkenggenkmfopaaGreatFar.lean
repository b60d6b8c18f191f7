/- Texts of this proof, joined. -/
import Derived.Test.YtkenggenkmfopaaGreatFaq
import Derived.Test.YtkenggenkmfopaaGreatFao
import Derived.Test.YtkenggenkmfopaaGreatFah
set_option linter.unusedVariables false
set_option linter.unusedSimpArgs false

/- terms: the program's texts -/
set_option maxRecDepth 4000
namespace Go.Proofs.YtkenggenkmfopaaGreat
open Go Go.RowKit Go.V

theorem qsd{t:Ty}:qj Tryz.prog 105 [hdA t] (.str (qks t)):=by
 refine qd c0cz (by simp) (by simp only[go_sem]) rfl fun hw=>?_
 have hv:(Lit.int .i64 t.var).wf=true:=hw.1.2.1
 by_cases hc0:t.con=[]
 ·by_cases h0:0≤t.var
  ·repeat'(first|refine vs_ ?_|(refine vr_ ?_<;>try simp only[hc0,h0,go_sem,↓reduceIte])|((first|(refine cs_ ?_ ?_<;>intro hc)|refine cj_ ?_|refine qa (quq _) fun _=>?_)<;>try refine ev_ ?_)|with_reducible exact ti_)
   rw[qks,if_pos hc0,if_pos h0]
  ·have hneg:=qclc hv (by omega)
   have hd:=qjs (n:=-1-t.var) (by have:=qmj hv;simp[Lit.wf,IntKind.min,IntKind.max,IntKind.signed,IntKind.bits];omega)
   have hm:1+(digI (-1-t.var)).length≤maxLen:=by unfold maxLen;omega
   repeat'(first|refine vs_ ?_|(refine vr_ ?_<;>try simp only[hc0,h0,hneg,go_sem,↓reduceIte])|((first|(refine cs_ ?_ ?_<;>intro hc)|refine cj_ ?_|refine qa (qfu _) fun _=>?_)<;>try refine ev_ ?_)|with_reducible exact ti_)
   rw[qks,if_pos hc0,if_neg h0]
 ·repeat'(first|refine vs_ ?_|(refine vr_ ?_<;>try simp only[hc0,go_sem,↓reduceIte])|((first|(refine cs_ ?_ ?_<;>intro hc)|refine cj_ ?_)<;>try refine ev_ ?_)|with_reducible exact ti_)
  rw[qks,if_neg hc0]
abbrev bldE(l:List UInt8):Ent:=.cus (bldR 202 5 l)
theorem q4z{l s:List UInt8}(h:l.length+s.length≤Big):VM Tryz.prog 104 (bldE l) (bldE (l++s)) [.ptr 0 0,.str s] (.tup [.int .i64 s.length,.nili]) :=
 qb8i (ρ:=Go.Proofs.Tryz.lays156_ren) Go.Proofs.Tryz.bld166 Go.Proofs.Tryz.Builder_Extra_156 h
theorem qbi4{l:List UInt8}(h0:l≠[])(h:l.length≤Big):VM Tryz.prog 106 (bldE l) .dead [.ptr 0 0] (.str l) :=
 qbg9 (ρ:=Go.Proofs.Tryz.lays156_ren) Go.Proofs.Tryz.bld169 Go.Proofs.Tryz.Builder_Extra_156 h0 h
theorem qhd{a:Ty}{b:Bool}(h:qj Tryz.prog 68 [encY a] (.str (txtY a)))(hl:(txtY a).length+2≤Big):qj Tryz.prog 103 [encY a,.bool b] (.str (parW b (txtY a))):=by
 refine qd c0da (by simp) (by simp only[go_sem]) rfl fun hw=>?_
 have h1:1+(txtY a).length≤maxLen:=qms (by omega)
 have h2:(txtY a).length+1+1≤maxLen:=qms (by omega)
 cases b
 ·repeat'(first|refine vs_ ?_|((first|refine vr_ ?_|refine qa h fun _=>?_|(refine cs_ ?_ ?_<;>intro hc)|refine cj_ ?_)<;>try refine ev_ ?_)|with_reducible exact ti_)
  rfl
 ·repeat'(first|refine vs_ ?_|((first|refine vr_ ?_|refine qa h fun _=>?_|(refine cs_ ?_ ?_<;>intro hc)|refine cj_ ?_)<;>try refine ev_ ?_)|with_reducible exact ti_)
  rfl
theorem qy8{t:Ty}(hv:(Lit.int .i64 t.var).wf=true):qks t≠[]:=by
 rw[qks]
 split
 ·split
  ·rw[ltrI,if_neg (by omega)];split<;>simp
  ·simp
 ·assumption
theorem q04:∀t,qcs t=true->(txtY t).length≤Big->qj Tryz.prog 68 [encY t] (.str (txtY t)):=by
 refine Ty.ind fun t ih hs hl=>?_
 refine qd c0db (by simp) (by simp only[go_sem]) rfl fun hw=>?_
 obtain⟨hk,_,hv,_⟩:=(q4j t).1 hw.1
 by_cases hca:t.con=arrW
 ·obtain⟨a,b,hab,sa,sb⟩:=q83 hs hca
  have e:=qbdw hca hab
  have hlen:=congrArg List.length e
  simp only[List.length_append,List.length_cons,List.length_nil] at hlen
  have hp:=qyg (decide (a.con=arrW)) (txtY a)
  have iha:=ih a (by rw[hab];simp) sa (by omega)
  have ihb:=ih b (by rw[hab];simp) sb (by omega)
  have ihc:=qhd (b:=decide (a.con=[45,62])) iha (by omega)
  have e0:(qf t.args).getD 0 .junk=encY a:=by rw[hab];rfl
  have e1:(qf t.args).getD 1 .junk=encY b:=by rw[hab];rfl
  have e2:t.args.length=2:=by rw[hab];rfl
  have hca':t.con=[45,62]:=hca
  have m3:(parW (decide (a.con=[45,62])) (txtY a)).length+4≤maxLen:=qms (by have:decide (a.con=arrW)=decide (a.con=[45,62]):=rfl;rw[this] at hlen;omega)
  have m4:(parW (decide (a.con=[45,62])) (txtY a)).length+4+(txtY b).length≤maxLen:=qms (by have:decide (a.con=arrW)=decide (a.con=[45,62]):=rfl;rw[this] at hlen;omega)
  repeat'(first|refine vs_ ?_|(refine vr_ ?_<;>try simp only[hca',e0,e1,e2,go_sem,↓reduceIte])|((first|simp (disch:=omega) only[e1]|(refine cs_ ?_ ?_<;>intro hc)|refine cj_ ?_|refine qa ihc fun _=>?_|refine qa ihb fun _=>?_|refine qc ihc ?_|refine qc ihb ?_)<;>try refine ev_ ?_)|with_reducible exact ti_)
  rw[e];rfl
 ·have e:=qbih hca
  have hca':¬t.con=[45,62]:=hca
  have hlen:=congrArg List.length e
  rw[List.length_append] at hlen
  have hnp:0<(qks t).length:=List.length_pos_iff.2 (qy8 hv)
  have ihA:∀i,i<t.args.length->qj Tryz.prog 103 [encY (t.args.getD i Y0),.bool (decide ((t.args.getD i Y0).args≠[]))] (.str (parW (decide ((t.args.getD i Y0).args≠[])) (txtY (t.args.getD i Y0)))):=fun i hi=>by
   have hm:=qba hi
   have h1:=qm6 t.args i hi
   have h2:=congrArg List.length h1
   simp only[List.length_append,List.length_cons] at h2
   have h3:=qjr t.args (i+1)
   have h4:=qyg (decide ((t.args.getD i Y0).args≠[])) (txtY (t.args.getD i Y0))
   exact qhd (ih _ hm (q7b hs hm) (by omega)) (by omega)
  have htk:∀i,i<t.args.length->(qks t++argY (t.args.take i)).length+(32::parW (decide ((t.args.getD i Y0).args≠[])) (txtY (t.args.getD i Y0))).length≤Big:=fun i hi=>by
   have h1:=qm6 t.args i hi
   have h2:=congrArg List.length h1
   simp only[List.length_append,List.length_cons] at h2 ⊢
   have h3:=qjr t.args (i+1)
   omega
  have w0:([]:List UInt8).length+(qks t).length≤Big:=by simp;omega
  repeat'(first|refine vs_ ?_|(refine vr_ ?_<;>try simp only[hca',go_sem,↓reduceIte])|((first|(refine cs_ ?_ ?_<;>intro hc)|refine cj_ ?_|refine qa (qq0 _) fun _=>?_|refine qa (qsd (t:=t)) fun _=>?_|refine qca 1 (q4z w0) ?_|refine qc (qq0 _) ?_|refine qc (qsd (t:=t)) ?_)<;>try refine ev_ ?_)|with_reducible exact ti_)
  refine qk (S:=Nat) (fun i=>i≤t.args.length) (fun i=>(⟨[(3,.ptr 1 0),(32,.sl 3 (qf t.args)),(33,.int .i64 t.args.length),(34,.int .i64 i)],[]⟩,[.blk (yc t),bldE (qks t++argY (t.args.take i))])) (fun i=>t.args.length-i) ?_ fun i hi=>?_
  ·refine qg 0 [0,1] (Nat.zero_le _) rfl (by simp) ?_ ?_ ?_<;>simp only[List.take_zero,argY,List.append_nil]<;>(try refine ev_ ?_)<;>(try with_reducible exact ti_)<;>(try simp (disch:=omega) only[qb,and_true,true_and])
  ·by_cases hlt:i<t.args.length
   ·have hb:=htk i hlt
    have hle:decide (0<((t.args.getD i Y0).args.length:Int))=decide ((t.args.getD i Y0).args≠[]):=by
     refine decide_eq_decide.2 ⟨fun h hn=>by rw[hn] at h;simp at h,fun h=>?_⟩
     have:=List.length_pos_iff.2 h
     omega
    have m1:1+(parW (decide ((t.args.getD i Y0).args≠[])) (txtY (t.args.getD i Y0))).length≤maxLen:=qms (by simp only[List.length_append,List.length_cons] at hb;omega)
    repeat'(first|refine vs_ ?_|(refine vr_ ?_<;>try simp (disch:=first|omega|(simp only[List.length_set,List.length_append,List.length_cons,List.length_nil];try omega)) only[ql,qb,hle,go_sem,↓reduceIte])|((first|(refine cs_ ?_ ?_<;>intro hc)|refine cj_ ?_|refine qa (ihA i hlt) fun _=>?_|refine qca 1 (q4z hb) ?_|refine qc (ihA i hlt) ?_)<;>try refine ev_ ?_)|with_reducible exact ti_)
    ·refine qg (i+1) [0,1] ⟨by omega,by omega⟩ rfl (by simp) ?_ ?_ ?_<;>simp only[qm6 _ _ hlt]<;>(try refine ev_ ?_)<;>(try with_reducible exact ti_)<;>(try simp (disch:=omega) only[qb,and_true,true_and])
    ·omega
   ·have hend:qks t++argY (t.args.take i)=txtY t:=by rw[e,List.take_of_length_le (by omega)]
    have hne:txtY t≠[]:=by rw[e];exact fun h=>qy8 hv (List.append_eq_nil_iff.1 h).1
    rw[hend]
    repeat'(first|refine vs_ ?_|((first|refine vr_ ?_|refine qca 1 (qbi4 hne hl) ?_|(refine cs_ ?_ ?_<;>intro hc)|refine cj_ ?_)<;>try refine ev_ ?_)|with_reducible exact ti_)
    ·omega
def qzy(t:Ty):List UInt8:=if qi t=true then txtY t else []
theorem qf8{t:Ty}(h:qi t=true):qcs t=true:=by
 rw[qi,Bool.and_eq_true,Bool.and_eq_true] at h;exact h.2.2
theorem qo6{t:Ty}(h1:szY t≤20000)(h2:dpY t≤300)(hl:(qzy t).length≤Big):qj Tryz.prog 38 [encY t] (.str (qzy t)):=by
 refine qd c0dc (by simp) (by simp only[go_sem]) rfl fun hw=>?_
 have hL:=qd6 h1 h2
 cases h:qi t with
 | false =>
   have e:qzy t=[]:=by rw[qzy,if_neg (by rw[h];simp)]
   rw[e]
   rw[h] at hL
   repeat'(first|refine vs_ ?_|((first|refine vr_ ?_|refine qa hL fun _=>?_|(refine cs_ ?_ ?_<;>intro hc)|refine cj_ ?_)<;>try refine ev_ ?_)|with_reducible exact ti_)
 | true =>
   have e:qzy t=txtY t:=by rw[qzy,if_pos h]
   rw[e] at hl ⊢
   rw[h] at hL
   repeat'(first|refine vs_ ?_|((first|refine vr_ ?_|refine qa hL fun _=>?_|refine qa (q04 t (qf8 h) hl) fun _=>?_|(refine cs_ ?_ ?_<;>intro hc)|refine cj_ ?_)<;>try refine ev_ ?_)|with_reducible exact ti_)

theorem qu(t:Ty):qi t=true↔szY t≤4096∧dpY t≤100∧qcs t=true:=by
 rw[qi,Bool.and_eq_true,Bool.and_eq_true,decide_eq_true_eq,decide_eq_true_eq]
theorem qu4{t:Ty}(h:qcs t=true)(hc:t.con=[]):t.args=[]:=by
 rw[qft,Bool.and_eq_true] at h
 have h2:=h.2
 rw[mayY,mayW,if_pos hc,decide_eq_true_eq] at h2
 exact List.length_eq_zero_iff.1 (by omega)
mutual
theorem qdt:∀t,qcs t=true->bare t
 | .mk c v l, h => by
   rw[bare]
   refine⟨fun hc=>qu4 h hc,qlb l ?_⟩
   rw[qcs,Bool.and_eq_true] at h
   exact h.1
theorem qlb:∀l,qby l=true->qif l
 | [],_=>by rw[qif];trivial
 | x :: r, h => by
   rw[qby,Bool.and_eq_true] at h
   rw[qif]
   exact⟨qdt x h.1,qlb r h.2⟩
end
def okS(s:List Pr):Prop:=risR s∧∀p∈s,qi p.ty=true
theorem qfi:okS []:=⟨trivial,fun p hp=>by simp at hp⟩
theorem qp5{s:List Pr}(h:okS s):okR s:=fun p hp=>by
 have:=(qu _).1 (h.2 p hp)
 exact⟨this.1,this.2.1⟩
theorem qxz{s:List Pr}(h:okS s){v:Int}{u:Ty}(hu:qm v s=some u):qi u=true:=by
 obtain⟨p,h1,_,rfl⟩:=qcq hu
 exact h.2 p h1
mutual
theorem quh{s:List Pr}(h:okS s):∀t,qcs t=true->qcs (putY s t)=true
 | .mk c v l, ht => by
   rw[putY]
   split
   ·cases hl:qm v s with
    | some u=>exact((qu u).1 (qxz h hl)).2.2
    | none=>exact ht
   ·rw[qcs,Bool.and_eq_true] at ht ⊢
    exact⟨qpu h l ht.1,by rw[qjm];exact ht.2⟩
theorem qpu{s:List Pr}(h:okS s):∀l,qby l=true->qby (qbz s l)=true
 | [],_=>by rw[qbz,qby]
 | x :: r, hl => by
   rw[qby,Bool.and_eq_true] at hl
   rw[qbz,qby,Bool.and_eq_true]
   exact⟨quh h x hl.1,qpu h r hl.2⟩
end
def setR(l:List Pr)(v:Int)(t:Ty):List Pr×Int:=if qi t=true then(match qm v l with | some _=>(l,6) | none=>(insR v t l,0)) else(l,1)
theorem qw3{s:List Pr}(h:okS s)(v:Int)(t:Ty):okS (setR s v t).1:=by
 rw[setR]
 split
 ·rename_i ht
  cases hl:qm v s with
  | some u=>exact h
  | none =>
    refine⟨qzt h.1 hl,fun p hp=>?_⟩
    rcases insR_mem.1 hp with rfl | hp
    ·exact ht
    ·exact h.2 p hp
 ·exact h
theorem qzi(s:List Pr)(v:Int)(t:Ty):(setR s v t).1.length≤s.length+1:=by
 rw[setR]
 split
 ·cases qm v s with
  | some u=>simp
  | none=>simp only[qq2];omega
 ·simp
def addR(s:List Pr):List Pr->List Pr
 | []=>s
 | p::r=>addR (setR s p.v p.ty).1 r
theorem qp8:∀(l:List Pr) {s:List Pr},okS s->okS (addR s l)
 | [],s,h=>h
 | p::r,s,h=>qp8 r (qw3 h p.v p.ty)
theorem qlo:∀(l s:List Pr),(addR s l).length≤s.length+l.length
 | [],s=>by simp[addR]
 | p :: r, s => by
   have h1:=qlo r (setR s p.v p.ty).1
   have h2:=qzi s p.v p.ty
   rw[addR,List.length_cons];omega
def newR(l:List Pr):List Pr:=addR [] l
theorem qng(l:List Pr):okS (newR l):=qp8 l qfi
theorem qban(l:List Pr):(newR l).length≤l.length:=by have:=qlo l [];rw[newR];simpa using this
def appR(s:List Pr)(t:Ty):Ty×Int:=if qi t=true then(if 4096<sizR s t then(Y0,2) else if qi (putY s t)=true then(putY s t,0) else(Y0,2)) else(Y0,1)
theorem qvr{s:List Pr}(h:okS s)(t:Ty):appR s t=if qi t=true then(if qi (putY s t)=true then(putY s t,0) else(Y0,2)) else(Y0,1):=by
 rw[appR]
 split
 ·rename_i ht
  have hs:=qf8 ht
  have hz:=qre s t (qdt t hs)
  split
  ·rename_i hb
   rw[if_neg]
   intro hl
   have:=((qu _).1 hl).1
   omega
  ·rfl
 ·rfl
def appP(s:List Pr)(t:Ty):Ty×Int:=if qi t=true then(if(bput s t 4096 1).1<0 then(Y0,2) else((bput s t 4096 1).2,0)) else(Y0,1)
theorem qb34{s:List Pr}(h:okS s)(t:Ty):appP s t=appR s t:=by
 rw[appP,qvr h]
 split
 ·rename_i ht
  obtain⟨h1,h2,h3⟩:=(qu t).1 ht
  have hz:=qre s t (qdt t h3)
  have hp:=quh h t h3
  have key:=qxu s t 4096 1 (qdt t h3) (by omega) (by omega)
  by_cases hk:(sizR s t:Int)≤4096∧1+dpY (putY s t)≤101
  ·have hk':(sizR s t:Int)≤4096∧(1:Int)+dpY (putY s t)≤101:=by omega
   rw[key.1 hk',if_neg (by simp only;omega),if_pos ((qu _).2 ⟨by omega,by omega,hp⟩)]
  ·rw[if_pos (key.2 (by omega)),if_neg]
   intro hl
   have:=(qu _).1 hl
   omega
 ·rfl
theorem qb0{s:List Pr}(h:okS s){t:Ty}(he:(appR s t).2=0):qi t=true∧qi (putY s t)=true∧(appR s t).1=putY s t:=by
 rw[qvr h] at he ⊢
 split at he
 ·rename_i h1
  split at he
  ·rename_i h2
   rw[if_pos h1,if_pos h2]
   exact⟨h1,h2,rfl⟩
  ·exact absurd he (by simp)
 ·exact absurd he (by simp)
def qfl(t:List Pr):List Pr->List Pr->List Pr×Int
 | acc,[]=>(acc,0)
 | acc,p::r=>if(appR t p.ty).2=0 then qfl t (acc++[⟨p.v,(appR t p.ty).1⟩]) r else([],(appR t p.ty).2)
def qcb(t:List Pr):List Pr->List Pr->List Pr×Int
 | acc,[]=>(acc,0)
 | acc,p::r=>if(appR t p.ty).2=0 then qcb t (setR acc p.v (appR t p.ty).1).1 r else([],(appR t p.ty).2)
theorem qbfx{s:List Pr}{v:Int}{t:Ty}(ht:qi t=true)(h:∀p∈s,p.v<v):setR s v t=(s++[⟨v,t⟩],0):=by
 have hn:qm v s=none:=qqs fun p hp=>by have:=h p hp;omega
 rw[setR,if_pos ht,hn]
 simp only
 rw[qy3 h]
theorem qxq{t:List Pr}(ht:okS t):∀(s acc:List Pr),risR s->(∀p∈acc,∀q∈s,p.v<q.v)->qcb t acc s=qfl t acc s
 | [],acc,_,_=>rfl
 | p :: r, acc, hs, hlt => by
   rw[qcb,qfl]
   split
   ·rename_i he
    obtain⟨h1,h2,h3⟩:=qb0 ht he
    rw[qbfx (by rw[h3];exact h2) fun q hq=>hlt q hq p (by simp)]
    refine qxq ht r _ hs.2 fun a ha q hq=>?_
    rcases List.mem_append.1 ha with ha | ha
    ·exact hlt a ha q (by simp[hq])
    ·simp at ha
     subst ha
     exact hs.1 q hq
   ·rfl
def behR(s t:List Pr):List Pr×Int:=if(qfl t [] s).2=0 then(addR (qfl t [] s).1 t,0) else([],(qfl t [] s).2)
theorem qit{t:List Pr}(ht:okS t):∀(s acc:List Pr),(qfl t acc s).2=0->(qfl t acc s).1=acc++s.map (fun p=>⟨p.v,putY t p.ty⟩)∧∀p∈s,qi (putY t p.ty)=true
 | [],acc,_=>⟨by simp[qfl],fun p hp=>by simp at hp⟩
 | p :: r, acc, he => by
   rw[qfl] at he ⊢
   split at he
   ·rename_i h0
    obtain⟨h1,h2,h3⟩:=qb0 ht h0
    obtain⟨q1,q2⟩:=qit ht r _ he
    rw[if_pos h0]
    refine⟨by rw[q1,h3];simp,fun q hq=>?_⟩
    rcases List.mem_cons.1 hq with rfl | hq
    ·exact h2
    ·exact q2 q hq
   ·rename_i h0
    exact absurd he h0
theorem q3r{t:List Pr}:∀{s:List Pr},risR s->risR (s.map fun p=>(⟨p.v,putY t p.ty⟩:Pr))
 | [],_=>trivial
 | p :: r, h => ⟨fun q hq => by
     obtain⟨x,hx,rfl⟩:=List.mem_map.1 hq
     exact h.1 x hx,q3r h.2⟩
theorem qqo{t:List Pr}(v:Int):∀s:List Pr,qm v (s.map fun p=>(⟨p.v,putY t p.ty⟩:Pr))=(qm v s).map (putY t)
 | []=>rfl
 | p :: r => by
   rw[List.map_cons,qm,qm]
   split
   ·rfl
   ·exact qqo v r
theorem q7p{s:List Pr}{v x:Int}{t:Ty}(ht:qi t=true):qm x (setR s v t).1=match qm x s with | some u=>some u | none=>if x=v then some t else none:=by
 rw[setR,if_pos ht]
 cases hl:qm v s with
 | some u =>
   simp only
   cases hx:qm x s with
   | some w=>rfl
   | none =>
     simp only
     rw[if_neg]
     rintro rfl
     rw[hl] at hx
     cases hx
 | none =>
   simp only
   rw[qtl hl]
   split
   ·rename_i h;subst h;rw[hl]
   ·cases qm x s<;>rfl
theorem qs5(x:Int):∀(l s:List Pr),(∀p∈l,qi p.ty=true)->qm x (addR s l)=match qm x s with | some u=>some u | none=>qm x l
 | [], s, _ => by
   rw[addR,qm]
   cases qm x s<;>rfl
 | p :: r, s, h => by
   rw[addR,qs5 x r _ fun q hq=>h q (by simp[hq]),q7p (h p (by simp)),qm]
   cases hx:qm x s with
   | some u=>rfl
   | none =>
     simp only
     by_cases hv:x=p.v
     ·rw[if_pos hv,if_pos hv.symm]
     ·rw[if_neg hv,if_neg (fun h=>hv h.symm)]
theorem qu8{s t:List Pr}(hs:okS s)(ht:okS t):okS (behR s t).1:=by
 rw[behR]
 split
 ·rename_i he
  obtain⟨q1,q2⟩:=qit ht s [] he
  refine qp8 t ?_
  rw[q1,List.nil_append]
  refine⟨q3r hs.1,fun p hp=>?_⟩
  obtain⟨x,hx,rfl⟩:=List.mem_map.1 hp
  exact q2 x hx
 ·exact qfi
theorem qix{s t:List Pr}(hs:okS s)(ht:okS t)(he:(behR s t).2=0)(v:Int):qm v (behR s t).1=match qm v s with | some u=>some (putY t u) | none=>qm v t:=by
 rw[behR] at he ⊢
 split at he
 ·rename_i h0
  rw[if_pos h0]
  obtain⟨q1,q2⟩:=qit ht s [] h0
  simp only
  rw[qs5 v t _ ht.2,q1,List.nil_append,qqo]
  cases qm v s<;>rfl
 ·rename_i h0
  exact absurd he h0
def qch0(vars:List Int)(s:List Pr):List Pr:=s.filter fun p=>decide (p.v∈vars)
theorem qkf(f:Pr->Bool):∀{s:List Pr},risR s->risR (s.filter f)
 | [],_=>trivial
 | p :: r, h => by
   rw[List.filter_cons]
   split
   ·exact⟨fun q hq=>h.1 q (List.mem_filter.1 hq).1,qkf f h.2⟩
   ·exact qkf f h.2
theorem q9g{s:List Pr}(h:okS s)(vars:List Int):okS (qch0 vars s):=⟨qkf _ h.1,fun p hp=>h.2 p (List.mem_filter.1 hp).1⟩

set_option maxRecDepth 4000

theorem qnn:qf []=[]:=by rw[qf]
theorem q0i(t:Ty):[encY t]=qf [t]:=by rw[qf,qf]
theorem capY{k:Nat}(h:k≤1000000000):qbi k 48:=by unfold qbi;omega
set_option maxRecDepth 4000

/-! the reference's -/

set_option maxRecDepth 4000

theorem qtn:AV.agg [.str [],.int .i64 0,.sl 3 []]=encY Y0:=by rw[Y0,encY,qf]
def getA(s:List Pr)(v:Int):AV:=match qm v s with | some u=>.tup [encY u,.bool true] | none=>.tup [encY Y0,.bool false]
theorem qcee(k:Nat)(s:List Pr)(v:Int):(getA s v).bd k=true:=by
 unfold getA
 split<;>simp only[AV.bd,AV.bds,qx,Bool.and_true]
theorem qos{s:List Pr}{i:Nat}(h:i<s.length)(v:Int):qm v (s.drop i)=if(s.getD i R0).v=v then some (s.getD i R0).ty else qm v (s.drop (i+1)):=by rw[qccv h,qm]
theorem qfe(p:Pr):AV.agg [.str p.ty.con,.int .i64 p.ty.var,.sl 3 (qf p.ty.args)]=encY p.ty:=qbd _
theorem qn6(s:List Pr)(v:Int):qj Tryz.prog 164 [.sl 4 (qz s),.int .i64 v] (getA s v):=by
 refine qd c0cx (by simp) (by simp only[go_sem]) (qcee _ _ _) fun hw=>?_
 have hl:=(qlp hw.1).1
 repeat'(first|refine vs_ ?_|((first|refine vr_ ?_|(refine cs_ ?_ ?_<;>intro hc)|refine cj_ ?_)<;>try refine ev_ ?_)|with_reducible exact ti_)
 refine qk (S:=Nat) (fun i=>i≤s.length∧qm v (s.drop i)=qm v s) (fun i=>(⟨[(0,.sl 4 (qz s)),(1,.int .i64 v),(4,.ptr 0 0),(6,.int .i64 i)],[]⟩,[.blk [.str [],.int .i64 0,.nils]])) (fun i=>s.length-i) ?_ fun i hi=>?_
 ·refine qg 0 [0] ⟨Nat.zero_le _,rfl⟩ rfl (by simp) ?_ ?_ ?_<;>(try refine ev_ ?_)<;>(try with_reducible exact ti_)<;>(try simp (disch:=omega) only[qb,and_true,true_and])
 ·obtain⟨hi,ha⟩:=hi
  repeat'(first|refine vs_ ?_|(refine vr_ ?_<;>try simp (disch:=first|omega|(simp only[List.length_set,List.length_append,List.length_cons,List.length_nil];try omega)) only[qs,qb,qfe,qtn,qbt,go_sem,↓reduceIte])|((first|(refine cs_ ?_ ?_<;>intro hc)|refine cj_ ?_)<;>try refine ev_ ?_)|with_reducible exact ti_)
  ·rename_i hc
   rw[getA,←ha,qos (by omega),if_pos hc]
  ·rename_i hc
   refine qg (i+1) [0] ⟨⟨by omega,?_⟩,by omega⟩ rfl (by simp) ?_ ?_ ?_<;>(try refine ev_ ?_)<;>(try with_reducible exact ti_)<;>(try simp (disch:=omega) only[qb,and_true,true_and])
   rw[←ha,qos (i:=i) (by omega),if_neg hc]
  ·rw[getA,←ha,List.drop_of_length_le (by omega),qm]
def rowA(p:List Pr×Int):AV:=.tup [.sl 4 (qz p.1),.int .i64 p.2]
def typA(p:Ty×Int):AV:=.tup [encY p.1,.int .i64 p.2]
theorem qkz(k:Nat)(p:List Pr×Int):(rowA p).bd k=true:=by simp only[rowA,AV.bd,AV.bds,qcd,Bool.and_true]
theorem qq8(k:Nat)(p:Ty×Int):(typA p).bd k=true:=by simp only[typA,AV.bd,AV.bds,qx,Bool.and_true]
theorem capR{k:Nat}(h:k≤1000000000):qbi k 56:=by unfold qbi;omega
theorem qty(v:Int):∀(l:List Pr),ahdR v l<l.length->¬(l.getD (ahdR v l) R0).v<v
 | [],h=>by simp[ahdR] at h
 | p :: r, h => by
   rw[ahdR] at h ⊢
   split
   ·rename_i hp
    rw[if_pos hp] at h
    exact qty v r (by simpa using h)
   ·rename_i hp
    exact hp
theorem qj0(v:Int)(t:Ty):AV.agg [.int .i64 v,.str t.con,.int .i64 t.var,.sl 3 (qf t.args)]=encR ⟨v,t⟩:=rfl
theorem qsz{t:Ty}(h:qi t=true):szY t≤4096∧dpY t≤100:=⟨((qu t).1 h).1,((qu t).1 h).2.1⟩
set_option maxHeartbeats 1000000 in
theorem q4m{s:List Pr}{v:Int}{t:Ty}(hs:s.length≤100000)(h1:szY t≤20000)(h2:dpY t≤300):qj Tryz.prog 116 [.sl 4 (qz s),.int .i64 v,encY t] (rowA (setR s v t)):=by
 refine qd c0cy (by simp) (by simp only[go_sem]) (qkz _ _) fun hw=>?_
 have hl:=(qlp hw.1).1
 have f1:=qds h1 h2
 have f2:=qn6 s v
 have hA:=qoa v s
 cases ht:qi t with
 | false =>
   rw[ht] at f1
   repeat'(first|refine vs_ ?_|((first|refine vr_ ?_|refine qa f1 fun _=>?_|refine qc f1 ?_|(refine cs_ ?_ ?_<;>intro hc)|refine cj_ ?_)<;>try refine ev_ ?_)|with_reducible exact ti_)
   rw[setR,if_neg (by rw[ht];simp)];rfl
 | true =>
   rw[ht] at f1
   cases hk:qm v s with
   | some u =>
     rw[getA,hk] at f2
     repeat'(first|refine vs_ ?_|((first|refine vr_ ?_|refine qa f1 fun _=>?_|refine qa f2 fun _=>?_|refine qc f1 ?_|refine qc f2 ?_|(refine cs_ ?_ ?_<;>intro hc)|refine cj_ ?_)<;>try refine ev_ ?_)|with_reducible exact ti_)
     rw[setR,if_pos ht,hk];rfl
   | none =>
     rw[getA,hk] at f2
     have hS:setR s v t=(insR v t s,0):=by rw[setR,if_pos ht,hk]
     repeat'(first|refine vs_ ?_|((first|refine vr_ ?_|refine qa f1 fun _=>?_|refine qa f2 fun _=>?_|refine qc f1 ?_|refine qc f2 ?_|(refine cs_ ?_ ?_<;>intro hc)|refine cj_ ?_)<;>try refine ev_ ?_)|with_reducible exact ti_)
     refine qk (S:=Nat) (fun i=>i≤ahdR v s) (fun i=>(⟨[(0,.sl 4 (qz s)),(1,.int .i64 v),(5,.ptr 0 0),(10,.int .i64 i)],[]⟩,[.blk (yc t)])) (fun i=>ahdR v s-i) ?_ fun i hi=>?_
     ·refine qg 0 [0] (Nat.zero_le _) rfl (by simp) ?_ ?_ ?_<;>(try refine ev_ ?_)<;>(try with_reducible exact ti_)<;>(try simp (disch:=omega) only[qb,and_true,true_and])
     ·have hge:i<s.length->¬(s.getD i R0).v<v->i=ahdR v s:=fun hi' hn=>by
       by_cases h:i<ahdR v s
       ·exact absurd (qvi v s i h) hn
       ·omega
      have hgo:i<s.length->(s.getD i R0).v<v->i<ahdR v s:=fun hi' hn=>by
       by_cases h:i=ahdR v s
       ·subst h;exact absurd hn (qty v s hi')
       ·omega
      have hti:(s.take i).length=i:=by rw[List.length_take];omega
      have hcap1:qbi i 56=True:=eq_true (capR (by omega))
      have hcap2:qbi (i+1) 56=True:=eq_true (capR (by omega))
      have hcap3:qbi (i+1+(s.drop i).length) 56=True:=eq_true (capR (by rw[List.length_drop];omega))
      have hfin:i=ahdR v s->insR v t s=s.take i++(⟨v,t⟩::s.drop i):=fun h=>by rw[insR,h]
      by_cases h0:i=0
      ·subst h0
       have hcapA:qbi 1 56=True:=eq_true (capR (by omega))
       have hcapB:qbi (1+s.length) 56=True:=eq_true (capR (by omega))
       have hlen:(s.length+1=1+s.length)=True:=eq_true (by omega)
       repeat'(first|refine vs_ ?_|(refine vr_ ?_<;>try simp (disch:=first|omega|(simp only[List.length_set,List.length_append,List.length_cons,List.length_nil];try omega)) only[qs,qb,qbk,qj0,go_sem,↓reduceIte])|((first|simp (disch:=omega) only[qs]|simp (disch:=omega) only[hcapA]|simp (disch:=omega) only[hcapB]|simp (disch:=omega) only[hlen,if_true]|(refine cs_ ?_ ?_<;>intro hc)|refine cj_ ?_)<;>try refine ev_ ?_)|with_reducible exact ti_)
       ·have:=hgo (by omega) (by assumption)
        refine qg 1 [0] ⟨by omega,by omega⟩ rfl (by simp) ?_ ?_ ?_<;>(try refine ev_ ?_)<;>(try with_reducible exact ti_)<;>(try simp (disch:=omega) only[qb,and_true,true_and])
        all_goals(rw[qkj])
       all_goals
        have hz:0=ahdR v s:=by first | exact hge (by omega) (by assumption) | omega
        rw[hS,hfin hz];rfl
      ·have hlen:((s.take i++⟨v,t⟩::s.drop i).length=i+1+(s.drop i).length)=True:=eq_true (by rw[List.length_append,List.length_cons,hti];omega)
       repeat'(first|refine vs_ ?_|(refine vr_ ?_<;>try simp (disch:=first|omega|(simp only[List.length_set,List.length_append,List.length_cons,List.length_nil];try omega)) only[qs,qb,qbk,hti,h0,qj0,go_sem,↓reduceIte])|((first|simp (disch:=omega) only[qs]|simp (disch:=omega) only[hti,h0,if_false]|simp (disch:=omega) only[hcap1]|simp (disch:=omega) only[hcap2]|simp (disch:=omega) only[hcap3]|(refine cs_ ?_ ?_<;>intro hc)|refine cj_ ?_)<;>try refine ev_ ?_)|with_reducible exact ti_)
       ·have:=hgo (by omega) (by assumption)
        refine qg (i+1) [0] ⟨by omega,by omega⟩ rfl (by simp) ?_ ?_ ?_<;>(try refine ev_ ?_)<;>(try with_reducible exact ti_)<;>(try simp (disch:=omega) only[qb,and_true,true_and])
       all_goals
        have hz:i=ahdR v s:=by first | exact hge (by omega) (by assumption) | omega
        have e:qz (s.take i)++encR ⟨v,t⟩::qz (s.drop i)=qz (insR v t s):=by rw[hfin hz];simp[qz]
        rw[if_pos (by omega),e,hS]
        exact⟨by simp only[AV.bd,qcd],rfl⟩
end Go.Proofs.YtkenggenkmfopaaGreat
