/- Texts of this proof, joined. -/
import Derived.Test.YtkenggenkmfopaaGreatSaq
import Derived.Test.YtkenggenkmfopaaGreatSao
import Derived.Test.YtkenggenkmfopaaGreatSah
set_option linter.unusedVariables false
set_option linter.unusedSimpArgs false

/- terms: the program's texts -/
set_option maxRecDepth 4000
namespace Go.Proofs.YtkenggenkmfopaaGreat
open Go Go.RowKit Go.V

theorem qr9{t:Ty}:qj Tryz.prog 105 [hdA t] (.str (qj9 t)):=by
 refine qd c0cz (by simp) (by simp only[go_sem]) rfl fun hw=>?_
 have hv:(Lit.int .i64 t.var).wf=true:=hw.1.2.1
 by_cases hc0:t.con=[]
 ·by_cases h0:0≤t.var
  ·repeat'(first|refine vs_ ?_|(refine vr_ ?_<;>try simp only[hc0,h0,go_sem,↓reduceIte])|((first|(refine cs_ ?_ ?_<;>intro hc)|refine cj_ ?_|refine qa (qta _) fun _=>?_)<;>try refine ev_ ?_)|with_reducible exact ti_)
   rw[qj9,if_pos hc0,if_pos h0]
  ·have hneg:=qclu hv (by omega)
   have hd:=qjq (n:=-1-t.var) (by have:=qn3 hv;simp[Lit.wf,IntKind.min,IntKind.max,IntKind.signed,IntKind.bits];omega)
   have hm:1+(digI (-1-t.var)).length≤maxLen:=by unfold maxLen;omega
   repeat'(first|refine vs_ ?_|(refine vr_ ?_<;>try simp only[hc0,h0,hneg,go_sem,↓reduceIte])|((first|(refine cs_ ?_ ?_<;>intro hc)|refine cj_ ?_|refine qa (qf4 _) fun _=>?_)<;>try refine ev_ ?_)|with_reducible exact ti_)
   rw[qj9,if_pos hc0,if_neg h0]
 ·repeat'(first|refine vs_ ?_|(refine vr_ ?_<;>try simp only[hc0,go_sem,↓reduceIte])|((first|(refine cs_ ?_ ?_<;>intro hc)|refine cj_ ?_)<;>try refine ev_ ?_)|with_reducible exact ti_)
  rw[qj9,if_neg hc0]
abbrev bldE(l:List UInt8):Ent:=.cus (bldR 202 5 l)
theorem q7p{l s:List UInt8}(h:l.length+s.length≤Big):VM Tryz.prog 104 (bldE l) (bldE (l++s)) [.ptr 0 0,.str s] (.tup [.int .i64 s.length,.nili]) :=
 qbn9 (ρ:=Go.Proofs.Tryz.lays156_ren) Go.Proofs.Tryz.bld166 Go.Proofs.Tryz.Builder_Extra_156 h
theorem qbda{l:List UInt8}(h0:l≠[])(h:l.length≤Big):VM Tryz.prog 106 (bldE l) .dead [.ptr 0 0] (.str l) :=
 qbhu (ρ:=Go.Proofs.Tryz.lays156_ren) Go.Proofs.Tryz.bld169 Go.Proofs.Tryz.Builder_Extra_156 h0 h
theorem qhb{a:Ty}{b:Bool}(h:qj Tryz.prog 68 [encY a] (.str (txtY a)))(hl:(txtY a).length+2≤Big):qj Tryz.prog 103 [encY a,.bool b] (.str (parW b (txtY a))):=by
 refine qd c0da (by simp) (by simp only[go_sem]) rfl fun hw=>?_
 have h1:1+(txtY a).length≤maxLen:=qmv (by omega)
 have h2:(txtY a).length+1+1≤maxLen:=qmv (by omega)
 cases b
 ·repeat'(first|refine vs_ ?_|((first|refine vr_ ?_|refine qa h fun _=>?_|(refine cs_ ?_ ?_<;>intro hc)|refine cj_ ?_)<;>try refine ev_ ?_)|with_reducible exact ti_)
  rfl
 ·repeat'(first|refine vs_ ?_|((first|refine vr_ ?_|refine qa h fun _=>?_|(refine cs_ ?_ ?_<;>intro hc)|refine cj_ ?_)<;>try refine ev_ ?_)|with_reducible exact ti_)
  rfl
theorem qy6{t:Ty}(hv:(Lit.int .i64 t.var).wf=true):qj9 t≠[]:=by
 rw[qj9]
 split
 ·split
  ·rw[ltrI,if_neg (by omega)];split<;>simp
  ·simp
 ·assumption
theorem q11:∀t,qch t=true->(txtY t).length≤Big->qj Tryz.prog 68 [encY t] (.str (txtY t)):=by
 refine Ty.ind fun t ih hs hl=>?_
 refine qd c0db (by simp) (by simp only[go_sem]) rfl fun hw=>?_
 obtain⟨hk,_,hv,_⟩:=(q56 t).1 hw.1
 by_cases hca:t.con=arrW
 ·obtain⟨a,b,hab,sa,sb⟩:=q4o hs hca
  have e:=qbdl hca hab
  have hlen:=congrArg List.length e
  simp only[List.length_append,List.length_cons,List.length_nil] at hlen
  have hp:=qyj (decide (a.con=arrW)) (txtY a)
  have iha:=ih a (by rw[hab];simp) sa (by omega)
  have ihb:=ih b (by rw[hab];simp) sb (by omega)
  have ihc:=qhb (b:=decide (a.con=[45,62])) iha (by omega)
  have e0:(qg t.args).getD 0 .junk=encY a:=by rw[hab];rfl
  have e1:(qg t.args).getD 1 .junk=encY b:=by rw[hab];rfl
  have e2:t.args.length=2:=by rw[hab];rfl
  have hca':t.con=[45,62]:=hca
  have m3:(parW (decide (a.con=[45,62])) (txtY a)).length+4≤maxLen:=qmv (by have:decide (a.con=arrW)=decide (a.con=[45,62]):=rfl;rw[this] at hlen;omega)
  have m4:(parW (decide (a.con=[45,62])) (txtY a)).length+4+(txtY b).length≤maxLen:=qmv (by have:decide (a.con=arrW)=decide (a.con=[45,62]):=rfl;rw[this] at hlen;omega)
  repeat'(first|refine vs_ ?_|(refine vr_ ?_<;>try simp only[hca',e0,e1,e2,go_sem,↓reduceIte])|((first|simp (disch:=omega) only[e1]|(refine cs_ ?_ ?_<;>intro hc)|refine cj_ ?_|refine qa ihc fun _=>?_|refine qa ihb fun _=>?_|refine qc ihc ?_|refine qc ihb ?_)<;>try refine ev_ ?_)|with_reducible exact ti_)
  rw[e];rfl
 ·have e:=qbdr hca
  have hca':¬t.con=[45,62]:=hca
  have hlen:=congrArg List.length e
  rw[List.length_append] at hlen
  have hnp:0<(qj9 t).length:=List.length_pos_iff.2 (qy6 hv)
  have ihA:∀i,i<t.args.length->qj Tryz.prog 103 [encY (t.args.getD i Y0),.bool (decide ((t.args.getD i Y0).args≠[]))] (.str (parW (decide ((t.args.getD i Y0).args≠[])) (txtY (t.args.getD i Y0)))):=fun i hi=>by
   have hm:=qba hi
   have h1:=qn1 t.args i hi
   have h2:=congrArg List.length h1
   simp only[List.length_append,List.length_cons] at h2
   have h3:=qi6 t.args (i+1)
   have h4:=qyj (decide ((t.args.getD i Y0).args≠[])) (txtY (t.args.getD i Y0))
   exact qhb (ih _ hm (q65 hs hm) (by omega)) (by omega)
  have htk:∀i,i<t.args.length->(qj9 t++argY (t.args.take i)).length+(32::parW (decide ((t.args.getD i Y0).args≠[])) (txtY (t.args.getD i Y0))).length≤Big:=fun i hi=>by
   have h1:=qn1 t.args i hi
   have h2:=congrArg List.length h1
   simp only[List.length_append,List.length_cons] at h2 ⊢
   have h3:=qi6 t.args (i+1)
   omega
  have w0:([]:List UInt8).length+(qj9 t).length≤Big:=by simp;omega
  repeat'(first|refine vs_ ?_|(refine vr_ ?_<;>try simp only[hca',go_sem,↓reduceIte])|((first|(refine cs_ ?_ ?_<;>intro hc)|refine cj_ ?_|refine qa (qqh _) fun _=>?_|refine qa (qr9 (t:=t)) fun _=>?_|refine qca 1 (q7p w0) ?_|refine qc (qqh _) ?_|refine qc (qr9 (t:=t)) ?_)<;>try refine ev_ ?_)|with_reducible exact ti_)
  refine qk (S:=Nat) (fun i=>i≤t.args.length) (fun i=>(⟨[(3,.ptr 1 0),(32,.sl 3 (qg t.args)),(33,.int .i64 t.args.length),(34,.int .i64 i)],[]⟩,[.blk (yc t),bldE (qj9 t++argY (t.args.take i))])) (fun i=>t.args.length-i) ?_ fun i hi=>?_
  ·refine qf 0 [0,1] (Nat.zero_le _) rfl (by simp) ?_ ?_ ?_<;>simp only[List.take_zero,argY,List.append_nil]<;>(try refine ev_ ?_)<;>(try with_reducible exact ti_)<;>(try simp (disch:=omega) only[qb,and_true,true_and])
  ·by_cases hlt:i<t.args.length
   ·have hb:=htk i hlt
    have hle:decide (0<((t.args.getD i Y0).args.length:Int))=decide ((t.args.getD i Y0).args≠[]):=by
     refine decide_eq_decide.2 ⟨fun h hn=>by rw[hn] at h;simp at h,fun h=>?_⟩
     have:=List.length_pos_iff.2 h
     omega
    have m1:1+(parW (decide ((t.args.getD i Y0).args≠[])) (txtY (t.args.getD i Y0))).length≤maxLen:=qmv (by simp only[List.length_append,List.length_cons] at hb;omega)
    repeat'(first|refine vs_ ?_|(refine vr_ ?_<;>try simp (disch:=first|omega|(simp only[List.length_set,List.length_append,List.length_cons,List.length_nil];try omega)) only[ql,qb,hle,go_sem,↓reduceIte])|((first|(refine cs_ ?_ ?_<;>intro hc)|refine cj_ ?_|refine qa (ihA i hlt) fun _=>?_|refine qca 1 (q7p hb) ?_|refine qc (ihA i hlt) ?_)<;>try refine ev_ ?_)|with_reducible exact ti_)
    ·refine qf (i+1) [0,1] ⟨by omega,by omega⟩ rfl (by simp) ?_ ?_ ?_<;>simp only[qn1 _ _ hlt]<;>(try refine ev_ ?_)<;>(try with_reducible exact ti_)<;>(try simp (disch:=omega) only[qb,and_true,true_and])
    ·omega
   ·have hend:qj9 t++argY (t.args.take i)=txtY t:=by rw[e,List.take_of_length_le (by omega)]
    have hne:txtY t≠[]:=by rw[e];exact fun h=>qy6 hv (List.append_eq_nil_iff.1 h).1
    rw[hend]
    repeat'(first|refine vs_ ?_|((first|refine vr_ ?_|refine qca 1 (qbda hne hl) ?_|(refine cs_ ?_ ?_<;>intro hc)|refine cj_ ?_)<;>try refine ev_ ?_)|with_reducible exact ti_)
    ·omega
def q0n(t:Ty):List UInt8:=if qh t=true then txtY t else []
theorem qge{t:Ty}(h:qh t=true):qch t=true:=by
 rw[qh,Bool.and_eq_true,Bool.and_eq_true] at h;exact h.2.2
theorem qoy{t:Ty}(h1:szY t≤20000)(h2:dpY t≤300)(hl:(q0n t).length≤Big):qj Tryz.prog 38 [encY t] (.str (q0n t)):=by
 refine qd c0dc (by simp) (by simp only[go_sem]) rfl fun hw=>?_
 have hL:=qee h1 h2
 cases h:qh t with
 | false =>
   have e:q0n t=[]:=by rw[q0n,if_neg (by rw[h];simp)]
   rw[e]
   rw[h] at hL
   repeat'(first|refine vs_ ?_|((first|refine vr_ ?_|refine qa hL fun _=>?_|(refine cs_ ?_ ?_<;>intro hc)|refine cj_ ?_)<;>try refine ev_ ?_)|with_reducible exact ti_)
 | true =>
   have e:q0n t=txtY t:=by rw[q0n,if_pos h]
   rw[e] at hl ⊢
   rw[h] at hL
   repeat'(first|refine vs_ ?_|((first|refine vr_ ?_|refine qa hL fun _=>?_|refine qa (q11 t (qge h) hl) fun _=>?_|(refine cs_ ?_ ?_<;>intro hc)|refine cj_ ?_)<;>try refine ev_ ?_)|with_reducible exact ti_)

theorem qs(t:Ty):qh t=true↔szY t≤4096∧dpY t≤100∧qch t=true:=by
 rw[qh,Bool.and_eq_true,Bool.and_eq_true,decide_eq_true_eq,decide_eq_true_eq]
theorem qse{t:Ty}(h:qch t=true)(hc:t.con=[]):t.args=[]:=by
 rw[qdm,Bool.and_eq_true] at h
 have h2:=h.2
 rw[mayY,mayW,if_pos hc,decide_eq_true_eq] at h2
 exact List.length_eq_zero_iff.1 (by omega)
mutual
theorem qdz:∀t,qch t=true->bare t
 | .mk c v l, h => by
   rw[bare]
   refine⟨fun hc=>qse h hc,qli l ?_⟩
   rw[qch,Bool.and_eq_true] at h
   exact h.1
theorem qli:∀l,qbo l=true->qgl l
 | [],_=>by rw[qgl];trivial
 | x :: r, h => by
   rw[qbo,Bool.and_eq_true] at h
   rw[qgl]
   exact⟨qdz x h.1,qli r h.2⟩
end
def okS(s:List Pr):Prop:=risR s∧∀p∈s,qh p.ty=true
theorem qek:okS []:=⟨trivial,fun p hp=>by simp at hp⟩
theorem qru{s:List Pr}(h:okS s):okR s:=fun p hp=>by
 have:=(qs _).1 (h.2 p hp)
 exact⟨this.1,this.2.1⟩
theorem qyu{s:List Pr}(h:okS s){v:Int}{u:Ty}(hu:qm v s=some u):qh u=true:=by
 obtain⟨p,h1,_,rfl⟩:=qcg hu
 exact h.2 p h1
mutual
theorem qua{s:List Pr}(h:okS s):∀t,qch t=true->qch (putY s t)=true
 | .mk c v l, ht => by
   rw[putY]
   split
   ·cases hl:qm v s with
    | some u=>exact((qs u).1 (qyu h hl)).2.2
    | none=>exact ht
   ·rw[qch,Bool.and_eq_true] at ht ⊢
    exact⟨qo1 h l ht.1,by rw[qjz];exact ht.2⟩
theorem qo1{s:List Pr}(h:okS s):∀l,qbo l=true->qbo (qb0 s l)=true
 | [],_=>by rw[qb0,qbo]
 | x :: r, hl => by
   rw[qbo,Bool.and_eq_true] at hl
   rw[qb0,qbo,Bool.and_eq_true]
   exact⟨qua h x hl.1,qo1 h r hl.2⟩
end
def setR(l:List Pr)(v:Int)(t:Ty):List Pr×Int:=if qh t=true then(match qm v l with | some _=>(l,6) | none=>(insR v t l,0)) else(l,1)
theorem qvx{s:List Pr}(h:okS s)(v:Int)(t:Ty):okS (setR s v t).1:=by
 rw[setR]
 split
 ·rename_i ht
  cases hl:qm v s with
  | some u=>exact h
  | none =>
    refine⟨qyf h.1 hl,fun p hp=>?_⟩
    rcases insR_mem.1 hp with rfl | hp
    ·exact ht
    ·exact h.2 p hp
 ·exact h
theorem qym(s:List Pr)(v:Int)(t:Ty):(setR s v t).1.length≤s.length+1:=by
 rw[setR]
 split
 ·cases qm v s with
  | some u=>simp
  | none=>simp only[qrv];omega
 ·simp
def addR(s:List Pr):List Pr->List Pr
 | []=>s
 | p::r=>addR (setR s p.v p.ty).1 r
theorem qq3:∀(l:List Pr) {s:List Pr},okS s->okS (addR s l)
 | [],s,h=>h
 | p::r,s,h=>qq3 r (qvx h p.v p.ty)
theorem qlx:∀(l s:List Pr),(addR s l).length≤s.length+l.length
 | [],s=>by simp[addR]
 | p :: r, s => by
   have h1:=qlx r (setR s p.v p.ty).1
   have h2:=qym s p.v p.ty
   rw[addR,List.length_cons];omega
def newR(l:List Pr):List Pr:=addR [] l
theorem qme(l:List Pr):okS (newR l):=qq3 l qek
theorem qbff(l:List Pr):(newR l).length≤l.length:=by have:=qlx l [];rw[newR];simpa using this
def appR(s:List Pr)(t:Ty):Ty×Int:=if qh t=true then(if 4096<sizR s t then(Y0,2) else if qh (putY s t)=true then(putY s t,0) else(Y0,2)) else(Y0,1)
theorem qwi{s:List Pr}(h:okS s)(t:Ty):appR s t=if qh t=true then(if qh (putY s t)=true then(putY s t,0) else(Y0,2)) else(Y0,1):=by
 rw[appR]
 split
 ·rename_i ht
  have hs:=qge ht
  have hz:=qrs s t (qdz t hs)
  split
  ·rename_i hb
   rw[if_neg]
   intro hl
   have:=((qs _).1 hl).1
   omega
  ·rfl
 ·rfl
def appP(s:List Pr)(t:Ty):Ty×Int:=if qh t=true then(if(bput s t 4096 1).1<0 then(Y0,2) else((bput s t 4096 1).2,0)) else(Y0,1)
theorem qbv5{s:List Pr}(h:okS s)(t:Ty):appP s t=appR s t:=by
 rw[appP,qwi h]
 split
 ·rename_i ht
  obtain⟨h1,h2,h3⟩:=(qs t).1 ht
  have hz:=qrs s t (qdz t h3)
  have hp:=qua h t h3
  have key:=qzw s t 4096 1 (qdz t h3) (by omega) (by omega)
  by_cases hk:(sizR s t:Int)≤4096∧1+dpY (putY s t)≤101
  ·have hk':(sizR s t:Int)≤4096∧(1:Int)+dpY (putY s t)≤101:=by omega
   rw[key.1 hk',if_neg (by simp only;omega),if_pos ((qs _).2 ⟨by omega,by omega,hp⟩)]
  ·rw[if_pos (key.2 (by omega)),if_neg]
   intro hl
   have:=(qs _).1 hl
   omega
 ·rfl
theorem qb1{s:List Pr}(h:okS s){t:Ty}(he:(appR s t).2=0):qh t=true∧qh (putY s t)=true∧(appR s t).1=putY s t:=by
 rw[qwi h] at he ⊢
 split at he
 ·rename_i h1
  split at he
  ·rename_i h2
   rw[if_pos h1,if_pos h2]
   exact⟨h1,h2,rfl⟩
  ·exact absurd he (by simp)
 ·exact absurd he (by simp)
def qfs(t:List Pr):List Pr->List Pr->List Pr×Int
 | acc,[]=>(acc,0)
 | acc,p::r=>if(appR t p.ty).2=0 then qfs t (acc++[⟨p.v,(appR t p.ty).1⟩]) r else([],(appR t p.ty).2)
def qcd(t:List Pr):List Pr->List Pr->List Pr×Int
 | acc,[]=>(acc,0)
 | acc,p::r=>if(appR t p.ty).2=0 then qcd t (setR acc p.v (appR t p.ty).1).1 r else([],(appR t p.ty).2)
theorem qbav{s:List Pr}{v:Int}{t:Ty}(ht:qh t=true)(h:∀p∈s,p.v<v):setR s v t=(s++[⟨v,t⟩],0):=by
 have hn:qm v s=none:=qqw fun p hp=>by have:=h p hp;omega
 rw[setR,if_pos ht,hn]
 simp only
 rw[qyo h]
theorem qx8{t:List Pr}(ht:okS t):∀(s acc:List Pr),risR s->(∀p∈acc,∀q∈s,p.v<q.v)->qcd t acc s=qfs t acc s
 | [],acc,_,_=>rfl
 | p :: r, acc, hs, hlt => by
   rw[qcd,qfs]
   split
   ·rename_i he
    obtain⟨h1,h2,h3⟩:=qb1 ht he
    rw[qbav (by rw[h3];exact h2) fun q hq=>hlt q hq p (by simp)]
    refine qx8 ht r _ hs.2 fun a ha q hq=>?_
    rcases List.mem_append.1 ha with ha | ha
    ·exact hlt a ha q (by simp[hq])
    ·simp at ha
     subst ha
     exact hs.1 q hq
   ·rfl
def behR(s t:List Pr):List Pr×Int:=if(qfs t [] s).2=0 then(addR (qfs t [] s).1 t,0) else([],(qfs t [] s).2)
theorem qjd{t:List Pr}(ht:okS t):∀(s acc:List Pr),(qfs t acc s).2=0->(qfs t acc s).1=acc++s.map (fun p=>⟨p.v,putY t p.ty⟩)∧∀p∈s,qh (putY t p.ty)=true
 | [],acc,_=>⟨by simp[qfs],fun p hp=>by simp at hp⟩
 | p :: r, acc, he => by
   rw[qfs] at he ⊢
   split at he
   ·rename_i h0
    obtain⟨h1,h2,h3⟩:=qb1 ht h0
    obtain⟨q1,q2⟩:=qjd ht r _ he
    rw[if_pos h0]
    refine⟨by rw[q1,h3];simp,fun q hq=>?_⟩
    rcases List.mem_cons.1 hq with rfl | hq
    ·exact h2
    ·exact q2 q hq
   ·rename_i h0
    exact absurd he h0
theorem q8s{t:List Pr}:∀{s:List Pr},risR s->risR (s.map fun p=>(⟨p.v,putY t p.ty⟩:Pr))
 | [],_=>trivial
 | p :: r, h => ⟨fun q hq => by
     obtain⟨x,hx,rfl⟩:=List.mem_map.1 hq
     exact h.1 x hx,q8s h.2⟩
theorem qqm{t:List Pr}(v:Int):∀s:List Pr,qm v (s.map fun p=>(⟨p.v,putY t p.ty⟩:Pr))=(qm v s).map (putY t)
 | []=>rfl
 | p :: r => by
   rw[List.map_cons,qm,qm]
   split
   ·rfl
   ·exact qqm v r
theorem q4r{s:List Pr}{v x:Int}{t:Ty}(ht:qh t=true):qm x (setR s v t).1=match qm x s with | some u=>some u | none=>if x=v then some t else none:=by
 rw[setR,if_pos ht]
 cases hl:qm v s with
 | some u =>
   simp only
   cases hx:qm x s with
   | some w=>rfl
   | none =>
     simp only
     rw[if_neg]
     rintro rfl
     rw[hl] at hx
     cases hx
 | none =>
   simp only
   rw[quw hl]
   split
   ·rename_i h;subst h;rw[hl]
   ·cases qm x s<;>rfl
theorem qu6(x:Int):∀(l s:List Pr),(∀p∈l,qh p.ty=true)->qm x (addR s l)=match qm x s with | some u=>some u | none=>qm x l
 | [], s, _ => by
   rw[addR,qm]
   cases qm x s<;>rfl
 | p :: r, s, h => by
   rw[addR,qu6 x r _ fun q hq=>h q (by simp[hq]),q4r (h p (by simp)),qm]
   cases hx:qm x s with
   | some u=>rfl
   | none =>
     simp only
     by_cases hv:x=p.v
     ·rw[if_pos hv,if_pos hv.symm]
     ·rw[if_neg hv,if_neg (fun h=>hv h.symm)]
theorem qxl{s t:List Pr}(hs:okS s)(ht:okS t):okS (behR s t).1:=by
 rw[behR]
 split
 ·rename_i he
  obtain⟨q1,q2⟩:=qjd ht s [] he
  refine qq3 t ?_
  rw[q1,List.nil_append]
  refine⟨q8s hs.1,fun p hp=>?_⟩
  obtain⟨x,hx,rfl⟩:=List.mem_map.1 hp
  exact q2 x hx
 ·exact qek
theorem qjo{s t:List Pr}(hs:okS s)(ht:okS t)(he:(behR s t).2=0)(v:Int):qm v (behR s t).1=match qm v s with | some u=>some (putY t u) | none=>qm v t:=by
 rw[behR] at he ⊢
 split at he
 ·rename_i h0
  rw[if_pos h0]
  obtain⟨q1,q2⟩:=qjd ht s [] h0
  simp only
  rw[qu6 v t _ ht.2,q1,List.nil_append,qqm]
  cases qm v s<;>rfl
 ·rename_i h0
  exact absurd he h0
def qcjt(vars:List Int)(s:List Pr):List Pr:=s.filter fun p=>decide (p.v∈vars)
theorem qkd(f:Pr->Bool):∀{s:List Pr},risR s->risR (s.filter f)
 | [],_=>trivial
 | p :: r, h => by
   rw[List.filter_cons]
   split
   ·exact⟨fun q hq=>h.1 q (List.mem_filter.1 hq).1,qkd f h.2⟩
   ·exact qkd f h.2
theorem qbi9{s:List Pr}(h:okS s)(vars:List Int):okS (qcjt vars s):=⟨qkd _ h.1,fun p hp=>h.2 p (List.mem_filter.1 hp).1⟩

set_option maxRecDepth 4000

theorem qof:qg []=[]:=by rw[qg]
theorem capY{k:Nat}(h:k≤1000000000):qbj k 48:=by unfold qbj;omega
set_option maxRecDepth 4000

/-! the reference's -/

set_option maxRecDepth 4000

theorem qr6:AV.agg [.str [],.int .i64 0,.sl 3 []]=encY Y0:=by rw[Y0,encY,qg]
def getA(s:List Pr)(v:Int):AV:=match qm v s with | some u=>.tup [encY u,.bool true] | none=>.tup [encY Y0,.bool false]
theorem qbwn(k:Nat)(s:List Pr)(v:Int):(getA s v).bd k=true:=by
 unfold getA
 split<;>simp only[AV.bd,AV.bds,qx,Bool.and_true]
theorem qp4{s:List Pr}{i:Nat}(h:i<s.length)(v:Int):qm v (s.drop i)=if(s.getD i R0).v=v then some (s.getD i R0).ty else qm v (s.drop (i+1)):=by rw[qbod h,qm]
theorem qfo(p:Pr):AV.agg [.str p.ty.con,.int .i64 p.ty.var,.sl 3 (qg p.ty.args)]=encY p.ty:=qbe _
theorem qmp(s:List Pr)(v:Int):qj Tryz.prog 164 [.sl 4 (qz s),.int .i64 v] (getA s v):=by
 refine qd c0cx (by simp) (by simp only[go_sem]) (qbwn _ _ _) fun hw=>?_
 have hl:=(ql1 hw.1).1
 repeat'(first|refine vs_ ?_|((first|refine vr_ ?_|(refine cs_ ?_ ?_<;>intro hc)|refine cj_ ?_)<;>try refine ev_ ?_)|with_reducible exact ti_)
 refine qk (S:=Nat) (fun i=>i≤s.length∧qm v (s.drop i)=qm v s) (fun i=>(⟨[(0,.sl 4 (qz s)),(1,.int .i64 v),(4,.ptr 0 0),(6,.int .i64 i)],[]⟩,[.blk [.str [],.int .i64 0,.nils]])) (fun i=>s.length-i) ?_ fun i hi=>?_
 ·refine qf 0 [0] ⟨Nat.zero_le _,rfl⟩ rfl (by simp) ?_ ?_ ?_<;>(try refine ev_ ?_)<;>(try with_reducible exact ti_)<;>(try simp (disch:=omega) only[qb,and_true,true_and])
 ·obtain⟨hi,ha⟩:=hi
  repeat'(first|refine vs_ ?_|(refine vr_ ?_<;>try simp (disch:=first|omega|(simp only[List.length_set,List.length_append,List.length_cons,List.length_nil];try omega)) only[qu,qb,qfo,qr6,qb2,go_sem,↓reduceIte])|((first|(refine cs_ ?_ ?_<;>intro hc)|refine cj_ ?_)<;>try refine ev_ ?_)|with_reducible exact ti_)
  ·rename_i hc
   rw[getA,←ha,qp4 (by omega),if_pos hc]
  ·rename_i hc
   refine qf (i+1) [0] ⟨⟨by omega,?_⟩,by omega⟩ rfl (by simp) ?_ ?_ ?_<;>(try refine ev_ ?_)<;>(try with_reducible exact ti_)<;>(try simp (disch:=omega) only[qb,and_true,true_and])
   rw[←ha,qp4 (i:=i) (by omega),if_neg hc]
  ·rw[getA,←ha,List.drop_of_length_le (by omega),qm]
def rowA(p:List Pr×Int):AV:=.tup [.sl 4 (qz p.1),.int .i64 p.2]
def typA(p:Ty×Int):AV:=.tup [encY p.1,.int .i64 p.2]
theorem qk3(k:Nat)(p:List Pr×Int):(rowA p).bd k=true:=by simp only[rowA,AV.bd,AV.bds,qce,Bool.and_true]
theorem qqc(k:Nat)(p:Ty×Int):(typA p).bd k=true:=by simp only[typA,AV.bd,AV.bds,qx,Bool.and_true]
theorem capR{k:Nat}(h:k≤1000000000):qbj k 56:=by unfold qbj;omega
theorem qu1(v:Int):∀(l:List Pr),ahdR v l<l.length->¬(l.getD (ahdR v l) R0).v<v
 | [],h=>by simp[ahdR] at h
 | p :: r, h => by
   rw[ahdR] at h ⊢
   split
   ·rename_i hp
    rw[if_pos hp] at h
    exact qu1 v r (by simpa using h)
   ·rename_i hp
    exact hp
theorem qi3(v:Int)(t:Ty):AV.agg [.int .i64 v,.str t.con,.int .i64 t.var,.sl 3 (qg t.args)]=encR ⟨v,t⟩:=rfl
theorem qth{t:Ty}(h:qh t=true):szY t≤4096∧dpY t≤100:=⟨((qs t).1 h).1,((qs t).1 h).2.1⟩
set_option maxHeartbeats 1000000 in
theorem q5w{s:List Pr}{v:Int}{t:Ty}(hs:s.length≤100000)(h1:szY t≤20000)(h2:dpY t≤300):qj Tryz.prog 116 [.sl 4 (qz s),.int .i64 v,encY t] (rowA (setR s v t)):=by
 refine qd c0cy (by simp) (by simp only[go_sem]) (qk3 _ _) fun hw=>?_
 have hl:=(ql1 hw.1).1
 have f1:=qd1 h1 h2
 have f2:=qmp s v
 have hA:=qnp v s
 cases ht:qh t with
 | false =>
   rw[ht] at f1
   repeat'(first|refine vs_ ?_|((first|refine vr_ ?_|refine qa f1 fun _=>?_|refine qc f1 ?_|(refine cs_ ?_ ?_<;>intro hc)|refine cj_ ?_)<;>try refine ev_ ?_)|with_reducible exact ti_)
   rw[setR,if_neg (by rw[ht];simp)];rfl
 | true =>
   rw[ht] at f1
   cases hk:qm v s with
   | some u =>
     rw[getA,hk] at f2
     repeat'(first|refine vs_ ?_|((first|refine vr_ ?_|refine qa f1 fun _=>?_|refine qa f2 fun _=>?_|refine qc f1 ?_|refine qc f2 ?_|(refine cs_ ?_ ?_<;>intro hc)|refine cj_ ?_)<;>try refine ev_ ?_)|with_reducible exact ti_)
     rw[setR,if_pos ht,hk];rfl
   | none =>
     rw[getA,hk] at f2
     have hS:setR s v t=(insR v t s,0):=by rw[setR,if_pos ht,hk]
     repeat'(first|refine vs_ ?_|((first|refine vr_ ?_|refine qa f1 fun _=>?_|refine qa f2 fun _=>?_|refine qc f1 ?_|refine qc f2 ?_|(refine cs_ ?_ ?_<;>intro hc)|refine cj_ ?_)<;>try refine ev_ ?_)|with_reducible exact ti_)
     refine qk (S:=Nat) (fun i=>i≤ahdR v s) (fun i=>(⟨[(0,.sl 4 (qz s)),(1,.int .i64 v),(5,.ptr 0 0),(10,.int .i64 i)],[]⟩,[.blk (yc t)])) (fun i=>ahdR v s-i) ?_ fun i hi=>?_
     ·refine qf 0 [0] (Nat.zero_le _) rfl (by simp) ?_ ?_ ?_<;>(try refine ev_ ?_)<;>(try with_reducible exact ti_)<;>(try simp (disch:=omega) only[qb,and_true,true_and])
     ·have hge:i<s.length->¬(s.getD i R0).v<v->i=ahdR v s:=fun hi' hn=>by
       by_cases h:i<ahdR v s
       ·exact absurd (qvp v s i h) hn
       ·omega
      have hgo:i<s.length->(s.getD i R0).v<v->i<ahdR v s:=fun hi' hn=>by
       by_cases h:i=ahdR v s
       ·subst h;exact absurd hn (qu1 v s hi')
       ·omega
      have hti:(s.take i).length=i:=by rw[List.length_take];omega
      have hcap1:qbj i 56=True:=eq_true (capR (by omega))
      have hcap2:qbj (i+1) 56=True:=eq_true (capR (by omega))
      have hcap3:qbj (i+1+(s.drop i).length) 56=True:=eq_true (capR (by rw[List.length_drop];omega))
      have hfin:i=ahdR v s->insR v t s=s.take i++(⟨v,t⟩::s.drop i):=fun h=>by rw[insR,h]
      by_cases h0:i=0
      ·subst h0
       have hcapA:qbj 1 56=True:=eq_true (capR (by omega))
       have hcapB:qbj (1+s.length) 56=True:=eq_true (capR (by omega))
       have hlen:(s.length+1=1+s.length)=True:=eq_true (by omega)
       repeat'(first|refine vs_ ?_|(refine vr_ ?_<;>try simp (disch:=first|omega|(simp only[List.length_set,List.length_append,List.length_cons,List.length_nil];try omega)) only[qu,qb,qbm,qi3,go_sem,↓reduceIte])|((first|simp (disch:=omega) only[qu]|simp (disch:=omega) only[hcapA]|simp (disch:=omega) only[hcapB]|simp (disch:=omega) only[hlen,if_true]|(refine cs_ ?_ ?_<;>intro hc)|refine cj_ ?_)<;>try refine ev_ ?_)|with_reducible exact ti_)
       ·have:=hgo (by omega) (by assumption)
        refine qf 1 [0] ⟨by omega,by omega⟩ rfl (by simp) ?_ ?_ ?_<;>(try refine ev_ ?_)<;>(try with_reducible exact ti_)<;>(try simp (disch:=omega) only[qb,and_true,true_and])
        all_goals(rw[qkm])
       all_goals
        have hz:0=ahdR v s:=by first | exact hge (by omega) (by assumption) | omega
        rw[hS,hfin hz];rfl
      ·have hlen:((s.take i++⟨v,t⟩::s.drop i).length=i+1+(s.drop i).length)=True:=eq_true (by rw[List.length_append,List.length_cons,hti];omega)
       repeat'(first|refine vs_ ?_|(refine vr_ ?_<;>try simp (disch:=first|omega|(simp only[List.length_set,List.length_append,List.length_cons,List.length_nil];try omega)) only[qu,qb,qbm,hti,h0,qi3,go_sem,↓reduceIte])|((first|simp (disch:=omega) only[qu]|simp (disch:=omega) only[hti,h0,if_false]|simp (disch:=omega) only[hcap1]|simp (disch:=omega) only[hcap2]|simp (disch:=omega) only[hcap3]|(refine cs_ ?_ ?_<;>intro hc)|refine cj_ ?_)<;>try refine ev_ ?_)|with_reducible exact ti_)
       ·have:=hgo (by omega) (by assumption)
        refine qf (i+1) [0] ⟨by omega,by omega⟩ rfl (by simp) ?_ ?_ ?_<;>(try refine ev_ ?_)<;>(try with_reducible exact ti_)<;>(try simp (disch:=omega) only[qb,and_true,true_and])
       all_goals
        have hz:i=ahdR v s:=by first | exact hge (by omega) (by assumption) | omega
        have e:qz (s.take i)++encR ⟨v,t⟩::qz (s.drop i)=qz (insR v t s):=by rw[hfin hz];simp[qz]
        rw[if_pos (by omega),e,hS]
        exact⟨by simp only[AV.bd,qce],rfl⟩
end Go.Proofs.YtkenggenkmfopaaGreat
