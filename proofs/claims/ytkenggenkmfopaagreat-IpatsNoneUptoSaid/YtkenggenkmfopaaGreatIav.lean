/- Texts of this proof, joined. -/
import Derived.Test.YtkenggenkmfopaaGreatIau
import Derived.Test.YtkenggenkmfopaaGreatIat
import Derived.Test.YtkenggenkmfopaaGreatIah
set_option linter.unusedVariables false
set_option linter.unusedSimpArgs false

/- terms: the program's texts -/
set_option maxRecDepth 4000
namespace Go.Proofs.YtkenggenkmfopaaGreat
open Go Go.RowKit Go.V

theorem qvt{t:Ty}:qp Tryz.prog 105 [hdA t] (.str (qlf t)):=by
 refine qe c0cl (by simp) (by simp only[go_sem]) rfl fun hw=>?_
 have hv:(Lit.int .i64 t.var).wf=true:=hw.1.2.1
 by_cases hc0:t.con=[]
 ·by_cases h0:0≤t.var
  ·repeat'(first|refine vs_ ?_|(refine vr_ ?_<;>try simp only[hc0,h0,go_sem,↓reduceIte])|((first|(refine cs_ ?_ ?_<;>intro hc)|refine cj_ ?_|simp (disch:=omega) only[qa,qc]|refine qb (qt6 _) fun _=>?_)<;>try refine ev_ ?_)|with_reducible exact ti_)
   rw[qlf,if_pos hc0,if_pos h0]
  ·have hneg:=qce8 hv (by omega)
   have hd:=qbdy (n:=-1-t.var) (by have:=qov hv;simp[Lit.wf,IntKind.min,IntKind.max,IntKind.signed,IntKind.bits];omega)
   have hm:1+(digI (-1-t.var)).length≤maxLen:=by unfold maxLen;omega
   repeat'(first|refine vs_ ?_|(refine vr_ ?_<;>try simp only[hc0,h0,hneg,go_sem,↓reduceIte])|((first|(refine cs_ ?_ ?_<;>intro hc)|refine cj_ ?_|simp (disch:=omega) only[qa,qc]|refine qb (qj2 _) fun _=>?_)<;>try refine ev_ ?_)|with_reducible exact ti_)
   rw[qlf,if_pos hc0,if_neg h0]
 ·repeat'(first|refine vs_ ?_|(refine vr_ ?_<;>try simp only[hc0,go_sem,↓reduceIte])|((first|(refine cs_ ?_ ?_<;>intro hc)|refine cj_ ?_|simp (disch:=omega) only[qa,qc])<;>try refine ev_ ?_)|with_reducible exact ti_)
  rw[qlf,if_neg hc0]
abbrev bldE(l:List UInt8):Ent:=.cus (bldR 202 5 l)
theorem q70{l s:List UInt8}(h:l.length+s.length≤Big):VM Tryz.prog 104 (bldE l) (bldE (l++s)) [.ptr 0 0,.str s] (.tup [.int .i64 s.length,.nili]) :=
 qbww (ρ:=Go.Proofs.Tryz.lays156_ren) Go.Proofs.Tryz.bld166 Go.Proofs.Tryz.Builder_Extra_156 h
theorem qbhq{l:List UInt8}(h0:l≠[])(h:l.length≤Big):VM Tryz.prog 106 (bldE l) .dead [.ptr 0 0] (.str l) :=
 qbee (ρ:=Go.Proofs.Tryz.lays156_ren) Go.Proofs.Tryz.bld169 Go.Proofs.Tryz.Builder_Extra_156 h0 h
theorem qhp{a:Ty}{b:Bool}(h:qp Tryz.prog 68 [encY a] (.str (txtY a)))(hl:(txtY a).length+2≤Big):qp Tryz.prog 103 [encY a,.bool b] (.str (parW b (txtY a))):=by
 refine qe c0cm (by simp) (by simp only[go_sem]) rfl fun hw=>?_
 have h1:1+(txtY a).length≤maxLen:=qmx (by omega)
 have h2:(txtY a).length+1+1≤maxLen:=qmx (by omega)
 cases b
 ·repeat'(first|refine vs_ ?_|((first|refine vr_ ?_|refine qb h fun _=>?_|(refine cs_ ?_ ?_<;>intro hc)|refine cj_ ?_|simp (disch:=omega) only[qa,qc])<;>try refine ev_ ?_)|with_reducible exact ti_)
  rfl
 ·repeat'(first|refine vs_ ?_|((first|refine vr_ ?_|refine qb h fun _=>?_|(refine cs_ ?_ ?_<;>intro hc)|refine cj_ ?_|simp (disch:=omega) only[qa,qc])<;>try refine ev_ ?_)|with_reducible exact ti_)
  rfl
theorem qzc{t:Ty}(hv:(Lit.int .i64 t.var).wf=true):qlf t≠[]:=by
 rw[qlf]
 split
 ·split
  ·rw[ltrI,if_neg (by omega)];split<;>simp
  ·simp
 ·assumption
theorem q1r:∀t,qc5 t=true->(txtY t).length≤Big->qp Tryz.prog 68 [encY t] (.str (txtY t)):=by
 refine Ty.ind fun t ih hs hl=>?_
 refine qe c0cn (by simp) (by simp only[go_sem]) rfl fun hw=>?_
 obtain⟨hk,_,hv,_⟩:=(qbby t).1 hw.1
 by_cases hca:t.con=arrW
 ·obtain⟨a,b,hab,sa,sb⟩:=q6n hs hca
  have e:=qbk2 hca hab
  have hlen:=congrArg List.length e
  simp only[List.length_append,List.length_cons,List.length_nil] at hlen
  have hp:=q0t (decide (a.con=arrW)) (txtY a)
  have iha:=ih a (by rw[hab];simp) sa (by omega)
  have ihb:=ih b (by rw[hab];simp) sb (by omega)
  have ihc:=qhp (b:=decide (a.con=[45,62])) iha (by omega)
  have e0:(qh t.args).getD 0 .junk=encY a:=by rw[hab];rfl
  have e1:(qh t.args).getD 1 .junk=encY b:=by rw[hab];rfl
  have e2:t.args.length=2:=by rw[hab];rfl
  have hca':t.con=[45,62]:=hca
  have m3:(parW (decide (a.con=[45,62])) (txtY a)).length+4≤maxLen:=qmx (by have:decide (a.con=arrW)=decide (a.con=[45,62]):=rfl;rw[this] at hlen;omega)
  have m4:(parW (decide (a.con=[45,62])) (txtY a)).length+4+(txtY b).length≤maxLen:=qmx (by have:decide (a.con=arrW)=decide (a.con=[45,62]):=rfl;rw[this] at hlen;omega)
  repeat'(first|refine vs_ ?_|(refine vr_ ?_<;>try simp only[hca',e0,e1,e2,go_sem,↓reduceIte])|((first|simp (disch:=omega) only[e1]|(refine cs_ ?_ ?_<;>intro hc)|refine cj_ ?_|simp (disch:=omega) only[qa,qc]|refine qb ihc fun _=>?_|refine qb ihb fun _=>?_|refine qf ihc ?_|refine qf ihb ?_)<;>try refine ev_ ?_)|with_reducible exact ti_)
  rw[e];rfl
 ·have e:=qbic hca
  have hca':¬t.con=[45,62]:=hca
  have hlen:=congrArg List.length e
  rw[List.length_append] at hlen
  have hnp:0<(qlf t).length:=List.length_pos_iff.2 (qzc hv)
  have ihA:∀i,i<t.args.length->qp Tryz.prog 103 [encY (t.args.getD i Y0),.bool (decide ((t.args.getD i Y0).args≠[]))] (.str (parW (decide ((t.args.getD i Y0).args≠[])) (txtY (t.args.getD i Y0)))):=fun i hi=>by
   have hm:=qcn hi
   have h1:=qns t.args i hi
   have h2:=congrArg List.length h1
   simp only[List.length_append,List.length_cons] at h2
   have h3:=qi5 t.args (i+1)
   have h4:=q0t (decide ((t.args.getD i Y0).args≠[])) (txtY (t.args.getD i Y0))
   exact qhp (ih _ hm (q7m hs hm) (by omega)) (by omega)
  have htk:∀i,i<t.args.length->(qlf t++argY (t.args.take i)).length+(32::parW (decide ((t.args.getD i Y0).args≠[])) (txtY (t.args.getD i Y0))).length≤Big:=fun i hi=>by
   have h1:=qns t.args i hi
   have h2:=congrArg List.length h1
   simp only[List.length_append,List.length_cons] at h2 ⊢
   have h3:=qi5 t.args (i+1)
   omega
  have w0:([]:List UInt8).length+(qlf t).length≤Big:=by simp;omega
  repeat'(first|refine vs_ ?_|(refine vr_ ?_<;>try simp only[hca',go_sem,↓reduceIte])|((first|(refine cs_ ?_ ?_<;>intro hc)|refine cj_ ?_|simp (disch:=omega) only[qa,qc]|refine qb (qq8 _) fun _=>?_|refine qb (qvt (t:=t)) fun _=>?_|refine qcw 1 (q70 w0) ?_|refine qf (qq8 _) ?_|refine qf (qvt (t:=t)) ?_)<;>try refine ev_ ?_)|with_reducible exact ti_)
  refine qo (S:=Nat) (fun i=>i≤t.args.length) (fun i=>(⟨[(3,.ptr 1 0),(32,.sl 3 (qh t.args)),(33,.int .i64 t.args.length),(34,.int .i64 i)],[]⟩,[.blk (yc t),bldE (qlf t++argY (t.args.take i))])) (fun i=>t.args.length-i) ?_ fun i hi=>?_
  ·refine qj 0 [0,1] (Nat.zero_le _) rfl (by simp) ?_ ?_ ?_<;>simp only[List.take_zero,argY,List.append_nil]<;>(try refine ev_ ?_)<;>(try with_reducible exact ti_)<;>(try simp (disch:=omega) only[qc,and_true,true_and])
  ·by_cases hlt:i<t.args.length
   ·have hb:=htk i hlt
    have hle:decide (0<((t.args.getD i Y0).args.length:Int))=decide ((t.args.getD i Y0).args≠[]):=by
     refine decide_eq_decide.2 ⟨fun h hn=>by rw[hn] at h;simp at h,fun h=>?_⟩
     have:=List.length_pos_iff.2 h
     omega
    have m1:1+(parW (decide ((t.args.getD i Y0).args≠[])) (txtY (t.args.getD i Y0))).length≤maxLen:=qmx (by simp only[List.length_append,List.length_cons] at hb;omega)
    repeat'(first|refine vs_ ?_|(refine vr_ ?_<;>try simp (disch:=first|omega|(simp only[List.length_set,List.length_append,List.length_cons,List.length_nil];try omega)) only[qbb,qc,hle,go_sem,↓reduceIte])|((first|(refine cs_ ?_ ?_<;>intro hc)|refine cj_ ?_|simp (disch:=omega) only[qa,qc]|refine qb (ihA i hlt) fun _=>?_|refine qcw 1 (q70 hb) ?_|refine qf (ihA i hlt) ?_)<;>try refine ev_ ?_)|with_reducible exact ti_)
    ·refine qj (i+1) [0,1] ⟨by omega,by omega⟩ rfl (by simp) ?_ ?_ ?_<;>simp only[qns _ _ hlt]<;>(try refine ev_ ?_)<;>(try with_reducible exact ti_)<;>(try simp (disch:=omega) only[qc,and_true,true_and])
    ·omega
   ·have hend:qlf t++argY (t.args.take i)=txtY t:=by rw[e,List.take_of_length_le (by omega)]
    have hne:txtY t≠[]:=by rw[e];exact fun h=>qzc hv (List.append_eq_nil_iff.1 h).1
    rw[hend]
    repeat'(first|refine vs_ ?_|((first|refine vr_ ?_|refine qcw 1 (qbhq hne hl) ?_|(refine cs_ ?_ ?_<;>intro hc)|refine cj_ ?_|simp (disch:=omega) only[qa,qc])<;>try refine ev_ ?_)|with_reducible exact ti_)
    ·omega
def q1p(t:Ty):List UInt8:=if qq t=true then txtY t else []
theorem qiy{t:Ty}(h:qq t=true):qc5 t=true:=by
 rw[qq,Bool.and_eq_true,Bool.and_eq_true] at h;exact h.2.2
theorem qke{t:Ty}(h1:szY t≤20000)(h2:dpY t≤300)(hl:(q1p t).length≤Big):qp Tryz.prog 38 [encY t] (.str (q1p t)):=by
 refine qe c0co (by simp) (by simp only[go_sem]) rfl fun hw=>?_
 have hL:=qee h1 h2
 cases h:qq t with
 | false =>
   have e:q1p t=[]:=by rw[q1p,if_neg (by rw[h];simp)]
   rw[e]
   rw[h] at hL
   repeat'(first|refine vs_ ?_|((first|refine vr_ ?_|refine qb hL fun _=>?_|(refine cs_ ?_ ?_<;>intro hc)|refine cj_ ?_)<;>try refine ev_ ?_)|with_reducible exact ti_)
 | true =>
   have e:q1p t=txtY t:=by rw[q1p,if_pos h]
   rw[e] at hl ⊢
   rw[h] at hL
   repeat'(first|refine vs_ ?_|((first|refine vr_ ?_|refine qb hL fun _=>?_|refine qb (q1r t (qiy h) hl) fun _=>?_|(refine cs_ ?_ ?_<;>intro hc)|refine cj_ ?_)<;>try refine ev_ ?_)|with_reducible exact ti_)

theorem qbc(t:Ty):qq t=true↔szY t≤4096∧dpY t≤100∧qc5 t=true:=by
 rw[qq,Bool.and_eq_true,Bool.and_eq_true,decide_eq_true_eq,decide_eq_true_eq]
theorem qtt{t:Ty}(h:qc5 t=true)(hc:t.con=[]):t.args=[]:=by
 rw[qg2,Bool.and_eq_true] at h
 have h2:=h.2
 rw[mayY,mayW,if_pos hc,decide_eq_true_eq] at h2
 exact List.length_eq_zero_iff.1 (by omega)
mutual
theorem qev:∀t,qc5 t=true->bare t
 | .mk c v l, h => by
   rw[bare]
   refine⟨fun hc=>qtt h hc,qlm l ?_⟩
   rw[qc5,Bool.and_eq_true] at h
   exact h.1
theorem qlm:∀l,qc0 l=true->qjj l
 | [],_=>by rw[qjj];trivial
 | x :: r, h => by
   rw[qc0,Bool.and_eq_true] at h
   rw[qjj]
   exact⟨qev x h.1,qlm r h.2⟩
end
def okS(s:List Pr):Prop:=risR s∧∀p∈s,qq p.ty=true
theorem qfm:okS []:=⟨trivial,fun p hp=>by simp at hp⟩
theorem qb6p{s:List Pr}(h:okS s):okR s:=fun p hp=>by
 have:=(qbc _).1 (h.2 p hp)
 exact⟨this.1,this.2.1⟩
theorem qy4{s:List Pr}(h:okS s){v:Int}{u:Ty}(hu:q6 v s=some u):qq u=true:=by
 obtain⟨p,h1,_,rfl⟩:=qf0 hu
 exact h.2 p h1
mutual
theorem qun{s:List Pr}(h:okS s):∀t,qc5 t=true->qc5 (putY s t)=true
 | .mk c v l, ht => by
   rw[putY]
   split
   ·cases hl:q6 v s with
    | some u=>exact((qbc u).1 (qy4 h hl)).2.2
    | none=>exact ht
   ·rw[qc5,Bool.and_eq_true] at ht ⊢
    exact⟨qp3 h l ht.1,by rw[q9c];exact ht.2⟩
theorem qp3{s:List Pr}(h:okS s):∀l,qc0 l=true->qc0 (qfp s l)=true
 | [],_=>by rw[qfp,qc0]
 | x :: r, hl => by
   rw[qc0,Bool.and_eq_true] at hl
   rw[qfp,qc0,Bool.and_eq_true]
   exact⟨qun h x hl.1,qp3 h r hl.2⟩
end
def setR(l:List Pr)(v:Int)(t:Ty):List Pr×Int:=if qq t=true then(match q6 v l with | some _=>(l,6) | none=>(insR v t l,0)) else(l,1)
theorem qwa{s:List Pr}(h:okS s)(v:Int)(t:Ty):okS (setR s v t).1:=by
 rw[setR]
 split
 ·rename_i ht
  cases hl:q6 v s with
  | some u=>exact h
  | none =>
    refine⟨qyy h.1 hl,fun p hp=>?_⟩
    rcases insR_mem.1 hp with rfl | hp
    ·exact ht
    ·exact h.2 p hp
 ·exact h
theorem q0y(s:List Pr)(v:Int)(t:Ty):(setR s v t).1.length≤s.length+1:=by
 rw[setR]
 split
 ·cases q6 v s with
  | some u=>simp
  | none=>simp only[qsk];omega
 ·simp
def addR(s:List Pr):List Pr->List Pr
 | []=>s
 | p::r=>addR (setR s p.v p.ty).1 r
theorem qqx:∀(l:List Pr) {s:List Pr},okS s->okS (addR s l)
 | [],s,h=>h
 | p::r,s,h=>qqx r (qwa h p.v p.ty)
theorem qr4:∀(l s:List Pr),(addR s l).length≤s.length+l.length
 | [],s=>by simp[addR]
 | p :: r, s => by
   have h1:=qr4 r (setR s p.v p.ty).1
   have h2:=q0y s p.v p.ty
   rw[addR,List.length_cons];omega
def newR(l:List Pr):List Pr:=addR [] l
theorem qkp(l:List Pr):okS (newR l):=qqx l qfm
theorem qbgz(l:List Pr):(newR l).length≤l.length:=by have:=qr4 l [];rw[newR];simpa using this
def appR(s:List Pr)(t:Ty):Ty×Int:=if qq t=true then(if 4096<sizR s t then(Y0,2) else if qq (putY s t)=true then(putY s t,0) else(Y0,2)) else(Y0,1)
theorem qwb{s:List Pr}(h:okS s)(t:Ty):appR s t=if qq t=true then(if qq (putY s t)=true then(putY s t,0) else(Y0,2)) else(Y0,1):=by
 rw[appR]
 split
 ·rename_i ht
  have hs:=qiy ht
  have hz:=qx4 s t (qev t hs)
  split
  ·rename_i hb
   rw[if_neg]
   intro hl
   have:=((qbc _).1 hl).1
   omega
  ·rfl
 ·rfl
def appP(s:List Pr)(t:Ty):Ty×Int:=if qq t=true then(if(bput s t 4096 1).1<0 then(Y0,2) else((bput s t 4096 1).2,0)) else(Y0,1)
theorem qcaq{s:List Pr}(h:okS s)(t:Ty):appP s t=appR s t:=by
 rw[appP,qwb h]
 split
 ·rename_i ht
  obtain⟨h1,h2,h3⟩:=(qbc t).1 ht
  have hz:=qx4 s t (qev t h3)
  have hp:=qun h t h3
  have key:=qy8 s t 4096 1 (qev t h3) (by omega) (by omega)
  by_cases hk:(sizR s t:Int)≤4096∧1+dpY (putY s t)≤101
  ·have hk':(sizR s t:Int)≤4096∧(1:Int)+dpY (putY s t)≤101:=by omega
   rw[key.1 hk',if_neg (by simp only;omega),if_pos ((qbc _).2 ⟨by omega,by omega,hp⟩)]
  ·rw[if_pos (key.2 (by omega)),if_neg]
   intro hl
   have:=(qbc _).1 hl
   omega
 ·rfl
theorem qdl{s:List Pr}(h:okS s){t:Ty}(he:(appR s t).2=0):qq t=true∧qq (putY s t)=true∧(appR s t).1=putY s t:=by
 rw[qwb h] at he ⊢
 split at he
 ·rename_i h1
  split at he
  ·rename_i h2
   rw[if_pos h1,if_pos h2]
   exact⟨h1,h2,rfl⟩
  ·exact absurd he (by simp)
 ·exact absurd he (by simp)
def qk2(t:List Pr):List Pr->List Pr->List Pr×Int
 | acc,[]=>(acc,0)
 | acc,p::r=>if(appR t p.ty).2=0 then qk2 t (acc++[⟨p.v,(appR t p.ty).1⟩]) r else([],(appR t p.ty).2)
def qci(t:List Pr):List Pr->List Pr->List Pr×Int
 | acc,[]=>(acc,0)
 | acc,p::r=>if(appR t p.ty).2=0 then qci t (setR acc p.v (appR t p.ty).1).1 r else([],(appR t p.ty).2)
theorem qbig{s:List Pr}{v:Int}{t:Ty}(ht:qq t=true)(h:∀p∈s,p.v<v):setR s v t=(s++[⟨v,t⟩],0):=by
 have hn:q6 v s=none:=qsh fun p hp=>by have:=h p hp;omega
 rw[setR,if_pos ht,hn]
 simp only
 rw[qyw h]
theorem qzy{t:List Pr}(ht:okS t):∀(s acc:List Pr),risR s->(∀p∈acc,∀q∈s,p.v<q.v)->qci t acc s=qk2 t acc s
 | [],acc,_,_=>rfl
 | p :: r, acc, hs, hlt => by
   rw[qci,qk2]
   split
   ·rename_i he
    obtain⟨h1,h2,h3⟩:=qdl ht he
    rw[qbig (by rw[h3];exact h2) fun q hq=>hlt q hq p (by simp)]
    refine qzy ht r _ hs.2 fun a ha q hq=>?_
    rcases List.mem_append.1 ha with ha | ha
    ·exact hlt a ha q (by simp[hq])
    ·simp at ha
     subst ha
     exact hs.1 q hq
   ·rfl
def behR(s t:List Pr):List Pr×Int:=if(qk2 t [] s).2=0 then(addR (qk2 t [] s).1 t,0) else([],(qk2 t [] s).2)
theorem qj7{t:List Pr}(ht:okS t):∀(s acc:List Pr),(qk2 t acc s).2=0->(qk2 t acc s).1=acc++s.map (fun p=>⟨p.v,putY t p.ty⟩)∧∀p∈s,qq (putY t p.ty)=true
 | [],acc,_=>⟨by simp[qk2],fun p hp=>by simp at hp⟩
 | p :: r, acc, he => by
   rw[qk2] at he ⊢
   split at he
   ·rename_i h0
    obtain⟨h1,h2,h3⟩:=qdl ht h0
    obtain⟨q1,q2⟩:=qj7 ht r _ he
    rw[if_pos h0]
    refine⟨by rw[q1,h3];simp,fun q hq=>?_⟩
    rcases List.mem_cons.1 hq with rfl | hq
    ·exact h2
    ·exact q2 q hq
   ·rename_i h0
    exact absurd he h0
theorem q8u{t:List Pr}:∀{s:List Pr},risR s->risR (s.map fun p=>(⟨p.v,putY t p.ty⟩:Pr))
 | [],_=>trivial
 | p :: r, h => ⟨fun q hq => by
     obtain⟨x,hx,rfl⟩:=List.mem_map.1 hq
     exact h.1 x hx,q8u h.2⟩
theorem qrn{t:List Pr}(v:Int):∀s:List Pr,q6 v (s.map fun p=>(⟨p.v,putY t p.ty⟩:Pr))=(q6 v s).map (putY t)
 | []=>rfl
 | p :: r => by
   rw[List.map_cons,q6,q6]
   split
   ·rfl
   ·exact qrn v r
theorem q9n{s:List Pr}{v x:Int}{t:Ty}(ht:qq t=true):q6 x (setR s v t).1=match q6 x s with | some u=>some u | none=>if x=v then some t else none:=by
 rw[setR,if_pos ht]
 cases hl:q6 v s with
 | some u =>
   simp only
   cases hx:q6 x s with
   | some w=>rfl
   | none =>
     simp only
     rw[if_neg]
     rintro rfl
     rw[hl] at hx
     cases hx
 | none =>
   simp only
   rw[qua hl]
   split
   ·rename_i h;subst h;rw[hl]
   ·cases q6 x s<;>rfl
theorem qvn(x:Int):∀(l s:List Pr),(∀p∈l,qq p.ty=true)->q6 x (addR s l)=match q6 x s with | some u=>some u | none=>q6 x l
 | [], s, _ => by
   rw[addR,q6]
   cases q6 x s<;>rfl
 | p :: r, s, h => by
   rw[addR,qvn x r _ fun q hq=>h q (by simp[hq]),q9n (h p (by simp)),q6]
   cases hx:q6 x s with
   | some u=>rfl
   | none =>
     simp only
     by_cases hv:x=p.v
     ·rw[if_pos hv,if_pos hv.symm]
     ·rw[if_neg hv,if_neg (fun h=>hv h.symm)]
theorem q8w{s t:List Pr}(hs:okS s)(ht:okS t):okS (behR s t).1:=by
 rw[behR]
 split
 ·rename_i he
  obtain⟨q1,q2⟩:=qj7 ht s [] he
  refine qqx t ?_
  rw[q1,List.nil_append]
  refine⟨q8u hs.1,fun p hp=>?_⟩
  obtain⟨x,hx,rfl⟩:=List.mem_map.1 hp
  exact q2 x hx
 ·exact qfm
theorem qvr{s t:List Pr}(hs:okS s)(ht:okS t)(he:(behR s t).2=0)(v:Int):q6 v (behR s t).1=match q6 v s with | some u=>some (putY t u) | none=>q6 v t:=by
 rw[behR] at he ⊢
 split at he
 ·rename_i h0
  rw[if_pos h0]
  obtain⟨q1,q2⟩:=qj7 ht s [] h0
  simp only
  rw[qvn v t _ ht.2,q1,List.nil_append,qrn]
  cases q6 v s<;>rfl
 ·rename_i h0
  exact absurd he h0
def qch8(vars:List Int)(s:List Pr):List Pr:=s.filter fun p=>decide (p.v∈vars)
theorem qkz(f:Pr->Bool):∀{s:List Pr},risR s->risR (s.filter f)
 | [],_=>trivial
 | p :: r, h => by
   rw[List.filter_cons]
   split
   ·exact⟨fun q hq=>h.1 q (List.mem_filter.1 hq).1,qkz f h.2⟩
   ·exact qkz f h.2
theorem qbgg{s:List Pr}(h:okS s)(vars:List Int):okS (qch8 vars s):=⟨qkz _ h.1,fun p hp=>h.2 p (List.mem_filter.1 hp).1⟩

theorem qrf(p:Pd):AV.agg [.str p.ty.con,.int .i64 p.ty.var,.sl 3 (qh p.ty.args)]=encY p.ty:=qb4 _
set_option maxRecDepth 4000

def fewP(l:List Pd):Bool:=decide (l.length≤30)&&qz4 (l.map Pd.ty)
theorem qv{l:List Ty}(h:l≠[]):qh l≠[]:=by cases l with | nil=>exact absurd rfl h | cons _ _=>simp[qh]
theorem qr:qh []=[]:=by rw[qh]
theorem q1t(t:Ty):[encY t]=qh [t]:=by rw[qh,qh]
theorem qss(l:List Pd)(i:Nat)(h:i<l.length):(l.map Pd.ty).take (i+1)=(l.map Pd.ty).take i++[(l.getD i P0).ty]:=by
 rw[List.take_add_one,List.getElem?_map,List.getElem?_eq_getElem h,List.getD_eq_getElem?_getD,List.getElem?_eq_getElem h];rfl
theorem capY{k:Nat}(h:k≤1000000000):qbe k 48:=by unfold qbe;omega
def q80(l:List Pd)(i:Nat):AF×List Ent:=(⟨[(0,.sl 4 (qeh l)),(3,accV 0 (qh ((l.map Pd.ty).take i))),(4,.int .i64 i)],[]⟩,accE 3 (qh ((l.map Pd.ty).take i)))
theorem qcdf(l:List Pd):qp Tryz.prog 133 [.sl 4 (qeh l)] (.int .i64 (if fewP l=true then 1 else 0)):=by
 refine qe c0cq (by simp) (by simp only[go_sem]) rfl fun hw=>?_
 have hl:=(q0r hw.1).1
 repeat'(first|refine vs_ ?_|((first|refine vr_ ?_|(refine cs_ ?_ ?_<;>intro hc)|refine cj_ ?_|simp (disch:=omega) only[qa,qc])<;>try refine ev_ ?_)|with_reducible exact ti_)
 ·rw[if_neg (by simp[fewP];omega)]
 have h30:l.length≤30:=by omega
 refine qo (S:=Nat) (fun i=>i≤l.length) (q80 l) (fun i=>l.length-i) ?_ fun i hi=>?_
 ·refine qj 0 [] (Nat.zero_le _) rfl (by simp) ?_ ?_ ?_<;>simp only[q80,List.take_zero,qr,qi,qk]<;>(try refine ev_ ?_)<;>(try with_reducible exact ti_)<;>(try simp (disch:=omega) only[qc,and_true,true_and])
 ·have hfin:fewP l=qz4 (l.map Pd.ty):=by rw[fewP,decide_eq_true h30,Bool.true_and]
  have hlm:((l.map Pd.ty).take i).length=i:=by rw[List.length_take,List.length_map];omega
  have hcap:qbe (i+1) 48=True:=eq_true (capY (by omega))
  unfold q80
  by_cases hlt:i<l.length
  ·have hs:=qss l i hlt
   by_cases h0:i=0
   ·subst h0
    simp only[List.take_zero,qr,qi,qk]
    repeat'(first|refine vs_ ?_|(refine vr_ ?_<;>try simp (disch:=first|omega|(simp only[List.length_set,List.length_append,List.length_cons,List.length_nil];try omega)) only[qh5,qc,qrf,go_sem,↓reduceIte])|((first|simp (disch:=omega) only[(show qbe 1 48=True from eq_true (capY (by omega)))]|(refine cs_ ?_ ?_<;>intro hc)|refine cj_ ?_|simp (disch:=omega) only[qa,qc])<;>try refine ev_ ?_)|with_reducible exact ti_)
    ·refine qj 1 [0] ⟨by omega,by omega⟩ rfl (by simp) ?_ ?_ ?_<;>simp only[q80,hs,List.take_zero,List.nil_append,←q1t,qd1,qd6]<;>(try refine ev_ ?_)<;>(try with_reducible exact ti_)<;>(try simp (disch:=omega) only[qc,and_true,true_and])
     all_goals(rw[qw5])
    ·omega
   ·have hne:(l.map Pd.ty).take i≠[]:=fun h=>h0 (by rw[←hlm,h];rfl)
    simp only[qm (qv hne),qn (qv hne),qg,hlm]
    repeat'(first|refine vs_ ?_|(refine vr_ ?_<;>try simp (disch:=first|omega|(simp only[List.length_set,List.length_append,List.length_cons,List.length_nil];try omega)) only[qh5,qc,qrf,qg,hlm,go_sem,↓reduceIte])|((first|simp (disch:=omega) only[hcap]|(refine cs_ ?_ ?_<;>intro hc)|refine cj_ ?_|simp (disch:=omega) only[qa,qc])<;>try refine ev_ ?_)|with_reducible exact ti_)
    ·have hl2:qh ((l.map Pd.ty).take (i+1))=qh ((l.map Pd.ty).take i)++[encY (l.getD i P0).ty]:=by rw[hs,qew]
     refine qj (i+1) [1] ⟨by omega,by omega⟩ rfl (by simp) ?_ ?_ ?_<;>simp only[q80,hl2,qd8,qd9,qg,hlm]<;>(try refine ev_ ?_)<;>(try with_reducible exact ti_)<;>(try simp (disch:=omega) only[qc,and_true,true_and])
     all_goals(simp only[qew];exact⟨qbd _ _,by rw[qda]⟩)
    ·omega
  ·have hend:(l.map Pd.ty).take i=l.map Pd.ty:=List.take_of_length_le (by rw[List.length_map];omega)
   have hf:=qbba (l.map Pd.ty)
   rw[hend,hfin]
   by_cases h0:l.map Pd.ty=[]
   ·rw[h0] at hf ⊢
    simp only[qr,qi,qk]
    repeat'(first|refine vs_ ?_|(refine vr_ ?_<;>try simp only[qdu,go_sem,↓reduceIte])|((first|(refine cs_ ?_ ?_<;>intro hc)|refine cj_ ?_|simp (disch:=omega) only[qa,qc]|refine qb hf fun _=>?_)<;>try refine ev_ ?_)|with_reducible exact ti_)
    all_goals omega
   ·simp only[qm (qv h0),qn (qv h0),qg]
    repeat'(first|refine vs_ ?_|(refine vr_ ?_<;>try simp only[qg,go_sem,↓reduceIte])|((first|(refine cs_ ?_ ?_<;>intro hc)|refine cj_ ?_|simp (disch:=omega) only[qa,qc]|refine qb hf fun _=>?_)<;>try refine ev_ ?_)|with_reducible exact ti_)
    all_goals omega
set_option maxRecDepth 4000

theorem qkm(acc:List Int):∀(l b:List Int),qbm acc (qbm b l)=qbm (qbm acc b) l
 | [],b=>rfl
 | x :: l, b => by
   rw[qbm]
   by_cases hx:x∈b
   ·rw[if_pos hx,qkm acc l b,qbm,if_pos ((qbai b acc x).2 (.inr hx))]
   ·rw[if_neg hx,qkm acc l (b++[x]),qg1]
    show qbm (qbm (qbm acc b) [x]) l=qbm (qbm acc b) ([x]++l)
    rw[qg1]
def qgx(l:List Pd):List Int:=l.flatMap fun p=>varY p.ty
theorem q36(l:List Pd)(i:Nat)(h:i<l.length):qgx (l.take (i+1))=qgx (l.take i)++varY (l.getD i P0).ty:=by
 have h1:l.take (i+1)=l.take i++[l.getD i P0]:=by
  rw[List.take_add_one,List.getD_eq_getElem?_getD,List.getElem?_eq_getElem h];rfl
 rw[h1];simp[qgx]
theorem qbb3(l:List Pd):(qgx l).length≤szYs (l.map Pd.ty):=by
 induction l with
 | nil=>simp[qgx]
 | cons x r ih =>
   have:=qr7 x.ty
   simp only[qgx,List.flatMap_cons,List.length_append,List.map_cons,szYs] at ih ⊢
   omega
def qwf(l:List Pd)(x:Nat×List Int):AF×List Ent:=(⟨[(3,accV 0 (ints x.2)),(8,.sl 4 (qeh l)),(9,.int .i64 l.length),(10,.int .i64 x.1)],[]⟩,accE 1 (ints x.2))
def qge(l:List Pd)(i:Nat)(vs:List Int)(x:Nat×List Int):AF×List Ent :=
 (⟨[(3,accV 0 (ints x.2)),(8,.sl 4 (qeh l)),(9,.int .i64 l.length),(10,.int .i64 i),(16,.sl 1 (ints vs)),(17,.int .i64 vs.length),(18,.int .i64 x.1)],[]⟩,accE 1 (ints x.2))
theorem qqp(l:List Pd)(i:Nat)(vs:List Int)(hv:vs.length≤maxLen)(acc0:List Int)(hb:acc0.length+vs.length≤1000000){Q:VE->AF->List Ent->Prop}(hQ:Q (.ext 2) ⟨(19,.bool false)::(qge l i vs (vs.length,qbm acc0 vs)).1.tm,[]⟩ (qge l i vs (vs.length,qbm acc0 vs)).2)
 (x:Nat×List Int) (hx:x.1≤vs.length∧qbm x.2 (vs.drop x.1)=qbm acc0 vs∧x.2.length≤acc0.length+x.1) :
 VI Tryz.prog none 33 0 q6j (lq (fun s'=>(s'.1≤vs.length∧qbm s'.2 (vs.drop s'.1)=qbm acc0 vs∧s'.2.length≤acc0.length+s'.1)∧vs.length-s'.1<vs.length-x.1) (qge l i vs) 0 Q) (qge l i vs x).1 (qge l i vs x).2:=by
 obtain⟨j,acc⟩:=x
 obtain⟨hj,ha,hc⟩:=hx
 dsimp only at hj ha hc
 have hcap:qbe (acc.length+1) 8=True:=eq_true (capI (by omega))
 have hend:¬j<vs.length->j=vs.length∧acc=qbm acc0 vs:=fun h=>⟨by omega,by rw[←ha,List.drop_of_length_le (by omega)];rfl⟩
 unfold qge
 by_cases h0:acc=[]
 ·simp only[h0,qdf,qi,qk]
  repeat'(first|refine vs_ ?_|(refine vr_ ?_<;>try simp (disch:=first|omega|(simp only[List.length_set,List.length_append,List.length_cons,List.length_nil];try omega)) only[qor,qc,qdu,go_sem,↓reduceIte])|((first|simp (disch:=omega) only[hcap]|(refine cs_ ?_ ?_<;>intro hc)|refine cj_ ?_|simp (disch:=omega) only[qa,qc]|refine qb (qcm [] _) fun _=>?_|refine qf (qcm [] _) ?_)<;>try refine ev_ ?_)|with_reducible exact ti_)
  ·refine qj (j+1,[]++[vs.getD j 0]) [0] ⟨⟨by dsimp only;omega,?_,by simp;omega⟩,by dsimp only;omega⟩ rfl (by simp) ?_ ?_ ?_<;>simp only[qge,List.nil_append,←qbif,qd1,qd6]<;>(try refine ev_ ?_)<;>(try with_reducible exact ti_)<;>(try simp (disch:=omega) only[qc,and_true,true_and])
   rw[←ha,h0,qk9 (i:=j) _ (by omega),if_neg (by assumption)];rfl
  ·exact absurd (by assumption:vs.getD j 0∈[]) (by simp)
  ·obtain⟨e1,e2⟩:=hend (by omega)
   rw[h0] at e2
   rw[←e2,←e1] at hQ
   simpa only[qge,qdf,qi,qk,←e1] using hQ
 ·simp only[qm (qbu h0),qn (qbu h0)]
  repeat'(first|refine vs_ ?_|(refine vr_ ?_<;>try simp (disch:=first|omega|(simp only[List.length_set,List.length_append,List.length_cons,List.length_nil];try omega)) only[qor,qc,go_sem,↓reduceIte])|((first|simp (disch:=omega) only[hcap]|(refine cs_ ?_ ?_<;>intro hc)|refine cj_ ?_|simp (disch:=omega) only[qa,qc]|refine qb (qcm acc _) fun _=>?_|refine qf (qcm acc _) ?_)<;>try refine ev_ ?_)|with_reducible exact ti_)
  ·refine qj (j+1,acc++[vs.getD j 0]) [1] ⟨⟨by dsimp only;omega,?_,by simp;omega⟩,by dsimp only;omega⟩ rfl (by simp) ?_ ?_ ?_<;>simp only[qge,←qjn,qd8,qd9,qdq]<;>(try refine ev_ ?_)<;>(try with_reducible exact ti_)<;>(try simp (disch:=omega) only[qc,and_true,true_and])
   ·rw[←ha,qk9 (i:=j) _ (by omega),if_neg (by assumption)]
   all_goals(simp only[qjn];exact⟨qe2 _ _,by rw[qj0]⟩)
  ·refine qj (j+1,acc) [0] ⟨⟨by dsimp only;omega,?_,by dsimp only;omega⟩,by dsimp only;omega⟩ rfl (by simp) ?_ ?_ ?_<;>simp only[qge,qm (qbu h0),qn (qbu h0)]<;>(try refine ev_ ?_)<;>(try with_reducible exact ti_)<;>(try simp (disch:=omega) only[qc,and_true,true_and])
   rw[←ha,qk9 (i:=j) _ (by omega),if_pos (by assumption)]
  ·obtain⟨e1,e2⟩:=hend (by omega)
   rw[←e2,←e1] at hQ
   simpa only[qge,qm (qbu h0),qn (qbu h0),qdq,←e1] using hQ
theorem qql(l:List Pd)(hb:szYs (l.map Pd.ty)≤500000):qp Tryz.prog 95 [.sl 4 (qeh l)] (.sl 1 (ints (qbm [] (qgx l)))):=by
 refine qe c0cp (by simp) (by simp only[go_sem]) (qe2 0 _) fun hw=>?_
 have hl:=(q0r hw.1).1
 have hvl:=qbb3 l
 repeat'(first|refine vs_ ?_|((first|refine vr_ ?_|(refine cs_ ?_ ?_<;>intro hc)|refine cj_ ?_|simp (disch:=omega) only[qa,qc])<;>try refine ev_ ?_)|with_reducible exact ti_)
 refine qo (S:=Nat×List Int) (fun x=>x.1≤l.length∧x.2=qbm [] (qgx (l.take x.1))) (qwf l) (fun x=>l.length-x.1) ?_ fun x hx=>?_
 ·refine qj (0,[]) [] ⟨Nat.zero_le _,by simp[qgx,qbm]⟩ rfl (by simp) ?_ ?_ ?_<;>simp only[qwf,qdf,qi,qk]<;>(try refine ev_ ?_)<;>(try with_reducible exact ti_)<;>(try simp (disch:=omega) only[qc,and_true,true_and])
 ·obtain⟨i,acc⟩:=x
  obtain⟨hi,ha⟩:=hx
  dsimp only at hi ha
  unfold qwf
  by_cases hlt:i<l.length
  ·have hsz:szY (l.getD i P0).ty≤szYs (l.map Pd.ty):=qot (List.mem_map_of_mem (qbh6 hlt))
   have hv:=q1o (l.getD i P0).ty (by omega)
   generalize hvs:qbm [] (varY (l.getD i P0).ty)=vs at hv
   have hvl2:vs.length≤szY (l.getD i P0).ty:=by rw[←hvs];have:=qvv (varY (l.getD i P0).ty) [];have:=qr7 (l.getD i P0).ty;simp only[List.length_nil] at *;omega
   have hal:acc.length≤500000:=by
    rw[ha]
    have h1:=qvv (qgx (l.take i)) []
    have h3:qgx l=qgx (l.take i)++qgx (l.drop i):=by rw[qgx,qgx,qgx,←List.flatMap_append,List.take_append_drop]
    have h2:=congrArg List.length h3
    rw[List.length_append] at h2
    simp only[List.length_nil] at h1
    omega
   have hnext:qbm acc vs=qbm [] (qgx (l.take (i+1))):=by rw[q36 l i hlt,qg1,←ha,←hvs,qkm];rfl
   have hm:vs.length≤maxLen:=by unfold maxLen;omega
   by_cases h0:acc=[]
   ·simp only[h0,qdf,qi,qk]
    repeat'(first|refine vs_ ?_|(refine vr_ ?_<;>try simp (disch:=first|omega|(simp only[List.length_set,List.length_append,List.length_cons,List.length_nil];try omega)) only[qh5,qc,qrf,go_sem,↓reduceIte])|((first|(refine cs_ ?_ ?_<;>intro hc)|refine cj_ ?_|simp (disch:=omega) only[qa,qc]|refine qb hv fun _=>?_)<;>try refine ev_ ?_)|with_reducible exact ti_)
    ·refine qo (S:=Nat×List Int) (fun s'=>s'.1≤vs.length∧qbm s'.2 (vs.drop s'.1)=qbm acc vs∧s'.2.length≤acc.length+s'.1) (qge l i vs) (fun x=>vs.length-x.1) ?_ fun x hx=>?_
     ·refine qj (0,acc) [] ⟨Nat.zero_le _,rfl,Nat.le_refl _⟩ rfl (by simp) ?_ ?_ ?_<;>simp only[qge,h0,qdf,qi,qk]<;>(try refine ev_ ?_)<;>(try with_reducible exact ti_)<;>(try simp (disch:=omega) only[qc,and_true,true_and])
     ·refine qqp l i vs hm acc (by omega) ?_ x hx
      by_cases h1:qbm acc vs=[]
      ·simp only[qge,h1,qdf,qi,qk]
       (refine ev_ ?_;(try with_reducible exact ti_))
       repeat'(first|refine vs_ ?_|(refine vr_ ?_<;>try simp (disch:=first|omega|(simp only[List.length_set,List.length_append,List.length_cons,List.length_nil];try omega)) only[qc,go_sem,↓reduceIte])|((first|(refine cs_ ?_ ?_<;>intro hc)|refine cj_ ?_|simp (disch:=omega) only[qa,qc])<;>try refine ev_ ?_)|with_reducible exact ti_)
       refine qj (i+1,qbm acc vs) [] ⟨⟨by dsimp only;omega,hnext⟩,by dsimp only;omega⟩ rfl (by simp) ?_ ?_ ?_<;>simp only[qwf,h1,qdf,qi,qk]<;>(try refine ev_ ?_)<;>(try with_reducible exact ti_)<;>(try simp (disch:=omega) only[qc,and_true,true_and])
      ·simp only[qge,qm (qbu h1),qn (qbu h1),qdq]
       (refine ev_ ?_;(try with_reducible exact ti_))
       repeat'(first|refine vs_ ?_|(refine vr_ ?_<;>try simp (disch:=first|omega|(simp only[List.length_set,List.length_append,List.length_cons,List.length_nil];try omega)) only[qc,go_sem,↓reduceIte])|((first|(refine cs_ ?_ ?_<;>intro hc)|refine cj_ ?_|simp (disch:=omega) only[qa,qc])<;>try refine ev_ ?_)|with_reducible exact ti_)
       refine qj (i+1,qbm acc vs) [0] ⟨⟨by dsimp only;omega,hnext⟩,by dsimp only;omega⟩ rfl (by simp) ?_ ?_ ?_<;>simp only[qwf,qm (qbu h1),qn (qbu h1),qdq]<;>(try refine ev_ ?_)<;>(try with_reducible exact ti_)<;>(try simp (disch:=omega) only[qc,and_true,true_and])
    ·omega
   ·simp only[qm (qbu h0),qn (qbu h0)]
    repeat'(first|refine vs_ ?_|(refine vr_ ?_<;>try simp (disch:=first|omega|(simp only[List.length_set,List.length_append,List.length_cons,List.length_nil];try omega)) only[qh5,qc,qrf,go_sem,↓reduceIte])|((first|(refine cs_ ?_ ?_<;>intro hc)|refine cj_ ?_|simp (disch:=omega) only[qa,qc]|refine qb hv fun _=>?_)<;>try refine ev_ ?_)|with_reducible exact ti_)
    ·refine qo (S:=Nat×List Int) (fun s'=>s'.1≤vs.length∧qbm s'.2 (vs.drop s'.1)=qbm acc vs∧s'.2.length≤acc.length+s'.1) (qge l i vs) (fun x=>vs.length-x.1) ?_ fun x hx=>?_
     ·refine qj (0,acc) [0] ⟨Nat.zero_le _,rfl,Nat.le_refl _⟩ rfl (by simp) ?_ ?_ ?_<;>simp only[qge,qm (qbu h0),qn (qbu h0),qdq]<;>(try refine ev_ ?_)<;>(try with_reducible exact ti_)<;>(try simp (disch:=omega) only[qc,and_true,true_and])
     ·refine qqp l i vs hm acc (by omega) ?_ x hx
      by_cases h1:qbm acc vs=[]
      ·simp only[qge,h1,qdf,qi,qk]
       (refine ev_ ?_;(try with_reducible exact ti_))
       repeat'(first|refine vs_ ?_|(refine vr_ ?_<;>try simp (disch:=first|omega|(simp only[List.length_set,List.length_append,List.length_cons,List.length_nil];try omega)) only[qc,go_sem,↓reduceIte])|((first|(refine cs_ ?_ ?_<;>intro hc)|refine cj_ ?_|simp (disch:=omega) only[qa,qc])<;>try refine ev_ ?_)|with_reducible exact ti_)
       refine qj (i+1,qbm acc vs) [] ⟨⟨by dsimp only;omega,hnext⟩,by dsimp only;omega⟩ rfl (by simp) ?_ ?_ ?_<;>simp only[qwf,h1,qdf,qi,qk]<;>(try refine ev_ ?_)<;>(try with_reducible exact ti_)<;>(try simp (disch:=omega) only[qc,and_true,true_and])
      ·simp only[qge,qm (qbu h1),qn (qbu h1),qdq]
       (refine ev_ ?_;(try with_reducible exact ti_))
       repeat'(first|refine vs_ ?_|(refine vr_ ?_<;>try simp (disch:=first|omega|(simp only[List.length_set,List.length_append,List.length_cons,List.length_nil];try omega)) only[qc,go_sem,↓reduceIte])|((first|(refine cs_ ?_ ?_<;>intro hc)|refine cj_ ?_|simp (disch:=omega) only[qa,qc])<;>try refine ev_ ?_)|with_reducible exact ti_)
       refine qj (i+1,qbm acc vs) [0] ⟨⟨by dsimp only;omega,hnext⟩,by dsimp only;omega⟩ rfl (by simp) ?_ ?_ ?_<;>simp only[qwf,qm (qbu h1),qn (qbu h1),qdq]<;>(try refine ev_ ?_)<;>(try with_reducible exact ti_)<;>(try simp (disch:=omega) only[qc,and_true,true_and])
    ·omega
  ·have hend:acc=qbm [] (qgx l):=by rw[ha,List.take_of_length_le (by omega)]
   rw[←hend]
   by_cases h0:acc=[]
   ·simp only[h0,qdf,qi,qk]
    repeat'(first|refine vs_ ?_|((first|refine vr_ ?_|(refine cs_ ?_ ?_<;>intro hc)|refine cj_ ?_|simp (disch:=omega) only[qa,qc])<;>try refine ev_ ?_)|with_reducible exact ti_)
    all_goals omega
   ·simp only[qm (qbu h0),qn (qbu h0)]
    repeat'(first|refine vs_ ?_|((first|refine vr_ ?_|(refine cs_ ?_ ?_<;>intro hc)|refine cj_ ?_|simp (disch:=omega) only[qa,qc])<;>try refine ev_ ?_)|with_reducible exact ti_)
    all_goals omega
/-! the reference's -/

set_option maxRecDepth 4000

def typA(p:Ty×Int):AV:=.tup [encY p.1,.int .i64 p.2]
theorem qxh(k:Nat)(p:Ty×Int):(typA p).bd k=true:=by simp only[typA,AV.bd,AV.bds,q8,Bool.and_true]
end Go.Proofs.YtkenggenkmfopaaGreat
