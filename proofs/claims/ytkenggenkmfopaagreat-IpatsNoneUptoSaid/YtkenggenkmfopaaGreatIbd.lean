/- Texts of this proof, joined. -/
import Derived.Test.YtkenggenkmfopaaGreatIbc
import Derived.Test.YtkenggenkmfopaaGreatIav
import Derived.Test.YtkenggenkmfopaaGreatIba
import Derived.Test.YtkenggenkmfopaaGreatIaj
set_option linter.unusedVariables false
set_option linter.unusedSimpArgs false

/- substitutions: within some variables; one behind the other -/
namespace Go.Proofs.YtkenggenkmfopaaGreat
open Go Go.RowKit Go.V

section
variable {P:Program} {f:FuncId} {e:Ent} {L:List Ent} {args:List AV} {Q:List Ent->VO->Prop}
theorem qjw(h:VCalls P f [] args fun H' o=>H'=[e]∧o=.val (.ptr 0 0))(hb:e.bd 0=true)(ha:AV.bds 0 args=true)(hq:Q (L++[e]) (.val (.ptr L.length 0))):VApp P L (.fn f [] []) args Q:=by
 refine qjz h ha fun H1 o ho=>?_
 obtain⟨rfl,rfl⟩:=ho
 have e1:qds L [] [e]=L++[e]:=by
  show L++[e.ren _]=_
  rw[Ent.ren_bd0 hb]
 rw[e1]
 exact hq
end
theorem qgb{s:List Pr}(h:okS s):smlR s:=fun p hp=>by
 have:=(qbc _).1 (h.2 p hp)
 omega
theorem qri:VCalls Tryz.prog 39 [] [.sl 4 []] fun H' o=>H'=[subE []]∧o=.val (.ptr 0 0):=qtl (l:=[]) (fun p hp=>by simp at hp) (by simp)
set_option maxRecDepth 4000

theorem qon(t:List Pr)(b:List Pr):∀(a acc:List Pr),(qci t acc a).2=0->qci t acc (a++b)=qci t (qci t acc a).1 b
 | [],acc,_=>rfl
 | p :: r, acc, h => by
   rw[qci] at h
   rw[List.cons_append,qci,qci]
   split at h
   ·rename_i h0
    rw[if_pos h0,if_pos h0,qon t b r _ h]
   ·rename_i h0
    exact absurd h h0
theorem qq0{t:List Pr}:∀(a:List Pr) {acc:List Pr},okS acc->okS (qci t acc a).1
 | [],_,h=>h
 | p :: r, acc, h => by
   rw[qci]
   split
   ·exact qq0 r (qwa h _ _)
   ·exact qfm
theorem qob(t:List Pr):∀(a acc:List Pr),(qci t acc a).1.length≤acc.length+a.length
 | [],acc=>by simp[qci]
 | p :: r, acc => by
   rw[qci,List.length_cons]
   split
   ·have h1:=qob t r (setR acc p.v (appR t p.ty).1).1
    have h2:=q0y acc p.v (appR t p.ty).1
    omega
   ·simp
theorem qbzf{s t:List Pr}(hs:okS s)(ht:okS t):behR s t=if(qci t [] s).2=0 then(addR (qci t [] s).1 t,0) else([],(qci t [] s).2):=by
 rw[behR,←qzy ht s [] hs.1 (fun p hp=>by simp at hp)]
theorem qbj9{s t:List Pr}{i:Nat}(h:i<s.length)(h0:(qci t [] (s.take i)).2=0):qci t [] s=qci t (qci t [] (s.take i)).1 (s.getD i R0::s.drop (i+1)):=by
 have:=qon t (s.drop i) (s.take i) [] h0
 rwa [List.take_append_drop,qck5 h] at this
theorem q0i{s t:List Pr}{i:Nat}(h:i<s.length)(h0:(qci t [] (s.take i)).2=0)(ha:(appR t (s.getD i R0).ty).2=0):qci t [] (s.take (i+1))=((setR (qci t [] (s.take i)).1 (s.getD i R0).v (appR t (s.getD i R0).ty).1).1,0):=by
 rw[qkj h,qon t _ _ _ h0,qci,if_pos ha,qci]
theorem qpl{s t:List Pr}{i:Nat}(h:i<s.length)(h0:(qci t [] (s.take i)).2=0)(ha:(appR t (s.getD i R0).ty).2≠0):qci t [] s=([],(appR t (s.getD i R0).ty).2):=by
 rw[qbj9 h h0,qci,if_neg ha]
def newQ(L:List Ent)(p:List Pr×Int)(H':List Ent)(o:VO):Prop :=
 if p.2=0 then H'=L++[subE p.1]∧o=.val (.tup [.ptr L.length 0,.int .i64 0]) else H'=L∧o=.val (.tup [.nilp,.int .i64 p.2])
theorem qbi2{s t:List Pr}(hs:okS s)(ht:okS t)(h1:s.length≤40000)(h2:t.length≤40000):VCalls Tryz.prog 71 [subE s,subE t] [.ptr 0 0,.ptr 1 0] (newQ [subE s,subE t] (behR s t)):=by
 have hms:=qgb hs
 have hmt:=qgb ht
 have hA:∀ty,szY ty≤20000->dpY ty≤300->VM Tryz.prog 53 (subE t) (subE t) [.ptr 0 0,encY ty] (typA (appR t ty)):=fun ty q1 q2=>quj (b:=true) (R:=bunR (subH t)) (fun v=>qyr ht.1 (by omega) v) ht q1 q2
 have hstep:∀i,i<s.length->(qci t [] (s.take i)).2=0->risR (qci t [] (s.take i)).1∧(qci t [] (s.take i)).1.length≤40000:=fun i hi h0=>by
  have:=qob t (s.take i) []
  rw[List.length_take] at this
  exact⟨(qq0 (s.take i) qfm).1,by simp at this;omega⟩
 have hap:∀i,i<s.length->(appR t (s.getD i R0).ty).2=0->szY (appR t (s.getD i R0).ty).1≤20000∧dpY (appR t (s.getD i R0).ty).1≤300:=fun i hi h0=>by
  obtain⟨_,q2,q3⟩:=qdl ht h0
  rw[q3]
  have:=(qbc _).1 q2
  omega
 rw[qbzf hs ht]
 by_cases he:(qci t [] s).2=0
 ·rw[if_pos he]
  refine qd c0cx 3 (by simp) (by simp) ?_
  repeat'(first|refine vs_ ?_|((first|refine vr_ ?_|refine qjw qri rfl rfl ?_|refine qcw 0 (qfv (by omega) hms) ?_|(refine cs_ ?_ ?_<;>intro hc)|refine cj_ ?_|simp (disch:=omega) only[qa,qc])<;>try refine ev_ ?_)|with_reducible exact ti_)
  refine qo (S:=Nat) (fun i=>i≤s.length∧(qci t [] (s.take i)).2=0) (fun i=>(⟨[(1,.ptr 1 0),(6,.ptr 2 0),(15,.sl 4 (qck s)),(16,.int .i64 s.length),(17,.int .i64 i)],[]⟩,[subE s,subE t,subE (qci t [] (s.take i)).1])) (fun i=>s.length-i) ?_ fun i hi=>?_
  ·refine qj 0 [0,1,2] ⟨Nat.zero_le _,rfl⟩ rfl (by simp) ?_ ?_ ?_<;>simp only[List.take_zero,qci]<;>(try refine ev_ ?_)<;>(try with_reducible exact ti_)<;>(try simp (disch:=omega) only[qc,and_true,true_and])
  ·obtain⟨hi,h0⟩:=hi
   by_cases hlt:i<s.length
   ·have hp:=qc3 hlt
    have hm:=hms _ (qhz hlt)
    obtain⟨a1,a2⟩:=hstep i hlt h0
    by_cases ha:(appR t (s.getD i R0).ty).2=0
    ·obtain⟨b1,b2⟩:=hap i hlt ha
     have hn:=q0i hlt h0 ha
     have hT:typA (appR t (s.getD i R0).ty)=.tup [encY (appR t (s.getD i R0).ty).1,.int .i64 0]:=by rw[typA,ha]
     repeat'(first|refine vs_ ?_|(refine vr_ ?_<;>try simp (disch:=first|omega|(simp only[List.length_set,List.length_append,List.length_cons,List.length_nil];try omega)) only[hp,qc,go_sem,↓reduceIte])|((first|simp (disch:=omega) only[hp]|simp (disch:=omega) only[hT]|(refine cs_ ?_ ?_<;>intro hc)|refine cj_ ?_|simp (disch:=omega) only[qa,qc]|refine qcw 1 (hA _ hm.1 hm.2) ?_ rfl rfl (by simp) rfl (qxh 0 _)|refine qcw 2 (qld a1 (by omega) _ b1 b2) ?_)<;>try refine ev_ ?_)|with_reducible exact ti_)
     ·refine qj (i+1) [0,1,2] ⟨⟨by omega,by rw[hn]⟩,by omega⟩ rfl (by simp) ?_ ?_ ?_<;>simp only[hn]<;>(try refine ev_ ?_)<;>(try with_reducible exact ti_)<;>(try simp (disch:=omega) only[qc,and_true,true_and])
      all_goals rw[qz (by omega) (by omega),Int.natCast_add];rfl
     ·exfalso;omega
    ·exact absurd (by rw[qpl hlt h0 ha] at he;exact he) ha
   ·have hie:i=s.length:=by omega
    subst hie
    rw[List.take_length]
    have hok:okS (qci t [] s).1:=qq0 s qfm
    have hln:=qob t s []
    simp only[List.length_nil,Nat.zero_add] at hln
    repeat'(first|refine vs_ ?_|((first|refine vr_ ?_|refine qcw 1 (qfv (by omega) hmt) ?_|(refine cs_ ?_ ?_<;>intro hc)|refine cj_ ?_|simp (disch:=omega) only[qa,qc])<;>try refine ev_ ?_)|with_reducible exact ti_)
    ·exfalso;omega
    ·generalize (qci t [] s).1=a at hok hln ⊢
     refine qo (S:=Nat) (fun i=>i≤t.length) (fun i=>(⟨[(6,.ptr 2 0),(38,.sl 4 (qck t)),(39,.int .i64 t.length),(40,.int .i64 i)],[]⟩,[subE s,subE t,subE (addR a (t.take i))])) (fun i=>t.length-i) ?_ fun i hi=>?_
     ·refine qj 0 [0,1,2] (Nat.zero_le _) rfl (by simp) ?_ ?_ ?_<;>simp only[List.take_zero,addR]<;>(try refine ev_ ?_)<;>(try with_reducible exact ti_)<;>(try simp (disch:=omega) only[qc,and_true,true_and])
     ·by_cases hlt:i<t.length
      ·have hp:=qc3 hlt
       have hm:=hmt _ (qhz hlt)
       have hq:=qqx (t.take i) hok
       have hql:=qr4 (t.take i) a
       rw[List.length_take] at hql
       have hn:=q9e hlt a
       repeat'(first|refine vs_ ?_|(refine vr_ ?_<;>try simp (disch:=first|omega|(simp only[List.length_set,List.length_append,List.length_cons,List.length_nil];try omega)) only[hp,qc,go_sem,↓reduceIte])|((first|simp (disch:=omega) only[hp]|(refine cs_ ?_ ?_<;>intro hc)|refine cj_ ?_|simp (disch:=omega) only[qa,qc]|refine qcw 2 (qld hq.1 (by omega) _ hm.1 hm.2) ?_)<;>try refine ev_ ?_)|with_reducible exact ti_)
       ·refine qj (i+1) [0,1,2] ⟨by omega,by omega⟩ rfl (by simp) ?_ ?_ ?_<;>simp only[hn]<;>(try refine ev_ ?_)<;>(try with_reducible exact ti_)<;>(try simp (disch:=omega) only[qc,and_true,true_and])
        all_goals rw[qz (by omega) (by omega),Int.natCast_add];rfl
      ·have hie:i=t.length:=by omega
       subst hie
       rw[List.take_length]
       repeat'(first|refine vs_ ?_|((first|refine vr_ ?_|(refine cs_ ?_ ?_<;>intro hc)|refine cj_ ?_|simp (disch:=omega) only[qa,qc])<;>try refine ev_ ?_)|with_reducible exact ti_)
       all_goals try(exfalso;omega)
       all_goals
        rw[newQ,if_pos rfl]
        exact⟨rfl,rfl⟩
 ·rw[if_neg he]
  refine qd c0cx 2 (by simp) (by simp) ?_
  repeat'(first|refine vs_ ?_|((first|refine vr_ ?_|refine qjw qri rfl rfl ?_|refine qcw 0 (qfv (by omega) hms) ?_|(refine cs_ ?_ ?_<;>intro hc)|refine cj_ ?_|simp (disch:=omega) only[qa,qc])<;>try refine ev_ ?_)|with_reducible exact ti_)
  refine qo (S:=Nat) (fun i=>i≤s.length∧(qci t [] (s.take i)).2=0) (fun i=>(⟨[(1,.ptr 1 0),(6,.ptr 2 0),(15,.sl 4 (qck s)),(16,.int .i64 s.length),(17,.int .i64 i)],[]⟩,[subE s,subE t,subE (qci t [] (s.take i)).1])) (fun i=>s.length-i) ?_ fun i hi=>?_
  ·refine qj 0 [0,1,2] ⟨Nat.zero_le _,rfl⟩ rfl (by simp) ?_ ?_ ?_<;>simp only[List.take_zero,qci]<;>(try refine ev_ ?_)<;>(try with_reducible exact ti_)<;>(try simp (disch:=omega) only[qc,and_true,true_and])
  ·obtain⟨hi,h0⟩:=hi
   have hlt:i<s.length:=by
    by_cases hlt:i<s.length
    ·exact hlt
    ·rw[List.take_of_length_le (by omega)] at h0
     exact absurd h0 he
   have hp:=qc3 hlt
   have hm:=hms _ (qhz hlt)
   obtain⟨a1,a2⟩:=hstep i hlt h0
   by_cases ha:(appR t (s.getD i R0).ty).2=0
   ·obtain⟨b1,b2⟩:=hap i hlt ha
    have hn:=q0i hlt h0 ha
    have hT:typA (appR t (s.getD i R0).ty)=.tup [encY (appR t (s.getD i R0).ty).1,.int .i64 0]:=by rw[typA,ha]
    repeat'(first|refine vs_ ?_|(refine vr_ ?_<;>try simp (disch:=first|omega|(simp only[List.length_set,List.length_append,List.length_cons,List.length_nil];try omega)) only[hp,qc,go_sem,↓reduceIte])|((first|simp (disch:=omega) only[hp]|simp (disch:=omega) only[hT]|(refine cs_ ?_ ?_<;>intro hc)|refine cj_ ?_|simp (disch:=omega) only[qa,qc]|refine qcw 1 (hA _ hm.1 hm.2) ?_ rfl rfl (by simp) rfl (qxh 0 _)|refine qcw 2 (qld a1 (by omega) _ b1 b2) ?_)<;>try refine ev_ ?_)|with_reducible exact ti_)
    ·refine qj (i+1) [0,1,2] ⟨⟨by omega,by rw[hn]⟩,by omega⟩ rfl (by simp) ?_ ?_ ?_<;>simp only[hn]<;>(try refine ev_ ?_)<;>(try with_reducible exact ti_)<;>(try simp (disch:=omega) only[qc,and_true,true_and])
     all_goals rw[qz (by omega) (by omega),Int.natCast_add];rfl
    ·exfalso;omega
   ·have hT:typA (appR t (s.getD i R0).ty)=.tup [encY (appR t (s.getD i R0).ty).1,.int .i64 (appR t (s.getD i R0).ty).2]:=rfl
    have had:decide ((appR t (s.getD i R0).ty).2=0)=false:=decide_eq_false ha
    rw[qpl hlt h0 ha]
    repeat'(first|refine vs_ ?_|(refine vr_ ?_<;>try simp (disch:=first|omega|(simp only[List.length_set,List.length_append,List.length_cons,List.length_nil];try omega)) only[hp,qc,had,go_sem,↓reduceIte])|((first|simp (disch:=omega) only[hp]|simp (disch:=omega) only[hT]|(refine cs_ ?_ ?_<;>intro hc)|refine cj_ ?_|simp (disch:=omega) only[qa,qc]|refine qcw 1 (hA _ hm.1 hm.2) ?_ rfl rfl (by simp) rfl (qxh 0 _))<;>try refine ev_ ?_)|with_reducible exact ti_)
    all_goals try(exfalso;omega)
    all_goals
     rw[newQ,if_neg ha]
     exact⟨rfl,rfl⟩


section
variable {L:List Ent} {Q:List Ent->VO->Prop} {s t:List Pr}
theorem qb23{l:List Pr}(hs:smlR l)(hl:l.length≤100000)(hq:Q (L++[subE (newR l)]) (.val (.ptr L.length 0))):VApp Tryz.prog L (.fn 39 [] []) [.sl 4 (qck l)] Q :=
 qjw (qtl hs hl) rfl (by simp only[AV.bds,AV.bd,qem,Bool.and_true]) hq
theorem q0f(a b:Nat)(hs:okS s)(ht:okS t)(h1:s.length≤40000)(h2:t.length≤40000)(hab:a≠b)(hq:if(behR s t).2=0 then Q (L++[subE (behR s t).1]) (.val (.tup [.ptr L.length 0,.int .i64 0])) else Q L (.val (.tup [.nilp,.int .i64 (behR s t).2])))
 (h0:ent L a=subE s:=by rfl) (h0':ent L b=subE t:=by rfl) (ha:a<L.length:=by simp) (hb:b<L.length:=by simp):VApp Tryz.prog L (.fn 71 [] []) [.ptr a 0,.ptr b 0] Q:=by
 refine qb1 ?_
 rw[List.nil_append,List.append_nil]
 refine qbr [a,b] (qbi2 hs ht h1 h2) (by simp[hab]) ⟨⟨ha,rfl,by rw[h0];rfl⟩,⟨hb,rfl,by rw[h0'];rfl⟩,trivial⟩ rfl (by rfl) fun H1 o ho=>?_
 have e0:(L.set a (subE s)).set b (subE t)=L:=by
  rw[qcs h0 ha,qcs h0' hb]
 rw[newQ] at ho
 split at ho
 ·rename_i he
  rw[if_pos he] at hq
  obtain⟨rfl,rfl⟩:=ho
  have e1:qds L [a,b] ([subE s,subE t]++[subE (behR s t).1])=L++[subE (behR s t).1]:=by
   show((L.set a (subE s)).set b (subE t))++[subE (behR s t).1]=_
   rw[e0]
  rw[e1]
  show Q _ (.val (.tup [.ptr (L.length+(2-2)) 0,.int .i64 0]))
  exact hq
 ·rename_i he
  rw[if_neg he] at hq
  obtain⟨rfl,rfl⟩:=ho
  have e1:qds L [a,b] [subE s,subE t]=L:=by
   show((L.set a (subE s)).set b (subE t))++[]=_
   rw[e0,List.append_nil]
  rw[e1]
  exact hq
theorem qx{f:FuncId}{e e':Ent}{rest:List AV}{r:AV}(i:Nat)(h:VM Tryz.prog f e e' (.ptr 0 0::rest) r)(hrest:AV.bds 0 rest=true)(hr:r.bd 0=true)(hq:Q (L.set i e') (.val r))(hb:e.bd 0=true:=by rfl)(hb':e'.bd 0=true:=by rfl)(hi:i<L.length:=by simp)(he:ent L i=e:=by rfl):
 VApp Tryz.prog L (.fn f [] []) (.ptr i 0::rest) Q:=by
 refine qcw i h hq hb hb' hi he hr ?_ ?_
 ·rw[List.append_nil,AV.rens,qs (m:=0) (fun j hj=>by omega) rest hrest];rfl
 ·rw[AV.bds,Bool.and_eq_true]
  exact⟨rfl,qdc (Nat.zero_le _) _ hrest⟩
theorem qbbl{l:List Pr}(hs:smlR l)(hl:l.length≤100000)(e:newR l=s)(hq:Q (L++[subE s]) (.val (.ptr L.length 0))):VApp Tryz.prog L (.fn 39 [] []) [.sl 4 (qck l)] Q:=by
 subst e;exact qb23 hs hl hq
theorem qba9(a b:Nat){r:List Pr}(hs:okS s)(ht:okS t)(h1:s.length≤40000)(h2:t.length≤40000)(hab:a≠b)(he:behR s t=(r,0))(hq:Q (L++[subE r]) (.val (.tup [.ptr L.length 0,.int .i64 0])))
 (h0:ent L a=subE s:=by rfl) (h0':ent L b=subE t:=by rfl) (ha:a<L.length:=by simp) (hb:b<L.length:=by simp):VApp Tryz.prog L (.fn 71 [] []) [.ptr a 0,.ptr b 0] Q:=by
 refine q0f a b hs ht h1 h2 hab ?_ h0 h0' ha hb
 rw[he,if_pos rfl]
 exact hq
theorem q4l(a b:Nat){r:List Pr}{e:Int}(hs:okS s)(ht:okS t)(h1:s.length≤40000)(h2:t.length≤40000)(hab:a≠b)(he:behR s t=(r,e))(hne:e≠0)(hq:Q L (.val (.tup [.nilp,.int .i64 e])))
 (h0:ent L a=subE s:=by rfl) (h0':ent L b=subE t:=by rfl) (ha:a<L.length:=by simp) (hb:b<L.length:=by simp):VApp Tryz.prog L (.fn 71 [] []) [.ptr a 0,.ptr b 0] Q:=by
 refine q0f a b hs ht h1 h2 hab ?_ h0 h0' ha hb
 rw[he,if_neg hne]
 exact hq
theorem qs0(hs:okS s)(hl:s.length≤100000){ty:Ty}(q1:szY ty≤20000)(q2:dpY ty≤300):VM Tryz.prog 53 (subE s) (subE s) [.ptr 0 0,encY ty] (typA (appR s ty)) :=
 quj (b:=true) (R:=bunR (subH s)) (fun v=>qyr hs.1 hl v) hs q1 q2
end
def wT:Ty:=⟨[84],0,[]⟩
def wU:Ty:=⟨[85],0,[]⟩
def wV:Ty:=⟨[86],0,[]⟩
def wB:Ty:=⟨[],1,[]⟩
def wR:Ty:=⟨[45,62],0,[wT,wB]⟩
def S1:List Pr:=[⟨0,wT⟩]
def S2:List Pr:=[⟨0,wT⟩,⟨1,Y0⟩]
def S3:List Pr:=[⟨0,wV⟩]
def S4:List Pr:=[⟨0,wT⟩,⟨1,wV⟩]
theorem w1:newR [⟨0,wT⟩,⟨0,wU⟩]=S1:=by rfl
theorem w3:newR [⟨0,wV⟩]=S3:=by rfl
theorem S1_ok:okS S1:=w1 ▸ qkp _
theorem qcll:okS S3:=w3 ▸ qkp _
theorem w2:setR S1 1 Y0=(S2,0):=by rfl
theorem qby3:okS S2:=by have:=qwa S1_ok 1 Y0;rwa [w2] at this
theorem w4:behR S2 S3=(S4,0):=by rfl
theorem S4_ok:okS S4:=by have:=q8w qby3 qcll;rwa [w4] at this
theorem k1:VM Tryz.prog 69 (subE S1) (subE S1) [.ptr 0 0,.int .i64 0,encY wT] (.int .i64 6):=qld S1_ok.1 (by decide) 0 (t:=wT) (by decide) (by decide)
theorem k2:VM Tryz.prog 69 (subE S1) (subE S2) [.ptr 0 0,.int .i64 1,encY Y0] (.int .i64 0):=qld S1_ok.1 (by decide) 1 (t:=Y0) (by decide) (by decide)
theorem k4:VM Tryz.prog 123 (subE S4) (subE S4) [.ptr 0 0,.int .i64 1] (.tup [encY wV,.bool true]):=qyr S4_ok.1 (by decide) 1
theorem k5:VM Tryz.prog 81 (subE S2) (subE S2) [.ptr 0 0] (.sl 4 (qck S2)):=qfv (by decide) (qgb qby3)
theorem w6:qch8 [1] S2=[⟨1,Y0⟩]:=by rfl
theorem k6:VM Tryz.prog 81 (subE [⟨1,Y0⟩]) (subE [⟨1,Y0⟩]) [.ptr 0 0] (.sl 4 (qck [⟨1,Y0⟩])):=qfv (by decide) (qgb (by have:=qbgg qby3 [1];rwa [w6] at this))
theorem k7:qp Tryz.prog 38 [encY wR] (.str [84,32,45,62,32,98]):=qke (t:=wR) (by decide) (by decide) (by decide)

set_option maxRecDepth 4000

set_option maxRecDepth 4000






mutual
def subF(f:Int->Ty):Ty->Ty
 | .mk c v l=>if c=[] then f v else .mk c v (qea f l)
def qea(f:Int->Ty):List Ty->List Ty
 | []=>[]
 | x::r=>subF f x::qea f r
end
theorem qbaw(f:Int->Ty):∀l,(qea f l).length=l.length
 | []=>rfl
 | x::r=>by rw[qea,List.length_cons,List.length_cons,qbaw f r]
def funR(s:List Pr)(v:Int):Ty:=(q6 v s).getD (.mk [] v [])
mutual
theorem qh2(s:List Pr):∀t,bare t->putY s t=subF (funR s) t
 | .mk c v l, h => by
   rw[bare] at h
   rw[putY,subF]
   split
   ·rename_i hc
    have hl:l=[]:=h.1 hc
    subst hl
    rw[funR]
    subst hc
    cases q6 v s<;>rfl
   ·rw[qu2 s l h.2]
theorem qu2(s:List Pr):∀l,qjj l->qfp s l=qea (funR s) l
 | [],_=>by rw[qfp,qea]
 | x :: r, h => by
   rw[qjj] at h
   rw[qfp,qea,qh2 s x h.1,qu2 s r h.2]
end
mutual
theorem quq(f g:Int->Ty):∀t,subF g (subF f t)=subF (fun v=>subF g (f v)) t
 | .mk c v l => by
   rw[subF,subF]
   split
   ·rfl
   ·rename_i hc
    rw[subF,if_neg hc,qqf f g l]
theorem qqf(f g:Int->Ty):∀l,qea g (qea f l)=qea (fun v=>subF g (f v)) l
 | []=>by simp only[qea]
 | x::r=>by rw[qea,qea,qea,quq f g x,qqf f g r]
end
theorem q68(c:List UInt8)(v:Int)(l:List Ty):szY (.mk c v l)=1+szYs l:=by rw[szY]
theorem qhn(c:List UInt8)(v:Int)(l:List Ty):varY (.mk c v l)=(if c=[] then [v] else [])++qdt l:=by rw[varY]
theorem qzp{t:Ty}(h:qc5 t=true)(hc:t.con≠[]):t.var=0:=by
 rw[qg2,Bool.and_eq_true] at h
 have h2:=h.2
 rw[mayY,mayW,if_neg hc] at h2
 split at h2
 ·simp at h2;exact h2.1
 split at h2
 ·simp at h2;exact h2.1
 ·simp at h2;exact h2.1

theorem qcr{t:Ty}(h:qq t=true):bare t:=qev t ((qbc t).1 h).2.2
theorem qtm:∀{s:List Pr},risR s->(s.map Pr.v).Nodup
 | [],_=>List.Pairwise.nil
 | p :: r, h => by
   rw[List.map_cons,List.nodup_cons]
   refine⟨fun hm=>?_,qtm h.2⟩
   obtain⟨q,h1,h2⟩:=List.mem_map.1 hm
   have:=h.1 q h1
   omega
/-! the reference's -/
theorem qn6{t a:Ty}(h:qq t=true)(ha:a∈t.args):qq a=true:=by
 obtain⟨h1,h2,h3⟩:=(qbc t).1 h
 have q1:=qot ha
 have q2:=qxb ha
 rw[qll] at h1
 rw[qz1] at h2
 rw[qg2,Bool.and_eq_true] at h3
 refine(qbc a).2 ⟨by omega,by omega,?_⟩
 have:∀l:List Ty,qc0 l=true->∀a∈l,qc5 a=true:=fun l=>by
  induction l with
  | nil=>intro _ a ha;cases ha
  | cons x r ih =>
    intro hl a ha
    rw[qc0,Bool.and_eq_true] at hl
    rcases List.mem_cons.1 ha with rfl | ha
    ·exact hl.1
    ·exact ih hl.2 a ha
 exact this _ h3.1 a ha


end Go.Proofs.YtkenggenkmfopaaGreat
