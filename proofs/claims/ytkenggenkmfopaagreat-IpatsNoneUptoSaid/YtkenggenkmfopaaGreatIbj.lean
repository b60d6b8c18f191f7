/- Texts of this proof, joined. -/
import Derived.Test.YtkenggenkmfopaaGreatIbh
import Derived.Test.YtkenggenkmfopaaGreatIbi
import Derived.Test.YtkenggenkmfopaaGreatIbf
import Derived.Test.YtkenggenkmfopaaGreatIav
import Derived.Test.YtkenggenkmfopaaGreatIbd
import Derived.Test.YtkenggenkmfopaaGreatIbb
set_option linter.unusedVariables false
set_option linter.unusedSimpArgs false

/- the reader of terms: copies of rows, what is taken, atoms -/
namespace Go.Proofs.YtkenggenkmfopaaGreat
open Go Go.RowKit Go.V

/-! a copy of a row -/
/-! the reader -/

theorem qmm:∀{H:List Ent} {i:Nat},H.length≤i->ent H i=.dead
 | [],_,_=>rfl
 | _::_,0,h=>absurd h (by simp)
 | _::H,i+1,h=>qmm (H:=H) (i:=i) (by simpa using h)
section
variable {P:Program} {f:FuncId} {e e':Ent} {aa args caps rs:List AV} {r:AV} {H:List Ent} {Kk:Md->AV->List Ent->Prop}
theorem qck3(i:Nat)(h:VM P f e e' aa r)(hq:Kk (.meth i e e') r (H.set i e'))(hn:e≠.dead:=by intro h;cases h)(hb:e.bd 0=true:=by rfl)(hb':e'.bd 0=true:=by rfl)(he:ent H i=e:=by rfl)(hr:r.bd 0=true:=by first | rfl | simp[go_sem])
 (e1:args++caps=AV.rens (sg [i]) aa:=by first | rfl | (simp only[go_sem];rfl) | (simp[go_sem,sg,AV.rens,AV.ren];done)) (ha:AV.bds 1 aa=true:=by first | rfl | (simp only[go_sem];done) | simp[go_sem,AV.bds,AV.bd]):DApp P H (.fn f [] caps) args rs Kk :=
 .inr (.inr (.inl ⟨r,i,e,e',⟨hn,he,fun H₀ h0=>qcw i h ⟨rfl,rfl⟩ hb hb' (by
  rcases Nat.lt_or_ge i H₀.length with h1 | h1
  ·exact h1
  ·exact absurd (h0.symm.trans (qmm h1)) hn) h0 hr e1 ha⟩,hq⟩))
end



set_option maxRecDepth 4000

theorem qvm{l:List Pd}(h:fewP l=true):qp Tryz.prog 133 [.sl 4 (qeh l)] (.int .i64 1):=qmq (qcdf l) (by rw[h];rfl)
theorem qbk9{l:List Pd}(h:fewP l=false):qp Tryz.prog 133 [.sl 4 (qeh l)] (.int .i64 0):=qmq (qcdf l) (by rw[h];rfl)
def fewI(l:List Ins):Bool:=decide (l.length≤12)&&l.all fun x=>fewP x.ps&&decide (x.n≤200)
theorem qcls(l:List Ins):qp Tryz.prog 88 [.sl 4 (qf6 l)] (.int .i64 (if fewI l=true then 1 else 0)):=by
 refine qe c0cw (by simp) (by simp only[go_sem]) rfl fun hw=>?_
 have hl:=(qbkf hw.1).1
 have h10:decide ((1:Int)=0)=false:=rfl
 by_cases h12:l.length≤12
 case neg =>
  have:fewI l=false:=by rw[fewI,decide_eq_false h12,Bool.false_and]
  rw[this]
  repeat'(first|refine vs_ ?_|((first|refine vr_ ?_|(refine cs_ ?_ ?_<;>intro hc)|refine cj_ ?_|simp (disch:=omega) only[qa,qc])<;>try refine ev_ ?_)|with_reducible exact ti_)
  all_goals first | (exfalso;omega) | rfl
 repeat'(first|refine vs_ ?_|((first|refine vr_ ?_|(refine cs_ ?_ ?_<;>intro hc)|refine cj_ ?_|simp (disch:=omega) only[qa,qc])<;>try refine ev_ ?_)|with_reducible exact ti_)
 all_goals try(exfalso;omega)
 refine qo (S:=Nat) (fun i=>i≤l.length∧(l.take i).all (fun x=>fewP x.ps&&decide (x.n≤200))=true) (fun i=>(⟨[(0,.sl 4 (qf6 l)),(3,.int .i64 i)],[]⟩,[])) (fun i=>l.length-i) ?_ fun i hi=>?_
 ·refine qj 0 [] ⟨Nat.zero_le _,rfl⟩ rfl (by simp) ?_ ?_ ?_<;>(try refine ev_ ?_)<;>(try with_reducible exact ti_)<;>(try simp (disch:=omega) only[qc,and_true,true_and])
 ·obtain⟨hi,ha⟩:=hi
  by_cases hlt:i<l.length
  ·have hg:=q1y hlt
   have hnx:(l.take (i+1)).all (fun x=>fewP x.ps&&decide (x.n≤200))=(fewP (l.getD i I0).ps&&decide ((l.getD i I0).n≤200)):=by
    have h1:l.take (i+1)=l.take i++[l.getD i I0]:=by
     rw[List.take_add_one,List.getD_eq_getElem?_getD,List.getElem?_eq_getElem hlt];rfl
    rw[h1,List.all_append,ha];simp
   have hno:(fewP (l.getD i I0).ps&&decide ((l.getD i I0).n≤200))=false->fewI l=false:=fun h=>by
    cases hf:fewI l with
    | false=>rfl
    | true =>
      rw[fewI,Bool.and_eq_true] at hf
      rw[List.all_eq_true.1 hf.2 _ (q5e hlt)] at h
      cases h
   cases hp:fewP (l.getD i I0).ps with
   | false =>
     rw[hno (by rw[hp];rfl)]
     repeat'(first|refine vs_ ?_|(refine vr_ ?_<;>try simp only[hg,go_sem,↓reduceIte])|((first|simp (disch:=omega) only[hg]|(refine cs_ ?_ ?_<;>intro hc)|refine cj_ ?_|simp (disch:=omega) only[qa,qc]|refine qb (qbk9 hp) fun _=>?_)<;>try refine ev_ ?_)|with_reducible exact ti_)
     all_goals try(exfalso;omega)
     all_goals rfl
   | true =>
     rw[hp,Bool.true_and] at hnx hno
     by_cases hn:(l.getD i I0).n≤200
     ·repeat'(first|refine vs_ ?_|(refine vr_ ?_<;>try simp (disch:=first|omega|(simp only[List.length_set,List.length_append,List.length_cons,List.length_nil];try omega)) only[h10,hg,qc,go_sem,↓reduceIte])|((first|simp (disch:=omega) only[hg]|(refine cs_ ?_ ?_<;>intro hc)|refine cj_ ?_|simp (disch:=omega) only[qa,qc]|refine qb (qvm hp) fun _=>?_)<;>try refine ev_ ?_)|with_reducible exact ti_)
      all_goals try(exfalso;omega)
      refine qj (i+1) [] ⟨⟨by omega,by rw[hnx,decide_eq_true hn]⟩,by omega⟩ rfl (by simp) ?_ ?_ ?_<;>(try refine ev_ ?_)<;>(try with_reducible exact ti_)<;>(try simp (disch:=omega) only[qc,and_true,true_and])
     ·rw[hno (decide_eq_false hn)]
      repeat'(first|refine vs_ ?_|(refine vr_ ?_<;>try simp (disch:=first|omega|(simp only[List.length_set,List.length_append,List.length_cons,List.length_nil];try omega)) only[h10,hg,qc,go_sem,↓reduceIte])|((first|simp (disch:=omega) only[hg]|(refine cs_ ?_ ?_<;>intro hc)|refine cj_ ?_|simp (disch:=omega) only[qa,qc]|refine qb (qvm hp) fun _=>?_)<;>try refine ev_ ?_)|with_reducible exact ti_)
      all_goals try(exfalso;omega)
      all_goals rfl
  ·have hie:i=l.length:=by omega
   subst hie
   rw[List.take_length] at ha
   have:fewI l=true:=by rw[fewI,decide_eq_true h12,ha];rfl
   rw[this]
   repeat'(first|refine vs_ ?_|((first|refine vr_ ?_|(refine cs_ ?_ ?_<;>intro hc)|refine cj_ ?_|simp (disch:=omega) only[qa,qc])<;>try refine ev_ ?_)|with_reducible exact ti_)
   all_goals try(exfalso;omega)
end Go.Proofs.YtkenggenkmfopaaGreat

/- what is declared: not too much -/
set_option maxRecDepth 4000
namespace Go.V
open Go Go.RowKit
structure Me where
 name:List UInt8
 n:Int
 ty:Ty
structure ClT where
 name:List UInt8
 sup:List (List UInt8)
 ms:List Me
structure EnvT where
 ds:List Da
 cs:List ClT
 is:List Ins
def Me0:Me:=⟨[],0,Y0⟩
def qlv(x:Me):AV:=.agg [.str x.name,.int .i64 x.n,.str x.ty.con,.int .i64 x.ty.var,.sl 3 (qh x.ty.args)]
def qc4(l:List Me):List AV:=l.map qlv
theorem q0z(k:Nat)(x:Me):(qlv x).bd k=true:=by simp only[qlv,AV.bd,AV.bds,qbd,Bool.and_true]
theorem qj8(k:Nat)(l:List Me):AV.bds k (qc4 l)=true:=by rw[qc4,qb6,List.all_map,List.all_eq_true];exact fun x _=>q0z k x
theorem q3n(σ:Nat->Nat)(l:List Me):AV.rens σ (qc4 l)=qc4 l:=qs (m:=0) (fun i hi=>by omega) _ (qj8 0 l)
theorem q33(l:List Me):(qc4 l).length=l.length:=by simp[qc4]
theorem qh6{l:List Me}{i:Nat}(h:i<l.length):(qc4 l).getD i .junk=qlv (l.getD i Me0):=by
 rw[qc4,List.getD_eq_getElem?_getD,List.getElem?_map,List.getElem?_eq_getElem h,List.getD_eq_getElem?_getD,List.getElem?_eq_getElem h];rfl
theorem qw8(x:Me):(qlv x).cells=[.str x.name,.int .i64 x.n,.str x.ty.con,.int .i64 x.ty.var,.sl 3 (qh x.ty.args)]:=rfl
theorem qbb0(b:Bool)(n off:Nat)(x:Me):fldv b n off (qlv x)=ldc b n off [.str x.name,.int .i64 x.n,.str x.ty.con,.int .i64 x.ty.var,.sl 3 (qh x.ty.args)]:=rfl
theorem qbcc(x:Me):(qlv x).isAgg=true:=rfl
attribute [go_sem] q0z qj8 q3n q33 qw8 qbb0 qbcc
def toC(c:ClT):Cls:=⟨c.name,c.sup,qc4 c.ms,qj8 0 _⟩
abbrev evtc(x:EnvT):List AV:=[.sl 3 (qbv x.ds),.sl 3 (qfa (x.cs.map toC)),.sl 4 (qf6 x.is)]
def qfc(x:EnvT):AV:=.agg (evtc x)
theorem q2z(x:EnvT):AV.agg [.sl 3 (qbv x.ds),.sl 3 (qfa (x.cs.map toC)),.sl 4 (qf6 x.is)]=qfc x:=rfl
theorem qjm(k:Nat)(x:EnvT):(qfc x).bd k=true:=by simp only[qfc,AV.bd,AV.bds,qf5,qrl,qra,Bool.and_true]
theorem qbbo(σ:Nat->Nat)(x:EnvT):(qfc x).ren σ=qfc x:=ren_same (m:=0) (fun i hi=>by omega) _ (qjm 0 x)
theorem qxs(x:EnvT):(qfc x).cells=evtc x:=rfl
theorem q6v(x:EnvT):(qfc x).isAgg=true:=rfl
theorem qrt(x:EnvT):(qfc x).leaf=false:=rfl
theorem qbkq(H:List Ent)(x:EnvT):co H (.agg [.sl 3,.sl 3,.sl 4]) (qfc x)=qfc x:=by simp only[qfc,qef,qcf,qcx,qcj]
theorem q1m(x:EnvT):rdCo (.agg [.sl 3,.sl 3,.sl 4]) (qfc x)=[]:=by simp only[qfc,qce,qbi,qbq,qbk,List.append_nil]
attribute [go_sem] evtc q2z qjm qbbo qxs q6v qrt qbkq q1m
end Go.V
namespace Go.Proofs.YtkenggenkmfopaaGreat
open Go Go.RowKit Go.V

def qnb(l:List Cls):Bool:=decide (l.length≤9)&&l.all fun c=>decide (c.sup.length≤9)
theorem qck9(l:List Cls):qp Tryz.prog 87 [.sl 3 (qfa l)] (.int .i64 (if qnb l=true then 1 else 0)):=by
 refine qe c0a (by simp) (by simp only[go_sem]) rfl fun hw=>?_
 have hl:=(qbh5 hw.1).1
 by_cases h9:9<l.length
 ·have e:qnb l=false:=by rw[qnb,decide_eq_false (by omega),Bool.false_and]
  have hI:(9:Int)<(l.length:Int):=by omega
  rw[e]
  repeat'(first|refine vs_ ?_|(refine vr_ ?_<;>try simp only[hI,decide_true,decide_false,go_sem,↓reduceIte])|((first|(refine cs_ ?_ ?_<;>intro hc)|refine cj_ ?_|simp (disch:=omega) only[qa,qc])<;>try refine ev_ ?_)|with_reducible exact ti_)
 ·have e:qnb l=l.all fun c=>decide (c.sup.length≤9):=by rw[qnb,decide_eq_true (by omega),Bool.true_and]
  have hI:¬(9:Int)<(l.length:Int):=by omega
  rw[e]
  repeat'(first|refine vs_ ?_|(refine vr_ ?_<;>try simp only[hI,decide_true,decide_false,go_sem,↓reduceIte])|((first|(refine cs_ ?_ ?_<;>intro hc)|refine cj_ ?_|simp (disch:=omega) only[qa,qc])<;>try refine ev_ ?_)|with_reducible exact ti_)
  refine qo (S:=Nat) (fun i=>i≤l.length∧(l.drop i).all (fun c=>decide (c.sup.length≤9))=l.all fun c=>decide (c.sup.length≤9)) (fun i=>(⟨[(0,.sl 3 (qfa l)),(3,.int .i64 i)],[]⟩,[])) (fun i=>l.length-i) ?_ fun i hi=>?_
  ·refine qj 0 [] ⟨Nat.zero_le _,rfl⟩ rfl (by simp) ?_ ?_ ?_<;>(try refine ev_ ?_)<;>(try with_reducible exact ti_)<;>(try simp (disch:=omega) only[qc,and_true,true_and])
  ·obtain⟨hi,ha⟩:=hi
   by_cases hlt:i<l.length
   ·have hg:=q2m hlt
    rw[qclb hlt,List.all_cons] at ha
    have hltI:(i:Int)<(l.length:Int):=by omega
    generalize l.getD i C0=q at *
    by_cases hq:9<q.sup.length
    ·have hqI:(9:Int)<(q.sup.length:Int):=by omega
     rw[decide_eq_false (show ¬q.sup.length≤9 by omega),Bool.false_and] at ha
     repeat'(first|refine vs_ ?_|(refine vr_ ?_<;>try simp (disch:=first|omega|(simp only[List.length_set,List.length_append,List.length_cons,List.length_nil];try omega)) only[hg,hltI,hqI,decide_true,decide_false,qc,List.length_map,go_sem,↓reduceIte])|((first|simp (disch:=omega) only[hg]|(refine cs_ ?_ ?_<;>intro hc)|refine cj_ ?_|simp (disch:=omega) only[qa,qc])<;>try refine ev_ ?_)|with_reducible exact ti_)
     all_goals rw[←ha]
     all_goals rfl
    ·have hqI:¬(9:Int)<(q.sup.length:Int):=by omega
     rw[decide_eq_true (show q.sup.length≤9 by omega),Bool.true_and] at ha
     repeat'(first|refine vs_ ?_|(refine vr_ ?_<;>try simp (disch:=first|omega|(simp only[List.length_set,List.length_append,List.length_cons,List.length_nil];try omega)) only[hg,hltI,hqI,decide_true,decide_false,qc,List.length_map,go_sem,↓reduceIte])|((first|simp (disch:=omega) only[hg]|(refine cs_ ?_ ?_<;>intro hc)|refine cj_ ?_|simp (disch:=omega) only[qa,qc])<;>try refine ev_ ?_)|with_reducible exact ti_)
     refine qj (i+1) [] ⟨⟨by omega,ha⟩,by omega⟩ rfl (by simp) ?_ ?_ ?_<;>(try refine ev_ ?_)<;>(try with_reducible exact ti_)<;>(try simp (disch:=omega) only[qc,and_true,true_and])
   ·rw[List.drop_of_length_le (by omega),List.all_nil] at ha
    have hltI:¬(i:Int)<(l.length:Int):=by omega
    repeat'(first|refine vs_ ?_|(refine vr_ ?_<;>try simp only[hltI,decide_false,go_sem,↓reduceIte])|((first|(refine cs_ ?_ ?_<;>intro hc)|refine cj_ ?_|simp (disch:=omega) only[qa,qc])<;>try refine ev_ ?_)|with_reducible exact ti_)
    all_goals rw[←ha]
    all_goals rfl
theorem qcgt(e:EnvT):qp Tryz.prog 58 [qfc e] (.int .i64 (if(qnb (e.cs.map toC)&&fewI e.is)=true then 1 else 0)):=by
 refine qe c0b (by simp) (by simp only[go_sem]) rfl fun hw=>?_
 have h22:=qck9 (e.cs.map toC)
 have h23:=qcls e.is
 generalize qnb (e.cs.map toC)=a at *
 generalize fewI e.is=b at *
 cases a<;>cases b
 all_goals(repeat'(first|refine vs_ ?_|((first|refine vr_ ?_|refine qb h22 fun _=>?_|refine qb h23 fun _=>?_|(refine cs_ ?_ ?_<;>intro hc)|refine cj_ ?_)<;>try refine ev_ ?_)|with_reducible exact ti_))
 all_goals first | rfl | (exfalso;omega)
theorem qcln(l:List Da):qp Tryz.prog 59 [.sl 3 (qbv l)] (.int .i64 (if l.length≤20 then 1 else 0)):=by
 refine qe c0c (by simp) (by simp only[go_sem]) rfl fun hw=>?_
 by_cases h:l.length≤20
 ·have hI:¬(20:Int)<(l.length:Int):=by omega
  rw[if_pos h]
  repeat'(first|refine vs_ ?_|(refine vr_ ?_<;>try simp only[hI,go_sem,↓reduceIte])|((first|(refine cs_ ?_ ?_<;>intro hc)|refine cj_ ?_)<;>try refine ev_ ?_)|with_reducible exact ti_)
 ·have hI:(20:Int)<(l.length:Int):=by omega
  rw[if_neg h]
  repeat'(first|refine vs_ ?_|(refine vr_ ?_<;>try simp only[hI,go_sem,↓reduceIte])|((first|(refine cs_ ?_ ?_<;>intro hc)|refine cj_ ?_)<;>try refine ev_ ?_)|with_reducible exact ti_)
abbrev AnyI(H':List Ent)(o:VO):Prop:=H'=[]∧∃k,o=.val (.int .i64 k)
def f33a(e:EnvT)(x:Nat×List Ty):AF×List Ent:=(⟨[(1,.ptr 0 0),(3,accV 1 (qh x.2)),(4,.int .i64 x.1)],[]⟩,[.blk (evtc e)]++accE 3 (qh x.2))
def f33b(e:EnvT)(i:Nat)(d:Da)(x:Nat×List Ty):AF×List Ent:=(⟨[(1,.ptr 0 0),(3,accV 2 (qh x.2)),(4,.int .i64 i),(5,.ptr 1 0),(6,.int .i64 x.1)],[]⟩,[.blk (evtc e),.blk (dac d)]++accE 3 (qh x.2))
def f33c(e:EnvT)(x:Nat×List Ty):AF×List Ent:=(⟨[(1,.ptr 0 0),(3,accV 1 (qh x.2)),(7,.int .i64 x.1)],[]⟩,[.blk (evtc e)]++accE 3 (qh x.2))
def f33d(e:EnvT)(i:Nat)(ms:List Me)(x:Nat×List Ty):AF×List Ent:=(⟨[(1,.ptr 0 0),(3,accV 1 (qh x.2)),(7,.int .i64 i),(8,.sl 5 (qc4 ms)),(9,.int .i64 x.1)],[]⟩,[.blk (evtc e)]++accE 3 (qh x.2))
def CT0:ClT:=⟨[],[],[]⟩
theorem qvs{l:List ClT}{i:Nat}(h:i<l.length):(qfa (l.map toC)).getD i .junk=.agg [.str (l.getD i CT0).name,.sl 1 ((l.getD i CT0).sup.map AV.str),.sl 5 (qc4 (l.getD i CT0).ms)]:=by
 rw[qfa,List.map_map,List.getD_eq_getElem?_getD,List.getElem?_map,List.getElem?_eq_getElem h,List.getD_eq_getElem?_getD,List.getElem?_eq_getElem h];rfl
theorem qve{l:List ClT}{i:Nat}(h:i<l.length):l.getD i CT0∈l:=by
 rw[List.getD_eq_getElem?_getD,List.getElem?_eq_getElem h];exact List.getElem_mem h
theorem qgm{n:Nat}(h:n≤1000000000):qbe n 48=True:=eq_true (by unfold qbe;omega)
theorem qx5{l:List Da}{n i:Nat}(h:(AV.sl n (qbv l)).wf)(hi:i<l.length):(l.getD i Da0).cons.length≤maxLen:=by
 have h1:=(qi2 _).1 h.2 (qe9 (l.getD i Da0)) (by rw[qbv];exact List.mem_map.2 ⟨_,qud hi,rfl⟩)
 exact quf h1.2.2.1
set_option maxHeartbeats 4000000 in
theorem q8r(e:EnvT)(hm:∀c∈e.cs,c.ms.length≤1048576):VCalls Tryz.prog 31 [] [qfc e] AnyI:=by
 refine qfq (by kernel_rfl) fun hw=>?_
 refine qd c0d 0 (by simp) (by simp) ?_
 have h24:=qcgt e
 have h27:=qcln e.ds
 by_cases h9:e.cs.length≤9
 case neg =>
  have hf:qnb (e.cs.map toC)=false:=by rw[qnb,decide_eq_false (by rw[List.length_map];exact h9),Bool.false_and]
  rw[hf] at h24
  have h24':qp Tryz.prog 58 [qfc e] (.int .i64 0):=h24
  repeat'(first|refine vs_ ?_|(refine vr_ ?_<;>try simp only[Int.reduceEq,decide_true,decide_false,Bool.false_eq_true,go_sem,↓reduceIte])|((first|(refine cs_ ?_ ?_<;>intro hc)|refine cj_ ?_|simp (disch:=omega) only[qa,qc]|refine qb h24' fun _=>?_|refine qb h27 fun _=>?_)<;>try refine ev_ ?_)|with_reducible exact ti_)
  all_goals first | exact⟨rfl,_,rfl⟩ | contradiction
 by_cases h20:e.ds.length≤20
 case neg =>
  rw[if_neg h20] at h27
  generalize (if(qnb (e.cs.map toC)&&fewI e.is)=true then(1:Int) else 0)=a at *
  repeat'(first|refine vs_ ?_|(refine vr_ ?_<;>try simp only[Int.reduceEq,decide_true,decide_false,Bool.false_eq_true,go_sem,↓reduceIte])|((first|(refine cs_ ?_ ?_<;>intro hc)|refine cj_ ?_|simp (disch:=omega) only[qa,qc]|refine qb h24 fun _=>?_|refine qb h27 fun _=>?_)<;>try refine ev_ ?_)|with_reducible exact ti_)
  all_goals first | exact⟨rfl,_,rfl⟩ | contradiction
 rw[if_pos h20] at h27
 generalize (if(qnb (e.cs.map toC)&&fewI e.is)=true then(1:Int) else 0)=a at *
 repeat'(first|refine vs_ ?_|(refine vr_ ?_<;>try simp only[Int.reduceEq,decide_true,decide_false,Bool.false_eq_true,go_sem,↓reduceIte])|((first|(refine cs_ ?_ ?_<;>intro hc)|refine cj_ ?_|simp (disch:=omega) only[qa,qc]|refine qb h24 fun _=>?_|refine qb h27 fun _=>?_)<;>try refine ev_ ?_)|with_reducible exact ti_)
 all_goals first | exact⟨rfl,_,rfl⟩ | contradiction | skip
 refine qo (S:=Nat×List Ty) (fun x=>x.1≤e.ds.length∧x.2.length≤900*x.1) (f33a e) (fun x=>e.ds.length-x.1) ?_ ?_
 ·refine qj (0,[]) [0] ⟨Nat.zero_le _,Nat.zero_le _⟩ rfl (by simp) ?_ ?_ ?_<;>simp only[f33a,qh,qi,qk,List.append_nil]<;>(try refine ev_ ?_)<;>(try with_reducible exact ti_)<;>(try simp (disch:=omega) only[qc,and_true,true_and])
 ·rintro⟨i,acc⟩ ⟨hi,ha⟩
  simp only at hi ha
  unfold f33a
  simp only
  by_cases hlt:i<e.ds.length
  ·have hg:=qpj hlt
   have hltI:(i:Int)<(e.ds.length:Int):=by omega
   have hdc:=qx5 hw.1.1 hlt
   generalize e.ds.getD i Da0=d at *
   by_cases h1:100<d.n
   ·rcases acc with _ | ⟨y,ys⟩
    ·simp only[qr,qi,qk,List.append_nil,List.cons_append,List.nil_append]
     repeat'(first|refine vs_ ?_|(refine vr_ ?_<;>try simp only[hg,hltI,h1,decide_true,go_sem,↓reduceIte])|((first|simp (disch:=omega) only[hg]|(refine cs_ ?_ ?_<;>intro hc)|refine cj_ ?_|simp (disch:=omega) only[qa,qc])<;>try refine ev_ ?_)|with_reducible exact ti_)
     all_goals first | exact⟨rfl,_,rfl⟩ | (exfalso;omega)
    ·have haccn:=qv (List.cons_ne_nil y ys)
     rw[qm haccn,qn haccn]
     simp only[qg,List.cons_append,List.nil_append]
     generalize hacc:y::ys=acc at *
     repeat'(first|refine vs_ ?_|(refine vr_ ?_<;>try simp only[hg,hltI,h1,decide_true,go_sem,↓reduceIte])|((first|simp (disch:=omega) only[hg]|(refine cs_ ?_ ?_<;>intro hc)|refine cj_ ?_|simp (disch:=omega) only[qa,qc])<;>try refine ev_ ?_)|with_reducible exact ti_)
     all_goals first | exact⟨rfl,_,rfl⟩ | (exfalso;omega)
   by_cases h2:30<d.cons.length
   ·rcases acc with _ | ⟨y,ys⟩
    ·simp only[qr,qi,qk,List.append_nil,List.cons_append,List.nil_append]
     have h2I:(30:Int)<(d.cons.length:Int):=by omega
     repeat'(first|refine vs_ ?_|(refine vr_ ?_<;>try simp only[hg,hltI,h1,h2I,decide_true,decide_false,go_sem,↓reduceIte])|((first|simp (disch:=omega) only[hg]|(refine cs_ ?_ ?_<;>intro hc)|refine cj_ ?_|simp (disch:=omega) only[qa,qc])<;>try refine ev_ ?_)|with_reducible exact ti_)
     all_goals first | exact⟨rfl,_,rfl⟩ | (exfalso;omega)
    ·have haccn:=qv (List.cons_ne_nil y ys)
     rw[qm haccn,qn haccn]
     simp only[qg,List.cons_append,List.nil_append]
     generalize hacc:y::ys=acc at *
     have h2I:(30:Int)<(d.cons.length:Int):=by omega
     repeat'(first|refine vs_ ?_|(refine vr_ ?_<;>try simp only[hg,hltI,h1,h2I,decide_true,decide_false,go_sem,↓reduceIte])|((first|simp (disch:=omega) only[hg]|(refine cs_ ?_ ?_<;>intro hc)|refine cj_ ?_|simp (disch:=omega) only[qa,qc])<;>try refine ev_ ?_)|with_reducible exact ti_)
     all_goals first | exact⟨rfl,_,rfl⟩ | (exfalso;omega)
   rcases acc with _ | ⟨y,ys⟩
   ·simp only[qr,qi,qk,List.append_nil,List.cons_append,List.nil_append]
    have h2I:¬(30:Int)<(d.cons.length:Int):=by omega
    repeat'(first|refine vs_ ?_|(refine vr_ ?_<;>try simp only[hg,hltI,h1,h2I,decide_true,decide_false,go_sem,↓reduceIte])|((first|simp (disch:=omega) only[hg]|(refine cs_ ?_ ?_<;>intro hc)|refine cj_ ?_|simp (disch:=omega) only[qa,qc])<;>try refine ev_ ?_)|with_reducible exact ti_)
    all_goals first | exact⟨rfl,_,rfl⟩ | (exfalso;omega) | skip
    refine qo (S:=Nat×List Ty) (fun x=>x.1≤d.cons.length∧x.2.length≤900*i+30*x.1) (f33b e i d) (fun x=>d.cons.length-x.1) ?_ ?_
    ·refine qj (0,[]) [0,1] ⟨Nat.zero_le _,Nat.zero_le _⟩ rfl (by simp) ?_ ?_ ?_<;>simp only[f33b,qr,qi,qk,List.append_nil,List.cons_append,List.nil_append]<;>(try refine ev_ ?_)<;>(try with_reducible exact ti_)<;>(try simp (disch:=omega) only[qc,and_true,true_and])
    ·rintro⟨k,bcc⟩ ⟨hk,hb⟩
     simp only at hk hb
     unfold f33b
     simp only
     by_cases hlk:k<d.cons.length
     ·have hgk:=qhx hlk
      have hlkI:(k:Int)<(d.cons.length:Int):=by omega
      generalize d.cons.getD k Cn0=c at *
      obtain⟨nm,ts⟩:=c
      have hgk:(qff d.cons).getD k .junk=.agg [.str nm,.sl 3 (qh ts)]:=hgk
      by_cases h3:30<ts.length
      ·have h3I:(30:Int)<(ts.length:Int):=by omega
       rcases bcc with _ | ⟨z,zs⟩
       ·simp only[qr,qi,qk,List.append_nil,List.cons_append,List.nil_append]
        repeat'(first|refine vs_ ?_|(refine vr_ ?_<;>try simp (disch:=first|omega|(simp only[List.length_set,List.length_append,List.length_cons,List.length_nil];try omega)) only[hgk,hlkI,h3I,decide_true,decide_false,qc,go_sem,↓reduceIte])|((first|simp (disch:=omega) only[hgk]|(refine cs_ ?_ ?_<;>intro hc)|refine cj_ ?_|simp (disch:=omega) only[qa,qc])<;>try refine ev_ ?_)|with_reducible exact ti_)
        all_goals first | exact⟨rfl,_,rfl⟩ | (exfalso;omega)
       ·have hbccn:=qv (List.cons_ne_nil z zs)
        rw[qm hbccn,qn hbccn]
        simp only[qg,List.cons_append,List.nil_append]
        generalize hbcc:z::zs=bcc at *
        repeat'(first|refine vs_ ?_|(refine vr_ ?_<;>try simp (disch:=first|omega|(simp only[List.length_set,List.length_append,List.length_cons,List.length_nil];try omega)) only[hgk,hlkI,h3I,decide_true,decide_false,qc,go_sem,↓reduceIte])|((first|simp (disch:=omega) only[hgk]|(refine cs_ ?_ ?_<;>intro hc)|refine cj_ ?_|simp (disch:=omega) only[qa,qc])<;>try refine ev_ ?_)|with_reducible exact ti_)
        all_goals first | exact⟨rfl,_,rfl⟩ | (exfalso;omega)
      ·have h3I:¬(30:Int)<(ts.length:Int):=by omega
       rcases bcc with _ | ⟨z,zs⟩
       ·simp only[qr,qi,qk,List.append_nil,List.cons_append,List.nil_append]
        rcases ts with _ | ⟨u,us⟩
        ·have hts:(qh ([]:List Ty)).length=0:=rfl
         repeat'(first|refine vs_ ?_|(refine vr_ ?_<;>try simp (disch:=first|omega|(simp only[List.length_set,List.length_append,List.length_cons,List.length_nil];try omega)) only[hgk,hlkI,h3I,decide_true,decide_false,qc,qr,List.length_nil,if_true,go_sem,↓reduceIte])|((first|simp (disch:=omega) only[hgk]|(refine cs_ ?_ ?_<;>intro hc)|refine cj_ ?_|simp (disch:=omega) only[qa,qc])<;>try refine ev_ ?_)|with_reducible exact ti_)
         all_goals first | exact⟨rfl,_,rfl⟩ | (exfalso;omega) | skip
         refine qj (k+1,[]) [0,1] ⟨⟨by omega,Nat.zero_le _⟩,by simp only;omega⟩ rfl (by simp) ?_ ?_ ?_<;>simp only[f33b,qr,qi,qk,List.append_nil,List.cons_append,List.nil_append]<;>(try refine ev_ ?_)<;>(try with_reducible exact ti_)<;>(try simp (disch:=omega) only[qc,and_true,true_and])
         all_goals first | rfl | exact⟨rfl,rfl⟩ | (rw[qz (by omega) (by omega),Int.natCast_add];rfl)
        ·have htn:=qv (List.cons_ne_nil u us)
         have htl:¬(u::us).length=0:=by simp
         generalize hts:u::us=ts at *
         have c1:qbe ts.length 48=True:=qgm (by omega)
         repeat'(first|refine vs_ ?_|(refine vr_ ?_<;>try simp (disch:=first|omega|(simp only[List.length_set,List.length_append,List.length_cons,List.length_nil];try omega)) only[hgk,hlkI,h3I,decide_true,decide_false,qc,htl,if_false,c1,if_neg htl,go_sem,↓reduceIte])|((first|simp (disch:=omega) only[hgk]|(refine cs_ ?_ ?_<;>intro hc)|refine cj_ ?_|simp (disch:=omega) only[qa,qc])<;>try refine ev_ ?_)|with_reducible exact ti_)
         all_goals first | exact⟨rfl,_,rfl⟩ | (exfalso;omega) | skip
         refine qj (k+1,ts) [0,1,2] ⟨⟨by omega,by simp only at hb ⊢;omega⟩,by simp only;omega⟩ rfl (by simp) ?_ ?_ ?_<;>simp only[f33b,qm htn,qn htn,qg,List.cons_append,List.nil_append]<;>(try refine ev_ ?_)<;>(try with_reducible exact ti_)<;>(try simp (disch:=omega) only[qc,and_true,true_and])
         all_goals first | rfl | exact⟨rfl,rfl⟩ | (rw[qz (by omega) (by omega),Int.natCast_add];rfl)
       ·have hbccn:=qv (List.cons_ne_nil z zs)
        rw[qm hbccn,qn hbccn]
        simp only[qg,List.cons_append,List.nil_append]
        generalize hbcc:z::zs=bcc at *
        have c1:qbe (bcc.length+ts.length) 48=True:=qgm (by omega)
        have hbn:bcc++ts≠[]:=by rw[←hbcc];simp
        have hbn2:=qv hbn
        repeat'(first|refine vs_ ?_|(refine vr_ ?_<;>try simp (disch:=first|omega|(simp only[List.length_set,List.length_append,List.length_cons,List.length_nil];try omega)) only[hgk,hlkI,h3I,decide_true,decide_false,qc,c1,go_sem,↓reduceIte])|((first|simp (disch:=omega) only[hgk]|(refine cs_ ?_ ?_<;>intro hc)|refine cj_ ?_|simp (disch:=omega) only[qa,qc])<;>try refine ev_ ?_)|with_reducible exact ti_)
        all_goals first | exact⟨rfl,_,rfl⟩ | (exfalso;omega) | skip
        refine qj (k+1,bcc++ts) [0,1,3] ⟨⟨by omega,by simp only[List.length_append] at hb ⊢;omega⟩,by simp only;omega⟩ rfl (by simp) ?_ ?_ ?_<;>simp only[f33b,qm hbn2,qn hbn2,qg,List.cons_append,List.nil_append,qf9,List.length_append]<;>(try refine ev_ ?_)<;>(try with_reducible exact ti_)<;>(try simp (disch:=omega) only[qc,and_true,true_and])
        all_goals first | rfl | exact⟨rfl,rfl⟩ | (rw[qz (by omega) (by omega),Int.natCast_add];rfl)
     ·have hlkI:¬(k:Int)<(d.cons.length:Int):=by omega
      rcases bcc with _ | ⟨z,zs⟩
      ·simp only[qr,qi,qk,List.append_nil,List.cons_append,List.nil_append]
       repeat'(first|refine vs_ ?_|(refine vr_ ?_<;>try simp (disch:=first|omega|(simp only[List.length_set,List.length_append,List.length_cons,List.length_nil];try omega)) only[hlkI,decide_true,decide_false,qc,go_sem,↓reduceIte])|((first|(refine cs_ ?_ ?_<;>intro hc)|refine cj_ ?_|simp (disch:=omega) only[qa,qc])<;>try refine ev_ ?_)|with_reducible exact ti_)
       all_goals first | exact⟨rfl,_,rfl⟩ | (exfalso;omega) | skip
       refine qj (i+1,[]) [0] ⟨⟨by omega,Nat.zero_le _⟩,by simp only;omega⟩ rfl (by simp) ?_ ?_ ?_<;>simp only[f33a,qr,qi,qk,List.append_nil,List.cons_append,List.nil_append]<;>(try refine ev_ ?_)<;>(try with_reducible exact ti_)<;>(try simp (disch:=omega) only[qc,and_true,true_and])
       all_goals first | rfl | exact⟨rfl,rfl⟩ | (rw[qz (by omega) (by omega),Int.natCast_add];rfl)
      ·have hbccn:=qv (List.cons_ne_nil z zs)
       rw[qm hbccn,qn hbccn]
       simp only[qg,List.cons_append,List.nil_append]
       generalize hbcc:z::zs=bcc at *
       repeat'(first|refine vs_ ?_|(refine vr_ ?_<;>try simp (disch:=first|omega|(simp only[List.length_set,List.length_append,List.length_cons,List.length_nil];try omega)) only[hlkI,decide_true,decide_false,qc,go_sem,↓reduceIte])|((first|(refine cs_ ?_ ?_<;>intro hc)|refine cj_ ?_|simp (disch:=omega) only[qa,qc])<;>try refine ev_ ?_)|with_reducible exact ti_)
       all_goals first | exact⟨rfl,_,rfl⟩ | (exfalso;omega) | skip
       refine qj (i+1,bcc) [0,2] ⟨⟨by omega,by simp only at hb ⊢;omega⟩,by simp only;omega⟩ rfl (by simp) ?_ ?_ ?_<;>simp only[f33a,qm hbccn,qn hbccn,qg,List.cons_append,List.nil_append]<;>(try refine ev_ ?_)<;>(try with_reducible exact ti_)<;>(try simp (disch:=omega) only[qc,and_true,true_and])
       all_goals first | rfl | exact⟨rfl,rfl⟩ | (rw[qz (by omega) (by omega),Int.natCast_add];rfl)
   ·have haccn:=qv (List.cons_ne_nil y ys)
    rw[qm haccn,qn haccn]
    simp only[qg,List.cons_append,List.nil_append]
    generalize hacc:y::ys=acc at *
    have h2I:¬(30:Int)<(d.cons.length:Int):=by omega
    repeat'(first|refine vs_ ?_|(refine vr_ ?_<;>try simp only[hg,hltI,h1,h2I,decide_true,decide_false,go_sem,↓reduceIte])|((first|simp (disch:=omega) only[hg]|(refine cs_ ?_ ?_<;>intro hc)|refine cj_ ?_|simp (disch:=omega) only[qa,qc])<;>try refine ev_ ?_)|with_reducible exact ti_)
    all_goals first | exact⟨rfl,_,rfl⟩ | (exfalso;omega) | skip
    refine qo (S:=Nat×List Ty) (fun x=>x.1≤d.cons.length∧x.2.length≤900*i+30*x.1) (f33b e i d) (fun x=>d.cons.length-x.1) ?_ ?_
    ·refine qj (0,acc) [0,2,1] ⟨Nat.zero_le _,by simp only;omega⟩ rfl (by simp) ?_ ?_ ?_<;>simp only[f33b,qm haccn,qn haccn,qg,List.cons_append,List.nil_append]<;>(try refine ev_ ?_)<;>(try with_reducible exact ti_)<;>(try simp (disch:=omega) only[qc,and_true,true_and])
    ·rintro⟨k,bcc⟩ ⟨hk,hb⟩
     simp only at hk hb
     unfold f33b
     simp only
     by_cases hlk:k<d.cons.length
     ·have hgk:=qhx hlk
      have hlkI:(k:Int)<(d.cons.length:Int):=by omega
      generalize d.cons.getD k Cn0=c at *
      obtain⟨nm,ts⟩:=c
      have hgk:(qff d.cons).getD k .junk=.agg [.str nm,.sl 3 (qh ts)]:=hgk
      by_cases h3:30<ts.length
      ·have h3I:(30:Int)<(ts.length:Int):=by omega
       rcases bcc with _ | ⟨z,zs⟩
       ·simp only[qr,qi,qk,List.append_nil,List.cons_append,List.nil_append]
        repeat'(first|refine vs_ ?_|(refine vr_ ?_<;>try simp (disch:=first|omega|(simp only[List.length_set,List.length_append,List.length_cons,List.length_nil];try omega)) only[hgk,hlkI,h3I,decide_true,decide_false,qc,go_sem,↓reduceIte])|((first|simp (disch:=omega) only[hgk]|(refine cs_ ?_ ?_<;>intro hc)|refine cj_ ?_|simp (disch:=omega) only[qa,qc])<;>try refine ev_ ?_)|with_reducible exact ti_)
        all_goals first | exact⟨rfl,_,rfl⟩ | (exfalso;omega)
       ·have hbccn:=qv (List.cons_ne_nil z zs)
        rw[qm hbccn,qn hbccn]
        simp only[qg,List.cons_append,List.nil_append]
        generalize hbcc:z::zs=bcc at *
        repeat'(first|refine vs_ ?_|(refine vr_ ?_<;>try simp (disch:=first|omega|(simp only[List.length_set,List.length_append,List.length_cons,List.length_nil];try omega)) only[hgk,hlkI,h3I,decide_true,decide_false,qc,go_sem,↓reduceIte])|((first|simp (disch:=omega) only[hgk]|(refine cs_ ?_ ?_<;>intro hc)|refine cj_ ?_|simp (disch:=omega) only[qa,qc])<;>try refine ev_ ?_)|with_reducible exact ti_)
        all_goals first | exact⟨rfl,_,rfl⟩ | (exfalso;omega)
      ·have h3I:¬(30:Int)<(ts.length:Int):=by omega
       rcases bcc with _ | ⟨z,zs⟩
       ·simp only[qr,qi,qk,List.append_nil,List.cons_append,List.nil_append]
        rcases ts with _ | ⟨u,us⟩
        ·have hts:(qh ([]:List Ty)).length=0:=rfl
         repeat'(first|refine vs_ ?_|(refine vr_ ?_<;>try simp (disch:=first|omega|(simp only[List.length_set,List.length_append,List.length_cons,List.length_nil];try omega)) only[hgk,hlkI,h3I,decide_true,decide_false,qc,qr,List.length_nil,if_true,go_sem,↓reduceIte])|((first|simp (disch:=omega) only[hgk]|(refine cs_ ?_ ?_<;>intro hc)|refine cj_ ?_|simp (disch:=omega) only[qa,qc])<;>try refine ev_ ?_)|with_reducible exact ti_)
         all_goals first | exact⟨rfl,_,rfl⟩ | (exfalso;omega) | skip
         refine qj (k+1,[]) [0,1] ⟨⟨by omega,Nat.zero_le _⟩,by simp only;omega⟩ rfl (by simp) ?_ ?_ ?_<;>simp only[f33b,qr,qi,qk,List.append_nil,List.cons_append,List.nil_append]<;>(try refine ev_ ?_)<;>(try with_reducible exact ti_)<;>(try simp (disch:=omega) only[qc,and_true,true_and])
         all_goals first | rfl | exact⟨rfl,rfl⟩ | (rw[qz (by omega) (by omega),Int.natCast_add];rfl)
        ·have htn:=qv (List.cons_ne_nil u us)
         have htl:¬(u::us).length=0:=by simp
         generalize hts:u::us=ts at *
         have c1:qbe ts.length 48=True:=qgm (by omega)
         repeat'(first|refine vs_ ?_|(refine vr_ ?_<;>try simp (disch:=first|omega|(simp only[List.length_set,List.length_append,List.length_cons,List.length_nil];try omega)) only[hgk,hlkI,h3I,decide_true,decide_false,qc,htl,if_false,c1,if_neg htl,go_sem,↓reduceIte])|((first|simp (disch:=omega) only[hgk]|(refine cs_ ?_ ?_<;>intro hc)|refine cj_ ?_|simp (disch:=omega) only[qa,qc])<;>try refine ev_ ?_)|with_reducible exact ti_)
         all_goals first | exact⟨rfl,_,rfl⟩ | (exfalso;omega) | skip
         refine qj (k+1,ts) [0,1,2] ⟨⟨by omega,by simp only at hb ⊢;omega⟩,by simp only;omega⟩ rfl (by simp) ?_ ?_ ?_<;>simp only[f33b,qm htn,qn htn,qg,List.cons_append,List.nil_append]<;>(try refine ev_ ?_)<;>(try with_reducible exact ti_)<;>(try simp (disch:=omega) only[qc,and_true,true_and])
         all_goals first | rfl | exact⟨rfl,rfl⟩ | (rw[qz (by omega) (by omega),Int.natCast_add];rfl)
       ·have hbccn:=qv (List.cons_ne_nil z zs)
        rw[qm hbccn,qn hbccn]
        simp only[qg,List.cons_append,List.nil_append]
        generalize hbcc:z::zs=bcc at *
        have c1:qbe (bcc.length+ts.length) 48=True:=qgm (by omega)
        have hbn:bcc++ts≠[]:=by rw[←hbcc];simp
        have hbn2:=qv hbn
        repeat'(first|refine vs_ ?_|(refine vr_ ?_<;>try simp (disch:=first|omega|(simp only[List.length_set,List.length_append,List.length_cons,List.length_nil];try omega)) only[hgk,hlkI,h3I,decide_true,decide_false,qc,c1,go_sem,↓reduceIte])|((first|simp (disch:=omega) only[hgk]|(refine cs_ ?_ ?_<;>intro hc)|refine cj_ ?_|simp (disch:=omega) only[qa,qc])<;>try refine ev_ ?_)|with_reducible exact ti_)
        all_goals first | exact⟨rfl,_,rfl⟩ | (exfalso;omega) | skip
        refine qj (k+1,bcc++ts) [0,1,3] ⟨⟨by omega,by simp only[List.length_append] at hb ⊢;omega⟩,by simp only;omega⟩ rfl (by simp) ?_ ?_ ?_<;>simp only[f33b,qm hbn2,qn hbn2,qg,List.cons_append,List.nil_append,qf9,List.length_append]<;>(try refine ev_ ?_)<;>(try with_reducible exact ti_)<;>(try simp (disch:=omega) only[qc,and_true,true_and])
        all_goals first | rfl | exact⟨rfl,rfl⟩ | (rw[qz (by omega) (by omega),Int.natCast_add];rfl)
     ·have hlkI:¬(k:Int)<(d.cons.length:Int):=by omega
      rcases bcc with _ | ⟨z,zs⟩
      ·simp only[qr,qi,qk,List.append_nil,List.cons_append,List.nil_append]
       repeat'(first|refine vs_ ?_|(refine vr_ ?_<;>try simp (disch:=first|omega|(simp only[List.length_set,List.length_append,List.length_cons,List.length_nil];try omega)) only[hlkI,decide_true,decide_false,qc,go_sem,↓reduceIte])|((first|(refine cs_ ?_ ?_<;>intro hc)|refine cj_ ?_|simp (disch:=omega) only[qa,qc])<;>try refine ev_ ?_)|with_reducible exact ti_)
       all_goals first | exact⟨rfl,_,rfl⟩ | (exfalso;omega) | skip
       refine qj (i+1,[]) [0] ⟨⟨by omega,Nat.zero_le _⟩,by simp only;omega⟩ rfl (by simp) ?_ ?_ ?_<;>simp only[f33a,qr,qi,qk,List.append_nil,List.cons_append,List.nil_append]<;>(try refine ev_ ?_)<;>(try with_reducible exact ti_)<;>(try simp (disch:=omega) only[qc,and_true,true_and])
       all_goals first | rfl | exact⟨rfl,rfl⟩ | (rw[qz (by omega) (by omega),Int.natCast_add];rfl)
      ·have hbccn:=qv (List.cons_ne_nil z zs)
       rw[qm hbccn,qn hbccn]
       simp only[qg,List.cons_append,List.nil_append]
       generalize hbcc:z::zs=bcc at *
       repeat'(first|refine vs_ ?_|(refine vr_ ?_<;>try simp (disch:=first|omega|(simp only[List.length_set,List.length_append,List.length_cons,List.length_nil];try omega)) only[hlkI,decide_true,decide_false,qc,go_sem,↓reduceIte])|((first|(refine cs_ ?_ ?_<;>intro hc)|refine cj_ ?_|simp (disch:=omega) only[qa,qc])<;>try refine ev_ ?_)|with_reducible exact ti_)
       all_goals first | exact⟨rfl,_,rfl⟩ | (exfalso;omega) | skip
       refine qj (i+1,bcc) [0,2] ⟨⟨by omega,by simp only at hb ⊢;omega⟩,by simp only;omega⟩ rfl (by simp) ?_ ?_ ?_<;>simp only[f33a,qm hbccn,qn hbccn,qg,List.cons_append,List.nil_append]<;>(try refine ev_ ?_)<;>(try with_reducible exact ti_)<;>(try simp (disch:=omega) only[qc,and_true,true_and])
       all_goals first | rfl | exact⟨rfl,rfl⟩ | (rw[qz (by omega) (by omega),Int.natCast_add];rfl)
  ·have hltI:¬(i:Int)<(e.ds.length:Int):=by omega
   rcases acc with _ | ⟨y,ys⟩
   ·simp only[qr,qi,qk,List.append_nil,List.cons_append,List.nil_append]
    repeat'(first|refine vs_ ?_|(refine vr_ ?_<;>try simp only[hltI,decide_true,decide_false,go_sem,↓reduceIte])|((first|(refine cs_ ?_ ?_<;>intro hc)|refine cj_ ?_|simp (disch:=omega) only[qa,qc])<;>try refine ev_ ?_)|with_reducible exact ti_)
    all_goals first | exact⟨rfl,_,rfl⟩ | (exfalso;omega) | skip
    refine qo (S:=Nat×List Ty) (fun x=>x.1≤e.cs.length∧x.2.length≤18000+30*x.1) (f33c e) (fun x=>e.cs.length-x.1) ?_ ?_
    ·refine qj (0,[]) [0] ⟨Nat.zero_le _,Nat.zero_le _⟩ rfl (by simp) ?_ ?_ ?_<;>simp only[f33c,qr,qi,qk,List.append_nil,List.cons_append,List.nil_append]<;>(try refine ev_ ?_)<;>(try with_reducible exact ti_)<;>(try simp (disch:=omega) only[qc,and_true,true_and])
    ·rintro⟨i,acc⟩ ⟨hi,ha⟩
     simp only at hi ha
     unfold f33c
     simp only
     by_cases hlt:i<e.cs.length
     ·have hg:=qvs hlt
      have hltI:(i:Int)<((e.cs.map toC).length:Int):=by rw[List.length_map];omega
      have hmm:=hm _ (qve hlt)
      generalize e.cs.getD i CT0=c at *
      obtain⟨nm,su,ms⟩:=c
      have hmm:ms.length≤1048576:=hmm
      have hg:(qfa (e.cs.map toC)).getD i .junk=.agg [.str nm,.sl 1 (su.map AV.str),.sl 5 (qc4 ms)]:=hg
      rcases acc with _ | ⟨y,ys⟩
      ·simp only[qr,qi,qk,List.append_nil,List.cons_append,List.nil_append]
       repeat'(first|refine vs_ ?_|(refine vr_ ?_<;>try simp only[hg,hltI,decide_true,decide_false,go_sem,↓reduceIte])|((first|simp (disch:=omega) only[hg]|(refine cs_ ?_ ?_<;>intro hc)|refine cj_ ?_|simp (disch:=omega) only[qa,qc])<;>try refine ev_ ?_)|with_reducible exact ti_)
       all_goals first | exact⟨rfl,_,rfl⟩ | (exfalso;omega) | skip
       refine qo (S:=Nat×List Ty) (fun x=>x.1≤ms.length∧x.2.length≤18000+30*i+x.1) (f33d e i ms) (fun x=>ms.length-x.1) ?_ ?_
       ·refine qj (0,[]) [0] ⟨Nat.zero_le _,Nat.zero_le _⟩ rfl (by simp) ?_ ?_ ?_<;>simp only[f33d,qr,qi,qk,List.append_nil,List.cons_append,List.nil_append]<;>(try refine ev_ ?_)<;>(try with_reducible exact ti_)<;>(try simp (disch:=omega) only[qc,and_true,true_and])
       ·rintro⟨k,bcc⟩ ⟨hk,hb⟩
        simp only at hk hb
        unfold f33d
        simp only
        by_cases hlk:k<ms.length
        ·have hgk0:=qh6 hlk
         have hlkI:(k:Int)<(ms.length:Int):=by omega
         generalize ms.getD k Me0=m at *
         have hgk:(qc4 ms).getD k .junk=.agg [.str m.name,.int .i64 m.n,.str m.ty.con,.int .i64 m.ty.var,.sl 3 (qh m.ty.args)]:=hgk0
         by_cases h1:100<m.n
         ·rcases bcc with _ | ⟨z,zs⟩
          ·simp only[qr,qi,qk,List.append_nil,List.cons_append,List.nil_append]
           repeat'(first|refine vs_ ?_|(refine vr_ ?_<;>try simp (disch:=first|omega|(simp only[List.length_set,List.length_append,List.length_cons,List.length_nil];try omega)) only[hgk,hlkI,h1,decide_true,decide_false,qc,go_sem,↓reduceIte])|((first|simp (disch:=omega) only[hgk]|(refine cs_ ?_ ?_<;>intro hc)|refine cj_ ?_|simp (disch:=omega) only[qa,qc])<;>try refine ev_ ?_)|with_reducible exact ti_)
           all_goals first | exact⟨rfl,_,rfl⟩ | (exfalso;omega)
          ·have hbccn:=qv (List.cons_ne_nil z zs)
           rw[qm hbccn,qn hbccn]
           simp only[qg,List.cons_append,List.nil_append]
           generalize hbcc:z::zs=bcc at *
           repeat'(first|refine vs_ ?_|(refine vr_ ?_<;>try simp (disch:=first|omega|(simp only[List.length_set,List.length_append,List.length_cons,List.length_nil];try omega)) only[hgk,hlkI,h1,decide_true,decide_false,qc,go_sem,↓reduceIte])|((first|simp (disch:=omega) only[hgk]|(refine cs_ ?_ ?_<;>intro hc)|refine cj_ ?_|simp (disch:=omega) only[qa,qc])<;>try refine ev_ ?_)|with_reducible exact ti_)
           all_goals first | exact⟨rfl,_,rfl⟩ | (exfalso;omega)
         ·rcases bcc with _ | ⟨z,zs⟩
          ·simp only[qr,qi,qk,List.append_nil,List.cons_append,List.nil_append]
           have c1:qbe 1 48=True:=qgm (by omega)
           have hyn:qh [m.ty]≠[]:=qv (by simp)
           have hy1:qh [m.ty]=[encY m.ty]:=by rw[qh,qh]
           repeat'(first|refine vs_ ?_|(refine vr_ ?_<;>try simp (disch:=first|omega|(simp only[List.length_set,List.length_append,List.length_cons,List.length_nil];try omega)) only[hgk,hlkI,h1,decide_true,decide_false,qc,c1,List.length_singleton,go_sem,↓reduceIte])|((first|simp (disch:=omega) only[hgk]|(refine cs_ ?_ ?_<;>intro hc)|refine cj_ ?_|simp (disch:=omega) only[qa,qc])<;>try refine ev_ ?_)|with_reducible exact ti_)
           all_goals first | exact⟨rfl,_,rfl⟩ | (exfalso;omega) | skip
           refine qj (k+1,[m.ty]) [0,1] ⟨⟨by omega,by simp only[List.length_singleton];omega⟩,by simp only;omega⟩ rfl (by simp) ?_ ?_ ?_<;>simp only[f33d,qm hyn,qn hyn,qg,List.cons_append,List.nil_append,hy1]<;>(try refine ev_ ?_)<;>(try with_reducible exact ti_)<;>(try simp (disch:=omega) only[qc,and_true,true_and])
           all_goals first | rfl | exact⟨rfl,rfl⟩ | (rw[qz (by omega) (by omega),Int.natCast_add];rfl)
          ·have hbccn:=qv (List.cons_ne_nil z zs)
           rw[qm hbccn,qn hbccn]
           simp only[qg,List.cons_append,List.nil_append]
           generalize hbcc:z::zs=bcc at *
           have c1:qbe (bcc.length+1) 48=True:=qgm (by omega)
           have hyn:qh (bcc++[m.ty])≠[]:=qv (by simp)
           have hy1:qh (bcc++[m.ty])=qh bcc++[encY m.ty]:=by rw[←qf9];simp only[qh]
           repeat'(first|refine vs_ ?_|(refine vr_ ?_<;>try simp (disch:=first|omega|(simp only[List.length_set,List.length_append,List.length_cons,List.length_nil];try omega)) only[hgk,hlkI,h1,decide_true,decide_false,qc,c1,List.length_singleton,go_sem,↓reduceIte])|((first|simp (disch:=omega) only[hgk]|(refine cs_ ?_ ?_<;>intro hc)|refine cj_ ?_|simp (disch:=omega) only[qa,qc])<;>try refine ev_ ?_)|with_reducible exact ti_)
           all_goals first | exact⟨rfl,_,rfl⟩ | (exfalso;omega) | skip
           refine qj (k+1,bcc++[m.ty]) [0,2] ⟨⟨by omega,by simp only[List.length_append,List.length_singleton] at hb ⊢;omega⟩,by simp only;omega⟩ rfl (by simp) ?_ ?_ ?_<;>simp only[f33d,qm hyn,qn hyn,qg,List.cons_append,List.nil_append,List.length_append,List.length_singleton,hy1]<;>(try refine ev_ ?_)<;>(try with_reducible exact ti_)<;>(try simp (disch:=omega) only[qc,and_true,true_and])
           all_goals first | rfl | exact⟨rfl,rfl⟩ | (rw[qz (by omega) (by omega),Int.natCast_add];rfl) | (rw[←hy1];exact⟨qbd _ _,by rw[qda]⟩)
        ·have hlkI:¬(k:Int)<(ms.length:Int):=by omega
         by_cases h30':30<ms.length
         ·have h30:(30:Int)<(ms.length:Int):=by omega
          rcases bcc with _ | ⟨z,zs⟩
          ·simp only[qr,qi,qk,List.append_nil,List.cons_append,List.nil_append]
           repeat'(first|refine vs_ ?_|(refine vr_ ?_<;>try simp (disch:=first|omega|(simp only[List.length_set,List.length_append,List.length_cons,List.length_nil];try omega)) only[hlkI,h30,decide_true,decide_false,qc,go_sem,↓reduceIte])|((first|(refine cs_ ?_ ?_<;>intro hc)|refine cj_ ?_|simp (disch:=omega) only[qa,qc])<;>try refine ev_ ?_)|with_reducible exact ti_)
           all_goals first | exact⟨rfl,_,rfl⟩ | (exfalso;omega)
          ·have hbccn:=qv (List.cons_ne_nil z zs)
           rw[qm hbccn,qn hbccn]
           simp only[qg,List.cons_append,List.nil_append]
           generalize hbcc:z::zs=bcc at *
           repeat'(first|refine vs_ ?_|(refine vr_ ?_<;>try simp (disch:=first|omega|(simp only[List.length_set,List.length_append,List.length_cons,List.length_nil];try omega)) only[hlkI,h30,decide_true,decide_false,qc,go_sem,↓reduceIte])|((first|(refine cs_ ?_ ?_<;>intro hc)|refine cj_ ?_|simp (disch:=omega) only[qa,qc])<;>try refine ev_ ?_)|with_reducible exact ti_)
           all_goals first | exact⟨rfl,_,rfl⟩ | (exfalso;omega)
         ·have h30:¬(30:Int)<(ms.length:Int):=by omega
          rcases bcc with _ | ⟨z,zs⟩
          ·simp only[qr,qi,qk,List.append_nil,List.cons_append,List.nil_append]
           repeat'(first|refine vs_ ?_|(refine vr_ ?_<;>try simp (disch:=first|omega|(simp only[List.length_set,List.length_append,List.length_cons,List.length_nil];try omega)) only[hlkI,h30,decide_true,decide_false,qc,go_sem,↓reduceIte])|((first|(refine cs_ ?_ ?_<;>intro hc)|refine cj_ ?_|simp (disch:=omega) only[qa,qc])<;>try refine ev_ ?_)|with_reducible exact ti_)
           all_goals first | exact⟨rfl,_,rfl⟩ | (exfalso;omega) | skip
           refine qj (i+1,[]) [0] ⟨⟨by omega,Nat.zero_le _⟩,by simp only;omega⟩ rfl (by simp) ?_ ?_ ?_<;>simp only[f33c,qr,qi,qk,List.append_nil,List.cons_append,List.nil_append]<;>(try refine ev_ ?_)<;>(try with_reducible exact ti_)<;>(try simp (disch:=omega) only[qc,and_true,true_and])
           all_goals first | rfl | exact⟨rfl,rfl⟩ | (rw[qz (by omega) (by omega),Int.natCast_add];rfl)
          ·have hbccn:=qv (List.cons_ne_nil z zs)
           rw[qm hbccn,qn hbccn]
           simp only[qg,List.cons_append,List.nil_append]
           generalize hbcc:z::zs=bcc at *
           repeat'(first|refine vs_ ?_|(refine vr_ ?_<;>try simp (disch:=first|omega|(simp only[List.length_set,List.length_append,List.length_cons,List.length_nil];try omega)) only[hlkI,h30,decide_true,decide_false,qc,go_sem,↓reduceIte])|((first|(refine cs_ ?_ ?_<;>intro hc)|refine cj_ ?_|simp (disch:=omega) only[qa,qc])<;>try refine ev_ ?_)|with_reducible exact ti_)
           all_goals first | exact⟨rfl,_,rfl⟩ | (exfalso;omega) | skip
           refine qj (i+1,bcc) [0,1] ⟨⟨by omega,by simp only at hb ⊢;omega⟩,by simp only;omega⟩ rfl (by simp) ?_ ?_ ?_<;>simp only[f33c,qm hbccn,qn hbccn,qg,List.cons_append,List.nil_append]<;>(try refine ev_ ?_)<;>(try with_reducible exact ti_)<;>(try simp (disch:=omega) only[qc,and_true,true_and])
           all_goals first | rfl | exact⟨rfl,rfl⟩ | (rw[qz (by omega) (by omega),Int.natCast_add];rfl)
      ·have haccn:=qv (List.cons_ne_nil y ys)
       rw[qm haccn,qn haccn]
       simp only[qg,List.cons_append,List.nil_append]
       generalize hacc:y::ys=acc at *
       repeat'(first|refine vs_ ?_|(refine vr_ ?_<;>try simp only[hg,hltI,decide_true,decide_false,go_sem,↓reduceIte])|((first|simp (disch:=omega) only[hg]|(refine cs_ ?_ ?_<;>intro hc)|refine cj_ ?_|simp (disch:=omega) only[qa,qc])<;>try refine ev_ ?_)|with_reducible exact ti_)
       all_goals first | exact⟨rfl,_,rfl⟩ | (exfalso;omega) | skip
       refine qo (S:=Nat×List Ty) (fun x=>x.1≤ms.length∧x.2.length≤18000+30*i+x.1) (f33d e i ms) (fun x=>ms.length-x.1) ?_ ?_
       ·refine qj (0,acc) [0,1] ⟨Nat.zero_le _,by simp only;omega⟩ rfl (by simp) ?_ ?_ ?_<;>simp only[f33d,qm haccn,qn haccn,qg,List.cons_append,List.nil_append]<;>(try refine ev_ ?_)<;>(try with_reducible exact ti_)<;>(try simp (disch:=omega) only[qc,and_true,true_and])
       ·rintro⟨k,bcc⟩ ⟨hk,hb⟩
        simp only at hk hb
        unfold f33d
        simp only
        by_cases hlk:k<ms.length
        ·have hgk0:=qh6 hlk
         have hlkI:(k:Int)<(ms.length:Int):=by omega
         generalize ms.getD k Me0=m at *
         have hgk:(qc4 ms).getD k .junk=.agg [.str m.name,.int .i64 m.n,.str m.ty.con,.int .i64 m.ty.var,.sl 3 (qh m.ty.args)]:=hgk0
         by_cases h1:100<m.n
         ·rcases bcc with _ | ⟨z,zs⟩
          ·simp only[qr,qi,qk,List.append_nil,List.cons_append,List.nil_append]
           repeat'(first|refine vs_ ?_|(refine vr_ ?_<;>try simp (disch:=first|omega|(simp only[List.length_set,List.length_append,List.length_cons,List.length_nil];try omega)) only[hgk,hlkI,h1,decide_true,decide_false,qc,go_sem,↓reduceIte])|((first|simp (disch:=omega) only[hgk]|(refine cs_ ?_ ?_<;>intro hc)|refine cj_ ?_|simp (disch:=omega) only[qa,qc])<;>try refine ev_ ?_)|with_reducible exact ti_)
           all_goals first | exact⟨rfl,_,rfl⟩ | (exfalso;omega)
          ·have hbccn:=qv (List.cons_ne_nil z zs)
           rw[qm hbccn,qn hbccn]
           simp only[qg,List.cons_append,List.nil_append]
           generalize hbcc:z::zs=bcc at *
           repeat'(first|refine vs_ ?_|(refine vr_ ?_<;>try simp (disch:=first|omega|(simp only[List.length_set,List.length_append,List.length_cons,List.length_nil];try omega)) only[hgk,hlkI,h1,decide_true,decide_false,qc,go_sem,↓reduceIte])|((first|simp (disch:=omega) only[hgk]|(refine cs_ ?_ ?_<;>intro hc)|refine cj_ ?_|simp (disch:=omega) only[qa,qc])<;>try refine ev_ ?_)|with_reducible exact ti_)
           all_goals first | exact⟨rfl,_,rfl⟩ | (exfalso;omega)
         ·rcases bcc with _ | ⟨z,zs⟩
          ·simp only[qr,qi,qk,List.append_nil,List.cons_append,List.nil_append]
           have c1:qbe 1 48=True:=qgm (by omega)
           have hyn:qh [m.ty]≠[]:=qv (by simp)
           have hy1:qh [m.ty]=[encY m.ty]:=by rw[qh,qh]
           repeat'(first|refine vs_ ?_|(refine vr_ ?_<;>try simp (disch:=first|omega|(simp only[List.length_set,List.length_append,List.length_cons,List.length_nil];try omega)) only[hgk,hlkI,h1,decide_true,decide_false,qc,c1,List.length_singleton,go_sem,↓reduceIte])|((first|simp (disch:=omega) only[hgk]|(refine cs_ ?_ ?_<;>intro hc)|refine cj_ ?_|simp (disch:=omega) only[qa,qc])<;>try refine ev_ ?_)|with_reducible exact ti_)
           all_goals first | exact⟨rfl,_,rfl⟩ | (exfalso;omega) | skip
           refine qj (k+1,[m.ty]) [0,1] ⟨⟨by omega,by simp only[List.length_singleton];omega⟩,by simp only;omega⟩ rfl (by simp) ?_ ?_ ?_<;>simp only[f33d,qm hyn,qn hyn,qg,List.cons_append,List.nil_append,hy1]<;>(try refine ev_ ?_)<;>(try with_reducible exact ti_)<;>(try simp (disch:=omega) only[qc,and_true,true_and])
           all_goals first | rfl | exact⟨rfl,rfl⟩ | (rw[qz (by omega) (by omega),Int.natCast_add];rfl)
          ·have hbccn:=qv (List.cons_ne_nil z zs)
           rw[qm hbccn,qn hbccn]
           simp only[qg,List.cons_append,List.nil_append]
           generalize hbcc:z::zs=bcc at *
           have c1:qbe (bcc.length+1) 48=True:=qgm (by omega)
           have hyn:qh (bcc++[m.ty])≠[]:=qv (by simp)
           have hy1:qh (bcc++[m.ty])=qh bcc++[encY m.ty]:=by rw[←qf9];simp only[qh]
           repeat'(first|refine vs_ ?_|(refine vr_ ?_<;>try simp (disch:=first|omega|(simp only[List.length_set,List.length_append,List.length_cons,List.length_nil];try omega)) only[hgk,hlkI,h1,decide_true,decide_false,qc,c1,List.length_singleton,go_sem,↓reduceIte])|((first|simp (disch:=omega) only[hgk]|(refine cs_ ?_ ?_<;>intro hc)|refine cj_ ?_|simp (disch:=omega) only[qa,qc])<;>try refine ev_ ?_)|with_reducible exact ti_)
           all_goals first | exact⟨rfl,_,rfl⟩ | (exfalso;omega) | skip
           refine qj (k+1,bcc++[m.ty]) [0,2] ⟨⟨by omega,by simp only[List.length_append,List.length_singleton] at hb ⊢;omega⟩,by simp only;omega⟩ rfl (by simp) ?_ ?_ ?_<;>simp only[f33d,qm hyn,qn hyn,qg,List.cons_append,List.nil_append,List.length_append,List.length_singleton,hy1]<;>(try refine ev_ ?_)<;>(try with_reducible exact ti_)<;>(try simp (disch:=omega) only[qc,and_true,true_and])
           all_goals first | rfl | exact⟨rfl,rfl⟩ | (rw[qz (by omega) (by omega),Int.natCast_add];rfl) | (rw[←hy1];exact⟨qbd _ _,by rw[qda]⟩)
        ·have hlkI:¬(k:Int)<(ms.length:Int):=by omega
         by_cases h30':30<ms.length
         ·have h30:(30:Int)<(ms.length:Int):=by omega
          rcases bcc with _ | ⟨z,zs⟩
          ·simp only[qr,qi,qk,List.append_nil,List.cons_append,List.nil_append]
           repeat'(first|refine vs_ ?_|(refine vr_ ?_<;>try simp (disch:=first|omega|(simp only[List.length_set,List.length_append,List.length_cons,List.length_nil];try omega)) only[hlkI,h30,decide_true,decide_false,qc,go_sem,↓reduceIte])|((first|(refine cs_ ?_ ?_<;>intro hc)|refine cj_ ?_|simp (disch:=omega) only[qa,qc])<;>try refine ev_ ?_)|with_reducible exact ti_)
           all_goals first | exact⟨rfl,_,rfl⟩ | (exfalso;omega)
          ·have hbccn:=qv (List.cons_ne_nil z zs)
           rw[qm hbccn,qn hbccn]
           simp only[qg,List.cons_append,List.nil_append]
           generalize hbcc:z::zs=bcc at *
           repeat'(first|refine vs_ ?_|(refine vr_ ?_<;>try simp (disch:=first|omega|(simp only[List.length_set,List.length_append,List.length_cons,List.length_nil];try omega)) only[hlkI,h30,decide_true,decide_false,qc,go_sem,↓reduceIte])|((first|(refine cs_ ?_ ?_<;>intro hc)|refine cj_ ?_|simp (disch:=omega) only[qa,qc])<;>try refine ev_ ?_)|with_reducible exact ti_)
           all_goals first | exact⟨rfl,_,rfl⟩ | (exfalso;omega)
         ·have h30:¬(30:Int)<(ms.length:Int):=by omega
          rcases bcc with _ | ⟨z,zs⟩
          ·simp only[qr,qi,qk,List.append_nil,List.cons_append,List.nil_append]
           repeat'(first|refine vs_ ?_|(refine vr_ ?_<;>try simp (disch:=first|omega|(simp only[List.length_set,List.length_append,List.length_cons,List.length_nil];try omega)) only[hlkI,h30,decide_true,decide_false,qc,go_sem,↓reduceIte])|((first|(refine cs_ ?_ ?_<;>intro hc)|refine cj_ ?_|simp (disch:=omega) only[qa,qc])<;>try refine ev_ ?_)|with_reducible exact ti_)
           all_goals first | exact⟨rfl,_,rfl⟩ | (exfalso;omega) | skip
           refine qj (i+1,[]) [0] ⟨⟨by omega,Nat.zero_le _⟩,by simp only;omega⟩ rfl (by simp) ?_ ?_ ?_<;>simp only[f33c,qr,qi,qk,List.append_nil,List.cons_append,List.nil_append]<;>(try refine ev_ ?_)<;>(try with_reducible exact ti_)<;>(try simp (disch:=omega) only[qc,and_true,true_and])
           all_goals first | rfl | exact⟨rfl,rfl⟩ | (rw[qz (by omega) (by omega),Int.natCast_add];rfl)
          ·have hbccn:=qv (List.cons_ne_nil z zs)
           rw[qm hbccn,qn hbccn]
           simp only[qg,List.cons_append,List.nil_append]
           generalize hbcc:z::zs=bcc at *
           repeat'(first|refine vs_ ?_|(refine vr_ ?_<;>try simp (disch:=first|omega|(simp only[List.length_set,List.length_append,List.length_cons,List.length_nil];try omega)) only[hlkI,h30,decide_true,decide_false,qc,go_sem,↓reduceIte])|((first|(refine cs_ ?_ ?_<;>intro hc)|refine cj_ ?_|simp (disch:=omega) only[qa,qc])<;>try refine ev_ ?_)|with_reducible exact ti_)
           all_goals first | exact⟨rfl,_,rfl⟩ | (exfalso;omega) | skip
           refine qj (i+1,bcc) [0,1] ⟨⟨by omega,by simp only at hb ⊢;omega⟩,by simp only;omega⟩ rfl (by simp) ?_ ?_ ?_<;>simp only[f33c,qm hbccn,qn hbccn,qg,List.cons_append,List.nil_append]<;>(try refine ev_ ?_)<;>(try with_reducible exact ti_)<;>(try simp (disch:=omega) only[qc,and_true,true_and])
           all_goals first | rfl | exact⟨rfl,rfl⟩ | (rw[qz (by omega) (by omega),Int.natCast_add];rfl)
     ·have hltI:¬(i:Int)<((e.cs.map toC).length:Int):=by rw[List.length_map];omega
      rcases acc with _ | ⟨y,ys⟩
      ·simp only[qr,qi,qk,List.append_nil,List.cons_append,List.nil_append]
       have h16:=qbba []
       rw[qr] at h16
       repeat'(first|refine vs_ ?_|(refine vr_ ?_<;>try simp only[hltI,decide_true,decide_false,go_sem,↓reduceIte])|((first|(refine cs_ ?_ ?_<;>intro hc)|refine cj_ ?_|simp (disch:=omega) only[qa,qc]|refine qb h16 fun _=>?_)<;>try refine ev_ ?_)|with_reducible exact ti_)
       all_goals first | exact⟨rfl,_,rfl⟩ | (exfalso;omega)
      ·have haccn:=qv (List.cons_ne_nil y ys)
       rw[qm haccn,qn haccn]
       simp only[qg,List.cons_append,List.nil_append]
       generalize hacc:y::ys=acc at *
       have h16:=qbba acc
       repeat'(first|refine vs_ ?_|(refine vr_ ?_<;>try simp only[hltI,decide_true,decide_false,go_sem,↓reduceIte])|((first|(refine cs_ ?_ ?_<;>intro hc)|refine cj_ ?_|simp (disch:=omega) only[qa,qc]|refine qb h16 fun _=>?_)<;>try refine ev_ ?_)|with_reducible exact ti_)
       all_goals first | exact⟨rfl,_,rfl⟩ | (exfalso;omega)
   ·have haccn:=qv (List.cons_ne_nil y ys)
    rw[qm haccn,qn haccn]
    simp only[qg,List.cons_append,List.nil_append]
    generalize hacc:y::ys=acc at *
    repeat'(first|refine vs_ ?_|(refine vr_ ?_<;>try simp only[hltI,decide_true,decide_false,go_sem,↓reduceIte])|((first|(refine cs_ ?_ ?_<;>intro hc)|refine cj_ ?_|simp (disch:=omega) only[qa,qc])<;>try refine ev_ ?_)|with_reducible exact ti_)
    all_goals first | exact⟨rfl,_,rfl⟩ | (exfalso;omega) | skip
    refine qo (S:=Nat×List Ty) (fun x=>x.1≤e.cs.length∧x.2.length≤18000+30*x.1) (f33c e) (fun x=>e.cs.length-x.1) ?_ ?_
    ·refine qj (0,acc) [0,1] ⟨Nat.zero_le _,by simp only;omega⟩ rfl (by simp) ?_ ?_ ?_<;>simp only[f33c,qm haccn,qn haccn,qg,List.cons_append,List.nil_append]<;>(try refine ev_ ?_)<;>(try with_reducible exact ti_)<;>(try simp (disch:=omega) only[qc,and_true,true_and])
    ·rintro⟨i,acc⟩ ⟨hi,ha⟩
     simp only at hi ha
     unfold f33c
     simp only
     by_cases hlt:i<e.cs.length
     ·have hg:=qvs hlt
      have hltI:(i:Int)<((e.cs.map toC).length:Int):=by rw[List.length_map];omega
      have hmm:=hm _ (qve hlt)
      generalize e.cs.getD i CT0=c at *
      obtain⟨nm,su,ms⟩:=c
      have hmm:ms.length≤1048576:=hmm
      have hg:(qfa (e.cs.map toC)).getD i .junk=.agg [.str nm,.sl 1 (su.map AV.str),.sl 5 (qc4 ms)]:=hg
      rcases acc with _ | ⟨y,ys⟩
      ·simp only[qr,qi,qk,List.append_nil,List.cons_append,List.nil_append]
       repeat'(first|refine vs_ ?_|(refine vr_ ?_<;>try simp only[hg,hltI,decide_true,decide_false,go_sem,↓reduceIte])|((first|simp (disch:=omega) only[hg]|(refine cs_ ?_ ?_<;>intro hc)|refine cj_ ?_|simp (disch:=omega) only[qa,qc])<;>try refine ev_ ?_)|with_reducible exact ti_)
       all_goals first | exact⟨rfl,_,rfl⟩ | (exfalso;omega) | skip
       refine qo (S:=Nat×List Ty) (fun x=>x.1≤ms.length∧x.2.length≤18000+30*i+x.1) (f33d e i ms) (fun x=>ms.length-x.1) ?_ ?_
       ·refine qj (0,[]) [0] ⟨Nat.zero_le _,Nat.zero_le _⟩ rfl (by simp) ?_ ?_ ?_<;>simp only[f33d,qr,qi,qk,List.append_nil,List.cons_append,List.nil_append]<;>(try refine ev_ ?_)<;>(try with_reducible exact ti_)<;>(try simp (disch:=omega) only[qc,and_true,true_and])
       ·rintro⟨k,bcc⟩ ⟨hk,hb⟩
        simp only at hk hb
        unfold f33d
        simp only
        by_cases hlk:k<ms.length
        ·have hgk0:=qh6 hlk
         have hlkI:(k:Int)<(ms.length:Int):=by omega
         generalize ms.getD k Me0=m at *
         have hgk:(qc4 ms).getD k .junk=.agg [.str m.name,.int .i64 m.n,.str m.ty.con,.int .i64 m.ty.var,.sl 3 (qh m.ty.args)]:=hgk0
         by_cases h1:100<m.n
         ·rcases bcc with _ | ⟨z,zs⟩
          ·simp only[qr,qi,qk,List.append_nil,List.cons_append,List.nil_append]
           repeat'(first|refine vs_ ?_|(refine vr_ ?_<;>try simp (disch:=first|omega|(simp only[List.length_set,List.length_append,List.length_cons,List.length_nil];try omega)) only[hgk,hlkI,h1,decide_true,decide_false,qc,go_sem,↓reduceIte])|((first|simp (disch:=omega) only[hgk]|(refine cs_ ?_ ?_<;>intro hc)|refine cj_ ?_|simp (disch:=omega) only[qa,qc])<;>try refine ev_ ?_)|with_reducible exact ti_)
           all_goals first | exact⟨rfl,_,rfl⟩ | (exfalso;omega)
          ·have hbccn:=qv (List.cons_ne_nil z zs)
           rw[qm hbccn,qn hbccn]
           simp only[qg,List.cons_append,List.nil_append]
           generalize hbcc:z::zs=bcc at *
           repeat'(first|refine vs_ ?_|(refine vr_ ?_<;>try simp (disch:=first|omega|(simp only[List.length_set,List.length_append,List.length_cons,List.length_nil];try omega)) only[hgk,hlkI,h1,decide_true,decide_false,qc,go_sem,↓reduceIte])|((first|simp (disch:=omega) only[hgk]|(refine cs_ ?_ ?_<;>intro hc)|refine cj_ ?_|simp (disch:=omega) only[qa,qc])<;>try refine ev_ ?_)|with_reducible exact ti_)
           all_goals first | exact⟨rfl,_,rfl⟩ | (exfalso;omega)
         ·rcases bcc with _ | ⟨z,zs⟩
          ·simp only[qr,qi,qk,List.append_nil,List.cons_append,List.nil_append]
           have c1:qbe 1 48=True:=qgm (by omega)
           have hyn:qh [m.ty]≠[]:=qv (by simp)
           have hy1:qh [m.ty]=[encY m.ty]:=by rw[qh,qh]
           repeat'(first|refine vs_ ?_|(refine vr_ ?_<;>try simp (disch:=first|omega|(simp only[List.length_set,List.length_append,List.length_cons,List.length_nil];try omega)) only[hgk,hlkI,h1,decide_true,decide_false,qc,c1,List.length_singleton,go_sem,↓reduceIte])|((first|simp (disch:=omega) only[hgk]|(refine cs_ ?_ ?_<;>intro hc)|refine cj_ ?_|simp (disch:=omega) only[qa,qc])<;>try refine ev_ ?_)|with_reducible exact ti_)
           all_goals first | exact⟨rfl,_,rfl⟩ | (exfalso;omega) | skip
           refine qj (k+1,[m.ty]) [0,1] ⟨⟨by omega,by simp only[List.length_singleton];omega⟩,by simp only;omega⟩ rfl (by simp) ?_ ?_ ?_<;>simp only[f33d,qm hyn,qn hyn,qg,List.cons_append,List.nil_append,hy1]<;>(try refine ev_ ?_)<;>(try with_reducible exact ti_)<;>(try simp (disch:=omega) only[qc,and_true,true_and])
           all_goals first | rfl | exact⟨rfl,rfl⟩ | (rw[qz (by omega) (by omega),Int.natCast_add];rfl)
          ·have hbccn:=qv (List.cons_ne_nil z zs)
           rw[qm hbccn,qn hbccn]
           simp only[qg,List.cons_append,List.nil_append]
           generalize hbcc:z::zs=bcc at *
           have c1:qbe (bcc.length+1) 48=True:=qgm (by omega)
           have hyn:qh (bcc++[m.ty])≠[]:=qv (by simp)
           have hy1:qh (bcc++[m.ty])=qh bcc++[encY m.ty]:=by rw[←qf9];simp only[qh]
           repeat'(first|refine vs_ ?_|(refine vr_ ?_<;>try simp (disch:=first|omega|(simp only[List.length_set,List.length_append,List.length_cons,List.length_nil];try omega)) only[hgk,hlkI,h1,decide_true,decide_false,qc,c1,List.length_singleton,go_sem,↓reduceIte])|((first|simp (disch:=omega) only[hgk]|(refine cs_ ?_ ?_<;>intro hc)|refine cj_ ?_|simp (disch:=omega) only[qa,qc])<;>try refine ev_ ?_)|with_reducible exact ti_)
           all_goals first | exact⟨rfl,_,rfl⟩ | (exfalso;omega) | skip
           refine qj (k+1,bcc++[m.ty]) [0,2] ⟨⟨by omega,by simp only[List.length_append,List.length_singleton] at hb ⊢;omega⟩,by simp only;omega⟩ rfl (by simp) ?_ ?_ ?_<;>simp only[f33d,qm hyn,qn hyn,qg,List.cons_append,List.nil_append,List.length_append,List.length_singleton,hy1]<;>(try refine ev_ ?_)<;>(try with_reducible exact ti_)<;>(try simp (disch:=omega) only[qc,and_true,true_and])
           all_goals first | rfl | exact⟨rfl,rfl⟩ | (rw[qz (by omega) (by omega),Int.natCast_add];rfl) | (rw[←hy1];exact⟨qbd _ _,by rw[qda]⟩)
        ·have hlkI:¬(k:Int)<(ms.length:Int):=by omega
         by_cases h30':30<ms.length
         ·have h30:(30:Int)<(ms.length:Int):=by omega
          rcases bcc with _ | ⟨z,zs⟩
          ·simp only[qr,qi,qk,List.append_nil,List.cons_append,List.nil_append]
           repeat'(first|refine vs_ ?_|(refine vr_ ?_<;>try simp (disch:=first|omega|(simp only[List.length_set,List.length_append,List.length_cons,List.length_nil];try omega)) only[hlkI,h30,decide_true,decide_false,qc,go_sem,↓reduceIte])|((first|(refine cs_ ?_ ?_<;>intro hc)|refine cj_ ?_|simp (disch:=omega) only[qa,qc])<;>try refine ev_ ?_)|with_reducible exact ti_)
           all_goals first | exact⟨rfl,_,rfl⟩ | (exfalso;omega)
          ·have hbccn:=qv (List.cons_ne_nil z zs)
           rw[qm hbccn,qn hbccn]
           simp only[qg,List.cons_append,List.nil_append]
           generalize hbcc:z::zs=bcc at *
           repeat'(first|refine vs_ ?_|(refine vr_ ?_<;>try simp (disch:=first|omega|(simp only[List.length_set,List.length_append,List.length_cons,List.length_nil];try omega)) only[hlkI,h30,decide_true,decide_false,qc,go_sem,↓reduceIte])|((first|(refine cs_ ?_ ?_<;>intro hc)|refine cj_ ?_|simp (disch:=omega) only[qa,qc])<;>try refine ev_ ?_)|with_reducible exact ti_)
           all_goals first | exact⟨rfl,_,rfl⟩ | (exfalso;omega)
         ·have h30:¬(30:Int)<(ms.length:Int):=by omega
          rcases bcc with _ | ⟨z,zs⟩
          ·simp only[qr,qi,qk,List.append_nil,List.cons_append,List.nil_append]
           repeat'(first|refine vs_ ?_|(refine vr_ ?_<;>try simp (disch:=first|omega|(simp only[List.length_set,List.length_append,List.length_cons,List.length_nil];try omega)) only[hlkI,h30,decide_true,decide_false,qc,go_sem,↓reduceIte])|((first|(refine cs_ ?_ ?_<;>intro hc)|refine cj_ ?_|simp (disch:=omega) only[qa,qc])<;>try refine ev_ ?_)|with_reducible exact ti_)
           all_goals first | exact⟨rfl,_,rfl⟩ | (exfalso;omega) | skip
           refine qj (i+1,[]) [0] ⟨⟨by omega,Nat.zero_le _⟩,by simp only;omega⟩ rfl (by simp) ?_ ?_ ?_<;>simp only[f33c,qr,qi,qk,List.append_nil,List.cons_append,List.nil_append]<;>(try refine ev_ ?_)<;>(try with_reducible exact ti_)<;>(try simp (disch:=omega) only[qc,and_true,true_and])
           all_goals first | rfl | exact⟨rfl,rfl⟩ | (rw[qz (by omega) (by omega),Int.natCast_add];rfl)
          ·have hbccn:=qv (List.cons_ne_nil z zs)
           rw[qm hbccn,qn hbccn]
           simp only[qg,List.cons_append,List.nil_append]
           generalize hbcc:z::zs=bcc at *
           repeat'(first|refine vs_ ?_|(refine vr_ ?_<;>try simp (disch:=first|omega|(simp only[List.length_set,List.length_append,List.length_cons,List.length_nil];try omega)) only[hlkI,h30,decide_true,decide_false,qc,go_sem,↓reduceIte])|((first|(refine cs_ ?_ ?_<;>intro hc)|refine cj_ ?_|simp (disch:=omega) only[qa,qc])<;>try refine ev_ ?_)|with_reducible exact ti_)
           all_goals first | exact⟨rfl,_,rfl⟩ | (exfalso;omega) | skip
           refine qj (i+1,bcc) [0,1] ⟨⟨by omega,by simp only at hb ⊢;omega⟩,by simp only;omega⟩ rfl (by simp) ?_ ?_ ?_<;>simp only[f33c,qm hbccn,qn hbccn,qg,List.cons_append,List.nil_append]<;>(try refine ev_ ?_)<;>(try with_reducible exact ti_)<;>(try simp (disch:=omega) only[qc,and_true,true_and])
           all_goals first | rfl | exact⟨rfl,rfl⟩ | (rw[qz (by omega) (by omega),Int.natCast_add];rfl)
      ·have haccn:=qv (List.cons_ne_nil y ys)
       rw[qm haccn,qn haccn]
       simp only[qg,List.cons_append,List.nil_append]
       generalize hacc:y::ys=acc at *
       repeat'(first|refine vs_ ?_|(refine vr_ ?_<;>try simp only[hg,hltI,decide_true,decide_false,go_sem,↓reduceIte])|((first|simp (disch:=omega) only[hg]|(refine cs_ ?_ ?_<;>intro hc)|refine cj_ ?_|simp (disch:=omega) only[qa,qc])<;>try refine ev_ ?_)|with_reducible exact ti_)
       all_goals first | exact⟨rfl,_,rfl⟩ | (exfalso;omega) | skip
       refine qo (S:=Nat×List Ty) (fun x=>x.1≤ms.length∧x.2.length≤18000+30*i+x.1) (f33d e i ms) (fun x=>ms.length-x.1) ?_ ?_
       ·refine qj (0,acc) [0,1] ⟨Nat.zero_le _,by simp only;omega⟩ rfl (by simp) ?_ ?_ ?_<;>simp only[f33d,qm haccn,qn haccn,qg,List.cons_append,List.nil_append]<;>(try refine ev_ ?_)<;>(try with_reducible exact ti_)<;>(try simp (disch:=omega) only[qc,and_true,true_and])
       ·rintro⟨k,bcc⟩ ⟨hk,hb⟩
        simp only at hk hb
        unfold f33d
        simp only
        by_cases hlk:k<ms.length
        ·have hgk0:=qh6 hlk
         have hlkI:(k:Int)<(ms.length:Int):=by omega
         generalize ms.getD k Me0=m at *
         have hgk:(qc4 ms).getD k .junk=.agg [.str m.name,.int .i64 m.n,.str m.ty.con,.int .i64 m.ty.var,.sl 3 (qh m.ty.args)]:=hgk0
         by_cases h1:100<m.n
         ·rcases bcc with _ | ⟨z,zs⟩
          ·simp only[qr,qi,qk,List.append_nil,List.cons_append,List.nil_append]
           repeat'(first|refine vs_ ?_|(refine vr_ ?_<;>try simp (disch:=first|omega|(simp only[List.length_set,List.length_append,List.length_cons,List.length_nil];try omega)) only[hgk,hlkI,h1,decide_true,decide_false,qc,go_sem,↓reduceIte])|((first|simp (disch:=omega) only[hgk]|(refine cs_ ?_ ?_<;>intro hc)|refine cj_ ?_|simp (disch:=omega) only[qa,qc])<;>try refine ev_ ?_)|with_reducible exact ti_)
           all_goals first | exact⟨rfl,_,rfl⟩ | (exfalso;omega)
          ·have hbccn:=qv (List.cons_ne_nil z zs)
           rw[qm hbccn,qn hbccn]
           simp only[qg,List.cons_append,List.nil_append]
           generalize hbcc:z::zs=bcc at *
           repeat'(first|refine vs_ ?_|(refine vr_ ?_<;>try simp (disch:=first|omega|(simp only[List.length_set,List.length_append,List.length_cons,List.length_nil];try omega)) only[hgk,hlkI,h1,decide_true,decide_false,qc,go_sem,↓reduceIte])|((first|simp (disch:=omega) only[hgk]|(refine cs_ ?_ ?_<;>intro hc)|refine cj_ ?_|simp (disch:=omega) only[qa,qc])<;>try refine ev_ ?_)|with_reducible exact ti_)
           all_goals first | exact⟨rfl,_,rfl⟩ | (exfalso;omega)
         ·rcases bcc with _ | ⟨z,zs⟩
          ·simp only[qr,qi,qk,List.append_nil,List.cons_append,List.nil_append]
           have c1:qbe 1 48=True:=qgm (by omega)
           have hyn:qh [m.ty]≠[]:=qv (by simp)
           have hy1:qh [m.ty]=[encY m.ty]:=by rw[qh,qh]
           repeat'(first|refine vs_ ?_|(refine vr_ ?_<;>try simp (disch:=first|omega|(simp only[List.length_set,List.length_append,List.length_cons,List.length_nil];try omega)) only[hgk,hlkI,h1,decide_true,decide_false,qc,c1,List.length_singleton,go_sem,↓reduceIte])|((first|simp (disch:=omega) only[hgk]|(refine cs_ ?_ ?_<;>intro hc)|refine cj_ ?_|simp (disch:=omega) only[qa,qc])<;>try refine ev_ ?_)|with_reducible exact ti_)
           all_goals first | exact⟨rfl,_,rfl⟩ | (exfalso;omega) | skip
           refine qj (k+1,[m.ty]) [0,1] ⟨⟨by omega,by simp only[List.length_singleton];omega⟩,by simp only;omega⟩ rfl (by simp) ?_ ?_ ?_<;>simp only[f33d,qm hyn,qn hyn,qg,List.cons_append,List.nil_append,hy1]<;>(try refine ev_ ?_)<;>(try with_reducible exact ti_)<;>(try simp (disch:=omega) only[qc,and_true,true_and])
           all_goals first | rfl | exact⟨rfl,rfl⟩ | (rw[qz (by omega) (by omega),Int.natCast_add];rfl)
          ·have hbccn:=qv (List.cons_ne_nil z zs)
           rw[qm hbccn,qn hbccn]
           simp only[qg,List.cons_append,List.nil_append]
           generalize hbcc:z::zs=bcc at *
           have c1:qbe (bcc.length+1) 48=True:=qgm (by omega)
           have hyn:qh (bcc++[m.ty])≠[]:=qv (by simp)
           have hy1:qh (bcc++[m.ty])=qh bcc++[encY m.ty]:=by rw[←qf9];simp only[qh]
           repeat'(first|refine vs_ ?_|(refine vr_ ?_<;>try simp (disch:=first|omega|(simp only[List.length_set,List.length_append,List.length_cons,List.length_nil];try omega)) only[hgk,hlkI,h1,decide_true,decide_false,qc,c1,List.length_singleton,go_sem,↓reduceIte])|((first|simp (disch:=omega) only[hgk]|(refine cs_ ?_ ?_<;>intro hc)|refine cj_ ?_|simp (disch:=omega) only[qa,qc])<;>try refine ev_ ?_)|with_reducible exact ti_)
           all_goals first | exact⟨rfl,_,rfl⟩ | (exfalso;omega) | skip
           refine qj (k+1,bcc++[m.ty]) [0,2] ⟨⟨by omega,by simp only[List.length_append,List.length_singleton] at hb ⊢;omega⟩,by simp only;omega⟩ rfl (by simp) ?_ ?_ ?_<;>simp only[f33d,qm hyn,qn hyn,qg,List.cons_append,List.nil_append,List.length_append,List.length_singleton,hy1]<;>(try refine ev_ ?_)<;>(try with_reducible exact ti_)<;>(try simp (disch:=omega) only[qc,and_true,true_and])
           all_goals first | rfl | exact⟨rfl,rfl⟩ | (rw[qz (by omega) (by omega),Int.natCast_add];rfl) | (rw[←hy1];exact⟨qbd _ _,by rw[qda]⟩)
        ·have hlkI:¬(k:Int)<(ms.length:Int):=by omega
         by_cases h30':30<ms.length
         ·have h30:(30:Int)<(ms.length:Int):=by omega
          rcases bcc with _ | ⟨z,zs⟩
          ·simp only[qr,qi,qk,List.append_nil,List.cons_append,List.nil_append]
           repeat'(first|refine vs_ ?_|(refine vr_ ?_<;>try simp (disch:=first|omega|(simp only[List.length_set,List.length_append,List.length_cons,List.length_nil];try omega)) only[hlkI,h30,decide_true,decide_false,qc,go_sem,↓reduceIte])|((first|(refine cs_ ?_ ?_<;>intro hc)|refine cj_ ?_|simp (disch:=omega) only[qa,qc])<;>try refine ev_ ?_)|with_reducible exact ti_)
           all_goals first | exact⟨rfl,_,rfl⟩ | (exfalso;omega)
          ·have hbccn:=qv (List.cons_ne_nil z zs)
           rw[qm hbccn,qn hbccn]
           simp only[qg,List.cons_append,List.nil_append]
           generalize hbcc:z::zs=bcc at *
           repeat'(first|refine vs_ ?_|(refine vr_ ?_<;>try simp (disch:=first|omega|(simp only[List.length_set,List.length_append,List.length_cons,List.length_nil];try omega)) only[hlkI,h30,decide_true,decide_false,qc,go_sem,↓reduceIte])|((first|(refine cs_ ?_ ?_<;>intro hc)|refine cj_ ?_|simp (disch:=omega) only[qa,qc])<;>try refine ev_ ?_)|with_reducible exact ti_)
           all_goals first | exact⟨rfl,_,rfl⟩ | (exfalso;omega)
         ·have h30:¬(30:Int)<(ms.length:Int):=by omega
          rcases bcc with _ | ⟨z,zs⟩
          ·simp only[qr,qi,qk,List.append_nil,List.cons_append,List.nil_append]
           repeat'(first|refine vs_ ?_|(refine vr_ ?_<;>try simp (disch:=first|omega|(simp only[List.length_set,List.length_append,List.length_cons,List.length_nil];try omega)) only[hlkI,h30,decide_true,decide_false,qc,go_sem,↓reduceIte])|((first|(refine cs_ ?_ ?_<;>intro hc)|refine cj_ ?_|simp (disch:=omega) only[qa,qc])<;>try refine ev_ ?_)|with_reducible exact ti_)
           all_goals first | exact⟨rfl,_,rfl⟩ | (exfalso;omega) | skip
           refine qj (i+1,[]) [0] ⟨⟨by omega,Nat.zero_le _⟩,by simp only;omega⟩ rfl (by simp) ?_ ?_ ?_<;>simp only[f33c,qr,qi,qk,List.append_nil,List.cons_append,List.nil_append]<;>(try refine ev_ ?_)<;>(try with_reducible exact ti_)<;>(try simp (disch:=omega) only[qc,and_true,true_and])
           all_goals first | rfl | exact⟨rfl,rfl⟩ | (rw[qz (by omega) (by omega),Int.natCast_add];rfl)
          ·have hbccn:=qv (List.cons_ne_nil z zs)
           rw[qm hbccn,qn hbccn]
           simp only[qg,List.cons_append,List.nil_append]
           generalize hbcc:z::zs=bcc at *
           repeat'(first|refine vs_ ?_|(refine vr_ ?_<;>try simp (disch:=first|omega|(simp only[List.length_set,List.length_append,List.length_cons,List.length_nil];try omega)) only[hlkI,h30,decide_true,decide_false,qc,go_sem,↓reduceIte])|((first|(refine cs_ ?_ ?_<;>intro hc)|refine cj_ ?_|simp (disch:=omega) only[qa,qc])<;>try refine ev_ ?_)|with_reducible exact ti_)
           all_goals first | exact⟨rfl,_,rfl⟩ | (exfalso;omega) | skip
           refine qj (i+1,bcc) [0,1] ⟨⟨by omega,by simp only at hb ⊢;omega⟩,by simp only;omega⟩ rfl (by simp) ?_ ?_ ?_<;>simp only[f33c,qm hbccn,qn hbccn,qg,List.cons_append,List.nil_append]<;>(try refine ev_ ?_)<;>(try with_reducible exact ti_)<;>(try simp (disch:=omega) only[qc,and_true,true_and])
           all_goals first | rfl | exact⟨rfl,rfl⟩ | (rw[qz (by omega) (by omega),Int.natCast_add];rfl)
     ·have hltI:¬(i:Int)<((e.cs.map toC).length:Int):=by rw[List.length_map];omega
      rcases acc with _ | ⟨y,ys⟩
      ·simp only[qr,qi,qk,List.append_nil,List.cons_append,List.nil_append]
       have h16:=qbba []
       rw[qr] at h16
       repeat'(first|refine vs_ ?_|(refine vr_ ?_<;>try simp only[hltI,decide_true,decide_false,go_sem,↓reduceIte])|((first|(refine cs_ ?_ ?_<;>intro hc)|refine cj_ ?_|simp (disch:=omega) only[qa,qc]|refine qb h16 fun _=>?_)<;>try refine ev_ ?_)|with_reducible exact ti_)
       all_goals first | exact⟨rfl,_,rfl⟩ | (exfalso;omega)
      ·have haccn:=qv (List.cons_ne_nil y ys)
       rw[qm haccn,qn haccn]
       simp only[qg,List.cons_append,List.nil_append]
       generalize hacc:y::ys=acc at *
       have h16:=qbba acc
       repeat'(first|refine vs_ ?_|(refine vr_ ?_<;>try simp only[hltI,decide_true,decide_false,go_sem,↓reduceIte])|((first|(refine cs_ ?_ ?_<;>intro hc)|refine cj_ ?_|simp (disch:=omega) only[qa,qc]|refine qb h16 fun _=>?_)<;>try refine ev_ ?_)|with_reducible exact ti_)
       all_goals first | exact⟨rfl,_,rfl⟩ | (exfalso;omega)
end Go.Proofs.YtkenggenkmfopaaGreat
