/- Texts of this proof, joined. -/
import Derived.Test.YtkenggenkmfopaaGreatIaq
import Derived.Test.YtkenggenkmfopaaGreatIbm
import Derived.Test.YtkenggenkmfopaaGreatIbe
import Derived.Test.YtkenggenkmfopaaGreatIan
import Derived.Test.YtkenggenkmfopaaGreatIbq
set_option linter.unusedVariables false
set_option linter.unusedSimpArgs false

/- rows of texts -/
set_option maxRecDepth 4000
namespace Go.Proofs.YtkenggenkmfopaaGreat
open Go Go.RowKit Go.V
theorem bifT{α:Type}(a b:α):(bif true then a else b)=a:=Eq.trans rfl rfl
theorem bifF{α:Type}(a b:α):(bif false then a else b)=b:=Eq.trans rfl rfl
attribute [go_sem] bifT bifF
def qvh(x:List UInt8):List (List UInt8)->Nat->Int
 | [],_=>-1
 | y::r,i=>if x=y then i else qvh x r (i+1)
theorem qsf(ls:List (List UInt8))(x:List UInt8):qp Tryz.prog 194 [.sl 1 (ls.map AV.str),.str x] (.int .i64 (qvh x ls 0)):=by
 refine qe c0fn (by simp) (by simp only[go_sem]) rfl fun hw=>?_
 have h1:ls.length≤maxLen:=by have:=hw.1.1;rwa [qmn] at this
 repeat'(first|refine vs_ ?_|((first|refine vr_ ?_|(refine cs_ ?_ ?_<;>intro hc)|refine cj_ ?_|simp (disch:=omega) only[qa,qc])<;>try refine ev_ ?_)|with_reducible exact ti_)
 refine qo (S:=Nat) (fun i=>i≤ls.length∧qvh x ls 0=qvh x (ls.drop i) i) (fun i=>(⟨[(0,.sl 1 (ls.map AV.str)),(1,.str x),(7,.int .i64 ls.length),(8,.int .i64 i)],[]⟩,[])) (fun i=>ls.length-i) ?_ fun i hi=>?_
 ·refine qj 0 [] ⟨Nat.zero_le _,rfl⟩ rfl (by simp) ?_ ?_ ?_<;>(try refine ev_ ?_)<;>(try with_reducible exact ti_)<;>(try simp (disch:=omega) only[qc,and_true,true_and])
 ·obtain⟨hi,ha⟩:=hi
  repeat'(first|refine vs_ ?_|((first|refine vr_ ?_|simp (disch:=omega) only[qux]|(refine cs_ ?_ ?_<;>intro hc)|refine cj_ ?_|simp (disch:=omega) only[qa,qc])<;>try refine ev_ ?_)|with_reducible exact ti_)
  ·rw[ha,qi7 (i:=i) (by omega),qvh,if_pos hc]
  ·refine qj (i+1) [] ⟨⟨by omega,?_⟩,by omega⟩ rfl (by simp) ?_ ?_ ?_<;>(try refine ev_ ?_)<;>(try with_reducible exact ti_)<;>(try simp (disch:=omega) only[qc,and_true,true_and])
   rw[ha,qi7 (i:=i) (by omega),qvh,if_neg hc]
  ·rw[ha,List.drop_of_length_le (by omega)];rfl
theorem qbbm(x:List UInt8):∀(ls:List (List UInt8)) (i:Nat),decide (0≤qvh x ls i)=ls.contains x
 | [],i=>rfl
 | y :: r, i => by
   rw[qvh,List.contains_cons]
   split
   ·rename_i h;simp[h]
   ·rename_i h;rw[qbbm x r (i+1),beq_eq_false_iff_ne.2 h,Bool.false_or]
theorem qgn(ls:List (List UInt8))(x:List UInt8):qp Tryz.prog 142 [.sl 1 (ls.map AV.str),.str x] (.bool (ls.contains x)):=by
 refine qe c0fo (by simp) (by simp only[go_sem]) rfl fun hw=>?_
 repeat'(first|refine vs_ ?_|((first|refine vr_ ?_|refine qb (qsf ls x) fun _=>?_|(refine cs_ ?_ ?_<;>intro hc)|refine cj_ ?_)<;>try refine ev_ ?_)|with_reducible exact ti_)
 rw[←qbbm x ls 0]
set_option maxRecDepth 4000

mutual
def vsW:N->List N
 | .mk k p m t ks=>if k=11 then [.mk k p m t ks] else vsL ks
def vsL:List N->List N
 | []=>[]
 | x::r=>vsW x++vsL r
end
theorem qbbt(n:N):vsW n=if n.kind=11 then [n] else vsL n.kids:=by cases n;rw[vsW];rfl
theorem q69:∀(a b:List N),vsL (a++b)=vsL a++vsL b
 | [],b=>rfl
 | x::a,b=>by rw[List.cons_append,vsL,vsL,q69 a b,List.append_assoc]
theorem qz5{l:List N}{i:Nat}(h:i<l.length):vsL (l.take (i+1))=vsL (l.take i)++vsW (l.getD i N0):=by rw[qbsn h,q69,vsL,vsL,List.append_nil]
theorem qrr:∀{l:List N},(∀x∈l,(vsW x).length≤sz x)->(vsL l).length≤szs l
 | [],_=>Nat.le_refl _
 | x :: r, h => by
   have h1:=h x (by simp)
   have h2:=qrr (l:=r) fun y hy=>h y (by simp[hy])
   simp only[vsL,szs,List.length_append];omega
theorem qws:∀n,(vsW n).length≤sz n:=N.ind fun n ih=>by
 rw[qbbt,qiz]
 split
 ·simp
 ·have:=qrr ih;omega
theorem qmr:∀(l:List N) (i:Nat),szs (l.take i)≤szs l
 | [],i=>by simp
 | x::r,0=>Nat.zero_le _
 | x::r,i+1=>by have:=qmr r i;simp only[List.take_succ_cons,szs];omega
def qbck(n:N):Prop:=VCalls Tryz.prog 141 [] [.nils,enc n] fun H' o =>
 (vsW n=[]∧H'=[.blk (enc n).cells]∧o=.val .nils)∨(vsW n≠[]∧H'=[.blk (enc n).cells,.app 5 (encs (vsW n))]∧o=.val (.row 1 (vsW n).length))
def q9m(es:List N)(n:N):Prop:=VCalls Tryz.prog 141 [.app 5 (encs es)] [.row 0 es.length,enc n] fun H' o =>
 (vsW n=[]∧H'=[.app 5 (encs es),.blk (enc n).cells]∧o=.val (.row 0 es.length))∨(vsW n≠[]∧H'=[.dead,.blk (enc n).cells,.app 5 (encs (es++vsW n))]∧o=.val (.row 2 (es.length+(vsW n).length)))
theorem qbsa(k:Nat)(n:N):(Ent.blk (enc n).cells).bd k=true:=by cases n;simp[enc,AV.cells,Ent.bd,AV.bds,AV.bd,qkr]
theorem ql6(σ:Nat->Nat)(n:N):(Ent.blk (enc n).cells).ren σ=.blk (enc n).cells:=Ent.ren_same (m:=0) (fun i hi=>by omega) _ (qbsa 0 n)
theorem q8e(k:Nat)(l:List N):(Ent.app 5 (encs l)).bd k=true:=by simp[Ent.bd,qkr]
theorem qmj(σ:Nat->Nat)(l:List N):(Ent.app 5 (encs l)).ren σ=.app 5 (encs l):=Ent.ren_same (m:=0) (fun i hi=>by omega) _ (q8e 0 l)
theorem qum{n:N}(h:qbck n){L:List Ent}{Q:List Ent->VO->Prop}(h0:vsW n=[]->Q (L++[.blk (enc n).cells]) (.val .nils))(h1:vsW n≠[]->Q (L++[.blk (enc n).cells,.app 5 (encs (vsW n))]) (.val (.row (L.length+1) (vsW n).length))):
 VApp Tryz.prog L (.fn 141 [] []) [.nils,enc n] Q :=
 qb1 (first:=[]) (caps:=[]) (by
  simp only[List.nil_append,List.append_nil]
  have ha:AV.bds 0 [.nils,enc n]=true:=by simp[AV.bds,AV.bd,qc8]
  have hs:AV.rens (sg []) [.nils,enc n]=[.nils,enc n]:=qs (m:=0) (fun i hi=>by omega) _ ha
  rw[←hs]
  refine qdv (H0:=[]) [] h (by simp) (by simp) rfl (fun j e2 hj=>by simp at hj) ha ?_
  rintro H1 o (⟨hv,rfl,rfl⟩ | ⟨hv,rfl,rfl⟩)
  ·simp only[List.length_nil,List.take_zero,List.map_nil,qbf,List.drop_zero,List.map_cons,ql6,VO.ren,AV.ren]
   exact h0 hv
  ·simp only[List.length_nil,List.take_zero,List.map_nil,qbf,List.drop_zero,List.map_cons,ql6,qmj,VO.ren,AV.ren,sg',Nat.not_lt_zero,if_false,Nat.sub_zero]
   exact h1 hv)
theorem qnu(p:Nat){es:List N}{n:N}(h:q9m es n){L:List Ent}(hp:L[p]?=some (.app 5 (encs es))){Q:List Ent->VO->Prop}(h0:vsW n=[]->Q (L++[.blk (enc n).cells]) (.val (.row p es.length)))
 (h1:vsW n≠[]->Q (L.set p .dead++[.blk (enc n).cells,.app 5 (encs (es++vsW n))]) (.val (.row (L.length+1) (es.length+(vsW n).length)))) :
 VApp Tryz.prog L (.fn 141 [] []) [.row p es.length,enc n] Q :=
 qb1 (first:=[]) (caps:=[]) (by
  simp only[List.nil_append,List.append_nil]
  have hlt:p<L.length:=(List.getElem?_eq_some_iff.1 hp).1
  have ha:AV.bds 1 [.row 0 es.length,enc n]=true:=by simp[AV.bds,AV.bd,qc8]
  have hs:AV.rens (sg [p]) [.row 0 es.length,enc n]=[.row p es.length,enc n]:=by simp[AV.rens,AV.ren,q8z,sg]
  rw[←hs]
  have hset:L.set p (.app 5 (encs es))=L:=by
   apply List.ext_getElem?
   intro i
   by_cases hi:i=p
   ·subst hi;rw[List.getElem?_set_self hlt,hp]
   ·rw[List.getElem?_set_ne (Ne.symm hi)]
  refine qdv (H0:=[.app 5 (encs es)]) [p] h (by simp) (by simpa using hlt) rfl ?_ ha ?_
  ·intro j e2 hj
   obtain rfl:j=0:=by have:=(List.getElem?_eq_some_iff.1 hj).1;simp at this;omega
   simp only[List.getElem?_cons_zero,Option.some.injEq] at hj
   subst hj
   exact .inr ⟨q8e _ _,by rw[qmj];exact hp⟩
  have hd:Ent.dead.ren (sg' [p] L.length)=.dead:=rfl
  rintro H1 o (⟨hv,rfl,rfl⟩ | ⟨hv,rfl,rfl⟩)
  ·simp only[List.length_cons,List.length_nil,List.take_succ_cons,List.take_zero,List.map_nil,qbf,List.drop_zero,List.drop_succ_cons,List.map_cons,ql6,qmj,VO.ren,AV.ren,sg']
   rw[hset]
   exact h0 hv
  ·simp only[List.length_cons,List.length_nil,List.take_succ_cons,List.take_zero,List.map_nil,qbf,List.drop_zero,List.drop_succ_cons,List.map_cons,ql6,qmj,hd,VO.ren,AV.ren,sg']
   exact h1 hv)
def vaSt(n:N)(i:Nat):AF×List Ent :=
 (⟨[(0, accV 1 (encs (vsL (n.kids.take i)))), (3, .ptr 0 0), (15, .sl 5 (encs n.kids)), (16, .int .i64 n.kids.length), (17, .int .i64 i)], []⟩,
   .blk (enc n).cells::accE 5 (encs (vsL (n.kids.take i))))
theorem qys{n:N}(ih:∀x∈n.kids,sz x≤100000->qbck x∧∀es:List N,es≠[]->es.length+sz x≤300000->q9m es x)(hsz:sz n≤100000):qbck n:=by
 obtain⟨kk,hk1,hk2⟩:∃k:Nat,(vsW n=[]->k=1)∧(vsW n≠[]->k=2):=by
  by_cases h:vsW n=[]
  ·exact⟨1,fun _=>rfl,fun g=>absurd h g⟩
  ·exact⟨2,fun g=>absurd g h,fun _=>rfl⟩
 refine qf4 c0fm kk (by simp) (by simp) ?_
 have hq:=qbbt n
 have hsk:szs n.kids+1≤100000:=by rw[qiz] at hsz;exact hsz
 have hkl:n.kids.length≤maxLen:=by have:=qyi n.kids;unfold maxLen;omega
 by_cases h11:n.kind=11
 ·rw[if_pos h11] at hq
  obtain rfl:=hk2 (by rw[hq];simp)
  rw[hq]
  repeat'(first|refine vs_ ?_|(refine vr_ ?_<;>try simp only[h11,Int.reduceEq,go_sem,↓reduceIte])|((first|(refine cs_ ?_ ?_<;>intro hc)|refine cj_ ?_|simp (disch:=omega) only[qa,qc])<;>try refine ev_ ?_)|with_reducible exact ti_)
  refine⟨by simp,?_⟩
  simp only[encs];rw[←qd2 n,h11]
 ·rw[if_neg h11] at hq
  rw[hq]
  repeat'(first|refine vs_ ?_|(refine vr_ ?_<;>try simp only[h11,go_sem,↓reduceIte])|((first|(refine cs_ ?_ ?_<;>intro hc)|refine cj_ ?_|simp (disch:=omega) only[qa,qc])<;>try refine ev_ ?_)|with_reducible exact ti_)
  refine qo (S:=Nat) (fun i=>i≤n.kids.length) (vaSt n) (fun i=>n.kids.length-i) ?_ fun i hi=>?_
  ·refine qj 0 [0] (Nat.zero_le _) rfl (by simp) ?_ ?_ ?_<;>simp only[vaSt,List.take_zero,vsL,encs,qi,qk]<;>(try refine ev_ ?_)<;>(try with_reducible exact ti_)<;>(try simp (disch:=omega) only[qc,and_true,true_and])
  ·unfold vaSt
   by_cases hlt:i<n.kids.length
   ·have hmem:n.kids.getD i N0∈n.kids:=qj1 hlt
    have hsm:=qwz hmem
    obtain⟨iA,iB⟩:=ih _ hmem (by omega)
    have hst:=qmr n.kids i
    have hln:(vsL (n.kids.take i)).length≤szs (n.kids.take i):=qrr fun x _=>qws x
    have hil:(i:Int)<n.kids.length:=by omega
    have htk:=qz5 hlt
    by_cases h0:vsL (n.kids.take i)=[]
    ·simp only[h0,encs,qi,qk]
     rw[h0,List.nil_append] at htk
     repeat'(first|refine vs_ ?_|((first|refine vrr_ ?_)<;>try simp only[hil,go_sem,↓reduceIte])|((first|simp (disch:=omega) only[qa]|(refine cs_ ?_ ?_<;>intro hc)|refine cj_ ?_|simp (disch:=omega) only[qa,qc]|refine qum iA (fun hv=>?_) (fun hv=>?_))<;>try refine ev_ ?_)|with_reducible exact ti_)
     ·refine qj (i+1) [0] ⟨by omega,by omega⟩ rfl (by simp) ?_ ?_ ?_
      all_goals rw[hv] at htk
      all_goals simp only[htk,encs,qi,qk]
      all_goals(refine ev_ ?_;(try with_reducible exact ti_))
     ·have hne:=qo2 hv
      refine qj (i+1) [0,3] ⟨by omega,by omega⟩ rfl (by simp) ?_ ?_ ?_
      all_goals simp only[htk,qm hne,qn hne,qd7]
      all_goals(refine ev_ ?_;(try with_reducible exact ti_))
    ·have hne:=qo2 h0
     simp only[qm hne,qn hne,qd7]
     repeat'(first|refine vs_ ?_|((first|refine vrr_ ?_)<;>try simp only[hil,go_sem,↓reduceIte])|((first|simp (disch:=omega) only[qa]|(refine cs_ ?_ ?_<;>intro hc)|refine cj_ ?_|simp (disch:=omega) only[qa,qc]|refine qnu 1 (iB _ h0 (by omega)) (by rfl) (fun hv=>?_) (fun hv=>?_))<;>try refine ev_ ?_)|with_reducible exact ti_)
     ·refine qj (i+1) [0,1] ⟨by omega,by omega⟩ rfl (by simp) ?_ ?_ ?_
      all_goals rw[hv,List.append_nil] at htk
      all_goals simp only[htk,qm hne,qn hne,qd7]
      all_goals(refine ev_ ?_;(try with_reducible exact ti_))
     ·have hne2:encs (vsL (n.kids.take i)++vsW (n.kids.getD i N0))≠[]:=qo2 (fun h=>hv (List.append_eq_nil_iff.1 h).2)
      refine qj (i+1) [0,4] ⟨by omega,by omega⟩ rfl (by simp) ?_ ?_ ?_
      all_goals simp only[htk,qm hne2,qn hne2,qd7,List.length_append]
      all_goals(refine ev_ ?_;(try with_reducible exact ti_))
   ·have hil:¬(i:Int)<n.kids.length:=by omega
    have htk:n.kids.take i=n.kids:=List.take_of_length_le (by omega)
    rw[htk]
    by_cases h0:vsL n.kids=[]
    ·obtain rfl:=hk1 (by rw[hq];exact h0)
     simp only[h0,encs,qi,qk]
     repeat'(first|refine vs_ ?_|(refine vr_ ?_<;>try simp only[hil,go_sem,↓reduceIte])|((first|(refine cs_ ?_ ?_<;>intro hc)|refine cj_ ?_|simp (disch:=omega) only[qa,qc])<;>try refine ev_ ?_)|with_reducible exact ti_)
    ·have hne:=qo2 h0
     simp only[qm hne,qn hne,qd7]
     obtain rfl:=hk2 (by rw[hq];exact h0)
     repeat'(first|refine vs_ ?_|(refine vr_ ?_<;>try simp only[hil,go_sem,↓reduceIte])|((first|(refine cs_ ?_ ?_<;>intro hc)|refine cj_ ?_|simp (disch:=omega) only[qa,qc])<;>try refine ev_ ?_)|with_reducible exact ti_)
     exact .inr h0
def vbSt(es:List N)(n:N)(i:Nat):AF×List Ent :=
 if vsL (n.kids.take i)=[] then
  (⟨[(0, .row 0 es.length), (3, .ptr 1 0), (15, .sl 5 (encs n.kids)), (16, .int .i64 n.kids.length), (17, .int .i64 i)], []⟩,
    [.app 5 (encs es),.blk (enc n).cells])
 else
  (⟨[(0, .row 2 (es ++ vsL (n.kids.take i)).length), (3, .ptr 1 0), (15, .sl 5 (encs n.kids)), (16, .int .i64 n.kids.length), (17, .int .i64 i)], []⟩,
    [.dead,.blk (enc n).cells,.app 5 (encs (es++vsL (n.kids.take i)))])
theorem qwi{n:N}(ih:∀x∈n.kids,sz x≤100000->∀es:List N,es≠[]->es.length+sz x≤300000->q9m es x)(hsz:sz n≤100000)(es:List N)(he0:es≠[])(hes:es.length+sz n≤300000):q9m es n:=by
 obtain⟨kk,hk1,hk2,hk0⟩:∃k:Nat,(vsW n=[]->k=2)∧(vsW n≠[]->k=3)∧1≤k:=by
  by_cases h:vsW n=[]
  ·exact⟨2,fun _=>rfl,fun g=>absurd h g,by omega⟩
  ·exact⟨3,fun g=>absurd g h,fun _=>rfl,by omega⟩
 refine qf4 c0fm kk (by simpa using hk0) (by simp) ?_
 have hq:=qbbt n
 have hsk:szs n.kids+1≤100000:=by rw[qiz] at hsz;exact hsz
 have hsn:=qiz n
 have hkl:n.kids.length≤maxLen:=by have:=qyi n.kids;unfold maxLen;omega
 have hcap:qbe (es.length+1) 64:=capN (by omega)
 by_cases h11:n.kind=11
 ·rw[if_pos h11] at hq
  obtain rfl:=hk2 (by rw[hq];simp)
  rw[hq]
  repeat'(first|refine vs_ ?_|(refine vr_ ?_<;>try simp only[h11,Int.reduceEq,go_sem,↓reduceIte])|((first|(refine cs_ ?_ ?_<;>intro hc)|refine cj_ ?_|simp (disch:=omega) only[qa,qc])<;>try refine ev_ ?_)|with_reducible exact ti_)
  have hn:enc n=AV.agg [.int .i64 11,.int .i64 n.pos,.int .i64 n.num,.str n.text,.sl 5 (encs n.kids)]:=by rw[←qd2 n,h11]
  rw[←hn,qji]
  exact⟨qkr _ _,by simp,rfl⟩
 ·rw[if_neg h11] at hq
  rw[hq]
  repeat'(first|refine vs_ ?_|(refine vr_ ?_<;>try simp only[h11,go_sem,↓reduceIte])|((first|(refine cs_ ?_ ?_<;>intro hc)|refine cj_ ?_|simp (disch:=omega) only[qa,qc])<;>try refine ev_ ?_)|with_reducible exact ti_)
  refine qo (S:=Nat) (fun i=>i≤n.kids.length) (vbSt es n) (fun i=>n.kids.length-i) ?_ fun i hi=>?_
  ·refine qj 0 [0,1] (Nat.zero_le _) rfl (by simp) ?_ ?_ ?_<;>simp only[vbSt,List.take_zero,vsL,if_true]<;>(try refine ev_ ?_)<;>(try with_reducible exact ti_)<;>(try simp (disch:=omega) only[qc,and_true,true_and])
  ·unfold vbSt
   by_cases hlt:i<n.kids.length
   ·have hmem:n.kids.getD i N0∈n.kids:=qj1 hlt
    have hsm:=qwz hmem
    have iB:=ih _ hmem (by omega)
    have hst:=qmr n.kids i
    have hln:(vsL (n.kids.take i)).length≤szs (n.kids.take i):=qrr fun x _=>qws x
    have hil:(i:Int)<n.kids.length:=by omega
    have hs1:szs (n.kids.take (i+1))=szs (n.kids.take i)+sz (n.kids.getD i N0):=by rw[qbsn hlt,qwq,szs,szs,Nat.add_zero]
    have hs2:=qmr n.kids (i+1)
    have htk:=qz5 hlt
    by_cases h0:vsL (n.kids.take i)=[]
    ·rw[if_pos h0]
     rw[h0,List.nil_append] at htk
     repeat'(first|refine vs_ ?_|((first|refine vrr_ ?_)<;>try simp only[hil,go_sem,↓reduceIte])|((first|simp (disch:=omega) only[qa]|(refine cs_ ?_ ?_<;>intro hc)|refine cj_ ?_|simp (disch:=omega) only[qa,qc]|refine qnu 0 (iB es he0 (by omega)) (by rfl) (fun hv=>?_) (fun hv=>?_))<;>try refine ev_ ?_)|with_reducible exact ti_)
     ·refine qj (i+1) [0,1] ⟨by omega,by omega⟩ rfl (by simp) ?_ ?_ ?_
      all_goals rw[hv] at htk
      all_goals simp only[htk,if_true]
      all_goals(refine ev_ ?_;(try with_reducible exact ti_))
     ·refine qj (i+1) [0,1,4] ⟨by omega,by omega⟩ rfl (by simp) ?_ ?_ ?_
      all_goals simp only[htk,if_neg hv,List.length_append]
      all_goals(refine ev_ ?_;(try with_reducible exact ti_))
    ·rw[if_neg h0]
     have hap:es++vsL (n.kids.take i)≠[]:=by simp[he0]
     have hal:(es++vsL (n.kids.take i)).length+sz (n.kids.getD i N0)≤300000:=by rw[List.length_append];omega
     obtain⟨E,hE⟩:∃E,E=es++vsL (n.kids.take i):=⟨_,rfl⟩
     rw[←hE] at hap hal ⊢
     have e1:es++vsL (n.kids.take (i+1))=E++vsW (n.kids.getD i N0):=by rw[htk,hE,List.append_assoc]
     have e2:es.length+(vsL (n.kids.take (i+1))).length=E.length+(vsW (n.kids.getD i N0)).length:=by rw[←List.length_append,e1,List.length_append]
     have hn2:¬vsL (n.kids.take (i+1))=[]:=by
      rw[htk]
      intro h
      exact h0 (List.append_eq_nil_iff.1 h).1
     repeat'(first|refine vs_ ?_|((first|refine vrr_ ?_)<;>try simp only[hil,go_sem,↓reduceIte])|((first|simp (disch:=omega) only[qa]|(refine cs_ ?_ ?_<;>intro hc)|refine cj_ ?_|simp (disch:=omega) only[qa,qc]|refine qnu 2 (iB _ hap hal) (by rfl) (fun hv=>?_) (fun hv=>?_))<;>try refine ev_ ?_)|with_reducible exact ti_)
     ·refine qj (i+1) [0,1,2] ⟨by omega,by omega⟩ rfl (by simp) ?_ ?_ ?_
      all_goals rw[hv] at e1 e2
      all_goals simp only[if_neg hn2,e1,e2,List.append_nil,List.length_nil,Nat.add_zero]
      all_goals(refine ev_ ?_;(try with_reducible exact ti_))
     ·refine qj (i+1) [0,1,5] ⟨by omega,by omega⟩ rfl (by simp) ?_ ?_ ?_
      all_goals simp only[if_neg hn2,e1,e2]
      all_goals(refine ev_ ?_;(try with_reducible exact ti_))
   ·have hil:¬(i:Int)<n.kids.length:=by omega
    have htk:n.kids.take i=n.kids:=List.take_of_length_le (by omega)
    rw[htk]
    by_cases h0:vsL n.kids=[]
    ·rw[if_pos h0]
     obtain rfl:=hk1 (by rw[hq];exact h0)
     repeat'(first|refine vs_ ?_|(refine vr_ ?_<;>try simp only[hil,go_sem,↓reduceIte])|((first|(refine cs_ ?_ ?_<;>intro hc)|refine cj_ ?_|simp (disch:=omega) only[qa,qc])<;>try refine ev_ ?_)|with_reducible exact ti_)
     exact .inl h0
    ·rw[if_neg h0]
     obtain rfl:=hk2 (by rw[hq];exact h0)
     repeat'(first|refine vs_ ?_|(refine vr_ ?_<;>try simp only[hil,go_sem,↓reduceIte])|((first|(refine cs_ ?_ ?_<;>intro hc)|refine cj_ ?_|simp (disch:=omega) only[qa,qc])<;>try refine ev_ ?_)|with_reducible exact ti_)
     exact .inr h0
theorem q08:∀n,sz n≤100000->qbck n∧∀es:List N,es≠[]->es.length+sz n≤300000->q9m es n:=N.ind fun n ih hsz =>
 ⟨qys (fun x hx h=>⟨(ih x hx h).1,(ih x hx h).2⟩) hsz,fun es h1 h2=>qwi (fun x hx h=>(ih x hx h).2) hsz es h1 h2⟩
set_option maxRecDepth 4000

def txs(l:List N):List (List UInt8):=l.map N.text
theorem qbkj{l:List N}{i:Nat}(h:i<l.length):txs (l.take (i+1))=txs (l.take i)++[(l.getD i N0).text]:=by rw[qbsn h];simp[txs]
theorem quv(a:List (List UInt8))(x:List UInt8):(a++[x]).map AV.str=a.map AV.str++[.str x]:=by simp
theorem qw1(l:List N):(txs l).length=l.length:=by simp[txs]
theorem qcj3:IntKind.i64.wrap (0+1)=1:=by decide
theorem capS{n:Nat}(h:n≤1048580):qbe n 16:=by unfold qbe;omega
def linW:List N->List (List UInt8)->Int×Bool
 | [],_=>(0,true)
 | v::r,seen=>if seen.contains v.text=true then(v.pos,false) else linW r (seen++[v.text])
theorem qbbr{l:List N}{i:Nat}(h:i<l.length):l.drop i=l.getD i N0::l.drop (i+1):=by
 rw[List.drop_eq_getElem_cons h,List.getD_eq_getElem?_getD,List.getElem?_eq_getElem h];rfl
def liSt(n:N)(vs:List N)(i:Nat):AF×List Ent :=
 (⟨[(4, accV 2 ((txs (vs.take i)).map AV.str)), (5, .int .i64 0), (6, .bool true), (10, .row 1 vs.length), (11, .int .i64 vs.length), (12, .int .i64 i)], []⟩,
   .blk (enc n).cells::.app 5 (encs vs)::accE 1 ((txs (vs.take i)).map AV.str))
theorem has0(x:List UInt8):qp Tryz.prog 142 [.sl 1 [],.str x] (.bool false):=qgn [] x
theorem qhu(n:N)(hsz:sz n≤100000):qp Tryz.prog 94 [enc n] (.tup [.int .i64 (linW (vsW n) []).1,.bool (linW (vsW n) []).2]):=by
 refine qe c0fl (by simp) (by simp only[go_sem]) (by simp only[go_sem]) fun hw=>?_
 have hA:=(q08 n hsz).1
 have hl:=qws n
 have hmx:(1048577:Nat)≤maxLen:=by unfold maxLen;omega
 repeat'(first|refine vs_ ?_|((first|refine vrr_ ?_|refine qum hA (fun hv=>?_) (fun hv=>?_)|(refine cs_ ?_ ?_<;>intro hc)|refine cj_ ?_|simp (disch:=omega) only[qa,qc])<;>try refine ev_ ?_)|with_reducible exact ti_)
 ·refine qo (S:=Unit) (fun _=>True) (fun _=>(⟨[(5,.int .i64 0),(6,.bool true),(10,.nils),(11,.int .i64 0),(12,.int .i64 0)],[]⟩,[])) (fun _=>0) ?_ ?_
  ·refine qj () [] trivial rfl (by simp) ?_ ?_ ?_<;>(try refine ev_ ?_)<;>(try with_reducible exact ti_)<;>(try simp (disch:=omega) only[qc,and_true,true_and])
  ·intro _ _
   repeat'(first|refine vs_ ?_|((first|refine vr_ ?_|(refine cs_ ?_ ?_<;>intro hc)|refine cj_ ?_|simp (disch:=omega) only[qa,qc])<;>try refine ev_ ?_)|with_reducible exact ti_)
   ·exact absurd hc (by decide)
   ·rw[hv];rfl
 ·generalize hvs:vsW n=vs at *
  refine qo (S:=Nat) (fun i=>i≤vs.length∧linW vs []=linW (vs.drop i) (txs (vs.take i))) (liSt n vs) (fun i=>vs.length-i) ?_ fun i hi=>?_
  ·refine qj 0 [0,2] ⟨Nat.zero_le _,rfl⟩ rfl (by simp) ?_ ?_ ?_<;>simp only[liSt,List.take_zero,txs,List.map_nil,qi,qk]<;>(try refine ev_ ?_)<;>(try with_reducible exact ti_)<;>(try simp (disch:=omega) only[qc,and_true,true_and])
  ·unfold liSt
   obtain⟨hi,hin⟩:=hi
   by_cases hlt:i<vs.length
   ·have htk:=qbkj hlt
    have hil:(i:Int)<vs.length:=by omega
    rw[qbbr hlt,linW] at hin
    by_cases h0:i=0
    ·subst h0
     have hil:(0:Int)<vs.length:=by omega
     have hcap:qbe 1 16:=capS (by omega)
     simp only[List.take_zero,txs,List.map_nil,List.contains_nil,Bool.false_eq_true,if_false,List.nil_append] at hin
     simp only[List.take_zero,txs,List.map_nil,qi,qk]
     simp only[List.take_zero,txs,List.map_nil,List.nil_append,Nat.zero_add] at htk
     repeat'(first|refine vs_ ?_|(refine vr_ ?_<;>try simp (disch:=first|omega|(simp only[List.length_set,List.length_append,List.length_cons,List.length_nil];try omega)) only[hil,qcj3,go_sem,↓reduceIte])|((first|simp (disch:=omega) only[qa]|(refine cs_ ?_ ?_<;>intro hc)|refine cj_ ?_|simp (disch:=omega) only[qa,qc]|refine qb (has0 _) fun _=>?_)<;>try refine ev_ ?_)|with_reducible exact ti_)
     ·refine qj 1 [0,1,3] ⟨⟨by omega,?_⟩,by omega⟩ rfl (by simp) ?_ ?_ ?_
      ·rw[hin];simp only[txs,htk,Nat.zero_add]
      all_goals simp only[htk,List.map_cons,List.map_nil,qd1,qd6]
      all_goals(refine ev_ ?_;(try with_reducible exact ti_))
    ·have hne:(txs (vs.take i)).map AV.str≠[]:=fun h=>h0 (by have:=congrArg List.length h;simp only[List.length_map,qw1,List.length_take,List.length_nil] at this;omega)
     have hln:((txs (vs.take i)).map AV.str).length=i:=by rw[qmn,qw1,List.length_take];omega
     have hcap:qbe (i+1) 16:=capS (by omega)
     simp only[qm hne,qn hne,hln]
     repeat'(first|refine vs_ ?_|(refine vr_ ?_<;>try simp only[hil,hln,go_sem,↓reduceIte])|((first|simp (disch:=omega) only[qa]|(refine cs_ ?_ ?_<;>intro hc)|refine cj_ ?_|simp (disch:=omega) only[qa,qc]|refine qb (qgn (txs (vs.take i)) _) fun _=>?_)<;>try refine ev_ ?_)|with_reducible exact ti_)
     ·have hcn:(txs (vs.take i)).contains (vs.getD i N0).text=true:=by assumption
      rw[hin,if_pos hcn]
     ·have hcn:(txs (vs.take i)).contains (vs.getD i N0).text=false:=by assumption
      rw[hcn,if_neg (by simp)] at hin
      refine qj (i+1) [0,1,4] ⟨⟨by omega,?_⟩,by omega⟩ rfl (by simp) ?_ ?_ ?_
      ·rw[hin,htk]
      all_goals simp only[htk,quv,qd8,qd9,hln]
      all_goals(refine ev_ ?_;(try with_reducible exact ti_))
      rw[←quv,qr0,qzx];exact⟨rfl,rfl⟩
   ·have htk:vs.take i=vs:=List.take_of_length_le (by omega)
    have hil:¬(i:Int)<vs.length:=by omega
    have hne:(txs vs).map AV.str≠[]:=fun h=>hv (by have:=congrArg List.length h;simp only[List.length_map,qw1,List.length_nil] at this;exact List.length_eq_zero_iff.1 this)
    rw[htk]
    simp only[qm hne,qn hne]
    rw[List.drop_of_length_le (by omega),linW] at hin
    repeat'(first|refine vs_ ?_|(refine vr_ ?_<;>try simp only[hil,go_sem,↓reduceIte])|((first|(refine cs_ ?_ ?_<;>intro hc)|refine cj_ ?_|simp (disch:=omega) only[qa,qc])<;>try refine ev_ ?_)|with_reducible exact ti_)
    rw[hin]
end Go.Proofs.YtkenggenkmfopaaGreat
