/- A text of this proof. -/
import Derived.Test.YtkenggenkmfopaaGreatIan
import Derived.Test.YtkenggenkmfopaaGreatIao
set_option linter.unusedVariables false
set_option linter.unusedSimpArgs false

/- texts of numbers -/
set_option maxRecDepth 4000
namespace Go.Proofs.YtkenggenkmfopaaGreat
open Go Go.RowKit Go.V

theorem q7v{z:Int}(h0:0≤z)(h1:z≤255):IntKind.u8.wrap z=z:=by
 unfold IntKind.wrap IntKind.signed IntKind.bits
 simp only[Bool.false_and,Bool.false_eq_true,if_false]
 omega
theorem qk5{z:Int}(h0:0≤z)(h1:z<18446744073709551616):IntKind.u64.wrap z=z:=by
 unfold IntKind.wrap IntKind.signed IntKind.bits
 simp only[Bool.false_and,Bool.false_eq_true,if_false]
 omega
theorem q0j{z:Int}(h0:z<0)(h1:-9223372036854775808≤z):IntKind.u64.wrap z=z+18446744073709551616:=by
 unfold IntKind.wrap IntKind.signed IntKind.bits
 simp only[Bool.false_and,Bool.false_eq_true,if_false]
 omega
theorem qov{n:Int}(h:(Lit.int .i64 n).wf=true):-9223372036854775808≤n∧n≤9223372036854775807:=by
 simpa [Lit.wf,IntKind.min,IntKind.max,IntKind.signed,IntKind.bits] using h
def absI(n:Int):Int:=n.natAbs
theorem q24(n:Int):qp Tryz.prog 117 [.int .i64 n] (.int .u64 (absI n)):=by
 refine qe c0bw (by simp) (by simp only[go_sem]) rfl fun hw=>?_
 have hn:=qov hw.1
 repeat'(first|refine vs_ ?_|((first|refine vr_ ?_|(refine cs_ ?_ ?_<;>intro hc)|refine cj_ ?_)<;>try refine ev_ ?_)|with_reducible exact ti_)
 ·have h1:IntKind.u64.wrap (0-IntKind.u64.wrap n)=absI n:=by
   rw[q0j (by omega) hn.1,show(0:Int)-(n+18446744073709551616)=(-n)-18446744073709551616 by omega]
   have:IntKind.u64.wrap (-n-18446744073709551616) = -n:=by
    unfold IntKind.wrap IntKind.signed IntKind.bits
    simp only[Bool.false_and,Bool.false_eq_true,if_false]
    omega
   rw[this,absI];omega
  rw[h1]
 ·have h1:IntKind.u64.wrap n=absI n:=by rw[qk5 (by omega) (by omega),absI];omega
  rw[h1]

theorem qup{u:Nat}(h:9<u)(s:List UInt8):digN (u / 10)++(UInt8.ofNat (48+u % 10)::s)=digN u++s:=by
 rw[qxz (u:=u) (by omega)];simp
theorem qz3{u:Nat}(h:u<18446744073709551616):(digN u).length≤20:=qzr 19 u (by omega)
theorem qblh(u:Nat):(u:Int).tmod 10=((u % 10:Nat):Int):=by rw[Int.tmod_eq_emod_of_nonneg (by omega)];omega
theorem qblw(u:Nat):(u:Int).tdiv 10=((u / 10:Nat):Int):=by rw[Int.tdiv_eq_ediv_of_nonneg (by omega)];omega
theorem q02{u:Nat}:IntKind.u8.wrap (IntKind.u64.wrap (48+((u % 10:Nat):Int)))=((48+u % 10:Nat):Int):=by
 rw[qk5 (by omega) (by omega),q7v (by omega) (by omega)];omega
theorem q9f{u:Nat}(h:u≤9):IntKind.u8.wrap (IntKind.u64.wrap (48+(u:Int)))=((48+u:Nat):Int):=by
 rw[qk5 (by omega) (by omega),q7v (by omega) (by omega)];omega
theorem q4w(u:Nat)(h:u<18446744073709551616):IntKind.u64.wrap ((u / 10:Nat):Int)=((u / 10:Nat):Int):=qk5 (by omega) (by omega)
attribute [go_sem] qgp qm8 Int.toNat_natCast
theorem qcla{u u':Nat}{s:List UInt8}(h:digN u++s=digN u' )(h':u'<18446744073709551616):s.length≤20:=by
 have h1:=congrArg List.length h
 rw[List.length_append] at h1
 have:=qz3 h'
 omega
theorem qcc1(n:Int):qp Tryz.prog 76 [.int .i64 n] (.str (digI n)):=by
 refine qe c0bx (by simp) (by simp only[go_sem]) rfl fun hw=>?_
 have hn:=qov hw.1
 have ha:n.natAbs<18446744073709551616:=by omega
 repeat'(first|refine vs_ ?_|((first|refine vr_ ?_|refine qb (q24 _) fun _=>?_|(refine cs_ ?_ ?_<;>intro hc)|refine cj_ ?_|simp (disch:=omega) only[qa,qc])<;>try refine ev_ ?_)|with_reducible exact ti_)
 refine qo (S:=Nat×List UInt8) (fun x=>digN x.1++x.2=digN n.natAbs∧x.1<18446744073709551616) (fun x=>(⟨[(0,.int .i64 n),(3,.int .u64 x.1),(4,.str x.2)],[]⟩,[])) (fun x=>x.1) ?_ fun x hx=>?_
 ·refine qj (n.natAbs,[]) [] ⟨by simp,ha⟩ rfl (by simp) ?_ ?_ ?_<;>(try refine ev_ ?_)<;>(try with_reducible exact ti_)<;>(try simp (disch:=omega) only[qc,and_true,true_and])
  rfl
 ·obtain⟨u,s⟩:=x
  obtain⟨h1,h2⟩:=hx
  dsimp only at h1 h2
  have hl:=qcla h1 ha
  have hm:1+s.length≤maxLen:=by unfold maxLen;omega
  have hm2:1+(s.length+1)≤maxLen:=by unfold maxLen;omega
  repeat'(first|refine vs_ ?_|(refine vr_ ?_<;>try simp (disch:=first|omega|(simp only[List.length_set,List.length_append,List.length_cons,List.length_nil];try omega)) only[qblh,qblw,q02,q9f,q4w u h2,go_sem,↓reduceIte])|((first|(refine cs_ ?_ ?_<;>intro hc)|refine cj_ ?_|simp (disch:=omega) only[qa,qc])<;>try refine ev_ ?_)|with_reducible exact ti_)
  ·refine qj (u / 10,UInt8.ofNat (48+u % 10)::s) [] ⟨⟨by rw[qup (by omega)];exact h1,by dsimp only;omega⟩,by dsimp only;omega⟩ rfl (by simp) ?_ ?_ ?_<;>(try refine ev_ ?_)<;>(try with_reducible exact ti_)<;>(try simp (disch:=omega) only[qc,and_true,true_and])
  ·rw[digI,if_pos (by assumption),←h1,qiq (by omega)];rfl
  ·rw[digI,if_neg (by assumption),←h1,qiq (by omega)];rfl

/-! the program's: an array of 20 bytes, filled from behind -/
def e8(c:UInt8):AV:=.int .u8 c.toNat
def qej(s:List UInt8):List AV:=List.replicate (20-s.length) (.int .u8 0)++s.map e8
theorem qp1{s:List UInt8}(h:s.length≤20):(qej s).length=20:=by simp[qej];omega
theorem q2s{s:List UInt8}{c:UInt8}(h:s.length<20):(qej s).set (19-s.length) (.int .u8 c.toNat)=qej (c::s):=by
 obtain⟨k,hk⟩:∃k,20-s.length=k+1:=⟨19-s.length,by omega⟩
 have h1:19-s.length=k:=by omega
 have h2:20-(c::s).length=k:=by simp;omega
 rw[qej,qej,hk,h1,h2,List.replicate_succ',List.append_assoc,List.set_append_right _ _ (by simp)]
 simp[e8]
theorem qbbs{s:List UInt8}(h:s.length≤20):tk (20-s.length) (20-(20-s.length)) (qej s)=s.map e8:=by
 rw[tk,qej,List.drop_append,List.drop_of_length_le (by simp)]
 simp only[List.length_replicate,Nat.sub_self,List.drop_zero,List.nil_append]
 rw[List.take_of_length_le (by simp;omega)]
theorem qbkd(s:List UInt8):(s.map e8).all qgp=true:=by simp[e8,qgp]
theorem qcai(s:List UInt8):(s.map e8).map qm8=s:=by
 rw[List.map_map]
 refine(List.map_congr_left fun c _=>?_).trans (List.map_id s)
 simp[e8,qm8]
theorem qp9{k:Nat}{s:List UInt8}:AV.bds k (qej s)=true:=by
 rw[qej,qb6];simp[e8,AV.bd]
theorem q3p{σ:Nat->Nat}{s:List UInt8}:AV.rens σ (qej s)=qej s:=qs (m:=0) (fun i hi=>by omega) _ qp9
attribute [go_sem] qp9 q3p
theorem qcfs{k:Nat}(h:k<20):IntKind.i64.wrap (((20-k:Nat):Int)-1)=((19-k:Nat):Int):=by
 have h1:((20-k:Nat):Int)-1=((19-k:Nat):Int):=by omega
 rw[h1]
 exact qfk (by omega) (by unfold maxLen;omega)
theorem qcb7{n:Int}(hn:-9223372036854775808≤n∧n≤9223372036854775807):(n<0->IntKind.u64.wrap (0-IntKind.u64.wrap n)=n.natAbs)∧(¬n<0->IntKind.u64.wrap n=n.natAbs):=by
 refine⟨fun h=>?_,fun h=>?_⟩
 ·rw[q0j (by omega) hn.1,show(0:Int)-(n+18446744073709551616)=(-n)-18446744073709551616 by omega]
  have:IntKind.u64.wrap (-n-18446744073709551616) = -n:=by
   unfold IntKind.wrap IntKind.signed IntKind.bits
   simp only[Bool.false_and,Bool.false_eq_true,if_false]
   omega
  rw[this];omega
 ·rw[qk5 (by omega) (by omega)];omega
def e8s(s:List UInt8):List AV:=s.map e8
theorem qbcb(s:List UInt8):(e8s s).all qgp=true:=qbkd s
theorem qbgu(s:List UInt8):(e8s s).map qm8=s:=qcai s
theorem qwe{s:List UInt8}{u:Nat}(h:s.length<20):(qej s).set (19-s.length) (.int .u8 ((48+u % 10:Nat):Int))=qej (UInt8.ofNat (48+u % 10)::s):=by
 rw[←q2s h]
 congr 2
 rw[UInt8.toNat_ofNat'];omega
theorem qwx{s:List UInt8}{c:UInt8}(h:s.length<20):List.take (20-(19-s.length)) (List.drop (19-s.length) (qej (c::s)))=e8s (c::s):=by
 have h1:19-s.length=20-(c::s).length:=by rw[List.length_cons];omega
 rw[h1]
 exact qbbs (s:=c::s) (by simp;omega)
theorem qbky{H:List Ent}{n i off len cap:Nat}:co H (.sl n) (.vw i off len cap)=.vw i off len cap:=Eq.trans rfl rfl
attribute [go_sem] qbky
theorem qj2(n:Int):qp Tryz.prog 52 [.int .i64 n] (.str (digI n)):=by
 refine qe c0by (by simp) (by simp only[go_sem]) rfl fun hw=>?_
 have hn:=qov hw.1
 have ha:n.natAbs<18446744073709551616:=by omega
 obtain⟨hn1,hn2⟩:=qcb7 hn
 unfold k0by
 refine qij (qil ?_)
 (refine ev_ ?_;(try with_reducible exact ti_))
 refine qij (qil ?_)
 (refine ev_ ?_;(try with_reducible exact ti_))
 refine qks (S:=Unit) (fun _=>True) (fun _=>(⟨[(0,.int .i64 n),(3,.int .u64 n.natAbs)],[]⟩,[])) ?_ fun _ _=>?_
 ·repeat'(first|refine vs_ ?_|((first|refine vr_ ?_|(refine cs_ ?_ ?_<;>intro hc)|refine cj_ ?_|simp (disch:=omega) only[qa,qc])<;>try refine ev_ ?_)|with_reducible exact ti_)
  ·refine qj () [] trivial rfl (by simp) ?_ ?_ ?_<;>(try rw[hn1 (by assumption)])<;>(try refine ev_ ?_)<;>(try with_reducible exact ti_)<;>(try simp (disch:=omega) only[qc,and_true,true_and])
  ·refine qj () [] trivial rfl (by simp) ?_ ?_ ?_<;>(try rw[hn2 (by assumption)])<;>(try refine ev_ ?_)<;>(try with_reducible exact ti_)<;>(try simp (disch:=omega) only[qc,and_true,true_and])
 ·repeat'(first|refine vs_ ?_|((first|refine vr_ ?_|(refine cs_ ?_ ?_<;>intro hc)|refine cj_ ?_|simp (disch:=omega) only[qa,qc])<;>try refine ev_ ?_)|with_reducible exact ti_)
  refine qo (S:=Nat×List UInt8) (fun x=>digN x.1++x.2=digN n.natAbs∧x.1<18446744073709551616) (fun x=>(⟨[(0,.int .i64 n),(3,.int .u64 x.1),(4,.ptr 0 0),(5,.int .i64 ((20-x.2.length:Nat):Int))],[]⟩,[.blk (qej x.2)])) (fun x=>x.1) ?_ fun x hx=>?_
  ·refine qj (n.natAbs,[]) [0] ⟨by simp,ha⟩ rfl (by simp) ?_ ?_ ?_<;>(try refine ev_ ?_)<;>(try with_reducible exact ti_)<;>(try simp (disch:=omega) only[qc,and_true,true_and])
   all_goals rfl
  ·obtain⟨u,s⟩:=x
   obtain⟨h1,h2⟩:=hx
   dsimp only at h1 h2
   have hl:s.length<20:=by
    have:=congrArg List.length h1
    rw[List.length_append] at this
    have:=qz3 ha
    have:=qbit u
    omega
   have h3:=qp1 (Nat.le_of_lt hl)
   have h4:=qp1 (s:=UInt8.ofNat (48+u % 10)::s) (by simp;omega)
   have h5:=qbcb (UInt8.ofNat (48+u % 10)::s)
   have h6:=qbgu (UInt8.ofNat (48+u % 10)::s)
   have hm:20-(19-s.length)≤maxLen:=by unfold maxLen;omega
   have hm2:1+(s.length+1)≤maxLen:=by unfold maxLen;omega
   repeat'(first|refine vs_ ?_|(refine vr_ ?_<;>try simp only[qblh,qblw,q02,q4w u h2,qcfs hl,qwe hl,qwx hl,h3,h4,h5,h6,Nat.zero_add,Nat.mul_one,go_sem,↓reduceIte])|((first|(refine cs_ ?_ ?_<;>intro hc)|refine cj_ ?_|simp (disch:=omega) only[qa,qc])<;>try refine ev_ ?_)|with_reducible exact ti_)
   ·rw[digI,if_pos (by assumption),←h1,qiq (u:=u) (by omega),show u % 10=u by omega];rfl
   ·rw[digI,if_neg (by assumption),←h1,qiq (u:=u) (by omega),show u % 10=u by omega];rfl
   ·refine qj (u / 10,UInt8.ofNat (48+u % 10)::s) [0] ⟨⟨by rw[qup (by omega)];exact h1,by dsimp only;omega⟩,by dsimp only;omega⟩ rfl (by simp) ?_ ?_ ?_<;>(try refine ev_ ?_)<;>(try with_reducible exact ti_)<;>(try simp (disch:=omega) only[qc,and_true,true_and])
    all_goals(rw[show 20-(s.length+1)=19-s.length by omega])
/-! letters -/
theorem qbdy{n:Int}(h:(Lit.int .i64 n).wf=true):(digI n).length≤21:=by
 have hn:=qov h
 have:=qz3 (u:=n.natAbs) (by omega)
 rw[digI]
 split
 ·rw[List.length_cons];omega
 ·omega
theorem qbha{n:Nat}:digI (n:Int)=digN n:=by rw[digI,if_neg (by omega)];rfl
theorem qcic{n:Int}(h:0≤n):n.tmod 26=((n.toNat % 26:Nat):Int):=by rw[Int.tmod_eq_emod_of_nonneg h];omega
theorem qcif{n:Int}(h:0≤n):n.tdiv 26=((n.toNat / 26:Nat):Int):=by rw[Int.tdiv_eq_ediv_of_nonneg h];omega
theorem qbiu{u:Nat}:IntKind.u8.wrap (IntKind.i64.wrap (97+((u % 26:Nat):Int)))=((97+u % 26:Nat):Int):=by
 rw[qfk (by omega) (by unfold maxLen;omega),q7v (by omega) (by omega)];omega
theorem qz{z:Int}(h0:-9223372036854775808≤z)(h1:z≤9223372036854775807):IntKind.i64.wrap z=z:=by
 simp[IntKind.wrap,IntKind.signed,IntKind.bits]
 omega
theorem qt6(n:Int):qp Tryz.prog 154 [.int .i64 n] (.str (ltrI n)):=by
 refine qe c0bz (by simp) (by simp only[go_sem]) rfl fun hw=>?_
 have hn:=qov hw.1
 by_cases h0:n<0
 ·repeat'(first|refine vs_ ?_|((first|refine vr_ ?_|(refine cs_ ?_ ?_<;>intro hc)|refine cj_ ?_|simp (disch:=omega) only[qa,qc])<;>try refine ev_ ?_)|with_reducible exact ti_)
  all_goals first | (rw[ltrI,if_pos (by assumption)];done) | omega
 ·have h1:=qcic (n:=n) (by omega)
  have h2:=qcif (n:=n) (by omega)
  have h3:IntKind.i64.wrap ((n.toNat / 26:Nat):Int)=((n.toNat / 26:Nat):Int):=qz (by omega) (by omega)
  have h4:=qbha (n:=n.toNat / 26)
  have h5:=qz3 (u:=n.toNat / 26) (by omega)
  have h6:1+(digN (n.toNat / 26)).length≤maxLen:=by unfold maxLen;omega
  repeat'(first|refine vs_ ?_|(refine vr_ ?_<;>try simp only[h0,h1,h2,h3,h4,qbiu,go_sem,↓reduceIte])|((first|(refine cs_ ?_ ?_<;>intro hc)|refine cj_ ?_|simp (disch:=omega) only[qa,qc]|refine qb (qj2 _) fun _=>?_)<;>try refine ev_ ?_)|with_reducible exact ti_)
  ·rw[ltrI,if_neg h0,if_pos (by assumption),show n.toNat % 26=n.toNat by omega]
  ·rw[ltrI,if_neg h0,if_neg (by assumption)]
end Go.Proofs.YtkenggenkmfopaaGreat
