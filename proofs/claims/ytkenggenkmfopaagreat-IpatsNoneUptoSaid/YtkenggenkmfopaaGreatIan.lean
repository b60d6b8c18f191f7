/- Texts of this proof, joined. -/
import Derived.Test.YtkenggenkmfopaaGreatIah
import Derived.Test.YtkenggenkmfopaaGreatIam
set_option linter.unusedVariables false
set_option linter.unusedSimpArgs false

/- names -/
set_option maxRecDepth 4000
namespace Go.Proofs.YtkenggenkmfopaaGreat
open Go Go.RowKit Go.V

def qvo(c:Int):Bool:=decide (97≤c)&&decide (c≤122)||decide (c=95)
def qvf(c:Int):Bool:=decide (65≤c)&&decide (c≤90)
def qdi(c:Int):Bool:=decide (48≤c)&&decide (c≤57)

theorem qm1(c:Int):qp Tryz.prog 196 [.int .u8 c] (.bool (qvo c)):=by
 refine qe c0bq (by simp) (by simp only[go_sem]) rfl fun hw=>?_
 repeat'(first|refine vs_ ?_|((first|refine vr_ ?_|(refine cs_ ?_ ?_<;>intro hc)|refine cj_ ?_)<;>try refine ev_ ?_)|with_reducible exact ti_)
 all_goals simp[qvo, *]
theorem qne(c:Int):qp Tryz.prog 199 [.int .u8 c] (.bool (qvf c)):=by
 refine qe c0br (by simp) (by simp only[go_sem]) rfl fun hw=>?_
 repeat'(first|refine vs_ ?_|((first|refine vr_ ?_|(refine cs_ ?_ ?_<;>intro hc)|refine cj_ ?_)<;>try refine ev_ ?_)|with_reducible exact ti_)
 all_goals simp[qvf, *]
def onW(c:Int):Bool:=qvo c||qvf c||qdi c||decide (c=39)
def onsW(l:List UInt8):Bool:=l.all fun c=>onW c.toNat
theorem qj9{l:List UInt8}{i:Nat}(h:i<l.length):l.drop i=l.getD i 0::l.drop (i+1):=by
 rw[List.drop_eq_getElem_cons h,List.getD_eq_getElem?_getD,List.getElem?_eq_getElem h];rfl
theorem qu5{l:List UInt8}{i:Nat}(h:i<l.length):onsW (l.drop i)=(onW (l.getD i 0).toNat&&onsW (l.drop (i+1))):=by
 rw[qj9 h];rfl
theorem qqm(l:List UInt8):qp Tryz.prog 197 [.str l] (.bool (onsW l)):=by
 refine qe c0bs (by simp) (by simp only[go_sem]) rfl fun hw=>?_
 have hl:l.length≤maxLen:=hw.1
 repeat'(first|refine vs_ ?_|((first|refine vr_ ?_|(refine cs_ ?_ ?_<;>intro hc)|refine cj_ ?_|simp (disch:=omega) only[qa,qc])<;>try refine ev_ ?_)|with_reducible exact ti_)
 refine qo (S:=Nat) (fun i=>i≤l.length∧onsW (l.drop i)=onsW l) (fun i=>(⟨[(0,.str l),(6,.int .i64 l.length),(7,.int .i64 i)],[]⟩,[])) (fun i=>l.length-i) ?_ fun i hi=>?_
 ·refine qj 0 [] ⟨Nat.zero_le _,rfl⟩ rfl (by simp) ?_ ?_ ?_<;>(try refine ev_ ?_)<;>(try with_reducible exact ti_)<;>(try simp (disch:=omega) only[qc,and_true,true_and])
 ·obtain⟨hi,ha⟩:=hi
  repeat'(first|refine vs_ ?_|((first|refine vr_ ?_|refine qb (qm1 _) fun _=>?_|refine qb (qne _) fun _=>?_|(refine cs_ ?_ ?_<;>intro hc)|refine cj_ ?_|simp (disch:=omega) only[qa,qc])<;>try refine ev_ ?_)|with_reducible exact ti_)
  all_goals first
   | (refine qj (i + 1) [] ⟨⟨by omega, ?_⟩, by omega⟩ rfl (by simp) ?_ ?_ ?_ <;> (try refine ev_ ?_) <;> (try with_reducible exact ti_) <;> (try simp (disch := omega) only [qc, and_true, true_and])
      rw[←ha,qu5 (l:=l) (i:=i) (by omega)]
      simp_all[onW,qdi]
      try omega)
   | (rw[←ha,show i=l.length by omega,List.drop_length];rfl)
   | (rw [← ha, qu5 (l := l) (i := i) (by omega)]
      simp_all[onW,qdi]
      try omega)

def wordsW:List (List UInt8):=[[100,97,116,97],[99,108,97,115,115],[105,110,115,116,97,110,99,101],[119,104,101,114,101],[108,101,116],[105,110],[99,97,115,101],[111,102],[105,102],[116,104,101,110],[101,108,115,101]]
def resW(l:List UInt8):Bool:=wordsW.contains l
theorem q96:(wordsW.map AV.str).length=11:=rfl
theorem q5a{i:Nat}(h:i<11):(wordsW.map AV.str).getD i .junk=.str (wordsW.getD i []):=by
 have h':i<wordsW.length:=h
 rw[List.getD_eq_getElem?_getD,List.getElem?_map,List.getD_eq_getElem?_getD,List.getElem?_eq_getElem h'];rfl
theorem qpi{i:Nat}(h:i<11):wordsW.drop i=wordsW.getD i []::wordsW.drop (i+1):=by
 have h':i<wordsW.length:=h
 rw[List.drop_eq_getElem_cons h',List.getD_eq_getElem?_getD,List.getElem?_eq_getElem h'];rfl
theorem qim(l:List UInt8):qp Tryz.prog 198 [.str l] (.bool (resW l)):=by
 refine qe c0bt (by simp) (by simp only[go_sem]) rfl fun hw=>?_
 repeat'(first|refine vs_ ?_|((first|refine vr_ ?_|(refine cs_ ?_ ?_<;>intro hc)|refine cj_ ?_|simp (disch:=omega) only[qa,qc])<;>try refine ev_ ?_)|with_reducible exact ti_)
 refine qo (S:=Nat) (fun i=>i≤11∧(wordsW.drop i).contains l=resW l) (fun i=>(⟨[(0,.str l),(3,.bool false),(6,.agg (wordsW.map AV.str)),(7,.int .i64 i)],[]⟩,[])) (fun i=>11-i) ?_ fun i hi=>?_
 ·refine qj 0 [] ⟨Nat.zero_le _,rfl⟩ rfl (by simp) ?_ ?_ ?_<;>(try refine ev_ ?_)<;>(try with_reducible exact ti_)<;>(try simp (disch:=omega) only[qc,and_true,true_and])
  exact⟨rfl,rfl⟩
 ·obtain⟨hi,ha⟩:=hi
  repeat'(first|refine vs_ ?_|((first|refine vr_ ?_|(refine cs_ ?_ ?_<;>intro hc)|refine cj_ ?_|simp (disch:=omega) only[qa,qc])<;>try refine ev_ ?_)|with_reducible exact ti_)
  ·simp (disch:=omega) only[q96,q5a,Nat.mul_one]
   refine⟨by omega,?_⟩
   repeat'(first|refine vs_ ?_|((first|refine vr_ ?_|(refine cs_ ?_ ?_<;>intro hc)|refine cj_ ?_|simp (disch:=omega) only[qa,qc])<;>try refine ev_ ?_)|with_reducible exact ti_)
   ·refine qj (i+1) [] ⟨⟨by omega,?_⟩,by omega⟩ rfl (by simp) ?_ ?_ ?_<;>(try refine ev_ ?_)<;>(try with_reducible exact ti_)<;>(try simp (disch:=omega) only[qc,and_true,true_and])
    ·rw[←ha,qpi (i:=i) (by omega),List.contains_cons]
     rw[show(l == wordsW.getD i [])=false by simpa using fun h=>hc h.symm];simp
    ·have:i<maxLen:=by unfold maxLen;omega
     rw[qc this]
     exact⟨⟨rfl,rfl⟩,rfl⟩
   ·rw[←ha,qpi (i:=i) (by omega),List.contains_cons,show(l == wordsW.getD i [])=true by simpa using hc.symm];rfl
  ·rw[←ha,show i=11 by omega];rfl
def conW(l:List UInt8):Bool:=decide (l≠[])&&qvf (l.getD 0 0).toNat&&onsW l
theorem qhs(l:List UInt8):qp Tryz.prog 148 [.str l] (.bool (conW l)):=by
 refine qe c0bu (by simp) (by simp only[go_sem]) rfl fun hw=>?_
 have hl:l.length≤maxLen:=hw.1
 repeat'(first|refine vs_ ?_|((first|refine vr_ ?_|refine qb (qqm _) fun _=>?_|refine qb (qne _) fun _=>?_|(refine cs_ ?_ ?_<;>intro hc)|refine cj_ ?_|simp (disch:=omega) only[qa,qc])<;>try refine ev_ ?_)|with_reducible exact ti_)
 all_goals simp_all[conW]
def varW(l:List UInt8):Bool:=decide (l≠[])&&decide (l≠[95])&&qvo (l.getD 0 0).toNat&&onsW l&&!resW l
theorem q46(l:List UInt8):qp Tryz.prog 146 [.str l] (.bool (varW l)):=by
 refine qe c0bv (by simp) (by simp only[go_sem]) rfl fun hw=>?_
 have hl:l.length≤maxLen:=hw.1
 repeat'(first|refine vs_ ?_|((first|refine vr_ ?_|refine qb (qqm _) fun _=>?_|refine qb (qm1 _) fun _=>?_|refine qb (qim _) fun _=>?_|(refine cs_ ?_ ?_<;>intro hc)|refine cj_ ?_|simp (disch:=omega) only[qa,qc])<;>try refine ev_ ?_)|with_reducible exact ti_)
 all_goals simp_all[varW]
set_option maxRecDepth 4000

theorem qw5:IntKind.i64.wrap (0+1)=1:=by decide
def digW(l:List UInt8):Bool:=l.all fun c=>qdi c.toNat
theorem qj6{l:List UInt8}{i:Nat}(h:i<l.length):digW (l.drop i)=(qdi (l.getD i 0).toNat&&digW (l.drop (i+1))):=by
 rw[qj9 h];rfl

def digV(c:UInt8):Int:=IntKind.i64.wrap (IntKind.u8.wrap ((c.toNat:Int)-48))
def topV(c:UInt8):Int:=IntKind.i64.wrap ((IntKind.i64.wrap (9223372036854775807-digV c)).tdiv 10)
def nxtV(k:Int)(c:UInt8):Int:=IntKind.i64.wrap (IntKind.i64.wrap (10*k)+digV c)
def qi0:Int->List UInt8->Int×Int
 | k,[]=>(k,0)
 | k,c::r=>if topV c<k then(0,4) else qi0 (nxtV k c) r
def qlu(l:List UInt8):Int×Int:=if l=[] then(0,5) else if digW l=true then qi0 0 l else(0,5)
def q41(p:Int×Int):AV:=.tup [.int .i64 p.1,.int .i64 p.2]
theorem qkw{l:List UInt8}{i:Nat}(h:i<l.length)(k:Int):qi0 k (l.drop i)=if topV (l.getD i 0)<k then(0,4) else qi0 (nxtV k (l.getD i 0)) (l.drop (i+1)):=by
 rw[qj9 h];rfl
theorem q7s{c:Int}(h:c<48∨57<c):qdi c=false:=by
 simp only[qdi,Bool.and_eq_false_iff,decide_eq_false_iff_not];omega
theorem q6r{c:Int}(h:¬c<48)(h2:¬57<c):qdi c=true:=by
 simp only[qdi,Bool.and_eq_true,decide_eq_true_eq];omega
theorem qjs{l:List UInt8}(h:l≠[])(hd:digW l=true):qlu l=qi0 0 l:=by rw[qlu,if_neg h,if_pos hd]
theorem quh{l:List UInt8}(hd:digW l=false):qlu l=(0,5):=by rw[qlu,hd];simp

theorem qcc0(l:List UInt8):qp Tryz.prog 234 [.str l] (q41 (qlu l)):=by
 refine qe c0bo (by simp) (by simp only[go_sem]) rfl fun hw=>?_
 have hl:l.length≤maxLen:=hw.1
 repeat'(first|refine vs_ ?_|((first|refine vr_ ?_|(refine cs_ ?_ ?_<;>intro hc)|refine cj_ ?_|simp (disch:=omega) only[qa,qc])<;>try refine ev_ ?_)|with_reducible exact ti_)
 ·subst hc;rfl
 ·refine qo (S:=Nat) (fun i=>i≤l.length∧digW (l.drop i)=digW l) (fun i=>(⟨[(0,.str l),(4,.int .i64 i)],[]⟩,[])) (fun i=>l.length-i) ?_ fun i hi=>?_
  ·refine qj 0 [] ⟨Nat.zero_le _,rfl⟩ rfl (by simp) ?_ ?_ ?_<;>(try refine ev_ ?_)<;>(try with_reducible exact ti_)<;>(try simp (disch:=omega) only[qc,and_true,true_and])
  ·obtain⟨hi,ha⟩:=hi
   have hs:i<l.length->qdi (l.getD i 0).toNat=false->qlu l=(0,5):=fun h h2=>quh (by rw[←ha,qj6 h,h2];rfl)
   repeat'(first|refine vs_ ?_|((first|refine vr_ ?_|(refine cs_ ?_ ?_<;>intro hc)|refine cj_ ?_|simp (disch:=omega) only[qa,qc])<;>try refine ev_ ?_)|with_reducible exact ti_)
   ·rw[hs (by omega) (q7s (by omega))];rfl
   ·rw[hs (by omega) (q7s (by omega))];rfl
   ·refine qj (i+1) [] ⟨⟨by omega,?_⟩,by omega⟩ rfl (by simp) ?_ ?_ ?_<;>(try refine ev_ ?_)<;>(try with_reducible exact ti_)<;>(try simp (disch:=omega) only[qc,and_true,true_and])
    have hd:qdi (l.getD i 0).toNat=true:=q6r (by omega) (by omega)
    rw[←ha,qj6 (l:=l) (i:=i) (by omega),hd,Bool.true_and]
   ·have hd:digW l=true:=by rw[←ha,List.drop_of_length_le (by omega)];rfl
    rw[qjs (by assumption) hd]
    refine qo (S:=Nat×Int) (fun s=>s.1≤l.length∧qi0 s.2 (l.drop s.1)=qi0 0 l) (fun s=>(⟨[(0,.str l),(5,.int .i64 s.2),(6,.int .i64 s.1)],[]⟩,[])) (fun s=>l.length-s.1) ?_ fun s hs=>?_
    ·refine qj (0,0) [] ⟨Nat.zero_le _,rfl⟩ rfl (by simp) ?_ ?_ ?_<;>(try refine ev_ ?_)<;>(try with_reducible exact ti_)<;>(try simp (disch:=omega) only[qc,and_true,true_and])
    ·obtain⟨j,k⟩:=s
     obtain⟨hj,hr⟩:=hs
     dsimp only at hj hr
     have hs2:j<l.length->qi0 0 l=if topV (l.getD j 0)<k then(0,4) else qi0 (nxtV k (l.getD j 0)) (l.drop (j+1)):=fun h=>by rw[←hr,qkw h]
     repeat'(first|refine vs_ ?_|((first|refine vr_ ?_|(refine cs_ ?_ ?_<;>intro hc)|refine cj_ ?_|simp (disch:=omega) only[qa,qc])<;>try refine ev_ ?_)|with_reducible exact ti_)
     ·have hc':topV (l.getD j 0)<k:=hc
      rw[hs2 (by omega),if_pos hc'];rfl
     ·have hc':¬topV (l.getD j 0)<k:=hc
      refine qj (j+1,nxtV k (l.getD j 0)) [] ⟨⟨by omega,?_⟩,by omega⟩ rfl (by simp) ?_ ?_ ?_<;>(try refine ev_ ?_)<;>(try with_reducible exact ti_)<;>(try simp (disch:=omega) only[qc,and_true,true_and])
      ·rw[hs2 (by omega),if_neg hc']
      ·rfl
     ·rw[←hr,List.drop_of_length_le (by omega)];rfl

theorem qm2(l:List UInt8):qp Tryz.prog 206 [.str l] (q41 (qlu l)):=by
 refine qe c0bp (by simp) (by simp only[go_sem]) rfl fun hw=>?_
 have hl:l.length≤maxLen:=hw.1
 refine qij (qil ?_)
 (refine ev_ ?_;(try with_reducible exact ti_))
 refine qba2 (S:=Nat×Int) 0 rfl (fun s=>s.1<l.length∧digW l=true∧qi0 s.2 (l.drop s.1)=qi0 0 l) (fun s=>(⟨[(0,.str l),(5,.int .i64 s.2),(6,.int .i64 s.1)],[]⟩,[])) (fun s=>l.length-s.1) ?_ fun s hs=>?_
 ·repeat'(first|refine vs_ ?_|((first|refine vr_ ?_|(refine cs_ ?_ ?_<;>intro hc)|refine cj_ ?_|simp (disch:=omega) only[qa,qc])<;>try refine ev_ ?_)|with_reducible exact ti_)
  refine qo (S:=Nat) (fun i=>i≤l.length∧digW (l.drop i)=digW l) (fun i=>(⟨[(0,.str l),(9,.int .i64 l.length),(10,.int .i64 i)],[]⟩,[])) (fun i=>l.length-i) ?_ fun i hi=>?_
  ·refine qj 0 [] ⟨Nat.zero_le _,rfl⟩ rfl (by simp) ?_ ?_ ?_<;>(try refine ev_ ?_)<;>(try with_reducible exact ti_)<;>(try simp (disch:=omega) only[qc,and_true,true_and])
  ·obtain⟨hi,ha⟩:=hi
   have hs:i<l.length->qdi (l.getD i 0).toNat=false->qlu l=(0,5):=fun h h2=>quh (by rw[←ha,qj6 h,h2];rfl)
   have hs2:0<l.length->qi0 0 l=if topV (l.getD 0 0)<0 then(0,4) else qi0 (nxtV 0 (l.getD 0 0)) (l.drop 1):=fun h=>by
    have:=qkw (l:=l) (i:=0) h 0
    rwa [List.drop_zero] at this
   have hdig:¬(i:Int)<l.length->digW l=true:=fun h=>by rw[←ha,List.drop_of_length_le (by omega)];rfl
   repeat'(first|refine vs_ ?_|((first|refine vr_ ?_|simp (disch:=omega) only[qc]|simp (disch:=omega) only[qw5]|(refine cs_ ?_ ?_<;>intro hc)|refine cj_ ?_|simp (disch:=omega) only[qa,qc])<;>try refine ev_ ?_)|with_reducible exact ti_)
   all_goals first
    | (rw[hs (by omega) (q7s (by omega))];rfl)
    | (refine qj (i + 1) [] ⟨⟨by omega, ?_⟩, by omega⟩ rfl (by simp) ?_ ?_ ?_ <;> (try refine ev_ ?_) <;> (try with_reducible exact ti_) <;> (try simp (disch := omega) only [qc, and_true, true_and])
       have hd:qdi (l.getD i 0).toNat=true:=q6r (by omega) (by omega)
       rw[←ha,qj6 (l:=l) (i:=i) (by omega),hd,Bool.true_and])
    | (subst hc;rfl)
    | skip
   ·have hlp:=qsy (by assumption)
    have hd:=hdig (by assumption)
    have hc':topV (l.getD 0 0)<0:=hc
    rw[qjs (by assumption) hd,hs2 hlp,if_pos hc'];rfl
   ·rename_i hc0
    have hlp:=qsy (by assumption)
    have hd:=hdig (by assumption)
    have hc':¬topV (l.getD 0 0)<0:=hc0
    refine qj (1,nxtV 0 (l.getD 0 0)) [] ⟨by omega,hd,?_⟩ rfl (by simp) ?_ ?_ ?_<;>(try refine ev_ ?_)<;>(try with_reducible exact ti_)<;>(try simp (disch:=omega) only[qc,and_true,true_and])
    ·rw[hs2 hlp,if_neg hc']
    ·rfl
   ·rename_i hc0
    have hlp:=qsy (by assumption)
    have hd:=hdig (by assumption)
    have hc':¬topV (l.getD 0 0)<0:=hc0
    rw[qjs (by assumption) hd,hs2 hlp,if_neg hc',List.drop_of_length_le (by omega)];rfl
 ·obtain⟨j,k⟩:=s
  obtain⟨hj,hd,hr⟩:=hs
  dsimp only at hj hr
  have hs2:qi0 0 l=if topV (l.getD j 0)<k then(0,4) else qi0 (nxtV k (l.getD j 0)) (l.drop (j+1)):=by rw[←hr,qkw hj]
  have hne:l≠[]:=fun e=>by subst e;simp at hj
  rw[qjs hne hd]
  repeat'(first|refine vs_ ?_|((first|refine vr_ ?_|simp (disch:=omega) only[qc]|simp (disch:=omega) only[qw5]|(refine cs_ ?_ ?_<;>intro hc)|refine cj_ ?_|simp (disch:=omega) only[qa,qc])<;>try refine ev_ ?_)|with_reducible exact ti_)
  ·have hc':topV (l.getD j 0)<k:=hc
   rw[hs2,if_pos hc'];rfl
  ·rename_i hc0
   have hc':¬topV (l.getD j 0)<k:=hc0
   refine qj (j+1,nxtV k (l.getD j 0)) [] ⟨⟨by omega,hd,?_⟩,by omega⟩ rfl (by simp) ?_ ?_ ?_<;>(try refine ev_ ?_)<;>(try with_reducible exact ti_)<;>(try simp (disch:=omega) only[qc,and_true,true_and])
   ·rw[hs2,if_neg hc']
   ·rfl
  ·rename_i hc0
   have hc':¬topV (l.getD j 0)<k:=hc0
   rw[hs2,if_neg hc',List.drop_of_length_le (by omega)];rfl
set_option maxRecDepth 4000

theorem qir(c:Int):qp Tryz.prog 224 [.int .u8 c] (.bool (qdi c)):=by
 refine qe c0bg (by simp) (by simp only[go_sem]) rfl fun hw=>?_
 repeat'(first|refine vs_ ?_|((first|refine vr_ ?_|(refine cs_ ?_ ?_<;>intro hc)|refine cj_ ?_)<;>try refine ev_ ?_)|with_reducible exact ti_)
 all_goals simp[qdi, *]
theorem q04(c:Int):qp Tryz.prog 225 [.int .u8 c] (.bool (onW c)):=by
 refine qe c0bh (by simp) (by simp only[go_sem]) rfl fun hw=>?_
 repeat'(first|refine vs_ ?_|((first|refine vr_ ?_|refine qb (qir _) fun _=>?_|(refine cs_ ?_ ?_<;>intro hc)|refine cj_ ?_)<;>try refine ev_ ?_)|with_reducible exact ti_)
 all_goals simp only[onW,qvo,qvf, *]
 all_goals first | (simp_all;done) | (simp_all;omega)
def qe4(c:Int):Bool:=decide (c=9)||decide (c=10)||decide (c=13)||decide (c=32)
theorem qxf(c:Int):qp Tryz.prog 222 [.int .u8 c] (.bool (qe4 c)):=by
 refine qe c0bi (by simp) (by simp only[go_sem]) rfl fun hw=>?_
 repeat'(first|refine vs_ ?_|((first|refine vr_ ?_|(refine cs_ ?_ ?_<;>intro hc)|refine cj_ ?_)<;>try refine ev_ ?_)|with_reducible exact ti_)
 all_goals simp[qe4, *]
def q2v(c:Int):Bool:=!decide (c=10)
theorem q1q(c:Int):qp Tryz.prog 223 [.int .u8 c] (.bool (q2v c)):=by
 refine qe c0bj (by simp) (by simp only[go_sem]) rfl fun hw=>?_
 repeat'(first|refine vs_ ?_|((first|refine vr_ ?_|(refine cs_ ?_ ?_<;>intro hc)|refine cj_ ?_)<;>try refine ev_ ?_)|with_reducible exact ti_)
 all_goals simp[q2v, *]

def qcl(f:Int->Bool)(l:List UInt8):Nat:=(l.takeWhile fun c=>f c.toNat).length
theorem qiu{f:Int->Bool}{l:List UInt8}{i:Nat}(h:i<l.length):qcl f (l.drop i)=if f (l.getD i 0).toNat then qcl f (l.drop (i+1))+1 else 0:=by
 rw[qj9 h,qcl,List.takeWhile_cons]
 split<;>simp[qcl]
theorem qga{so:FuncId}{f:Int->Bool}(h:∀c,qp Tryz.prog so [.int .u8 c] (.bool (f c)))(l:List UInt8):qp Tryz.prog 221 [.str l,.fn so [] []] (.int .i64 (qcl f l)):=by
 refine qe c0bk (by simp) (by simp only[go_sem]) rfl fun hw=>?_
 have hl:l.length≤maxLen:=hw.1
 repeat'(first|refine vs_ ?_|((first|refine vr_ ?_|(refine cs_ ?_ ?_<;>intro hc)|refine cj_ ?_|simp (disch:=omega) only[qa,qc])<;>try refine ev_ ?_)|with_reducible exact ti_)
 refine qo (S:=Nat) (fun i=>i≤l.length∧qcl f l=i+qcl f (l.drop i)) (fun i=>(⟨[(0,.str l),(1,.fn so [] []),(7,.int .i64 l.length),(8,.int .i64 i)],[]⟩,[])) (fun i=>l.length-i) ?_ fun i hi=>?_
 ·refine qj 0 [] ⟨Nat.zero_le _,by simp⟩ rfl (by simp) ?_ ?_ ?_<;>(try refine ev_ ?_)<;>(try with_reducible exact ti_)<;>(try simp (disch:=omega) only[qc,and_true,true_and])
 ·obtain⟨hi,ha⟩:=hi
  repeat'(first|refine vs_ ?_|((first|refine vr_ ?_|refine qb (h _) fun _=>?_|(refine cs_ ?_ ?_<;>intro hc)|refine cj_ ?_|simp (disch:=omega) only[qa,qc])<;>try refine ev_ ?_)|with_reducible exact ti_)
  ·rw[ha,qiu (by omega),hc];simp
  ·refine qj (i+1) [] ⟨⟨by omega,?_⟩,by omega⟩ rfl (by simp) ?_ ?_ ?_<;>(try refine ev_ ?_)<;>(try with_reducible exact ti_)<;>(try simp (disch:=omega) only[qc,and_true,true_and])
   rw[ha,qiu (by omega),hc];simp;omega
  ·have:i=l.length:=by omega
   subst this
   rw[ha,List.drop_length];simp[qcl]

def pfx(p l:List UInt8):Bool:=decide (l.take p.length=p)
theorem qe8(l p:List UInt8):qp Tryz.prog 231 [.str l,.str p] (.bool (pfx p l)):=by
 refine qe c0bl (by simp) (by simp only[go_sem]) rfl fun hw=>?_
 repeat'(first|refine vs_ ?_|((first|refine vr_ ?_|(refine cs_ ?_ ?_<;>intro hc)|refine cj_ ?_)<;>try refine ev_ ?_)|with_reducible exact ti_)
 ·rfl
 ·rw[pfx,decide_eq_false]
  intro h
  have:=congrArg List.length h
  rw[List.length_take] at this
  omega
theorem qbn(l p:List UInt8):qp Tryz.prog 205 [.str l,.str p] (.bool (pfx p l)):=by
 refine qe c0bm (by simp) (by simp only[go_sem]) rfl fun hw=>?_
 repeat'(first|refine vs_ ?_|((first|refine vr_ ?_|refine qb (qe8 _ _) fun _=>?_|(refine cs_ ?_ ?_<;>intro hc)|refine cj_ ?_)<;>try refine ev_ ?_)|with_reducible exact ti_)

theorem qfu(f:Int->Bool)(l:List UInt8):qcl f l≤l.length:=(List.takeWhile_sublist _).length_le
def qgr(l:List UInt8):Nat:=if pfx [45,45] (l.drop (qcl qe4 l)) then qcl qe4 l+qcl q2v (l.drop (qcl qe4 l)) else qcl qe4 l
theorem qmd(l:List UInt8):qgr l≤l.length:=by
 unfold qgr
 have h1:=qfu qe4 l
 have h2:=qfu q2v (l.drop (qcl qe4 l))
 rw[List.length_drop] at h2
 split<;>omega
def ql1:Nat->List UInt8->Nat
 | 0,_=>0
 | f+1,l=>if qgr l=0 then 0 else qgr l+ql1 f (l.drop (qgr l))
def qcq(l:List UInt8):Nat:=ql1 l.length l
theorem qlg:∀(f g:Nat) (l:List UInt8),l.length≤f->l.length≤g->ql1 f l=ql1 g l
 | 0,0,l,_,_=>rfl
 | 0, g + 1, l, h1, h2 => by
   have:=qmd l
   rw[ql1,ql1,if_pos (by omega)]
 | f + 1, 0, l, h1, h2 => by
   have:=qmd l
   rw[ql1,ql1,if_pos (by omega)]
 | f + 1, g + 1, l, h1, h2 => by
   rw[ql1,ql1]
   split
   ·rfl
   ·rename_i h
    rw[qlg f g _ (by rw[List.length_drop];omega) (by rw[List.length_drop];omega)]
theorem qwo{l:List UInt8}(h:qgr l=0):qcq l=0:=by
 unfold qcq
 cases l.length with
 | zero=>rfl
 | succ n=>rw[ql1,if_pos h]
theorem qw3{l:List UInt8}(h:qgr l≠0):qcq l=qgr l+qcq (l.drop (qgr l)):=by
 have hk:=qmd l
 unfold qcq
 obtain⟨n,hn⟩:∃n,l.length=n+1:=⟨l.length-1,by omega⟩
 rw[hn,ql1,if_neg h,qlg n (l.drop (qgr l)).length _ (by rw[List.length_drop];omega) (Nat.le_refl _)]
theorem q0u(l:List UInt8):qcq l≤l.length:=by
 generalize hn:l.length=n
 induction n using Nat.strongRecOn generalizing l with
 | _ n ih =>
   subst hn
   by_cases h:qgr l=0
   ·rw[qwo h];exact Nat.zero_le _
   ·have hk:=qmd l
    have:=ih (l.drop (qgr l)).length (by rw[List.length_drop];omega) _ rfl
    rw[qw3 h];rw[List.length_drop] at this;omega
theorem qban{l:List UInt8}(h:pfx [45,45] (l.drop (qcl qe4 l))=true):qgr l=qcl qe4 l+qcl q2v (l.drop (qcl qe4 l)):=by rw[qgr,if_pos h]
theorem qbag{l:List UInt8}(h:pfx [45,45] (l.drop (qcl qe4 l))=false):qgr l=qcl qe4 l:=by rw[qgr,h];rfl
theorem qckt(a b:Nat):(a:Int)+(b:Int)=((a+b:Nat):Int):=rfl

theorem qph(l:List UInt8):qp Tryz.prog 184 [.str l] (.int .i64 (qcq l)):=by
 refine qe c0bn (by simp) (by simp only[go_sem]) rfl fun hw=>?_
 have hl:l.length≤maxLen:=hw.1
 repeat'(first|refine vs_ ?_|((first|refine vr_ ?_|(refine cs_ ?_ ?_<;>intro hc)|refine cj_ ?_|simp (disch:=omega) only[qa,qc])<;>try refine ev_ ?_)|with_reducible exact ti_)
 refine qo (S:=Nat) (fun n=>n≤l.length∧qcq l=n+qcq (l.drop n)) (fun n=>(⟨[(0,.str l),(3,.int .i64 n)],[]⟩,[])) (fun n=>l.length-n) ?_ fun n hn=>?_
 ·refine qj 0 [] ⟨Nat.zero_le _,by simp⟩ rfl (by simp) ?_ ?_ ?_<;>(try refine ev_ ?_)<;>(try with_reducible exact ti_)<;>(try simp (disch:=omega) only[qc,and_true,true_and])
 ·obtain⟨hn,ha⟩:=hn
  have h1:=qfu qe4 (l.drop n)
  have h2:=qfu q2v (l.drop (n+qcl qe4 (l.drop n)))
  rw[List.length_drop] at h1 h2
  repeat'(first|refine vs_ ?_|(refine vr_ ?_<;>try simp (disch:=first|omega|(simp only[List.length_set,List.length_append,List.length_cons,List.length_nil];try omega)) only[qfk,go_sem,↓reduceIte])|((first|simp (disch:=omega) only[qfk]|simp (disch:=omega) only[qckt]|simp (disch:=omega) only[Int.toNat_natCast]|(refine cs_ ?_ ?_<;>intro hc)|refine cj_ ?_|simp (disch:=omega) only[qa,qc]|refine qb (qga qxf _) fun _=>?_|refine qb (qbn _ _) fun _=>?_|refine qb (qga q1q _) fun _=>?_)<;>try refine ev_ ?_)|with_reducible exact ti_)
  ·rename_i hp _
   have hk:=qban (l:=l.drop n) (by rw[List.drop_drop];exact hp)
   rw[List.drop_drop] at hk
   rw[ha,qwo (hk.trans (by omega))];rfl
  ·rename_i hp _
   have hk:=qban (l:=l.drop n) (by rw[List.drop_drop];exact hp)
   rw[List.drop_drop] at hk
   refine qj (n+qgr (l.drop n)) [] ⟨⟨by omega,?_⟩,by omega⟩ rfl (by simp) ?_ ?_ ?_<;>(try refine ev_ ?_)<;>(try with_reducible exact ti_)<;>(try simp (disch:=omega) only[qc,and_true,true_and])
   ·rw[ha,qw3 (l:=l.drop n) (by omega),List.drop_drop];omega
   ·rw[hk]
  ·rename_i hp
   have hk:=qbag (l:=l.drop n) (by rw[List.drop_drop];exact hp)
   rw[ha,qwo (hk.trans (by omega))];rfl
  ·rename_i hp
   have hk:=qbag (l:=l.drop n) (by rw[List.drop_drop];exact hp)
   refine qj (n+qgr (l.drop n)) [] ⟨⟨by omega,?_⟩,by omega⟩ rfl (by simp) ?_ ?_ ?_<;>(try refine ev_ ?_)<;>(try with_reducible exact ti_)<;>(try simp (disch:=omega) only[qc,and_true,true_and])
   ·rw[ha,qw3 (l:=l.drop n) (by omega),List.drop_drop];omega
   ·rw[hk]

end Go.Proofs.YtkenggenkmfopaaGreat
