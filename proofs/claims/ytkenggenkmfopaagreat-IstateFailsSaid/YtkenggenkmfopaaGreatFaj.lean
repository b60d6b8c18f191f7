/- Texts of this proof, joined. -/
import Derived.Test.YtkenggenkmfopaaGreatFag
import Derived.Test.YtkenggenkmfopaaGreatFai
set_option linter.unusedVariables false
set_option linter.unusedSimpArgs false

/- names -/
set_option maxRecDepth 4000
namespace Go.Proofs.YtkenggenkmfopaaGreat
open Go Go.RowKit Go.V

def quz(c:Int):Bool:=decide (97≤c)&&decide (c≤122)||decide (c=95)
def qji(c:Int):Bool:=decide (65≤c)&&decide (c≤90)
def qeb(c:Int):Bool:=decide (48≤c)&&decide (c≤57)

theorem qwt(c:Int):qj Tryz.prog 196 [.int .u8 c] (.bool (quz c)):=by
 refine qd c0ci (by simp) (by simp only[go_sem]) rfl fun hw=>?_
 repeat'(first|refine vs_ ?_|((first|refine vr_ ?_|(refine cs_ ?_ ?_<;>intro hc)|refine cj_ ?_)<;>try refine ev_ ?_)|with_reducible exact ti_)
 all_goals simp[quz, *]
theorem qwr(c:Int):qj Tryz.prog 247 [.int .u8 c] (.bool (quz c)):=by
 refine qd c0cj (by simp) (by simp only[go_sem]) rfl fun hw=>?_
 repeat'(first|refine vs_ ?_|((first|refine vr_ ?_|(refine cs_ ?_ ?_<;>intro hc)|refine cj_ ?_)<;>try refine ev_ ?_)|with_reducible exact ti_)
 all_goals simp[quz, *]
theorem qmn(c:Int):qj Tryz.prog 199 [.int .u8 c] (.bool (qji c)):=by
 refine qd c0ck (by simp) (by simp only[go_sem]) rfl fun hw=>?_
 repeat'(first|refine vs_ ?_|((first|refine vr_ ?_|(refine cs_ ?_ ?_<;>intro hc)|refine cj_ ?_)<;>try refine ev_ ?_)|with_reducible exact ti_)
 all_goals simp[qji, *]
theorem qnw(c:Int):qj Tryz.prog 235 [.int .u8 c] (.bool (qji c)):=by
 refine qd c0cl (by simp) (by simp only[go_sem]) rfl fun hw=>?_
 repeat'(first|refine vs_ ?_|((first|refine vr_ ?_|(refine cs_ ?_ ?_<;>intro hc)|refine cj_ ?_)<;>try refine ev_ ?_)|with_reducible exact ti_)
 all_goals simp[qji, *]
theorem qw8(c:Int):qj Tryz.prog 248 [.int .u8 c] (.bool (qeb c)):=by
 refine qd c0cm (by simp) (by simp only[go_sem]) rfl fun hw=>?_
 repeat'(first|refine vs_ ?_|((first|refine vr_ ?_|(refine cs_ ?_ ?_<;>intro hc)|refine cj_ ?_)<;>try refine ev_ ?_)|with_reducible exact ti_)
 all_goals simp[qeb, *]
def onW(c:Int):Bool:=quz c||qji c||qeb c||decide (c=39)
theorem qbjz(c:Int):qj Tryz.prog 244 [.int .u8 c] (.bool (onW c)):=by
 refine qd c0cn (by simp) (by simp only[go_sem]) rfl fun hw=>?_
 repeat'(first|refine vs_ ?_|((first|refine vr_ ?_|refine qa (qwr _) fun _=>?_|refine qa (qnw _) fun _=>?_|refine qa (qw8 _) fun _=>?_|(refine cs_ ?_ ?_<;>intro hc)|refine cj_ ?_)<;>try refine ev_ ?_)|with_reducible exact ti_)
 all_goals simp[onW, *]

def onsW(l:List UInt8):Bool:=l.all fun c=>onW c.toNat
theorem qmh{l:List UInt8}{i:Nat}(h:i<l.length):l.drop i=l.getD i 0::l.drop (i+1):=by
 rw[List.drop_eq_getElem_cons h,List.getD_eq_getElem?_getD,List.getElem?_eq_getElem h];rfl
theorem qg3{l:List UInt8}{i:Nat}(h:i<l.length):onsW (l.drop i)=(onW (l.getD i 0).toNat&&onsW (l.drop (i+1))):=by
 rw[qmh h];rfl
theorem q0x(l:List UInt8):qj Tryz.prog 197 [.str l] (.bool (onsW l)):=by
 refine qd c0co (by simp) (by simp only[go_sem]) rfl fun hw=>?_
 have hl:l.length≤maxLen:=hw.1
 repeat'(first|refine vs_ ?_|((first|refine vr_ ?_|(refine cs_ ?_ ?_<;>intro hc)|refine cj_ ?_)<;>try refine ev_ ?_)|with_reducible exact ti_)
 refine qk (S:=Nat) (fun i=>i≤l.length∧onsW (l.drop i)=onsW l) (fun i=>(⟨[(0,.str l),(6,.int .i64 l.length),(7,.int .i64 i)],[]⟩,[])) (fun i=>l.length-i) ?_ fun i hi=>?_
 ·refine qg 0 [] ⟨Nat.zero_le _,rfl⟩ rfl (by simp) ?_ ?_ ?_<;>(try refine ev_ ?_)<;>(try with_reducible exact ti_)<;>(try simp (disch:=omega) only[qb,and_true,true_and])
 ·obtain⟨hi,ha⟩:=hi
  repeat'(first|refine vs_ ?_|((first|refine vr_ ?_|refine qa (qwt _) fun _=>?_|refine qa (qmn _) fun _=>?_|(refine cs_ ?_ ?_<;>intro hc)|refine cj_ ?_)<;>try refine ev_ ?_)|with_reducible exact ti_)
  all_goals first
   | (refine qg (i + 1) [] ⟨⟨by omega, ?_⟩, by omega⟩ rfl (by simp) ?_ ?_ ?_ <;> (try refine ev_ ?_) <;> (try with_reducible exact ti_) <;> (try simp (disch := omega) only [qb, and_true, true_and])
      rw[←ha,qg3 (l:=l) (i:=i) (by omega)]
      simp_all[onW,qeb]
      try omega)
   | (rw[←ha,show i=l.length by omega,List.drop_length];rfl)
   | (rw [← ha, qg3 (l := l) (i := i) (by omega)]
      simp_all[onW,qeb]
      try omega)

theorem qbf2(l:List UInt8):qj Tryz.prog 236 [.str l] (.bool (onsW (l.drop 1))):=by
 refine qd c0cp (by simp) (by simp only[go_sem]) rfl fun hw=>?_
 have hl:l.length≤maxLen:=hw.1
 repeat'(first|refine vs_ ?_|((first|refine vr_ ?_|(refine cs_ ?_ ?_<;>intro hc)|refine cj_ ?_)<;>try refine ev_ ?_)|with_reducible exact ti_)
 refine qk (S:=Nat) (fun i=>1≤i∧onsW (l.drop i)=onsW (l.drop 1)) (fun i=>(⟨[(0,.str l),(3,.int .i64 i)],[]⟩,[])) (fun i=>l.length-i) ?_ fun i hi=>?_
 ·refine qg 1 [] ⟨Nat.le_refl _,rfl⟩ rfl (by simp) ?_ ?_ ?_<;>(try refine ev_ ?_)<;>(try with_reducible exact ti_)<;>(try simp (disch:=omega) only[qb,and_true,true_and])
 ·obtain⟨hi,ha⟩:=hi
  repeat'(first|refine vs_ ?_|((first|refine vr_ ?_|refine qa (qbjz _) fun _=>?_|(refine cs_ ?_ ?_<;>intro hc)|refine cj_ ?_)<;>try refine ev_ ?_)|with_reducible exact ti_)
  ·rw[←ha,qg3 (l:=l) (i:=i) (by omega),hc];rfl
  ·refine qg (i+1) [] ⟨⟨by omega,?_⟩,by omega⟩ rfl (by simp) ?_ ?_ ?_<;>(try refine ev_ ?_)<;>(try with_reducible exact ti_)<;>(try simp (disch:=omega) only[qb,and_true,true_and])
   rw[←ha,qg3 (l:=l) (i:=i) (by omega),hc,Bool.true_and]
  ·rw[←ha,List.drop_of_length_le (by omega)];rfl

def conW(l:List UInt8):Bool:=decide (l≠[])&&qji (l.getD 0 0).toNat&&onsW l
theorem ql2(l:List UInt8):qj Tryz.prog 148 [.str l] (.bool (conW l)):=by
 refine qd c0cq (by simp) (by simp only[go_sem]) rfl fun hw=>?_
 have hl:l.length≤maxLen:=hw.1
 repeat'(first|refine vs_ ?_|((first|refine vr_ ?_|refine qa (q0x _) fun _=>?_|refine qa (qmn _) fun _=>?_|(refine cs_ ?_ ?_<;>intro hc)|refine cj_ ?_)<;>try refine ev_ ?_)|with_reducible exact ti_)
 all_goals simp_all[conW]
theorem q80{l:List UInt8}(h:¬l=[]):onsW l=(onW (l.getD 0 0).toNat&&onsW (l.drop 1)):=qg3 (l:=l) (i:=0) (qnc h)
theorem qbdb{c:Int}(h:qji c=true):onW c=true:=by simp[onW,h]
theorem qr8(l:List UInt8):qj Tryz.prog 212 [.str l] (.bool (conW l)):=by
 refine qd c0cr (by simp) (by simp only[go_sem]) rfl fun hw=>?_
 have hl:l.length≤maxLen:=hw.1
 have hk:conW l=(decide (l≠[])&&qji (l.getD 0 0).toNat&&onsW (l.drop 1)):=by
  by_cases h:l=[]
  ·subst h;rfl
  ·rw[conW,q80 h]
   cases hg:qji (l.getD 0 0).toNat
   ·simp
   ·rw[qbdb hg];simp
 rw[hk]
 repeat'(first|refine vs_ ?_|((first|refine vr_ ?_|refine qa (qbf2 _) fun _=>?_|refine qa (qnw _) fun _=>?_|(refine cs_ ?_ ?_<;>intro hc)|refine cj_ ?_)<;>try refine ev_ ?_)|with_reducible exact ti_)
 all_goals simp_all
set_option maxRecDepth 4000

theorem qkj:IntKind.i64.wrap (0+1)=1:=by decide
def digW(l:List UInt8):Bool:=l.all fun c=>qeb c.toNat
theorem qi8{l:List UInt8}{i:Nat}(h:i<l.length):digW (l.drop i)=(qeb (l.getD i 0).toNat&&digW (l.drop (i+1))):=by
 rw[qmh h];rfl

def digV(c:UInt8):Int:=IntKind.i64.wrap (IntKind.u8.wrap ((c.toNat:Int)-48))
def topV(c:UInt8):Int:=IntKind.i64.wrap ((IntKind.i64.wrap (9223372036854775807-digV c)).tdiv 10)
def nxtV(k:Int)(c:UInt8):Int:=IntKind.i64.wrap (IntKind.i64.wrap (10*k)+digV c)
def qib:Int->List UInt8->Int×Int
 | k,[]=>(k,0)
 | k,c::r=>if topV c<k then(0,4) else qib (nxtV k c) r
def qoo(l:List UInt8):Int×Int:=if l=[] then(0,5) else if digW l=true then qib 0 l else(0,5)
def q85(p:Int×Int):AV:=.tup [.int .i64 p.1,.int .i64 p.2]
theorem qj5{l:List UInt8}{i:Nat}(h:i<l.length)(k:Int):qib k (l.drop i)=if topV (l.getD i 0)<k then(0,4) else qib (nxtV k (l.getD i 0)) (l.drop (i+1)):=by
 rw[qmh h];rfl
theorem q3v{c:Int}(h:c<48∨57<c):qeb c=false:=by
 simp only[qeb,Bool.and_eq_false_iff,decide_eq_false_iff_not];omega
theorem q6g{c:Int}(h:¬c<48)(h2:¬57<c):qeb c=true:=by
 simp only[qeb,Bool.and_eq_true,decide_eq_true_eq];omega
theorem qi0{l:List UInt8}(h:l≠[])(hd:digW l=true):qoo l=qib 0 l:=by rw[qoo,if_neg h,if_pos hd]
theorem qs4{l:List UInt8}(hd:digW l=false):qoo l=(0,5):=by rw[qoo,hd];simp

theorem qpx(l:List UInt8):qj Tryz.prog 234 [.str l] (q85 (qoo l)):=by
 refine qd c0cg (by simp) (by simp only[go_sem]) rfl fun hw=>?_
 have hl:l.length≤maxLen:=hw.1
 repeat'(first|refine vs_ ?_|((first|refine vr_ ?_|(refine cs_ ?_ ?_<;>intro hc)|refine cj_ ?_)<;>try refine ev_ ?_)|with_reducible exact ti_)
 ·subst hc;rfl
 ·refine qk (S:=Nat) (fun i=>i≤l.length∧digW (l.drop i)=digW l) (fun i=>(⟨[(0,.str l),(4,.int .i64 i)],[]⟩,[])) (fun i=>l.length-i) ?_ fun i hi=>?_
  ·refine qg 0 [] ⟨Nat.zero_le _,rfl⟩ rfl (by simp) ?_ ?_ ?_<;>(try refine ev_ ?_)<;>(try with_reducible exact ti_)<;>(try simp (disch:=omega) only[qb,and_true,true_and])
  ·obtain⟨hi,ha⟩:=hi
   have hs:i<l.length->qeb (l.getD i 0).toNat=false->qoo l=(0,5):=fun h h2=>qs4 (by rw[←ha,qi8 h,h2];rfl)
   repeat'(first|refine vs_ ?_|((first|refine vr_ ?_|(refine cs_ ?_ ?_<;>intro hc)|refine cj_ ?_)<;>try refine ev_ ?_)|with_reducible exact ti_)
   ·rw[hs (by omega) (q3v (by omega))];rfl
   ·rw[hs (by omega) (q3v (by omega))];rfl
   ·refine qg (i+1) [] ⟨⟨by omega,?_⟩,by omega⟩ rfl (by simp) ?_ ?_ ?_<;>(try refine ev_ ?_)<;>(try with_reducible exact ti_)<;>(try simp (disch:=omega) only[qb,and_true,true_and])
    have hd:qeb (l.getD i 0).toNat=true:=q6g (by omega) (by omega)
    rw[←ha,qi8 (l:=l) (i:=i) (by omega),hd,Bool.true_and]
   ·have hd:digW l=true:=by rw[←ha,List.drop_of_length_le (by omega)];rfl
    rw[qi0 (by assumption) hd]
    refine qk (S:=Nat×Int) (fun s=>s.1≤l.length∧qib s.2 (l.drop s.1)=qib 0 l) (fun s=>(⟨[(0,.str l),(5,.int .i64 s.2),(6,.int .i64 s.1)],[]⟩,[])) (fun s=>l.length-s.1) ?_ fun s hs=>?_
    ·refine qg (0,0) [] ⟨Nat.zero_le _,rfl⟩ rfl (by simp) ?_ ?_ ?_<;>(try refine ev_ ?_)<;>(try with_reducible exact ti_)<;>(try simp (disch:=omega) only[qb,and_true,true_and])
    ·obtain⟨j,k⟩:=s
     obtain⟨hj,hr⟩:=hs
     dsimp only at hj hr
     have hs2:j<l.length->qib 0 l=if topV (l.getD j 0)<k then(0,4) else qib (nxtV k (l.getD j 0)) (l.drop (j+1)):=fun h=>by rw[←hr,qj5 h]
     repeat'(first|refine vs_ ?_|((first|refine vr_ ?_|(refine cs_ ?_ ?_<;>intro hc)|refine cj_ ?_)<;>try refine ev_ ?_)|with_reducible exact ti_)
     ·have hc':topV (l.getD j 0)<k:=hc
      rw[hs2 (by omega),if_pos hc'];rfl
     ·have hc':¬topV (l.getD j 0)<k:=hc
      refine qg (j+1,nxtV k (l.getD j 0)) [] ⟨⟨by omega,?_⟩,by omega⟩ rfl (by simp) ?_ ?_ ?_<;>(try refine ev_ ?_)<;>(try with_reducible exact ti_)<;>(try simp (disch:=omega) only[qb,and_true,true_and])
      ·rw[hs2 (by omega),if_neg hc']
      ·rfl
     ·rw[←hr,List.drop_of_length_le (by omega)];rfl

theorem qsk(l:List UInt8):qj Tryz.prog 206 [.str l] (q85 (qoo l)):=by
 refine qd c0ch (by simp) (by simp only[go_sem]) rfl fun hw=>?_
 have hl:l.length≤maxLen:=hw.1
 refine qnt (qo0 ?_)
 (refine ev_ ?_;(try with_reducible exact ti_))
 refine q7o (S:=Nat×Int) 0 rfl (fun s=>s.1<l.length∧digW l=true∧qib s.2 (l.drop s.1)=qib 0 l) (fun s=>(⟨[(0,.str l),(5,.int .i64 s.2),(6,.int .i64 s.1)],[]⟩,[])) (fun s=>l.length-s.1) ?_ fun s hs=>?_
 ·repeat'(first|refine vs_ ?_|((first|refine vr_ ?_|(refine cs_ ?_ ?_<;>intro hc)|refine cj_ ?_)<;>try refine ev_ ?_)|with_reducible exact ti_)
  refine qk (S:=Nat) (fun i=>i≤l.length∧digW (l.drop i)=digW l) (fun i=>(⟨[(0,.str l),(9,.int .i64 l.length),(10,.int .i64 i)],[]⟩,[])) (fun i=>l.length-i) ?_ fun i hi=>?_
  ·refine qg 0 [] ⟨Nat.zero_le _,rfl⟩ rfl (by simp) ?_ ?_ ?_<;>(try refine ev_ ?_)<;>(try with_reducible exact ti_)<;>(try simp (disch:=omega) only[qb,and_true,true_and])
  ·obtain⟨hi,ha⟩:=hi
   have hs:i<l.length->qeb (l.getD i 0).toNat=false->qoo l=(0,5):=fun h h2=>qs4 (by rw[←ha,qi8 h,h2];rfl)
   have hs2:0<l.length->qib 0 l=if topV (l.getD 0 0)<0 then(0,4) else qib (nxtV 0 (l.getD 0 0)) (l.drop 1):=fun h=>by
    have:=qj5 (l:=l) (i:=0) h 0
    rwa [List.drop_zero] at this
   have hdig:¬(i:Int)<l.length->digW l=true:=fun h=>by rw[←ha,List.drop_of_length_le (by omega)];rfl
   repeat'(first|refine vs_ ?_|((first|refine vr_ ?_|simp (disch:=omega) only[qb]|simp (disch:=omega) only[qkj]|(refine cs_ ?_ ?_<;>intro hc)|refine cj_ ?_)<;>try refine ev_ ?_)|with_reducible exact ti_)
   all_goals first
    | (rw[hs (by omega) (q3v (by omega))];rfl)
    | (refine qg (i + 1) [] ⟨⟨by omega, ?_⟩, by omega⟩ rfl (by simp) ?_ ?_ ?_ <;> (try refine ev_ ?_) <;> (try with_reducible exact ti_) <;> (try simp (disch := omega) only [qb, and_true, true_and])
       have hd:qeb (l.getD i 0).toNat=true:=q6g (by omega) (by omega)
       rw[←ha,qi8 (l:=l) (i:=i) (by omega),hd,Bool.true_and])
    | (subst hc;rfl)
    | skip
   ·have hlp:=qnc (by assumption)
    have hd:=hdig (by assumption)
    have hc':topV (l.getD 0 0)<0:=hc
    rw[qi0 (by assumption) hd,hs2 hlp,if_pos hc'];rfl
   ·rename_i hc0
    have hlp:=qnc (by assumption)
    have hd:=hdig (by assumption)
    have hc':¬topV (l.getD 0 0)<0:=hc0
    refine qg (1,nxtV 0 (l.getD 0 0)) [] ⟨by omega,hd,?_⟩ rfl (by simp) ?_ ?_ ?_<;>(try refine ev_ ?_)<;>(try with_reducible exact ti_)<;>(try simp (disch:=omega) only[qb,and_true,true_and])
    ·rw[hs2 hlp,if_neg hc']
    ·rfl
   ·rename_i hc0
    have hlp:=qnc (by assumption)
    have hd:=hdig (by assumption)
    have hc':¬topV (l.getD 0 0)<0:=hc0
    rw[qi0 (by assumption) hd,hs2 hlp,if_neg hc',List.drop_of_length_le (by omega)];rfl
 ·obtain⟨j,k⟩:=s
  obtain⟨hj,hd,hr⟩:=hs
  dsimp only at hj hr
  have hs2:qib 0 l=if topV (l.getD j 0)<k then(0,4) else qib (nxtV k (l.getD j 0)) (l.drop (j+1)):=by rw[←hr,qj5 hj]
  have hne:l≠[]:=fun e=>by subst e;simp at hj
  rw[qi0 hne hd]
  repeat'(first|refine vs_ ?_|((first|refine vr_ ?_|simp (disch:=omega) only[qb]|simp (disch:=omega) only[qkj]|(refine cs_ ?_ ?_<;>intro hc)|refine cj_ ?_)<;>try refine ev_ ?_)|with_reducible exact ti_)
  ·have hc':topV (l.getD j 0)<k:=hc
   rw[hs2,if_pos hc'];rfl
  ·rename_i hc0
   have hc':¬topV (l.getD j 0)<k:=hc0
   refine qg (j+1,nxtV k (l.getD j 0)) [] ⟨⟨by omega,hd,?_⟩,by omega⟩ rfl (by simp) ?_ ?_ ?_<;>(try refine ev_ ?_)<;>(try with_reducible exact ti_)<;>(try simp (disch:=omega) only[qb,and_true,true_and])
   ·rw[hs2,if_neg hc']
   ·rfl
  ·rename_i hc0
   have hc':¬topV (l.getD j 0)<k:=hc0
   rw[hs2,if_neg hc',List.drop_of_length_le (by omega)];rfl
set_option maxRecDepth 4000

theorem qbn9(c:Int):qj Tryz.prog 224 [.int .u8 c] (.bool (qeb c)):=by
 refine qd c0cd (by simp) (by simp only[go_sem]) rfl fun hw=>?_
 repeat'(first|refine vs_ ?_|((first|refine vr_ ?_|(refine cs_ ?_ ?_<;>intro hc)|refine cj_ ?_)<;>try refine ev_ ?_)|with_reducible exact ti_)
 all_goals simp[qeb, *]
def pfx(p l:List UInt8):Bool:=decide (l.take p.length=p)
theorem qe5(l p:List UInt8):qj Tryz.prog 231 [.str l,.str p] (.bool (pfx p l)):=by
 refine qd c0ce (by simp) (by simp only[go_sem]) rfl fun hw=>?_
 repeat'(first|refine vs_ ?_|((first|refine vr_ ?_|(refine cs_ ?_ ?_<;>intro hc)|refine cj_ ?_)<;>try refine ev_ ?_)|with_reducible exact ti_)
 ·rfl
 ·rw[pfx,decide_eq_false]
  intro h
  have:=congrArg List.length h
  rw[List.length_take] at this
  omega
theorem qc1(l p:List UInt8):qj Tryz.prog 205 [.str l,.str p] (.bool (pfx p l)):=by
 refine qd c0cf (by simp) (by simp only[go_sem]) rfl fun hw=>?_
 repeat'(first|refine vs_ ?_|((first|refine vr_ ?_|refine qa (qe5 _ _) fun _=>?_|(refine cs_ ?_ ?_<;>intro hc)|refine cj_ ?_)<;>try refine ev_ ?_)|with_reducible exact ti_)

end Go.Proofs.YtkenggenkmfopaaGreat
