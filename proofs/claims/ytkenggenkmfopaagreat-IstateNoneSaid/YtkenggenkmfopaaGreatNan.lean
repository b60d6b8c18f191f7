/- Texts of this proof, joined. -/
import Derived.Test.YtkenggenkmfopaaGreatNak
import Derived.Test.YtkenggenkmfopaaGreatNam
set_option linter.unusedVariables false
set_option linter.unusedSimpArgs false

/- names -/
set_option maxRecDepth 4000
namespace Go.Proofs.YtkenggenkmfopaaGreat
open Go Go.RowKit Go.V

def q0g (c:Int):Bool:=decide (97≤c) && decide (c≤122) || decide (c = 95)
def qsd (c:Int):Bool:=decide (65≤c) && decide (c≤90)
def qdr (c:Int):Bool:=decide (48≤c) && decide (c≤57)

theorem qro (c:Int):qi Tryz.prog 196 [.int .u8 c] (.bool (q0g c)):=by
 refine qd c0ci (by simp) (by simp only [go_sem]) rfl fun hw=>?_
 repeat' (first | refine vs_ ?_ | ((first | refine vr_ ?_ | (refine cs_ ?_ ?_<;>intro hc) | refine cj_ ?_ | fail)<;>(try refine ev_ ?_)) | with_reducible exact ti_)
 all_goals simp [q0g, *]
theorem qkg (c:Int):qi Tryz.prog 199 [.int .u8 c] (.bool (qsd c)):=by
 refine qd c0cj (by simp) (by simp only [go_sem]) rfl fun hw=>?_
 repeat' (first | refine vs_ ?_ | ((first | refine vr_ ?_ | (refine cs_ ?_ ?_<;>intro hc) | refine cj_ ?_ | fail)<;>(try refine ev_ ?_)) | with_reducible exact ti_)
 all_goals simp [qsd, *]
def onW (c:Int):Bool:=q0g c || qsd c || qdr c || decide (c = 39)
def onsW (l:List UInt8):Bool:=l.all fun c=>onW c.toNat
theorem qje {l:List UInt8} {i:Nat} (h:i < l.length):l.drop i = l.getD i 0 :: l.drop (i + 1):=by
 rw [List.drop_eq_getElem_cons h,List.getD_eq_getElem?_getD,List.getElem?_eq_getElem h];rfl
theorem qn5 {l:List UInt8} {i:Nat} (h:i < l.length):onsW (l.drop i) = (onW (l.getD i 0).toNat && onsW (l.drop (i + 1))):=by
 rw [qje h];rfl
theorem qvg (l:List UInt8):qi Tryz.prog 197 [.str l] (.bool (onsW l)):=by
 refine qd c0ck (by simp) (by simp only [go_sem]) rfl fun hw=>?_
 have hl:l.length≤maxLen:=hw.1
 repeat' (first | refine vs_ ?_ | ((first | refine vr_ ?_ | (refine cs_ ?_ ?_<;>intro hc) | refine cj_ ?_ | simp (disch:=omega) only [encs_getN,qb])<;>(try refine ev_ ?_)) | with_reducible exact ti_)
 refine qp (S:=Nat) (fun i=>i≤l.length∧onsW (l.drop i) = onsW l) (fun i=>(⟨[(0,.str l),(6,.int .i64 l.length),(7,.int .i64 i)],[]⟩,[])) (fun i=>l.length - i) ?_ fun i hi=>?_
 ·refine qm 0 [] ⟨Nat.zero_le _,rfl⟩ rfl (by simp) ?_ ?_ ?_<;>(try refine ev_ ?_)<;>(try with_reducible exact ti_)<;>(try simp (disch:=omega) only [qb,and_true,true_and])
 ·obtain ⟨hi,ha⟩:=hi
  repeat' (first | refine vs_ ?_ | ((first | refine vr_ ?_ | refine qa (qro _) fun _=>?_ | refine qa (qkg _) fun _=>?_ | (refine cs_ ?_ ?_<;>intro hc) | refine cj_ ?_ | simp (disch:=omega) only [encs_getN,qb])<;>(try refine ev_ ?_)) | with_reducible exact ti_)
  all_goals first
   | (refine qm (i + 1) [] ⟨⟨by omega, ?_⟩, by omega⟩ rfl (by simp) ?_ ?_ ?_ <;> (try refine ev_ ?_) <;> (try with_reducible exact ti_) <;> (try simp (disch := omega) only [qb, and_true, true_and])
      rw [← ha,qn5 (l:=l) (i:=i) (by omega)]
      simp_all [onW,qdr]
      try omega)
   | (rw [← ha,show i = l.length by omega,List.drop_length];rfl)
   | (rw [← ha, qn5 (l := l) (i := i) (by omega)]
      simp_all [onW,qdr]
      try omega)

def conW (l:List UInt8):Bool:=decide (l≠[]) && qsd (l.getD 0 0).toNat && onsW l
theorem qjv (l:List UInt8):qi Tryz.prog 148 [.str l] (.bool (conW l)):=by
 refine qd c0cl (by simp) (by simp only [go_sem]) rfl fun hw=>?_
 have hl:l.length≤maxLen:=hw.1
 repeat' (first | refine vs_ ?_ | ((first | refine vr_ ?_ | refine qa (qvg _) fun _=>?_ | refine qa (qkg _) fun _=>?_ | (refine cs_ ?_ ?_<;>intro hc) | refine cj_ ?_ | simp (disch:=omega) only [encs_getN,qb])<;>(try refine ev_ ?_)) | with_reducible exact ti_)
 all_goals simp_all [conW]
set_option maxRecDepth 4000

theorem qzu:IntKind.i64.wrap (0 + 1) = 1:=by decide
def digW (l:List UInt8):Bool:=l.all fun c=>qdr c.toNat
theorem qgw {l:List UInt8} {i:Nat} (h:i < l.length):digW (l.drop i) = (qdr (l.getD i 0).toNat && digW (l.drop (i + 1))):=by
 rw [qje h];rfl

def digV (c:UInt8):Int:=IntKind.i64.wrap (IntKind.u8.wrap ((c.toNat:Int) - 48))
def topV (c:UInt8):Int:=IntKind.i64.wrap ((IntKind.i64.wrap (9223372036854775807 - digV c)).tdiv 10)
def nxtV (k:Int) (c:UInt8):Int:=IntKind.i64.wrap (IntKind.i64.wrap (10 * k) + digV c)
def qgk:Int->List UInt8->Int×Int
 | k,[]=>(k,0)
 | k,c :: r=>if topV c < k then (0,4) else qgk (nxtV k c) r
def qk3 (l:List UInt8):Int×Int:=if l = [] then (0,5) else if digW l = true then qgk 0 l else (0,5)
def q5c (p:Int×Int):AV:=.tup [.int .i64 p.1,.int .i64 p.2]
theorem qh0 {l:List UInt8} {i:Nat} (h:i < l.length) (k:Int):qgk k (l.drop i) = if topV (l.getD i 0) < k then (0,4) else qgk (nxtV k (l.getD i 0)) (l.drop (i + 1)):=by
 rw [qje h];rfl
theorem qyr {c:Int} (h:c < 48∨57 < c):qdr c = false:=by
 simp only [qdr,Bool.and_eq_false_iff,decide_eq_false_iff_not];omega
theorem qzn {c:Int} (h:¬ c < 48) (h2:¬ 57 < c):qdr c = true:=by
 simp only [qdr,Bool.and_eq_true,decide_eq_true_eq];omega
theorem qg2 {l:List UInt8} (h:l≠[]) (hd:digW l = true):qk3 l = qgk 0 l:=by rw [qk3,if_neg h,if_pos hd]
theorem qn3 {l:List UInt8} (hd:digW l = false):qk3 l = (0,5):=by rw [qk3,hd];simp

theorem qbpu (l:List UInt8):qi Tryz.prog 234 [.str l] (q5c (qk3 l)):=by
 refine qd c0cg (by simp) (by simp only [go_sem]) rfl fun hw=>?_
 have hl:l.length≤maxLen:=hw.1
 repeat' (first | refine vs_ ?_ | ((first | refine vr_ ?_ | (refine cs_ ?_ ?_<;>intro hc) | refine cj_ ?_ | simp (disch:=omega) only [encs_getN,qb])<;>(try refine ev_ ?_)) | with_reducible exact ti_)
 ·subst hc;rfl
 ·refine qp (S:=Nat) (fun i=>i≤l.length∧digW (l.drop i) = digW l) (fun i=>(⟨[(0,.str l),(4,.int .i64 i)],[]⟩,[])) (fun i=>l.length - i) ?_ fun i hi=>?_
  ·refine qm 0 [] ⟨Nat.zero_le _,rfl⟩ rfl (by simp) ?_ ?_ ?_<;>(try refine ev_ ?_)<;>(try with_reducible exact ti_)<;>(try simp (disch:=omega) only [qb,and_true,true_and])
  ·obtain ⟨hi,ha⟩:=hi
   have hs:i < l.length->qdr (l.getD i 0).toNat = false->qk3 l = (0,5):=fun h h2=>qn3 (by rw [← ha,qgw h,h2];rfl)
   repeat' (first | refine vs_ ?_ | ((first | refine vr_ ?_ | (refine cs_ ?_ ?_<;>intro hc) | refine cj_ ?_ | simp (disch:=omega) only [encs_getN,qb])<;>(try refine ev_ ?_)) | with_reducible exact ti_)
   ·rw [hs (by omega) (qyr (by omega))];rfl
   ·rw [hs (by omega) (qyr (by omega))];rfl
   ·refine qm (i + 1) [] ⟨⟨by omega,?_⟩,by omega⟩ rfl (by simp) ?_ ?_ ?_<;>(try refine ev_ ?_)<;>(try with_reducible exact ti_)<;>(try simp (disch:=omega) only [qb,and_true,true_and])
    have hd:qdr (l.getD i 0).toNat = true:=qzn (by omega) (by omega)
    rw [← ha,qgw (l:=l) (i:=i) (by omega),hd,Bool.true_and]
   ·have hd:digW l = true:=by rw [← ha,List.drop_of_length_le (by omega)];rfl
    rw [qg2 (by assumption) hd]
    refine qp (S:=Nat×Int) (fun s=>s.1≤l.length∧qgk s.2 (l.drop s.1) = qgk 0 l) (fun s=>(⟨[(0,.str l),(5,.int .i64 s.2),(6,.int .i64 s.1)],[]⟩,[])) (fun s=>l.length - s.1) ?_ fun s hs=>?_
    ·refine qm (0,0) [] ⟨Nat.zero_le _,rfl⟩ rfl (by simp) ?_ ?_ ?_<;>(try refine ev_ ?_)<;>(try with_reducible exact ti_)<;>(try simp (disch:=omega) only [qb,and_true,true_and])
    ·obtain ⟨j,k⟩:=s
     obtain ⟨hj,hr⟩:=hs
     dsimp only at hj hr
     have hs2:j < l.length->qgk 0 l = if topV (l.getD j 0) < k then (0,4) else qgk (nxtV k (l.getD j 0)) (l.drop (j + 1)):=fun h=>by rw [← hr,qh0 h]
     repeat' (first | refine vs_ ?_ | ((first | refine vr_ ?_ | (refine cs_ ?_ ?_<;>intro hc) | refine cj_ ?_ | simp (disch:=omega) only [encs_getN,qb])<;>(try refine ev_ ?_)) | with_reducible exact ti_)
     ·have hc':topV (l.getD j 0) < k:=hc
      rw [hs2 (by omega),if_pos hc'];rfl
     ·have hc':¬ topV (l.getD j 0) < k:=hc
      refine qm (j + 1,nxtV k (l.getD j 0)) [] ⟨⟨by omega,?_⟩,by omega⟩ rfl (by simp) ?_ ?_ ?_<;>(try refine ev_ ?_)<;>(try with_reducible exact ti_)<;>(try simp (disch:=omega) only [qb,and_true,true_and])
      ·rw [hs2 (by omega),if_neg hc']
      ·rfl
     ·rw [← hr,List.drop_of_length_le (by omega)];rfl

theorem qpd (l:List UInt8):qi Tryz.prog 206 [.str l] (q5c (qk3 l)):=by
 refine qd c0ch (by simp) (by simp only [go_sem]) rfl fun hw=>?_
 have hl:l.length≤maxLen:=hw.1
 refine qi8 (qly ?_)
 (refine ev_ ?_;(try with_reducible exact ti_))
 refine qxd (S:=Nat×Int) 0 rfl (fun s=>s.1 < l.length∧digW l = true∧qgk s.2 (l.drop s.1) = qgk 0 l) (fun s=>(⟨[(0,.str l),(5,.int .i64 s.2),(6,.int .i64 s.1)],[]⟩,[])) (fun s=>l.length - s.1) ?_ fun s hs=>?_
 ·repeat' (first | refine vs_ ?_ | ((first | refine vr_ ?_ | (refine cs_ ?_ ?_<;>intro hc) | refine cj_ ?_ | simp (disch:=omega) only [encs_getN,qb])<;>(try refine ev_ ?_)) | with_reducible exact ti_)
  refine qp (S:=Nat) (fun i=>i≤l.length∧digW (l.drop i) = digW l) (fun i=>(⟨[(0,.str l),(9,.int .i64 l.length),(10,.int .i64 i)],[]⟩,[])) (fun i=>l.length - i) ?_ fun i hi=>?_
  ·refine qm 0 [] ⟨Nat.zero_le _,rfl⟩ rfl (by simp) ?_ ?_ ?_<;>(try refine ev_ ?_)<;>(try with_reducible exact ti_)<;>(try simp (disch:=omega) only [qb,and_true,true_and])
  ·obtain ⟨hi,ha⟩:=hi
   have hs:i < l.length->qdr (l.getD i 0).toNat = false->qk3 l = (0,5):=fun h h2=>qn3 (by rw [← ha,qgw h,h2];rfl)
   have hs2:0 < l.length->qgk 0 l = if topV (l.getD 0 0) < 0 then (0,4) else qgk (nxtV 0 (l.getD 0 0)) (l.drop 1):=fun h=>by
    have:=qh0 (l:=l) (i:=0) h 0
    rwa [List.drop_zero] at this
   have hdig:¬ (i:Int) < l.length->digW l = true:=fun h=>by rw [← ha,List.drop_of_length_le (by omega)];rfl
   repeat' (first | refine vs_ ?_ | ((first | refine vr_ ?_ | simp (disch:=omega) only [qb] | simp (disch:=omega) only [qzu] | (refine cs_ ?_ ?_<;>intro hc) | refine cj_ ?_ | simp (disch:=omega) only [encs_getN,qb])<;>(try refine ev_ ?_)) | with_reducible exact ti_)
   all_goals first
    | (rw [hs (by omega) (qyr (by omega))];rfl)
    | (refine qm (i + 1) [] ⟨⟨by omega, ?_⟩, by omega⟩ rfl (by simp) ?_ ?_ ?_ <;> (try refine ev_ ?_) <;> (try with_reducible exact ti_) <;> (try simp (disch := omega) only [qb, and_true, true_and])
       have hd:qdr (l.getD i 0).toNat = true:=qzn (by omega) (by omega)
       rw [← ha,qgw (l:=l) (i:=i) (by omega),hd,Bool.true_and])
    | (subst hc;rfl)
    | skip
   ·have hlp:=qne (by assumption)
    have hd:=hdig (by assumption)
    have hc':topV (l.getD 0 0) < 0:=hc
    rw [qg2 (by assumption) hd,hs2 hlp,if_pos hc'];rfl
   ·rename_i hc0
    have hlp:=qne (by assumption)
    have hd:=hdig (by assumption)
    have hc':¬ topV (l.getD 0 0) < 0:=hc0
    refine qm (1,nxtV 0 (l.getD 0 0)) [] ⟨by omega,hd,?_⟩ rfl (by simp) ?_ ?_ ?_<;>(try refine ev_ ?_)<;>(try with_reducible exact ti_)<;>(try simp (disch:=omega) only [qb,and_true,true_and])
    ·rw [hs2 hlp,if_neg hc']
    ·rfl
   ·rename_i hc0
    have hlp:=qne (by assumption)
    have hd:=hdig (by assumption)
    have hc':¬ topV (l.getD 0 0) < 0:=hc0
    rw [qg2 (by assumption) hd,hs2 hlp,if_neg hc',List.drop_of_length_le (by omega)];rfl
 ·obtain ⟨j,k⟩:=s
  obtain ⟨hj,hd,hr⟩:=hs
  dsimp only at hj hr
  have hs2:qgk 0 l = if topV (l.getD j 0) < k then (0,4) else qgk (nxtV k (l.getD j 0)) (l.drop (j + 1)):=by rw [← hr,qh0 hj]
  have hne:l≠[]:=fun e=>by subst e;simp at hj
  rw [qg2 hne hd]
  repeat' (first | refine vs_ ?_ | ((first | refine vr_ ?_ | simp (disch:=omega) only [qb] | simp (disch:=omega) only [qzu] | (refine cs_ ?_ ?_<;>intro hc) | refine cj_ ?_ | simp (disch:=omega) only [encs_getN,qb])<;>(try refine ev_ ?_)) | with_reducible exact ti_)
  ·have hc':topV (l.getD j 0) < k:=hc
   rw [hs2,if_pos hc'];rfl
  ·rename_i hc0
   have hc':¬ topV (l.getD j 0) < k:=hc0
   refine qm (j + 1,nxtV k (l.getD j 0)) [] ⟨⟨by omega,hd,?_⟩,by omega⟩ rfl (by simp) ?_ ?_ ?_<;>(try refine ev_ ?_)<;>(try with_reducible exact ti_)<;>(try simp (disch:=omega) only [qb,and_true,true_and])
   ·rw [hs2,if_neg hc']
   ·rfl
  ·rename_i hc0
   have hc':¬ topV (l.getD j 0) < k:=hc0
   rw [hs2,if_neg hc',List.drop_of_length_le (by omega)];rfl
set_option maxRecDepth 4000

theorem q97 (c:Int):qi Tryz.prog 224 [.int .u8 c] (.bool (qdr c)):=by
 refine qd c0cd (by simp) (by simp only [go_sem]) rfl fun hw=>?_
 repeat' (first | refine vs_ ?_ | ((first | refine vr_ ?_ | (refine cs_ ?_ ?_<;>intro hc) | refine cj_ ?_ | fail)<;>(try refine ev_ ?_)) | with_reducible exact ti_)
 all_goals simp [qdr, *]
def pfx (p l:List UInt8):Bool:=decide (l.take p.length = p)
theorem qdk (l p:List UInt8):qi Tryz.prog 231 [.str l,.str p] (.bool (pfx p l)):=by
 refine qd c0ce (by simp) (by simp only [go_sem]) rfl fun hw=>?_
 repeat' (first | refine vs_ ?_ | ((first | refine vr_ ?_ | (refine cs_ ?_ ?_<;>intro hc) | refine cj_ ?_ | fail)<;>(try refine ev_ ?_)) | with_reducible exact ti_)
 ·rfl
 ·rw [pfx,decide_eq_false]
  intro h
  have:=congrArg List.length h
  rw [List.length_take] at this
  omega
theorem qb2 (l p:List UInt8):qi Tryz.prog 205 [.str l,.str p] (.bool (pfx p l)):=by
 refine qd c0cf (by simp) (by simp only [go_sem]) rfl fun hw=>?_
 repeat' (first | refine vs_ ?_ | ((first | refine vr_ ?_ | refine qa (qdk _ _) fun _=>?_ | (refine cs_ ?_ ?_<;>intro hc) | refine cj_ ?_ | fail)<;>(try refine ev_ ?_)) | with_reducible exact ti_)

end Go.Proofs.YtkenggenkmfopaaGreat
