/- Texts of this proof, joined. -/
import Derived.Test.YtfjbmjplnmaclaaJaj
import Derived.Test.YtfjbmjplnmaclaaJam
set_option linter.unusedVariables false
set_option linter.unusedSimpArgs false

/- names -/
set_option maxRecDepth 4000
namespace Go.Proofs.Ytfjbmjplnmaclaa
open Go Go.RowKit Go.V

def qvy (c:Int):Bool:=decide (97≤c) && decide (c≤122) || decide (c = 95)
def qro (c:Int):Bool:=decide (65≤c) && decide (c≤90)
def qcd (c:Int):Bool:=decide (48≤c) && decide (c≤57)

theorem qyh (c:Int):qc9 Try.prog 94 [.int .u8 c] (.bool (qvy c)):=by
 refine qb3 c0cc (by simp) (by simp only [go_sem]) rfl fun hw=>?_
 repeat' (first | refine vs_ ?_ | ((first | refine vr_ ?_ | (refine cs_ ?_ ?_<;>intro hc) | refine cj_ ?_ | fail)<;>(try refine ev_ ?_)) | with_reducible exact ti_)
 all_goals simp [qvy, *]
theorem qou (c:Int):qc9 Try.prog 86 [.int .u8 c] (.bool (qro c)):=by
 refine qb3 c0cd (by simp) (by simp only [go_sem]) rfl fun hw=>?_
 repeat' (first | refine vs_ ?_ | ((first | refine vr_ ?_ | (refine cs_ ?_ ?_<;>intro hc) | refine cj_ ?_ | fail)<;>(try refine ev_ ?_)) | with_reducible exact ti_)
 all_goals simp [qro, *]
def onW (c:Int):Bool:=qvy c || qro c || qcd c || decide (c = 39)
def onsW (l:List UInt8):Bool:=l.all fun c=>onW c.toNat
theorem qlf {l:List UInt8} {i:Nat} (h:i < l.length):l.drop i = l.getD i 0 :: l.drop (i + 1):=by
 rw [List.drop_eq_getElem_cons h,List.getD_eq_getElem?_getD,List.getElem?_eq_getElem h];rfl
theorem qt7 {l:List UInt8} {i:Nat} (h:i < l.length):onsW (l.drop i) = (onW (l.getD i 0).toNat && onsW (l.drop (i + 1))):=by
 rw [qlf h];rfl
theorem q3b (l:List UInt8):qc9 Try.prog 87 [.str l] (.bool (onsW l)):=by
 refine qb3 c0ce (by simp) (by simp only [go_sem]) rfl fun hw=>?_
 have hl:l.length≤maxLen:=hw.1
 repeat' (first | refine vs_ ?_ | ((first | refine vr_ ?_ | (refine cs_ ?_ ?_<;>intro hc) | refine cj_ ?_ | simp (disch:=omega) only [qk,qbb])<;>(try refine ev_ ?_)) | with_reducible exact ti_)
 refine qct (S:=Nat) (fun i=>i≤l.length∧onsW (l.drop i) = onsW l) (fun i=>(⟨[(0,.str l),(6,.int .i64 l.length),(7,.int .i64 i)],[]⟩,[])) (fun i=>l.length - i) ?_ fun i hi=>?_
 ·refine qb1 0 [] ⟨Nat.zero_le _,rfl⟩ rfl (by simp) ?_ ?_ ?_<;>(try refine ev_ ?_)<;>(try with_reducible exact ti_)<;>(try simp (disch:=omega) only [qbb,and_true,true_and])
 ·obtain ⟨hi,ha⟩:=hi
  repeat' (first | refine vs_ ?_ | ((first | refine vr_ ?_ | refine qf (qyh _) fun _=>?_ | refine qf (qou _) fun _=>?_ | (refine cs_ ?_ ?_<;>intro hc) | refine cj_ ?_ | simp (disch:=omega) only [qk,qbb])<;>(try refine ev_ ?_)) | with_reducible exact ti_)
  all_goals first
   | (refine qb1 (i + 1) [] ⟨⟨by omega, ?_⟩, by omega⟩ rfl (by simp) ?_ ?_ ?_ <;> (try refine ev_ ?_) <;> (try with_reducible exact ti_) <;> (try simp (disch := omega) only [qbb, and_true, true_and])
      rw [← ha,qt7 (l:=l) (i:=i) (by omega)]
      simp_all [onW,qcd]
      try omega)
   | (rw [← ha,show i = l.length by omega,List.drop_length];rfl)
   | (rw [← ha, qt7 (l := l) (i := i) (by omega)]
      simp_all [onW,qcd]
      try omega)

def wordsW:List (List UInt8):=[[100,97,116,97],[99,108,97,115,115],[105,110,115,116,97,110,99,101],[119,104,101,114,101],[108,101,116],[105,110],[99,97,115,101],[111,102],[105,102],[116,104,101,110],[101,108,115,101]]
def resW (l:List UInt8):Bool:=wordsW.contains l
theorem q59:(wordsW.map AV.str).length = 11:=rfl
theorem q6j {i:Nat} (h:i < 11):(wordsW.map AV.str).getD i .junk = .str (wordsW.getD i []):=by
 have h':i < wordsW.length:=h
 rw [List.getD_eq_getElem?_getD,List.getElem?_map,List.getD_eq_getElem?_getD,List.getElem?_eq_getElem h'];rfl
theorem qsc {i:Nat} (h:i < 11):wordsW.drop i = wordsW.getD i [] :: wordsW.drop (i + 1):=by
 have h':i < wordsW.length:=h
 rw [List.drop_eq_getElem_cons h',List.getD_eq_getElem?_getD,List.getElem?_eq_getElem h'];rfl
theorem qqw (l:List UInt8):qc9 Try.prog 79 [.str l] (.bool (resW l)):=by
 refine qb3 c0cf (by simp) (by simp only [go_sem]) rfl fun hw=>?_
 repeat' (first | refine vs_ ?_ | ((first | refine vr_ ?_ | (refine cs_ ?_ ?_<;>intro hc) | refine cj_ ?_ | simp (disch:=omega) only [qk,qbb])<;>(try refine ev_ ?_)) | with_reducible exact ti_)
 refine qct (S:=Nat) (fun i=>i≤11∧(wordsW.drop i).contains l = resW l) (fun i=>(⟨[(0,.str l),(3,.bool false),(6,.agg (wordsW.map AV.str)),(7,.int .i64 i)],[]⟩,[])) (fun i=>11 - i) ?_ fun i hi=>?_
 ·refine qb1 0 [] ⟨Nat.zero_le _,rfl⟩ rfl (by simp) ?_ ?_ ?_<;>(try refine ev_ ?_)<;>(try with_reducible exact ti_)<;>(try simp (disch:=omega) only [qbb,and_true,true_and])
  exact ⟨rfl,rfl⟩
 ·obtain ⟨hi,ha⟩:=hi
  repeat' (first | refine vs_ ?_ | ((first | refine vr_ ?_ | (refine cs_ ?_ ?_<;>intro hc) | refine cj_ ?_ | simp (disch:=omega) only [qk,qbb])<;>(try refine ev_ ?_)) | with_reducible exact ti_)
  ·simp (disch:=omega) only [q59,q6j,Nat.mul_one]
   refine ⟨by omega,?_⟩
   repeat' (first | refine vs_ ?_ | ((first | refine vr_ ?_ | (refine cs_ ?_ ?_<;>intro hc) | refine cj_ ?_ | simp (disch:=omega) only [qk,qbb])<;>(try refine ev_ ?_)) | with_reducible exact ti_)
   ·refine qb1 (i + 1) [] ⟨⟨by omega,?_⟩,by omega⟩ rfl (by simp) ?_ ?_ ?_<;>(try refine ev_ ?_)<;>(try with_reducible exact ti_)<;>(try simp (disch:=omega) only [qbb,and_true,true_and])
    ·rw [← ha,qsc (i:=i) (by omega),List.contains_cons]
     rw [show (l == wordsW.getD i []) = false by simpa using fun h=>hc h.symm];simp
    ·have:i < maxLen:=by unfold maxLen;omega
     rw [qbb this]
     exact ⟨⟨rfl,rfl⟩,rfl⟩
   ·rw [← ha,qsc (i:=i) (by omega),List.contains_cons,show (l == wordsW.getD i []) = true by simpa using hc.symm];rfl
  ·rw [← ha,show i = 11 by omega];rfl
def conW (l:List UInt8):Bool:=decide (l≠[]) && qro (l.getD 0 0).toNat && onsW l
theorem q5g (l:List UInt8):qc9 Try.prog 80 [.str l] (.bool (conW l)):=by
 refine qb3 c0cg (by simp) (by simp only [go_sem]) rfl fun hw=>?_
 have hl:l.length≤maxLen:=hw.1
 repeat' (first | refine vs_ ?_ | ((first | refine vr_ ?_ | refine qf (q3b _) fun _=>?_ | refine qf (qou _) fun _=>?_ | (refine cs_ ?_ ?_<;>intro hc) | refine cj_ ?_ | simp (disch:=omega) only [qk,qbb])<;>(try refine ev_ ?_)) | with_reducible exact ti_)
 all_goals simp_all [conW]
set_option maxRecDepth 4000

theorem q5u:IntKind.i64.wrap (0 + 1) = 1:=by decide
def digW (l:List UInt8):Bool:=l.all fun c=>qcd c.toNat
theorem qvt {l:List UInt8} {i:Nat} (h:i < l.length):digW (l.drop i) = (qcd (l.getD i 0).toNat && digW (l.drop (i + 1))):=by
 rw [qlf h];rfl

def digV (c:UInt8):Int:=IntKind.i64.wrap (IntKind.u8.wrap ((c.toNat:Int) - 48))
def topV (c:UInt8):Int:=IntKind.i64.wrap ((IntKind.i64.wrap (9223372036854775807 - digV c)).tdiv 10)
def nxtV (k:Int) (c:UInt8):Int:=IntKind.i64.wrap (IntKind.i64.wrap (10 * k) + digV c)
def qpd:Int->List UInt8->Int×Int
 | k,[]=>(k,0)
 | k,c :: r=>if topV c < k then (0,4) else qpd (nxtV k c) r
def qqt (l:List UInt8):Int×Int:=if l = [] then (0,5) else if digW l = true then qpd 0 l else (0,5)
def qbve (p:Int×Int):AV:=.tup [.int .i64 p.1,.int .i64 p.2]
theorem qrt {l:List UInt8} {i:Nat} (h:i < l.length) (k:Int):qpd k (l.drop i) = if topV (l.getD i 0) < k then (0,4) else qpd (nxtV k (l.getD i 0)) (l.drop (i + 1)):=by
 rw [qlf h];rfl
theorem qbuo {c:Int} (h:c < 48∨57 < c):qcd c = false:=by
 simp only [qcd,Bool.and_eq_false_iff,decide_eq_false_iff_not];omega
theorem qbpa {c:Int} (h:¬ c < 48) (h2:¬ 57 < c):qcd c = true:=by
 simp only [qcd,Bool.and_eq_true,decide_eq_true_eq];omega
theorem qo7 {l:List UInt8} (h:l≠[]) (hd:digW l = true):qqt l = qpd 0 l:=by rw [qqt,if_neg h,if_pos hd]
theorem q7t {l:List UInt8} (hd:digW l = false):qqt l = (0,5):=by rw [qqt,hd];simp

theorem q81 (l:List UInt8):qc9 Try.prog 72 [.str l] (qbve (qqt l)):=by
 refine qb3 c0cb (by simp) (by simp only [go_sem]) rfl fun hw=>?_
 have hl:l.length≤maxLen:=hw.1
 refine q60 (q4d ?_)
 (refine ev_ ?_;(try with_reducible exact ti_))
 refine q6i (S:=Nat×Int) 0 rfl (fun s=>s.1 < l.length∧digW l = true∧qpd s.2 (l.drop s.1) = qpd 0 l) (fun s=>(⟨[(0,.str l),(5,.int .i64 s.2),(6,.int .i64 s.1)],[]⟩,[])) (fun s=>l.length - s.1) ?_ fun s hs=>?_
 ·repeat' (first | refine vs_ ?_ | ((first | refine vr_ ?_ | (refine cs_ ?_ ?_<;>intro hc) | refine cj_ ?_ | simp (disch:=omega) only [qk,qbb])<;>(try refine ev_ ?_)) | with_reducible exact ti_)
  refine qct (S:=Nat) (fun i=>i≤l.length∧digW (l.drop i) = digW l) (fun i=>(⟨[(0,.str l),(9,.int .i64 l.length),(10,.int .i64 i)],[]⟩,[])) (fun i=>l.length - i) ?_ fun i hi=>?_
  ·refine qb1 0 [] ⟨Nat.zero_le _,rfl⟩ rfl (by simp) ?_ ?_ ?_<;>(try refine ev_ ?_)<;>(try with_reducible exact ti_)<;>(try simp (disch:=omega) only [qbb,and_true,true_and])
  ·obtain ⟨hi,ha⟩:=hi
   have hs:i < l.length->qcd (l.getD i 0).toNat = false->qqt l = (0,5):=fun h h2=>q7t (by rw [← ha,qvt h,h2];rfl)
   have hs2:0 < l.length->qpd 0 l = if topV (l.getD 0 0) < 0 then (0,4) else qpd (nxtV 0 (l.getD 0 0)) (l.drop 1):=fun h=>by
    have:=qrt (l:=l) (i:=0) h 0
    rwa [List.drop_zero] at this
   have hdig:¬ (i:Int) < l.length->digW l = true:=fun h=>by rw [← ha,List.drop_of_length_le (by omega)];rfl
   repeat' (first | refine vs_ ?_ | ((first | refine vr_ ?_ | simp (disch:=omega) only [qbb] | simp (disch:=omega) only [q5u] | (refine cs_ ?_ ?_<;>intro hc) | refine cj_ ?_ | simp (disch:=omega) only [qk,qbb])<;>(try refine ev_ ?_)) | with_reducible exact ti_)
   all_goals first
    | (rw [hs (by omega) (qbuo (by omega))];rfl)
    | (refine qb1 (i + 1) [] ⟨⟨by omega, ?_⟩, by omega⟩ rfl (by simp) ?_ ?_ ?_ <;> (try refine ev_ ?_) <;> (try with_reducible exact ti_) <;> (try simp (disch := omega) only [qbb, and_true, true_and])
       have hd:qcd (l.getD i 0).toNat = true:=qbpa (by omega) (by omega)
       rw [← ha,qvt (l:=l) (i:=i) (by omega),hd,Bool.true_and])
    | (subst hc;rfl)
    | skip
   ·have hlp:=qsx (by assumption)
    have hd:=hdig (by assumption)
    have hc':topV (l.getD 0 0) < 0:=hc
    rw [qo7 (by assumption) hd,hs2 hlp,if_pos hc'];rfl
   ·rename_i hc0
    have hlp:=qsx (by assumption)
    have hd:=hdig (by assumption)
    have hc':¬ topV (l.getD 0 0) < 0:=hc0
    refine qb1 (1,nxtV 0 (l.getD 0 0)) [] ⟨by omega,hd,?_⟩ rfl (by simp) ?_ ?_ ?_<;>(try refine ev_ ?_)<;>(try with_reducible exact ti_)<;>(try simp (disch:=omega) only [qbb,and_true,true_and])
    ·rw [hs2 hlp,if_neg hc']
    ·rfl
   ·rename_i hc0
    have hlp:=qsx (by assumption)
    have hd:=hdig (by assumption)
    have hc':¬ topV (l.getD 0 0) < 0:=hc0
    rw [qo7 (by assumption) hd,hs2 hlp,if_neg hc',List.drop_of_length_le (by omega)];rfl
 ·obtain ⟨j,k⟩:=s
  obtain ⟨hj,hd,hr⟩:=hs
  dsimp only at hj hr
  have hs2:qpd 0 l = if topV (l.getD j 0) < k then (0,4) else qpd (nxtV k (l.getD j 0)) (l.drop (j + 1)):=by rw [← hr,qrt hj]
  have hne:l≠[]:=fun e=>by subst e;simp at hj
  rw [qo7 hne hd]
  repeat' (first | refine vs_ ?_ | ((first | refine vr_ ?_ | simp (disch:=omega) only [qbb] | simp (disch:=omega) only [q5u] | (refine cs_ ?_ ?_<;>intro hc) | refine cj_ ?_ | simp (disch:=omega) only [qk,qbb])<;>(try refine ev_ ?_)) | with_reducible exact ti_)
  ·have hc':topV (l.getD j 0) < k:=hc
   rw [hs2,if_pos hc'];rfl
  ·rename_i hc0
   have hc':¬ topV (l.getD j 0) < k:=hc0
   refine qb1 (j + 1,nxtV k (l.getD j 0)) [] ⟨⟨by omega,hd,?_⟩,by omega⟩ rfl (by simp) ?_ ?_ ?_<;>(try refine ev_ ?_)<;>(try with_reducible exact ti_)<;>(try simp (disch:=omega) only [qbb,and_true,true_and])
   ·rw [hs2,if_neg hc']
   ·rfl
  ·rename_i hc0
   have hc':¬ topV (l.getD j 0) < k:=hc0
   rw [hs2,if_neg hc',List.drop_of_length_le (by omega)];rfl
set_option maxRecDepth 4000

theorem qkn (c:Int):qc9 Try.prog 71 [.int .u8 c] (.bool (qcd c)):=by
 refine qb3 c0bt (by simp) (by simp only [go_sem]) rfl fun hw=>?_
 repeat' (first | refine vs_ ?_ | ((first | refine vr_ ?_ | (refine cs_ ?_ ?_<;>intro hc) | refine cj_ ?_ | fail)<;>(try refine ev_ ?_)) | with_reducible exact ti_)
 all_goals simp [qcd, *]
theorem q0w (c:Int):qc9 Try.prog 73 [.int .u8 c] (.bool (onW c)):=by
 refine qb3 c0bu (by simp) (by simp only [go_sem]) rfl fun hw=>?_
 repeat' (first | refine vs_ ?_ | ((first | refine vr_ ?_ | refine qf (qkn _) fun _=>?_ | (refine cs_ ?_ ?_<;>intro hc) | refine cj_ ?_ | fail)<;>(try refine ev_ ?_)) | with_reducible exact ti_)
 all_goals simp only [onW,qvy,qro, *]
 all_goals first | (simp_all;done) | (simp_all;omega)
def qc0 (c:Int):Bool:=decide (c = 9) || decide (c = 10) || decide (c = 13) || decide (c = 32)
theorem qxw (c:Int):qc9 Try.prog 68 [.int .u8 c] (.bool (qc0 c)):=by
 refine qb3 c0bv (by simp) (by simp only [go_sem]) rfl fun hw=>?_
 repeat' (first | refine vs_ ?_ | ((first | refine vr_ ?_ | (refine cs_ ?_ ?_<;>intro hc) | refine cj_ ?_ | fail)<;>(try refine ev_ ?_)) | with_reducible exact ti_)
 all_goals simp [qc0, *]
def q4b (c:Int):Bool:=!decide (c = 10)
theorem q2l (c:Int):qc9 Try.prog 70 [.int .u8 c] (.bool (q4b c)):=by
 refine qb3 c0bw (by simp) (by simp only [go_sem]) rfl fun hw=>?_
 repeat' (first | refine vs_ ?_ | ((first | refine vr_ ?_ | (refine cs_ ?_ ?_<;>intro hc) | refine cj_ ?_ | fail)<;>(try refine ev_ ?_)) | with_reducible exact ti_)
 all_goals simp [q4b, *]

def qz (f:Int->Bool) (l:List UInt8):Nat:=(l.takeWhile fun c=>f c.toNat).length
theorem qko {f:Int->Bool} {l:List UInt8} {i:Nat} (h:i < l.length):qz f (l.drop i) = if f (l.getD i 0).toNat then qz f (l.drop (i + 1)) + 1 else 0:=by
 rw [qlf h,qz,List.takeWhile_cons]
 split<;>simp [qz]
theorem qhy {so:FuncId} {f:Int->Bool} (h:∀ c,qc9 Try.prog so [.int .u8 c] (.bool (f c))) (l:List UInt8):qc9 Try.prog 67 [.str l,.fn so [] []] (.int .i64 (qz f l)):=by
 refine qb3 c0bx (by simp) (by simp only [go_sem]) rfl fun hw=>?_
 have hl:l.length≤maxLen:=hw.1
 repeat' (first | refine vs_ ?_ | ((first | refine vr_ ?_ | (refine cs_ ?_ ?_<;>intro hc) | refine cj_ ?_ | simp (disch:=omega) only [qk,qbb])<;>(try refine ev_ ?_)) | with_reducible exact ti_)
 refine qct (S:=Nat) (fun i=>i≤l.length∧qz f l = i + qz f (l.drop i)) (fun i=>(⟨[(0,.str l),(1,.fn so [] []),(7,.int .i64 l.length),(8,.int .i64 i)],[]⟩,[])) (fun i=>l.length - i) ?_ fun i hi=>?_
 ·refine qb1 0 [] ⟨Nat.zero_le _,by simp⟩ rfl (by simp) ?_ ?_ ?_<;>(try refine ev_ ?_)<;>(try with_reducible exact ti_)<;>(try simp (disch:=omega) only [qbb,and_true,true_and])
 ·obtain ⟨hi,ha⟩:=hi
  repeat' (first | refine vs_ ?_ | ((first | refine vr_ ?_ | refine qf (h _) fun _=>?_ | (refine cs_ ?_ ?_<;>intro hc) | refine cj_ ?_ | simp (disch:=omega) only [qk,qbb])<;>(try refine ev_ ?_)) | with_reducible exact ti_)
  ·rw [ha,qko (by omega),hc];simp
  ·refine qb1 (i + 1) [] ⟨⟨by omega,?_⟩,by omega⟩ rfl (by simp) ?_ ?_ ?_<;>(try refine ev_ ?_)<;>(try with_reducible exact ti_)<;>(try simp (disch:=omega) only [qbb,and_true,true_and])
   rw [ha,qko (by omega),hc];simp;omega
  ·have:i = l.length:=by omega
   subst this
   rw [ha,List.drop_length];simp [qz]

def pfx (p l:List UInt8):Bool:=decide (l.take p.length = p)
theorem qpi (l p:List UInt8):qc9 Try.prog 78 [.str l,.str p] (.bool (pfx p l)):=by
 refine qb3 c0by (by simp) (by simp only [go_sem]) rfl fun hw=>?_
 repeat' (first | refine vs_ ?_ | ((first | refine vr_ ?_ | (refine cs_ ?_ ?_<;>intro hc) | refine cj_ ?_ | fail)<;>(try refine ev_ ?_)) | with_reducible exact ti_)
 ·rfl
 ·rw [pfx,decide_eq_false]
  intro h
  have:=congrArg List.length h
  rw [List.length_take] at this
  omega
theorem qe0 (l p:List UInt8):qc9 Try.prog 69 [.str l,.str p] (.bool (pfx p l)):=by
 refine qb3 c0bz (by simp) (by simp only [go_sem]) rfl fun hw=>?_
 repeat' (first | refine vs_ ?_ | ((first | refine vr_ ?_ | refine qf (qpi _ _) fun _=>?_ | (refine cs_ ?_ ?_<;>intro hc) | refine cj_ ?_ | fail)<;>(try refine ev_ ?_)) | with_reducible exact ti_)

theorem qdm (f:Int->Bool) (l:List UInt8):qz f l≤l.length:=(List.takeWhile_sublist _).length_le
def qd8 (l:List UInt8):Nat:=if pfx [45,45] (l.drop (qz qc0 l)) then qz qc0 l + qz q4b (l.drop (qz qc0 l)) else qz qc0 l
theorem qkw (l:List UInt8):qd8 l≤l.length:=by
 unfold qd8
 have h1:=qdm qc0 l
 have h2:=qdm q4b (l.drop (qz qc0 l))
 rw [List.length_drop] at h2
 split<;>omega
def qnd:Nat->List UInt8->Nat
 | 0,_=>0
 | f + 1,l=>if qd8 l = 0 then 0 else qd8 l + qnd f (l.drop (qd8 l))
def qbr (l:List UInt8):Nat:=qnd l.length l
theorem qm3:∀ (f g:Nat) (l:List UInt8),l.length≤f->l.length≤g->qnd f l = qnd g l
 | 0,0,l,_,_=>rfl
 | 0, g + 1, l, h1, h2 => by
   have:=qkw l
   rw [qnd,qnd,if_pos (by omega)]
 | f + 1, 0, l, h1, h2 => by
   have:=qkw l
   rw [qnd,qnd,if_pos (by omega)]
 | f + 1, g + 1, l, h1, h2 => by
   rw [qnd,qnd]
   split
   ·rfl
   ·rename_i h
    rw [qm3 f g _ (by rw [List.length_drop];omega) (by rw [List.length_drop];omega)]
theorem qg9 {l:List UInt8} (h:qd8 l = 0):qbr l = 0:=by
 unfold qbr
 cases l.length with
 | zero=>rfl
 | succ n=>rw [qnd,if_pos h]
theorem qhh {l:List UInt8} (h:qd8 l≠0):qbr l = qd8 l + qbr (l.drop (qd8 l)):=by
 have hk:=qkw l
 unfold qbr
 obtain ⟨n,hn⟩:∃ n,l.length = n + 1:=⟨l.length - 1,by omega⟩
 rw [hn,qnd,if_neg h,qm3 n (l.drop (qd8 l)).length _ (by rw [List.length_drop];omega) (Nat.le_refl _)]
theorem qk9 (l:List UInt8):qbr l≤l.length:=by
 generalize hn:l.length = n
 induction n using Nat.strongRecOn generalizing l with
 | _ n ih =>
   subst hn
   by_cases h:qd8 l = 0
   ·rw [qg9 h];exact Nat.zero_le _
   ·have hk:=qkw l
    have:=ih (l.drop (qd8 l)).length (by rw [List.length_drop];omega) _ rfl
    rw [qhh h];rw [List.length_drop] at this;omega
theorem q5x {l:List UInt8} (h:pfx [45,45] (l.drop (qz qc0 l)) = true):qd8 l = qz qc0 l + qz q4b (l.drop (qz qc0 l)):=by rw [qd8,if_pos h]
theorem qxe {l:List UInt8} (h:pfx [45,45] (l.drop (qz qc0 l)) = false):qd8 l = qz qc0 l:=by rw [qd8,h];rfl
theorem qb01 (a b:Nat):(a:Int) + (b:Int) = ((a + b:Nat):Int):=rfl

theorem qr9 (l:List UInt8):qc9 Try.prog 48 [.str l] (.int .i64 (qbr l)):=by
 refine qb3 c0ca (by simp) (by simp only [go_sem]) rfl fun hw=>?_
 have hl:l.length≤maxLen:=hw.1
 repeat' (first | refine vs_ ?_ | ((first | refine vr_ ?_ | (refine cs_ ?_ ?_<;>intro hc) | refine cj_ ?_ | simp (disch:=omega) only [qk,qbb])<;>(try refine ev_ ?_)) | with_reducible exact ti_)
 refine qct (S:=Nat) (fun n=>n≤l.length∧qbr l = n + qbr (l.drop n)) (fun n=>(⟨[(0,.str l),(3,.int .i64 n)],[]⟩,[])) (fun n=>l.length - n) ?_ fun n hn=>?_
 ·refine qb1 0 [] ⟨Nat.zero_le _,by simp⟩ rfl (by simp) ?_ ?_ ?_<;>(try refine ev_ ?_)<;>(try with_reducible exact ti_)<;>(try simp (disch:=omega) only [qbb,and_true,true_and])
 ·obtain ⟨hn,ha⟩:=hn
  have h1:=qdm qc0 (l.drop n)
  have h2:=qdm q4b (l.drop (n + qz qc0 (l.drop n)))
  rw [List.length_drop] at h1 h2
  repeat' (first | refine vs_ ?_ | ((first | refine vr_ ?_ | fail)<;>(try simp (disch:=first | omega | (simp only [List.length_set,List.length_append,List.length_cons,List.length_nil];done) | (simp only [List.length_set,List.length_append,List.length_cons,List.length_nil];omega)) only [qjn,go_sem,↓reduceIte])) | ((first | simp (disch:=omega) only [qjn] | simp (disch:=omega) only [qb01] | simp (disch:=omega) only [Int.toNat_natCast] | (refine cs_ ?_ ?_<;>intro hc) | refine cj_ ?_ | simp (disch:=omega) only [qk,qbb] | refine qf (qhy qxw _) fun _=>?_ | refine qf (qe0 _ _) fun _=>?_ | refine qf (qhy q2l _) fun _=>?_)<;>(try refine ev_ ?_)) | with_reducible exact ti_)
  ·rename_i hp _
   have hk:=q5x (l:=l.drop n) (by rw [List.drop_drop];exact hp)
   rw [List.drop_drop] at hk
   rw [ha,qg9 (hk.trans (by omega))];rfl
  ·rename_i hp _
   have hk:=q5x (l:=l.drop n) (by rw [List.drop_drop];exact hp)
   rw [List.drop_drop] at hk
   refine qb1 (n + qd8 (l.drop n)) [] ⟨⟨by omega,?_⟩,by omega⟩ rfl (by simp) ?_ ?_ ?_<;>(try refine ev_ ?_)<;>(try with_reducible exact ti_)<;>(try simp (disch:=omega) only [qbb,and_true,true_and])
   ·rw [ha,qhh (l:=l.drop n) (by omega),List.drop_drop];omega
   ·rw [hk]
  ·rename_i hp
   have hk:=qxe (l:=l.drop n) (by rw [List.drop_drop];exact hp)
   rw [ha,qg9 (hk.trans (by omega))];rfl
  ·rename_i hp
   have hk:=qxe (l:=l.drop n) (by rw [List.drop_drop];exact hp)
   refine qb1 (n + qd8 (l.drop n)) [] ⟨⟨by omega,?_⟩,by omega⟩ rfl (by simp) ?_ ?_ ?_<;>(try refine ev_ ?_)<;>(try with_reducible exact ti_)<;>(try simp (disch:=omega) only [qbb,and_true,true_and])
   ·rw [ha,qhh (l:=l.drop n) (by omega),List.drop_drop];omega
   ·rw [hk]

theorem qxy {c:UInt8} {r:List UInt8} (h:qc0 c.toNat = true):qbr (c :: r) = 1 + qbr r:=by
 have hw:qz qc0 (c :: r) = qz qc0 r + 1:=by simp [qz,List.takeWhile_cons,h]
 have hk:qd8 (c :: r) = qd8 r + 1:=by
  unfold qd8
  rw [hw,List.drop_succ_cons]
  split<;>omega
 rw [qhh (by omega),hk,List.drop_succ_cons]
 by_cases h0:qd8 r = 0
 ·rw [h0,qg9 h0];simp [qg9 h0]
 ·rw [qhh h0];omega
theorem ql2 {l:List UInt8} (h:pfx [45,45] l = false) (hb:qz qc0 l = 0):qbr l = 0:=by
 rw [qg9]
 rw [qxe (by rw [hb];exact h),hb]
end Go.Proofs.Ytfjbmjplnmaclaa
