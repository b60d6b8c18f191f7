/- Texts of this proof, joined. -/
import Derived.Test.YtgglaabljlhliaaGreatLak
import Derived.Test.YtgglaabljlhliaaGreatLar
set_option linter.unusedVariables false
set_option linter.unusedSimpArgs false

/- names -/
set_option maxRecDepth 4000
namespace Go.Proofs.YtgglaabljlhliaaGreat
open Go Go.RowKit Go.V

def q5z (c:Int):Bool:=decide (97≤c) && decide (c≤122) || decide (c = 95)
def qrs (c:Int):Bool:=decide (65≤c) && decide (c≤90)
def qea (c:Int):Bool:=decide (48≤c) && decide (c≤57)

theorem quf (c:Int):qk Tryz.prog 131 [.int .u8 c] (.bool (q5z c)):=by
 refine qd c0cd (by simp) (by simp only [go_sem]) rfl fun hw=>?_
 repeat' (first | refine vs_ ?_ | ((first | refine vr_ ?_ | (refine cs_ ?_ ?_<;>intro hc) | refine cj_ ?_ | fail)<;>(try refine ev_ ?_)) | with_reducible exact ti_)
 all_goals simp [q5z, *]
theorem qko (c:Int):qk Tryz.prog 104 [.int .u8 c] (.bool (qrs c)):=by
 refine qd c0ce (by simp) (by simp only [go_sem]) rfl fun hw=>?_
 repeat' (first | refine vs_ ?_ | ((first | refine vr_ ?_ | (refine cs_ ?_ ?_<;>intro hc) | refine cj_ ?_ | fail)<;>(try refine ev_ ?_)) | with_reducible exact ti_)
 all_goals simp [qrs, *]
def onW (c:Int):Bool:=q5z c || qrs c || qea c || decide (c = 39)
def onsW (l:List UInt8):Bool:=l.all fun c=>onW c.toNat
theorem qlg {l:List UInt8} {i:Nat} (h:i < l.length):l.drop i = l.getD i 0 :: l.drop (i + 1):=by
 rw [List.drop_eq_getElem_cons h,List.getD_eq_getElem?_getD,List.getElem?_eq_getElem h];rfl
theorem qq5 {l:List UInt8} {i:Nat} (h:i < l.length):onsW (l.drop i) = (onW (l.getD i 0).toNat && onsW (l.drop (i + 1))):=by
 rw [qlg h];rfl
theorem qy2 (l:List UInt8):qk Tryz.prog 105 [.str l] (.bool (onsW l)):=by
 refine qd c0cf (by simp) (by simp only [go_sem]) rfl fun hw=>?_
 have hl:l.length≤maxLen:=hw.1
 repeat' (first | refine vs_ ?_ | ((first | refine vr_ ?_ | (refine cs_ ?_ ?_<;>intro hc) | refine cj_ ?_ | simp (disch:=omega) only [encs_getN,qb])<;>(try refine ev_ ?_)) | with_reducible exact ti_)
 refine qj (S:=Nat) (fun i=>i≤l.length∧onsW (l.drop i) = onsW l) (fun i=>(⟨[(0,.str l),(6,.int .i64 l.length),(7,.int .i64 i)],[]⟩,[])) (fun i=>l.length - i) ?_ fun i hi=>?_
 ·refine qf 0 [] ⟨Nat.zero_le _,rfl⟩ rfl (by simp) ?_ ?_ ?_<;>(try refine ev_ ?_)<;>(try with_reducible exact ti_)<;>(try simp (disch:=omega) only [qb,and_true,true_and])
 ·obtain ⟨hi,ha⟩:=hi
  repeat' (first | refine vs_ ?_ | ((first | refine vr_ ?_ | refine qa (quf _) fun _=>?_ | refine qa (qko _) fun _=>?_ | (refine cs_ ?_ ?_<;>intro hc) | refine cj_ ?_ | simp (disch:=omega) only [encs_getN,qb])<;>(try refine ev_ ?_)) | with_reducible exact ti_)
  all_goals first
   | (refine qf (i + 1) [] ⟨⟨by omega, ?_⟩, by omega⟩ rfl (by simp) ?_ ?_ ?_ <;> (try refine ev_ ?_) <;> (try with_reducible exact ti_) <;> (try simp (disch := omega) only [qb, and_true, true_and])
      rw [← ha,qq5 (l:=l) (i:=i) (by omega)]
      simp_all [onW,qea]
      try omega)
   | (rw [← ha,show i = l.length by omega,List.drop_length];rfl)
   | (rw [← ha, qq5 (l := l) (i := i) (by omega)]
      simp_all [onW,qea]
      try omega)

def conW (l:List UInt8):Bool:=decide (l≠[]) && qrs (l.getD 0 0).toNat && onsW l
theorem qhk (l:List UInt8):qk Tryz.prog 77 [.str l] (.bool (conW l)):=by
 refine qd c0cg (by simp) (by simp only [go_sem]) rfl fun hw=>?_
 have hl:l.length≤maxLen:=hw.1
 repeat' (first | refine vs_ ?_ | ((first | refine vr_ ?_ | refine qa (qy2 _) fun _=>?_ | refine qa (qko _) fun _=>?_ | (refine cs_ ?_ ?_<;>intro hc) | refine cj_ ?_ | simp (disch:=omega) only [encs_getN,qb])<;>(try refine ev_ ?_)) | with_reducible exact ti_)
 all_goals simp_all [conW]
set_option maxRecDepth 4000

theorem qn9:IntKind.i64.wrap (0 + 1) = 1:=by decide
def digW (l:List UInt8):Bool:=l.all fun c=>qea c.toNat
theorem qh7 {l:List UInt8} {i:Nat} (h:i < l.length):digW (l.drop i) = (qea (l.getD i 0).toNat && digW (l.drop (i + 1))):=by
 rw [qlg h];rfl

def digV (c:UInt8):Int:=IntKind.i64.wrap (IntKind.u8.wrap ((c.toNat:Int) - 48))
def topV (c:UInt8):Int:=IntKind.i64.wrap ((IntKind.i64.wrap (9223372036854775807 - digV c)).tdiv 10)
def nxtV (k:Int) (c:UInt8):Int:=IntKind.i64.wrap (IntKind.i64.wrap (10 * k) + digV c)
def qfm:Int->List UInt8->Int×Int
 | k,[]=>(k,0)
 | k,c :: r=>if topV c < k then (0,4) else qfm (nxtV k c) r
def qfk (l:List UInt8):Int×Int:=if l = [] then (0,5) else if digW l = true then qfm 0 l else (0,5)
def q73 (p:Int×Int):AV:=.tup [.int .i64 p.1,.int .i64 p.2]
theorem qiz {l:List UInt8} {i:Nat} (h:i < l.length) (k:Int):qfm k (l.drop i) = if topV (l.getD i 0) < k then (0,4) else qfm (nxtV k (l.getD i 0)) (l.drop (i + 1)):=by
 rw [qlg h];rfl
theorem q0w {c:Int} (h:c < 48∨57 < c):qea c = false:=by
 simp only [qea,Bool.and_eq_false_iff,decide_eq_false_iff_not];omega
theorem q4d {c:Int} (h:¬ c < 48) (h2:¬ 57 < c):qea c = true:=by
 simp only [qea,Bool.and_eq_true,decide_eq_true_eq];omega
theorem qhm {l:List UInt8} (h:l≠[]) (hd:digW l = true):qfk l = qfm 0 l:=by rw [qfk,if_neg h,if_pos hd]
theorem qr4 {l:List UInt8} (hd:digW l = false):qfk l = (0,5):=by rw [qfk,hd];simp

theorem qbxl (l:List UInt8):qk Tryz.prog 88 [.str l] (q73 (qfk l)):=by
 refine qd c0cb (by simp) (by simp only [go_sem]) rfl fun hw=>?_
 have hl:l.length≤maxLen:=hw.1
 repeat' (first | refine vs_ ?_ | ((first | refine vr_ ?_ | (refine cs_ ?_ ?_<;>intro hc) | refine cj_ ?_ | simp (disch:=omega) only [encs_getN,qb])<;>(try refine ev_ ?_)) | with_reducible exact ti_)
 ·subst hc;rfl
 ·refine qj (S:=Nat) (fun i=>i≤l.length∧digW (l.drop i) = digW l) (fun i=>(⟨[(0,.str l),(4,.int .i64 i)],[]⟩,[])) (fun i=>l.length - i) ?_ fun i hi=>?_
  ·refine qf 0 [] ⟨Nat.zero_le _,rfl⟩ rfl (by simp) ?_ ?_ ?_<;>(try refine ev_ ?_)<;>(try with_reducible exact ti_)<;>(try simp (disch:=omega) only [qb,and_true,true_and])
  ·obtain ⟨hi,ha⟩:=hi
   have hs:i < l.length->qea (l.getD i 0).toNat = false->qfk l = (0,5):=fun h h2=>qr4 (by rw [← ha,qh7 h,h2];rfl)
   repeat' (first | refine vs_ ?_ | ((first | refine vr_ ?_ | (refine cs_ ?_ ?_<;>intro hc) | refine cj_ ?_ | simp (disch:=omega) only [encs_getN,qb])<;>(try refine ev_ ?_)) | with_reducible exact ti_)
   ·rw [hs (by omega) (q0w (by omega))];rfl
   ·rw [hs (by omega) (q0w (by omega))];rfl
   ·refine qf (i + 1) [] ⟨⟨by omega,?_⟩,by omega⟩ rfl (by simp) ?_ ?_ ?_<;>(try refine ev_ ?_)<;>(try with_reducible exact ti_)<;>(try simp (disch:=omega) only [qb,and_true,true_and])
    have hd:qea (l.getD i 0).toNat = true:=q4d (by omega) (by omega)
    rw [← ha,qh7 (l:=l) (i:=i) (by omega),hd,Bool.true_and]
   ·have hd:digW l = true:=by rw [← ha,List.drop_of_length_le (by omega)];rfl
    rw [qhm (by assumption) hd]
    refine qj (S:=Nat×Int) (fun s=>s.1≤l.length∧qfm s.2 (l.drop s.1) = qfm 0 l) (fun s=>(⟨[(0,.str l),(5,.int .i64 s.2),(6,.int .i64 s.1)],[]⟩,[])) (fun s=>l.length - s.1) ?_ fun s hs=>?_
    ·refine qf (0,0) [] ⟨Nat.zero_le _,rfl⟩ rfl (by simp) ?_ ?_ ?_<;>(try refine ev_ ?_)<;>(try with_reducible exact ti_)<;>(try simp (disch:=omega) only [qb,and_true,true_and])
    ·obtain ⟨j,k⟩:=s
     obtain ⟨hj,hr⟩:=hs
     dsimp only at hj hr
     have hs2:j < l.length->qfm 0 l = if topV (l.getD j 0) < k then (0,4) else qfm (nxtV k (l.getD j 0)) (l.drop (j + 1)):=fun h=>by rw [← hr,qiz h]
     repeat' (first | refine vs_ ?_ | ((first | refine vr_ ?_ | (refine cs_ ?_ ?_<;>intro hc) | refine cj_ ?_ | simp (disch:=omega) only [encs_getN,qb])<;>(try refine ev_ ?_)) | with_reducible exact ti_)
     ·have hc':topV (l.getD j 0) < k:=hc
      rw [hs2 (by omega),if_pos hc'];rfl
     ·have hc':¬ topV (l.getD j 0) < k:=hc
      refine qf (j + 1,nxtV k (l.getD j 0)) [] ⟨⟨by omega,?_⟩,by omega⟩ rfl (by simp) ?_ ?_ ?_<;>(try refine ev_ ?_)<;>(try with_reducible exact ti_)<;>(try simp (disch:=omega) only [qb,and_true,true_and])
      ·rw [hs2 (by omega),if_neg hc']
      ·rfl
     ·rw [← hr,List.drop_of_length_le (by omega)];rfl

theorem qh2 (l:List UInt8):qk Tryz.prog 126 [.str l] (q73 (qfk l)):=by
 refine qd c0cc (by simp) (by simp only [go_sem]) rfl fun hw=>?_
 have hl:l.length≤maxLen:=hw.1
 refine qcn (qh5 ?_)
 (refine ev_ ?_;(try with_reducible exact ti_))
 refine q4a (S:=Nat×Int) 0 rfl (fun s=>s.1 < l.length∧digW l = true∧qfm s.2 (l.drop s.1) = qfm 0 l) (fun s=>(⟨[(0,.str l),(5,.int .i64 s.2),(6,.int .i64 s.1)],[]⟩,[])) (fun s=>l.length - s.1) ?_ fun s hs=>?_
 ·repeat' (first | refine vs_ ?_ | ((first | refine vr_ ?_ | (refine cs_ ?_ ?_<;>intro hc) | refine cj_ ?_ | simp (disch:=omega) only [encs_getN,qb])<;>(try refine ev_ ?_)) | with_reducible exact ti_)
  refine qj (S:=Nat) (fun i=>i≤l.length∧digW (l.drop i) = digW l) (fun i=>(⟨[(0,.str l),(9,.int .i64 l.length),(10,.int .i64 i)],[]⟩,[])) (fun i=>l.length - i) ?_ fun i hi=>?_
  ·refine qf 0 [] ⟨Nat.zero_le _,rfl⟩ rfl (by simp) ?_ ?_ ?_<;>(try refine ev_ ?_)<;>(try with_reducible exact ti_)<;>(try simp (disch:=omega) only [qb,and_true,true_and])
  ·obtain ⟨hi,ha⟩:=hi
   have hs:i < l.length->qea (l.getD i 0).toNat = false->qfk l = (0,5):=fun h h2=>qr4 (by rw [← ha,qh7 h,h2];rfl)
   have hs2:0 < l.length->qfm 0 l = if topV (l.getD 0 0) < 0 then (0,4) else qfm (nxtV 0 (l.getD 0 0)) (l.drop 1):=fun h=>by
    have:=qiz (l:=l) (i:=0) h 0
    rwa [List.drop_zero] at this
   have hdig:¬ (i:Int) < l.length->digW l = true:=fun h=>by rw [← ha,List.drop_of_length_le (by omega)];rfl
   repeat' (first | refine vs_ ?_ | ((first | refine vr_ ?_ | simp (disch:=omega) only [qb] | simp (disch:=omega) only [qn9] | (refine cs_ ?_ ?_<;>intro hc) | refine cj_ ?_ | simp (disch:=omega) only [encs_getN,qb])<;>(try refine ev_ ?_)) | with_reducible exact ti_)
   all_goals first
    | (rw [hs (by omega) (q0w (by omega))];rfl)
    | (refine qf (i + 1) [] ⟨⟨by omega, ?_⟩, by omega⟩ rfl (by simp) ?_ ?_ ?_ <;> (try refine ev_ ?_) <;> (try with_reducible exact ti_) <;> (try simp (disch := omega) only [qb, and_true, true_and])
       have hd:qea (l.getD i 0).toNat = true:=q4d (by omega) (by omega)
       rw [← ha,qh7 (l:=l) (i:=i) (by omega),hd,Bool.true_and])
    | (subst hc;rfl)
    | skip
   ·have hlp:=qkt (by assumption)
    have hd:=hdig (by assumption)
    have hc':topV (l.getD 0 0) < 0:=hc
    rw [qhm (by assumption) hd,hs2 hlp,if_pos hc'];rfl
   ·rename_i hc0
    have hlp:=qkt (by assumption)
    have hd:=hdig (by assumption)
    have hc':¬ topV (l.getD 0 0) < 0:=hc0
    refine qf (1,nxtV 0 (l.getD 0 0)) [] ⟨by omega,hd,?_⟩ rfl (by simp) ?_ ?_ ?_<;>(try refine ev_ ?_)<;>(try with_reducible exact ti_)<;>(try simp (disch:=omega) only [qb,and_true,true_and])
    ·rw [hs2 hlp,if_neg hc']
    ·rfl
   ·rename_i hc0
    have hlp:=qkt (by assumption)
    have hd:=hdig (by assumption)
    have hc':¬ topV (l.getD 0 0) < 0:=hc0
    rw [qhm (by assumption) hd,hs2 hlp,if_neg hc',List.drop_of_length_le (by omega)];rfl
 ·obtain ⟨j,k⟩:=s
  obtain ⟨hj,hd,hr⟩:=hs
  dsimp only at hj hr
  have hs2:qfm 0 l = if topV (l.getD j 0) < k then (0,4) else qfm (nxtV k (l.getD j 0)) (l.drop (j + 1)):=by rw [← hr,qiz hj]
  have hne:l≠[]:=fun e=>by subst e;simp at hj
  rw [qhm hne hd]
  repeat' (first | refine vs_ ?_ | ((first | refine vr_ ?_ | simp (disch:=omega) only [qb] | simp (disch:=omega) only [qn9] | (refine cs_ ?_ ?_<;>intro hc) | refine cj_ ?_ | simp (disch:=omega) only [encs_getN,qb])<;>(try refine ev_ ?_)) | with_reducible exact ti_)
  ·have hc':topV (l.getD j 0) < k:=hc
   rw [hs2,if_pos hc'];rfl
  ·rename_i hc0
   have hc':¬ topV (l.getD j 0) < k:=hc0
   refine qf (j + 1,nxtV k (l.getD j 0)) [] ⟨⟨by omega,hd,?_⟩,by omega⟩ rfl (by simp) ?_ ?_ ?_<;>(try refine ev_ ?_)<;>(try with_reducible exact ti_)<;>(try simp (disch:=omega) only [qb,and_true,true_and])
   ·rw [hs2,if_neg hc']
   ·rfl
  ·rename_i hc0
   have hc':¬ topV (l.getD j 0) < k:=hc0
   rw [hs2,if_neg hc',List.drop_of_length_le (by omega)];rfl
set_option maxRecDepth 4000

def pfx (p l:List UInt8):Bool:=decide (l.take p.length = p)
theorem ql8 (l p:List UInt8):qk Tryz.prog 96 [.str l,.str p] (.bool (pfx p l)):=by
 refine qd c0bz (by simp) (by simp only [go_sem]) rfl fun hw=>?_
 repeat' (first | refine vs_ ?_ | ((first | refine vr_ ?_ | (refine cs_ ?_ ?_<;>intro hc) | refine cj_ ?_ | fail)<;>(try refine ev_ ?_)) | with_reducible exact ti_)
 ·rfl
 ·rw [pfx,decide_eq_false]
  intro h
  have:=congrArg List.length h
  rw [List.length_take] at this
  omega
theorem qm (l p:List UInt8):qk Tryz.prog 65 [.str l,.str p] (.bool (pfx p l)):=by
 refine qd c0ca (by simp) (by simp only [go_sem]) rfl fun hw=>?_
 repeat' (first | refine vs_ ?_ | ((first | refine vr_ ?_ | refine qa (ql8 _ _) fun _=>?_ | (refine cs_ ?_ ?_<;>intro hc) | refine cj_ ?_ | fail)<;>(try refine ev_ ?_)) | with_reducible exact ti_)

end Go.Proofs.YtgglaabljlhliaaGreat
