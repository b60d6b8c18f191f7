/- Texts of this proof, joined. -/
import Derived.Test.YtlahgbhhejkgbaaKah
import Derived.Test.YtlahgbhhejkgbaaKal
set_option linter.unusedVariables false
set_option linter.unusedSimpArgs false

/- names -/
set_option maxRecDepth 4000
namespace Go.Proofs.Ytlahgbhhejkgbaa
open Go Go.RowKit Go.V

def qo7 (c:Int):Bool:=decide (97≤c) && decide (c≤122) || decide (c = 95)
def qjn (c:Int):Bool:=decide (65≤c) && decide (c≤90)
def qb9 (c:Int):Bool:=decide (48≤c) && decide (c≤57)

theorem qnt (c:Int):ql Try.prog 112 [.int .u8 c] (.bool (qo7 c)):=by
 refine qg c0t (by simp) (by simp only [go_sem]) rfl fun hw=>?_
 repeat' (first | refine vs_ ?_ | ((first | refine vr_ ?_ | (refine cs_ ?_ ?_<;>intro hc) | refine cj_ ?_ | fail)<;>(try refine ev_ ?_)) | with_reducible exact ti_)
 all_goals simp [qo7, *]
theorem qhm (c:Int):ql Try.prog 95 [.int .u8 c] (.bool (qjn c)):=by
 refine qg c0u (by simp) (by simp only [go_sem]) rfl fun hw=>?_
 repeat' (first | refine vs_ ?_ | ((first | refine vr_ ?_ | (refine cs_ ?_ ?_<;>intro hc) | refine cj_ ?_ | fail)<;>(try refine ev_ ?_)) | with_reducible exact ti_)
 all_goals simp [qjn, *]
def onW (c:Int):Bool:=qo7 c || qjn c || qb9 c || decide (c = 39)
def onsW (l:List UInt8):Bool:=l.all fun c=>onW c.toNat
theorem qhw {l:List UInt8} {i:Nat} (h:i < l.length):l.drop i = l.getD i 0 :: l.drop (i + 1):=by
 rw [List.drop_eq_getElem_cons h,List.getD_eq_getElem?_getD,List.getElem?_eq_getElem h];rfl
theorem qmr {l:List UInt8} {i:Nat} (h:i < l.length):onsW (l.drop i) = (onW (l.getD i 0).toNat && onsW (l.drop (i + 1))):=by
 rw [qhw h];rfl
theorem qpe (l:List UInt8):ql Try.prog 96 [.str l] (.bool (onsW l)):=by
 refine qg c0v (by simp) (by simp only [go_sem]) rfl fun hw=>?_
 have hl:l.length≤maxLen:=hw.1
 repeat' (first | refine vs_ ?_ | ((first | refine vr_ ?_ | (refine cs_ ?_ ?_<;>intro hc) | refine cj_ ?_ | simp (disch:=omega) only [encs_getN,qd])<;>(try refine ev_ ?_)) | with_reducible exact ti_)
 refine qbf (S:=Nat) (fun i=>i≤l.length∧onsW (l.drop i) = onsW l) (fun i=>(⟨[(0,.str l),(6,.int .i64 l.length),(7,.int .i64 i)],[]⟩,[])) (fun i=>l.length - i) ?_ fun i hi=>?_
 ·refine qx 0 [] ⟨Nat.zero_le _,rfl⟩ rfl (by simp) ?_ ?_ ?_<;>(try refine ev_ ?_)<;>(try with_reducible exact ti_)<;>(try simp (disch:=omega) only [qd,and_true,true_and])
 ·obtain ⟨hi,ha⟩:=hi
  repeat' (first | refine vs_ ?_ | ((first | refine vr_ ?_ | refine qa (qnt _) fun _=>?_ | refine qa (qhm _) fun _=>?_ | (refine cs_ ?_ ?_<;>intro hc) | refine cj_ ?_ | simp (disch:=omega) only [encs_getN,qd])<;>(try refine ev_ ?_)) | with_reducible exact ti_)
  all_goals first
   | (refine qx (i + 1) [] ⟨⟨by omega, ?_⟩, by omega⟩ rfl (by simp) ?_ ?_ ?_ <;> (try refine ev_ ?_) <;> (try with_reducible exact ti_) <;> (try simp (disch := omega) only [qd, and_true, true_and])
      rw [← ha,qmr (l:=l) (i:=i) (by omega)]
      simp_all [onW,qb9]
      try omega)
   | (rw [← ha,show i = l.length by omega,List.drop_length];rfl)
   | (rw [← ha, qmr (l := l) (i := i) (by omega)]
      simp_all [onW,qb9]
      try omega)

def conW (l:List UInt8):Bool:=decide (l≠[]) && qjn (l.getD 0 0).toNat && onsW l
theorem qto (l:List UInt8):ql Try.prog 66 [.str l] (.bool (conW l)):=by
 refine qg c0w (by simp) (by simp only [go_sem]) rfl fun hw=>?_
 have hl:l.length≤maxLen:=hw.1
 repeat' (first | refine vs_ ?_ | ((first | refine vr_ ?_ | refine qa (qpe _) fun _=>?_ | refine qa (qhm _) fun _=>?_ | (refine cs_ ?_ ?_<;>intro hc) | refine cj_ ?_ | simp (disch:=omega) only [encs_getN,qd])<;>(try refine ev_ ?_)) | with_reducible exact ti_)
 all_goals simp_all [conW]
set_option maxRecDepth 4000

theorem qry:IntKind.i64.wrap (0 + 1) = 1:=by decide
def digW (l:List UInt8):Bool:=l.all fun c=>qb9 c.toNat
theorem qfv {l:List UInt8} {i:Nat} (h:i < l.length):digW (l.drop i) = (qb9 (l.getD i 0).toNat && digW (l.drop (i + 1))):=by
 rw [qhw h];rfl

def digV (c:UInt8):Int:=IntKind.i64.wrap (IntKind.u8.wrap ((c.toNat:Int) - 48))
def topV (c:UInt8):Int:=IntKind.i64.wrap ((IntKind.i64.wrap (9223372036854775807 - digV c)).tdiv 10)
def nxtV (k:Int) (c:UInt8):Int:=IntKind.i64.wrap (IntKind.i64.wrap (10 * k) + digV c)
def qb5:Int->List UInt8->Int×Int
 | k,[]=>(k,0)
 | k,c :: r=>if topV c < k then (0,4) else qb5 (nxtV k c) r
def qdh (l:List UInt8):Int×Int:=if l = [] then (0,5) else if digW l = true then qb5 0 l else (0,5)
def qxm (p:Int×Int):AV:=.tup [.int .i64 p.1,.int .i64 p.2]
theorem qf5 {l:List UInt8} {i:Nat} (h:i < l.length) (k:Int):qb5 k (l.drop i) = if topV (l.getD i 0) < k then (0,4) else qb5 (nxtV k (l.getD i 0)) (l.drop (i + 1)):=by
 rw [qhw h];rfl
theorem qua {c:Int} (h:c < 48∨57 < c):qb9 c = false:=by
 simp only [qb9,Bool.and_eq_false_iff,decide_eq_false_iff_not];omega
theorem qst {c:Int} (h:¬ c < 48) (h2:¬ 57 < c):qb9 c = true:=by
 simp only [qb9,Bool.and_eq_true,decide_eq_true_eq];omega
theorem qel {l:List UInt8} (h:l≠[]) (hd:digW l = true):qdh l = qb5 0 l:=by rw [qdh,if_neg h,if_pos hd]
theorem ql7 {l:List UInt8} (hd:digW l = false):qdh l = (0,5):=by rw [qdh,hd];simp

theorem q6h (l:List UInt8):ql Try.prog 97 [.str l] (qxm (qdh l)):=by
 refine qg c0r (by simp) (by simp only [go_sem]) rfl fun hw=>?_
 have hl:l.length≤maxLen:=hw.1
 repeat' (first | refine vs_ ?_ | ((first | refine vr_ ?_ | (refine cs_ ?_ ?_<;>intro hc) | refine cj_ ?_ | simp (disch:=omega) only [encs_getN,qd])<;>(try refine ev_ ?_)) | with_reducible exact ti_)
 ·subst hc;rfl
 ·refine qbf (S:=Nat) (fun i=>i≤l.length∧digW (l.drop i) = digW l) (fun i=>(⟨[(0,.str l),(4,.int .i64 i)],[]⟩,[])) (fun i=>l.length - i) ?_ fun i hi=>?_
  ·refine qx 0 [] ⟨Nat.zero_le _,rfl⟩ rfl (by simp) ?_ ?_ ?_<;>(try refine ev_ ?_)<;>(try with_reducible exact ti_)<;>(try simp (disch:=omega) only [qd,and_true,true_and])
  ·obtain ⟨hi,ha⟩:=hi
   have hs:i < l.length->qb9 (l.getD i 0).toNat = false->qdh l = (0,5):=fun h h2=>ql7 (by rw [← ha,qfv h,h2];rfl)
   repeat' (first | refine vs_ ?_ | ((first | refine vr_ ?_ | (refine cs_ ?_ ?_<;>intro hc) | refine cj_ ?_ | simp (disch:=omega) only [encs_getN,qd])<;>(try refine ev_ ?_)) | with_reducible exact ti_)
   ·rw [hs (by omega) (qua (by omega))];rfl
   ·rw [hs (by omega) (qua (by omega))];rfl
   ·refine qx (i + 1) [] ⟨⟨by omega,?_⟩,by omega⟩ rfl (by simp) ?_ ?_ ?_<;>(try refine ev_ ?_)<;>(try with_reducible exact ti_)<;>(try simp (disch:=omega) only [qd,and_true,true_and])
    have hd:qb9 (l.getD i 0).toNat = true:=qst (by omega) (by omega)
    rw [← ha,qfv (l:=l) (i:=i) (by omega),hd,Bool.true_and]
   ·have hd:digW l = true:=by rw [← ha,List.drop_of_length_le (by omega)];rfl
    rw [qel (by assumption) hd]
    refine qbf (S:=Nat×Int) (fun s=>s.1≤l.length∧qb5 s.2 (l.drop s.1) = qb5 0 l) (fun s=>(⟨[(0,.str l),(5,.int .i64 s.2),(6,.int .i64 s.1)],[]⟩,[])) (fun s=>l.length - s.1) ?_ fun s hs=>?_
    ·refine qx (0,0) [] ⟨Nat.zero_le _,rfl⟩ rfl (by simp) ?_ ?_ ?_<;>(try refine ev_ ?_)<;>(try with_reducible exact ti_)<;>(try simp (disch:=omega) only [qd,and_true,true_and])
    ·obtain ⟨j,k⟩:=s
     obtain ⟨hj,hr⟩:=hs
     dsimp only at hj hr
     have hs2:j < l.length->qb5 0 l = if topV (l.getD j 0) < k then (0,4) else qb5 (nxtV k (l.getD j 0)) (l.drop (j + 1)):=fun h=>by rw [← hr,qf5 h]
     repeat' (first | refine vs_ ?_ | ((first | refine vr_ ?_ | (refine cs_ ?_ ?_<;>intro hc) | refine cj_ ?_ | simp (disch:=omega) only [encs_getN,qd])<;>(try refine ev_ ?_)) | with_reducible exact ti_)
     ·have hc':topV (l.getD j 0) < k:=hc
      rw [hs2 (by omega),if_pos hc'];rfl
     ·have hc':¬ topV (l.getD j 0) < k:=hc
      refine qx (j + 1,nxtV k (l.getD j 0)) [] ⟨⟨by omega,?_⟩,by omega⟩ rfl (by simp) ?_ ?_ ?_<;>(try refine ev_ ?_)<;>(try with_reducible exact ti_)<;>(try simp (disch:=omega) only [qd,and_true,true_and])
      ·rw [hs2 (by omega),if_neg hc']
      ·rfl
     ·rw [← hr,List.drop_of_length_le (by omega)];rfl

theorem qfj (l:List UInt8):ql Try.prog 93 [.str l] (qxm (qdh l)):=by
 refine qg c0s (by simp) (by simp only [go_sem]) rfl fun hw=>?_
 have hl:l.length≤maxLen:=hw.1
 refine qb8 (qfl ?_)
 (refine ev_ ?_;(try with_reducible exact ti_))
 refine qsq (S:=Nat×Int) 0 rfl (fun s=>s.1 < l.length∧digW l = true∧qb5 s.2 (l.drop s.1) = qb5 0 l) (fun s=>(⟨[(0,.str l),(5,.int .i64 s.2),(6,.int .i64 s.1)],[]⟩,[])) (fun s=>l.length - s.1) ?_ fun s hs=>?_
 ·repeat' (first | refine vs_ ?_ | ((first | refine vr_ ?_ | (refine cs_ ?_ ?_<;>intro hc) | refine cj_ ?_ | simp (disch:=omega) only [encs_getN,qd])<;>(try refine ev_ ?_)) | with_reducible exact ti_)
  refine qbf (S:=Nat) (fun i=>i≤l.length∧digW (l.drop i) = digW l) (fun i=>(⟨[(0,.str l),(9,.int .i64 l.length),(10,.int .i64 i)],[]⟩,[])) (fun i=>l.length - i) ?_ fun i hi=>?_
  ·refine qx 0 [] ⟨Nat.zero_le _,rfl⟩ rfl (by simp) ?_ ?_ ?_<;>(try refine ev_ ?_)<;>(try with_reducible exact ti_)<;>(try simp (disch:=omega) only [qd,and_true,true_and])
  ·obtain ⟨hi,ha⟩:=hi
   have hs:i < l.length->qb9 (l.getD i 0).toNat = false->qdh l = (0,5):=fun h h2=>ql7 (by rw [← ha,qfv h,h2];rfl)
   have hs2:0 < l.length->qb5 0 l = if topV (l.getD 0 0) < 0 then (0,4) else qb5 (nxtV 0 (l.getD 0 0)) (l.drop 1):=fun h=>by
    have:=qf5 (l:=l) (i:=0) h 0
    rwa [List.drop_zero] at this
   have hdig:¬ (i:Int) < l.length->digW l = true:=fun h=>by rw [← ha,List.drop_of_length_le (by omega)];rfl
   repeat' (first | refine vs_ ?_ | ((first | refine vr_ ?_ | simp (disch:=omega) only [qd] | simp (disch:=omega) only [qry] | (refine cs_ ?_ ?_<;>intro hc) | refine cj_ ?_ | simp (disch:=omega) only [encs_getN,qd])<;>(try refine ev_ ?_)) | with_reducible exact ti_)
   all_goals first
    | (rw [hs (by omega) (qua (by omega))];rfl)
    | (refine qx (i + 1) [] ⟨⟨by omega, ?_⟩, by omega⟩ rfl (by simp) ?_ ?_ ?_ <;> (try refine ev_ ?_) <;> (try with_reducible exact ti_) <;> (try simp (disch := omega) only [qd, and_true, true_and])
       have hd:qb9 (l.getD i 0).toNat = true:=qst (by omega) (by omega)
       rw [← ha,qfv (l:=l) (i:=i) (by omega),hd,Bool.true_and])
    | (subst hc;rfl)
    | skip
   ·have hlp:=qhl (by assumption)
    have hd:=hdig (by assumption)
    have hc':topV (l.getD 0 0) < 0:=hc
    rw [qel (by assumption) hd,hs2 hlp,if_pos hc'];rfl
   ·rename_i hc0
    have hlp:=qhl (by assumption)
    have hd:=hdig (by assumption)
    have hc':¬ topV (l.getD 0 0) < 0:=hc0
    refine qx (1,nxtV 0 (l.getD 0 0)) [] ⟨by omega,hd,?_⟩ rfl (by simp) ?_ ?_ ?_<;>(try refine ev_ ?_)<;>(try with_reducible exact ti_)<;>(try simp (disch:=omega) only [qd,and_true,true_and])
    ·rw [hs2 hlp,if_neg hc']
    ·rfl
   ·rename_i hc0
    have hlp:=qhl (by assumption)
    have hd:=hdig (by assumption)
    have hc':¬ topV (l.getD 0 0) < 0:=hc0
    rw [qel (by assumption) hd,hs2 hlp,if_neg hc',List.drop_of_length_le (by omega)];rfl
 ·obtain ⟨j,k⟩:=s
  obtain ⟨hj,hd,hr⟩:=hs
  dsimp only at hj hr
  have hs2:qb5 0 l = if topV (l.getD j 0) < k then (0,4) else qb5 (nxtV k (l.getD j 0)) (l.drop (j + 1)):=by rw [← hr,qf5 hj]
  have hne:l≠[]:=fun e=>by subst e;simp at hj
  rw [qel hne hd]
  repeat' (first | refine vs_ ?_ | ((first | refine vr_ ?_ | simp (disch:=omega) only [qd] | simp (disch:=omega) only [qry] | (refine cs_ ?_ ?_<;>intro hc) | refine cj_ ?_ | simp (disch:=omega) only [encs_getN,qd])<;>(try refine ev_ ?_)) | with_reducible exact ti_)
  ·have hc':topV (l.getD j 0) < k:=hc
   rw [hs2,if_pos hc'];rfl
  ·rename_i hc0
   have hc':¬ topV (l.getD j 0) < k:=hc0
   refine qx (j + 1,nxtV k (l.getD j 0)) [] ⟨⟨by omega,hd,?_⟩,by omega⟩ rfl (by simp) ?_ ?_ ?_<;>(try refine ev_ ?_)<;>(try with_reducible exact ti_)<;>(try simp (disch:=omega) only [qd,and_true,true_and])
   ·rw [hs2,if_neg hc']
   ·rfl
  ·rename_i hc0
   have hc':¬ topV (l.getD j 0) < k:=hc0
   rw [hs2,if_neg hc',List.drop_of_length_le (by omega)];rfl
set_option maxRecDepth 4000

def pfx (p l:List UInt8):Bool:=decide (l.take p.length = p)
theorem qg4 (l p:List UInt8):ql Try.prog 102 [.str l,.str p] (.bool (pfx p l)):=by
 refine qg c0p (by simp) (by simp only [go_sem]) rfl fun hw=>?_
 repeat' (first | refine vs_ ?_ | ((first | refine vr_ ?_ | (refine cs_ ?_ ?_<;>intro hc) | refine cj_ ?_ | fail)<;>(try refine ev_ ?_)) | with_reducible exact ti_)
 ·rfl
 ·rw [pfx,decide_eq_false]
  intro h
  have:=congrArg List.length h
  rw [List.length_take] at this
  omega
theorem qh (l p:List UInt8):ql Try.prog 73 [.str l,.str p] (.bool (pfx p l)):=by
 refine qg c0q (by simp) (by simp only [go_sem]) rfl fun hw=>?_
 repeat' (first | refine vs_ ?_ | ((first | refine vr_ ?_ | refine qa (qg4 _ _) fun _=>?_ | (refine cs_ ?_ ?_<;>intro hc) | refine cj_ ?_ | fail)<;>(try refine ev_ ?_)) | with_reducible exact ti_)

end Go.Proofs.Ytlahgbhhejkgbaa
