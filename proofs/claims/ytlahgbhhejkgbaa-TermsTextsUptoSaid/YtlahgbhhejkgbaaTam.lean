/- Texts of this proof, joined. -/
import Derived.Test.YtlahgbhhejkgbaaTah
import Derived.Test.YtlahgbhhejkgbaaTal
set_option linter.unusedVariables false
set_option linter.unusedSimpArgs false

/- names -/
set_option maxRecDepth 4000
namespace Go.Proofs.Ytlahgbhhejkgbaa
open Go Go.RowKit Go.V

def qjq (c:Int):Bool:=decide (97≤c) && decide (c≤122) || decide (c = 95)
def qd9 (c:Int):Bool:=decide (65≤c) && decide (c≤90)
def qb8 (c:Int):Bool:=decide (48≤c) && decide (c≤57)

theorem qna (c:Int):qg Try.prog 112 [.int .u8 c] (.bool (qjq c)):=by
 refine qd c0v (by simp) (by simp only [go_sem]) rfl fun hw=>?_
 repeat' (first | refine vs_ ?_ | ((first | refine vr_ ?_ | (refine cs_ ?_ ?_<;>intro hc) | refine cj_ ?_ | fail)<;>(try refine ev_ ?_)) | with_reducible exact ti_)
 all_goals simp [qjq, *]
theorem qnb (c:Int):qg Try.prog 123 [.int .u8 c] (.bool (qjq c)):=by
 refine qd c0w (by simp) (by simp only [go_sem]) rfl fun hw=>?_
 repeat' (first | refine vs_ ?_ | ((first | refine vr_ ?_ | (refine cs_ ?_ ?_<;>intro hc) | refine cj_ ?_ | fail)<;>(try refine ev_ ?_)) | with_reducible exact ti_)
 all_goals simp [qjq, *]
theorem qhg (c:Int):qg Try.prog 95 [.int .u8 c] (.bool (qd9 c)):=by
 refine qd c0x (by simp) (by simp only [go_sem]) rfl fun hw=>?_
 repeat' (first | refine vs_ ?_ | ((first | refine vr_ ?_ | (refine cs_ ?_ ?_<;>intro hc) | refine cj_ ?_ | fail)<;>(try refine ev_ ?_)) | with_reducible exact ti_)
 all_goals simp [qd9, *]
theorem qic (c:Int):qg Try.prog 98 [.int .u8 c] (.bool (qd9 c)):=by
 refine qd c0y (by simp) (by simp only [go_sem]) rfl fun hw=>?_
 repeat' (first | refine vs_ ?_ | ((first | refine vr_ ?_ | (refine cs_ ?_ ?_<;>intro hc) | refine cj_ ?_ | fail)<;>(try refine ev_ ?_)) | with_reducible exact ti_)
 all_goals simp [qd9, *]
theorem qm4 (c:Int):qg Try.prog 124 [.int .u8 c] (.bool (qb8 c)):=by
 refine qd c0z (by simp) (by simp only [go_sem]) rfl fun hw=>?_
 repeat' (first | refine vs_ ?_ | ((first | refine vr_ ?_ | (refine cs_ ?_ ?_<;>intro hc) | refine cj_ ?_ | fail)<;>(try refine ev_ ?_)) | with_reducible exact ti_)
 all_goals simp [qb8, *]
def onW (c:Int):Bool:=qjq c || qd9 c || qb8 c || decide (c = 39)
theorem qyp (c:Int):qg Try.prog 113 [.int .u8 c] (.bool (onW c)):=by
 refine qd c0ba (by simp) (by simp only [go_sem]) rfl fun hw=>?_
 repeat' (first | refine vs_ ?_ | ((first | refine vr_ ?_ | refine qa (qnb _) fun _=>?_ | refine qa (qic _) fun _=>?_ | refine qa (qm4 _) fun _=>?_ | (refine cs_ ?_ ?_<;>intro hc) | refine cj_ ?_ | fail)<;>(try refine ev_ ?_)) | with_reducible exact ti_)
 all_goals simp [onW, *]

def onsW (l:List UInt8):Bool:=l.all fun c=>onW c.toNat
theorem qhr {l:List UInt8} {i:Nat} (h:i < l.length):l.drop i = l.getD i 0 :: l.drop (i + 1):=by
 rw [List.drop_eq_getElem_cons h,List.getD_eq_getElem?_getD,List.getElem?_eq_getElem h];rfl
theorem qec {l:List UInt8} {i:Nat} (h:i < l.length):onsW (l.drop i) = (onW (l.getD i 0).toNat && onsW (l.drop (i + 1))):=by
 rw [qhr h];rfl
theorem qq3 (l:List UInt8):qg Try.prog 96 [.str l] (.bool (onsW l)):=by
 refine qd c0bb (by simp) (by simp only [go_sem]) rfl fun hw=>?_
 have hl:l.length≤maxLen:=hw.1
 repeat' (first | refine vs_ ?_ | ((first | refine vr_ ?_ | (refine cs_ ?_ ?_<;>intro hc) | refine cj_ ?_ | simp (disch:=omega) only [encs_getN,qb])<;>(try refine ev_ ?_)) | with_reducible exact ti_)
 refine qw (S:=Nat) (fun i=>i≤l.length∧onsW (l.drop i) = onsW l) (fun i=>(⟨[(0,.str l),(6,.int .i64 l.length),(7,.int .i64 i)],[]⟩,[])) (fun i=>l.length - i) ?_ fun i hi=>?_
 ·refine qm 0 [] ⟨Nat.zero_le _,rfl⟩ rfl (by simp) ?_ ?_ ?_<;>(try refine ev_ ?_)<;>(try with_reducible exact ti_)<;>(try simp (disch:=omega) only [qb,and_true,true_and])
 ·obtain ⟨hi,ha⟩:=hi
  repeat' (first | refine vs_ ?_ | ((first | refine vr_ ?_ | refine qa (qna _) fun _=>?_ | refine qa (qhg _) fun _=>?_ | (refine cs_ ?_ ?_<;>intro hc) | refine cj_ ?_ | simp (disch:=omega) only [encs_getN,qb])<;>(try refine ev_ ?_)) | with_reducible exact ti_)
  all_goals first
   | (refine qm (i + 1) [] ⟨⟨by omega, ?_⟩, by omega⟩ rfl (by simp) ?_ ?_ ?_ <;> (try refine ev_ ?_) <;> (try with_reducible exact ti_) <;> (try simp (disch := omega) only [qb, and_true, true_and])
      rw [← ha,qec (l:=l) (i:=i) (by omega)]
      simp_all [onW,qb8]
      try omega)
   | (rw [← ha,show i = l.length by omega,List.drop_length];rfl)
   | (rw [← ha, qec (l := l) (i := i) (by omega)]
      simp_all [onW,qb8]
      try omega)

theorem qyb (l:List UInt8):qg Try.prog 99 [.str l] (.bool (onsW (l.drop 1))):=by
 refine qd c0bc (by simp) (by simp only [go_sem]) rfl fun hw=>?_
 have hl:l.length≤maxLen:=hw.1
 repeat' (first | refine vs_ ?_ | ((first | refine vr_ ?_ | (refine cs_ ?_ ?_<;>intro hc) | refine cj_ ?_ | simp (disch:=omega) only [encs_getN,qb])<;>(try refine ev_ ?_)) | with_reducible exact ti_)
 refine qw (S:=Nat) (fun i=>1≤i∧onsW (l.drop i) = onsW (l.drop 1)) (fun i=>(⟨[(0,.str l),(3,.int .i64 i)],[]⟩,[])) (fun i=>l.length - i) ?_ fun i hi=>?_
 ·refine qm 1 [] ⟨Nat.le_refl _,rfl⟩ rfl (by simp) ?_ ?_ ?_<;>(try refine ev_ ?_)<;>(try with_reducible exact ti_)<;>(try simp (disch:=omega) only [qb,and_true,true_and])
 ·obtain ⟨hi,ha⟩:=hi
  repeat' (first | refine vs_ ?_ | ((first | refine vr_ ?_ | refine qa (qyp _) fun _=>?_ | (refine cs_ ?_ ?_<;>intro hc) | refine cj_ ?_ | simp (disch:=omega) only [encs_getN,qb])<;>(try refine ev_ ?_)) | with_reducible exact ti_)
  ·rw [← ha,qec (l:=l) (i:=i) (by omega),hc];rfl
  ·refine qm (i + 1) [] ⟨⟨by omega,?_⟩,by omega⟩ rfl (by simp) ?_ ?_ ?_<;>(try refine ev_ ?_)<;>(try with_reducible exact ti_)<;>(try simp (disch:=omega) only [qb,and_true,true_and])
   rw [← ha,qec (l:=l) (i:=i) (by omega),hc,Bool.true_and]
  ·rw [← ha,List.drop_of_length_le (by omega)];rfl

def conW (l:List UInt8):Bool:=decide (l≠[]) && qd9 (l.getD 0 0).toNat && onsW l
theorem qsm (l:List UInt8):qg Try.prog 66 [.str l] (.bool (conW l)):=by
 refine qd c0bd (by simp) (by simp only [go_sem]) rfl fun hw=>?_
 have hl:l.length≤maxLen:=hw.1
 repeat' (first | refine vs_ ?_ | ((first | refine vr_ ?_ | refine qa (qq3 _) fun _=>?_ | refine qa (qhg _) fun _=>?_ | (refine cs_ ?_ ?_<;>intro hc) | refine cj_ ?_ | simp (disch:=omega) only [encs_getN,qb])<;>(try refine ev_ ?_)) | with_reducible exact ti_)
 all_goals simp_all [conW]
theorem qrp {l:List UInt8} (h:¬ l = []):onsW l = (onW (l.getD 0 0).toNat && onsW (l.drop 1)):=qec (l:=l) (i:=0) (qer h)
theorem qyg {c:Int} (h:qd9 c = true):onW c = true:=by simp [onW,h]
theorem qrn (l:List UInt8):qg Try.prog 68 [.str l] (.bool (conW l)):=by
 refine qd c0be (by simp) (by simp only [go_sem]) rfl fun hw=>?_
 have hl:l.length≤maxLen:=hw.1
 have hk:conW l = (decide (l≠[]) && qd9 (l.getD 0 0).toNat && onsW (l.drop 1)):=by
  by_cases h:l = []
  ·subst h;rfl
  ·rw [conW,qrp h]
   cases hg:qd9 (l.getD 0 0).toNat
   ·simp
   ·rw [qyg hg];simp
 rw [hk]
 repeat' (first | refine vs_ ?_ | ((first | refine vr_ ?_ | refine qa (qyb _) fun _=>?_ | refine qa (qic _) fun _=>?_ | (refine cs_ ?_ ?_<;>intro hc) | refine cj_ ?_ | simp (disch:=omega) only [encs_getN,qb])<;>(try refine ev_ ?_)) | with_reducible exact ti_)
 all_goals simp_all
set_option maxRecDepth 4000

theorem qse:IntKind.i64.wrap (0 + 1) = 1:=by decide
def digW (l:List UInt8):Bool:=l.all fun c=>qb8 c.toNat
theorem qfh {l:List UInt8} {i:Nat} (h:i < l.length):digW (l.drop i) = (qb8 (l.getD i 0).toNat && digW (l.drop (i + 1))):=by
 rw [qhr h];rfl

def digV (c:UInt8):Int:=IntKind.i64.wrap (IntKind.u8.wrap ((c.toNat:Int) - 48))
def topV (c:UInt8):Int:=IntKind.i64.wrap ((IntKind.i64.wrap (9223372036854775807 - digV c)).tdiv 10)
def nxtV (k:Int) (c:UInt8):Int:=IntKind.i64.wrap (IntKind.i64.wrap (10 * k) + digV c)
def qd3:Int->List UInt8->Int×Int
 | k,[]=>(k,0)
 | k,c :: r=>if topV c < k then (0,4) else qd3 (nxtV k c) r
def qdb (l:List UInt8):Int×Int:=if l = [] then (0,5) else if digW l = true then qd3 0 l else (0,5)
def qzh (p:Int×Int):AV:=.tup [.int .i64 p.1,.int .i64 p.2]
theorem qf4 {l:List UInt8} {i:Nat} (h:i < l.length) (k:Int):qd3 k (l.drop i) = if topV (l.getD i 0) < k then (0,4) else qd3 (nxtV k (l.getD i 0)) (l.drop (i + 1)):=by
 rw [qhr h];rfl
theorem qup {c:Int} (h:c < 48∨57 < c):qb8 c = false:=by
 simp only [qb8,Bool.and_eq_false_iff,decide_eq_false_iff_not];omega
theorem qr3 {c:Int} (h:¬ c < 48) (h2:¬ 57 < c):qb8 c = true:=by
 simp only [qb8,Bool.and_eq_true,decide_eq_true_eq];omega
theorem qfd {l:List UInt8} (h:l≠[]) (hd:digW l = true):qdb l = qd3 0 l:=by rw [qdb,if_neg h,if_pos hd]
theorem qmr {l:List UInt8} (hd:digW l = false):qdb l = (0,5):=by rw [qdb,hd];simp

theorem qdn (l:List UInt8):qg Try.prog 97 [.str l] (qzh (qdb l)):=by
 refine qd c0t (by simp) (by simp only [go_sem]) rfl fun hw=>?_
 have hl:l.length≤maxLen:=hw.1
 repeat' (first | refine vs_ ?_ | ((first | refine vr_ ?_ | (refine cs_ ?_ ?_<;>intro hc) | refine cj_ ?_ | simp (disch:=omega) only [encs_getN,qb])<;>(try refine ev_ ?_)) | with_reducible exact ti_)
 ·subst hc;rfl
 ·refine qw (S:=Nat) (fun i=>i≤l.length∧digW (l.drop i) = digW l) (fun i=>(⟨[(0,.str l),(4,.int .i64 i)],[]⟩,[])) (fun i=>l.length - i) ?_ fun i hi=>?_
  ·refine qm 0 [] ⟨Nat.zero_le _,rfl⟩ rfl (by simp) ?_ ?_ ?_<;>(try refine ev_ ?_)<;>(try with_reducible exact ti_)<;>(try simp (disch:=omega) only [qb,and_true,true_and])
  ·obtain ⟨hi,ha⟩:=hi
   have hs:i < l.length->qb8 (l.getD i 0).toNat = false->qdb l = (0,5):=fun h h2=>qmr (by rw [← ha,qfh h,h2];rfl)
   repeat' (first | refine vs_ ?_ | ((first | refine vr_ ?_ | (refine cs_ ?_ ?_<;>intro hc) | refine cj_ ?_ | simp (disch:=omega) only [encs_getN,qb])<;>(try refine ev_ ?_)) | with_reducible exact ti_)
   ·rw [hs (by omega) (qup (by omega))];rfl
   ·rw [hs (by omega) (qup (by omega))];rfl
   ·refine qm (i + 1) [] ⟨⟨by omega,?_⟩,by omega⟩ rfl (by simp) ?_ ?_ ?_<;>(try refine ev_ ?_)<;>(try with_reducible exact ti_)<;>(try simp (disch:=omega) only [qb,and_true,true_and])
    have hd:qb8 (l.getD i 0).toNat = true:=qr3 (by omega) (by omega)
    rw [← ha,qfh (l:=l) (i:=i) (by omega),hd,Bool.true_and]
   ·have hd:digW l = true:=by rw [← ha,List.drop_of_length_le (by omega)];rfl
    rw [qfd (by assumption) hd]
    refine qw (S:=Nat×Int) (fun s=>s.1≤l.length∧qd3 s.2 (l.drop s.1) = qd3 0 l) (fun s=>(⟨[(0,.str l),(5,.int .i64 s.2),(6,.int .i64 s.1)],[]⟩,[])) (fun s=>l.length - s.1) ?_ fun s hs=>?_
    ·refine qm (0,0) [] ⟨Nat.zero_le _,rfl⟩ rfl (by simp) ?_ ?_ ?_<;>(try refine ev_ ?_)<;>(try with_reducible exact ti_)<;>(try simp (disch:=omega) only [qb,and_true,true_and])
    ·obtain ⟨j,k⟩:=s
     obtain ⟨hj,hr⟩:=hs
     dsimp only at hj hr
     have hs2:j < l.length->qd3 0 l = if topV (l.getD j 0) < k then (0,4) else qd3 (nxtV k (l.getD j 0)) (l.drop (j + 1)):=fun h=>by rw [← hr,qf4 h]
     repeat' (first | refine vs_ ?_ | ((first | refine vr_ ?_ | (refine cs_ ?_ ?_<;>intro hc) | refine cj_ ?_ | simp (disch:=omega) only [encs_getN,qb])<;>(try refine ev_ ?_)) | with_reducible exact ti_)
     ·have hc':topV (l.getD j 0) < k:=hc
      rw [hs2 (by omega),if_pos hc'];rfl
     ·have hc':¬ topV (l.getD j 0) < k:=hc
      refine qm (j + 1,nxtV k (l.getD j 0)) [] ⟨⟨by omega,?_⟩,by omega⟩ rfl (by simp) ?_ ?_ ?_<;>(try refine ev_ ?_)<;>(try with_reducible exact ti_)<;>(try simp (disch:=omega) only [qb,and_true,true_and])
      ·rw [hs2 (by omega),if_neg hc']
      ·rfl
     ·rw [← hr,List.drop_of_length_le (by omega)];rfl

theorem qfp (l:List UInt8):qg Try.prog 93 [.str l] (qzh (qdb l)):=by
 refine qd c0u (by simp) (by simp only [go_sem]) rfl fun hw=>?_
 have hl:l.length≤maxLen:=hw.1
 refine qb0 (qfg ?_)
 (refine ev_ ?_;(try with_reducible exact ti_))
 refine qts (S:=Nat×Int) 0 rfl (fun s=>s.1 < l.length∧digW l = true∧qd3 s.2 (l.drop s.1) = qd3 0 l) (fun s=>(⟨[(0,.str l),(5,.int .i64 s.2),(6,.int .i64 s.1)],[]⟩,[])) (fun s=>l.length - s.1) ?_ fun s hs=>?_
 ·repeat' (first | refine vs_ ?_ | ((first | refine vr_ ?_ | (refine cs_ ?_ ?_<;>intro hc) | refine cj_ ?_ | simp (disch:=omega) only [encs_getN,qb])<;>(try refine ev_ ?_)) | with_reducible exact ti_)
  refine qw (S:=Nat) (fun i=>i≤l.length∧digW (l.drop i) = digW l) (fun i=>(⟨[(0,.str l),(9,.int .i64 l.length),(10,.int .i64 i)],[]⟩,[])) (fun i=>l.length - i) ?_ fun i hi=>?_
  ·refine qm 0 [] ⟨Nat.zero_le _,rfl⟩ rfl (by simp) ?_ ?_ ?_<;>(try refine ev_ ?_)<;>(try with_reducible exact ti_)<;>(try simp (disch:=omega) only [qb,and_true,true_and])
  ·obtain ⟨hi,ha⟩:=hi
   have hs:i < l.length->qb8 (l.getD i 0).toNat = false->qdb l = (0,5):=fun h h2=>qmr (by rw [← ha,qfh h,h2];rfl)
   have hs2:0 < l.length->qd3 0 l = if topV (l.getD 0 0) < 0 then (0,4) else qd3 (nxtV 0 (l.getD 0 0)) (l.drop 1):=fun h=>by
    have:=qf4 (l:=l) (i:=0) h 0
    rwa [List.drop_zero] at this
   have hdig:¬ (i:Int) < l.length->digW l = true:=fun h=>by rw [← ha,List.drop_of_length_le (by omega)];rfl
   repeat' (first | refine vs_ ?_ | ((first | refine vr_ ?_ | simp (disch:=omega) only [qb] | simp (disch:=omega) only [qse] | (refine cs_ ?_ ?_<;>intro hc) | refine cj_ ?_ | simp (disch:=omega) only [encs_getN,qb])<;>(try refine ev_ ?_)) | with_reducible exact ti_)
   all_goals first
    | (rw [hs (by omega) (qup (by omega))];rfl)
    | (refine qm (i + 1) [] ⟨⟨by omega, ?_⟩, by omega⟩ rfl (by simp) ?_ ?_ ?_ <;> (try refine ev_ ?_) <;> (try with_reducible exact ti_) <;> (try simp (disch := omega) only [qb, and_true, true_and])
       have hd:qb8 (l.getD i 0).toNat = true:=qr3 (by omega) (by omega)
       rw [← ha,qfh (l:=l) (i:=i) (by omega),hd,Bool.true_and])
    | (subst hc;rfl)
    | skip
   ·have hlp:=qer (by assumption)
    have hd:=hdig (by assumption)
    have hc':topV (l.getD 0 0) < 0:=hc
    rw [qfd (by assumption) hd,hs2 hlp,if_pos hc'];rfl
   ·rename_i hc0
    have hlp:=qer (by assumption)
    have hd:=hdig (by assumption)
    have hc':¬ topV (l.getD 0 0) < 0:=hc0
    refine qm (1,nxtV 0 (l.getD 0 0)) [] ⟨by omega,hd,?_⟩ rfl (by simp) ?_ ?_ ?_<;>(try refine ev_ ?_)<;>(try with_reducible exact ti_)<;>(try simp (disch:=omega) only [qb,and_true,true_and])
    ·rw [hs2 hlp,if_neg hc']
    ·rfl
   ·rename_i hc0
    have hlp:=qer (by assumption)
    have hd:=hdig (by assumption)
    have hc':¬ topV (l.getD 0 0) < 0:=hc0
    rw [qfd (by assumption) hd,hs2 hlp,if_neg hc',List.drop_of_length_le (by omega)];rfl
 ·obtain ⟨j,k⟩:=s
  obtain ⟨hj,hd,hr⟩:=hs
  dsimp only at hj hr
  have hs2:qd3 0 l = if topV (l.getD j 0) < k then (0,4) else qd3 (nxtV k (l.getD j 0)) (l.drop (j + 1)):=by rw [← hr,qf4 hj]
  have hne:l≠[]:=fun e=>by subst e;simp at hj
  rw [qfd hne hd]
  repeat' (first | refine vs_ ?_ | ((first | refine vr_ ?_ | simp (disch:=omega) only [qb] | simp (disch:=omega) only [qse] | (refine cs_ ?_ ?_<;>intro hc) | refine cj_ ?_ | simp (disch:=omega) only [encs_getN,qb])<;>(try refine ev_ ?_)) | with_reducible exact ti_)
  ·have hc':topV (l.getD j 0) < k:=hc
   rw [hs2,if_pos hc'];rfl
  ·rename_i hc0
   have hc':¬ topV (l.getD j 0) < k:=hc0
   refine qm (j + 1,nxtV k (l.getD j 0)) [] ⟨⟨by omega,hd,?_⟩,by omega⟩ rfl (by simp) ?_ ?_ ?_<;>(try refine ev_ ?_)<;>(try with_reducible exact ti_)<;>(try simp (disch:=omega) only [qb,and_true,true_and])
   ·rw [hs2,if_neg hc']
   ·rfl
  ·rename_i hc0
   have hc':¬ topV (l.getD j 0) < k:=hc0
   rw [hs2,if_neg hc',List.drop_of_length_le (by omega)];rfl
set_option maxRecDepth 4000

def pfx (p l:List UInt8):Bool:=decide (l.take p.length = p)
theorem qhj (l p:List UInt8):qg Try.prog 102 [.str l,.str p] (.bool (pfx p l)):=by
 refine qd c0r (by simp) (by simp only [go_sem]) rfl fun hw=>?_
 repeat' (first | refine vs_ ?_ | ((first | refine vr_ ?_ | (refine cs_ ?_ ?_<;>intro hc) | refine cj_ ?_ | fail)<;>(try refine ev_ ?_)) | with_reducible exact ti_)
 ·rfl
 ·rw [pfx,decide_eq_false]
  intro h
  have:=congrArg List.length h
  rw [List.length_take] at this
  omega
theorem qh (l p:List UInt8):qg Try.prog 73 [.str l,.str p] (.bool (pfx p l)):=by
 refine qd c0s (by simp) (by simp only [go_sem]) rfl fun hw=>?_
 repeat' (first | refine vs_ ?_ | ((first | refine vr_ ?_ | refine qa (qhj _ _) fun _=>?_ | (refine cs_ ?_ ?_<;>intro hc) | refine cj_ ?_ | fail)<;>(try refine ev_ ?_)) | with_reducible exact ti_)

end Go.Proofs.Ytlahgbhhejkgbaa
