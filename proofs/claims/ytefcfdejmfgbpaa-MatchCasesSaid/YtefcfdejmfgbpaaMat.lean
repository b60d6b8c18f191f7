/- Texts of this proof, joined. -/
import Derived.Test.YtefcfdejmfgbpaaMaj
import Derived.Test.YtefcfdejmfgbpaaMas
set_option linter.unusedVariables false
set_option linter.unusedSimpArgs false

/- names -/
set_option maxRecDepth 4000
namespace Go.Proofs.Ytefcfdejmfgbpaa
open Go Go.RowKit Go.V

def qsm (c:Int):Bool:=decide (97≤c) && decide (c≤122) || decide (c = 95)
def qpq (c:Int):Bool:=decide (65≤c) && decide (c≤90)
def qc4 (c:Int):Bool:=decide (48≤c) && decide (c≤57)

theorem qny (c:Int):qo Try.prog 64 [.int .u8 c] (.bool (qsm c)):=by
 refine qj c0bn (by simp) (by simp only [go_sem]) rfl fun hw=>?_
 repeat' (first | refine vs_ ?_ | ((first | refine vr_ ?_ | (refine cs_ ?_ ?_<;>intro hc) | refine cj_ ?_ | fail)<;>(try refine ev_ ?_)) | with_reducible exact ti_)
 all_goals simp [qsm, *]
theorem qhp (c:Int):qo Try.prog 54 [.int .u8 c] (.bool (qpq c)):=by
 refine qj c0bo (by simp) (by simp only [go_sem]) rfl fun hw=>?_
 repeat' (first | refine vs_ ?_ | ((first | refine vr_ ?_ | (refine cs_ ?_ ?_<;>intro hc) | refine cj_ ?_ | fail)<;>(try refine ev_ ?_)) | with_reducible exact ti_)
 all_goals simp [qpq, *]
def onW (c:Int):Bool:=qsm c || qpq c || qc4 c || decide (c = 39)
def onsW (l:List UInt8):Bool:=l.all fun c=>onW c.toNat
theorem qip {l:List UInt8} {i:Nat} (h:i < l.length):l.drop i = l.getD i 0 :: l.drop (i + 1):=by
 rw [List.drop_eq_getElem_cons h,List.getD_eq_getElem?_getD,List.getElem?_eq_getElem h];rfl
theorem qls {l:List UInt8} {i:Nat} (h:i < l.length):onsW (l.drop i) = (onW (l.getD i 0).toNat && onsW (l.drop (i + 1))):=by
 rw [qip h];rfl
theorem qrm (l:List UInt8):qo Try.prog 55 [.str l] (.bool (onsW l)):=by
 refine qj c0bp (by simp) (by simp only [go_sem]) rfl fun hw=>?_
 have hl:l.length≤maxLen:=hw.1
 repeat' (first | refine vs_ ?_ | ((first | refine vr_ ?_ | (refine cs_ ?_ ?_<;>intro hc) | refine cj_ ?_ | simp (disch:=omega) only [encs_getN,qc])<;>(try refine ev_ ?_)) | with_reducible exact ti_)
 refine qbi (S:=Nat) (fun i=>i≤l.length∧onsW (l.drop i) = onsW l) (fun i=>(⟨[(0,.str l),(6,.int .i64 l.length),(7,.int .i64 i)],[]⟩,[])) (fun i=>l.length - i) ?_ fun i hi=>?_
 ·refine qu 0 [] ⟨Nat.zero_le _,rfl⟩ rfl (by simp) ?_ ?_ ?_<;>(try refine ev_ ?_)<;>(try with_reducible exact ti_)<;>(try simp (disch:=omega) only [qc,and_true,true_and])
 ·obtain ⟨hi,ha⟩:=hi
  repeat' (first | refine vs_ ?_ | ((first | refine vr_ ?_ | refine qa (qny _) fun _=>?_ | refine qa (qhp _) fun _=>?_ | (refine cs_ ?_ ?_<;>intro hc) | refine cj_ ?_ | simp (disch:=omega) only [encs_getN,qc])<;>(try refine ev_ ?_)) | with_reducible exact ti_)
  all_goals first
   | (refine qu (i + 1) [] ⟨⟨by omega, ?_⟩, by omega⟩ rfl (by simp) ?_ ?_ ?_ <;> (try refine ev_ ?_) <;> (try with_reducible exact ti_) <;> (try simp (disch := omega) only [qc, and_true, true_and])
      rw [← ha,qls (l:=l) (i:=i) (by omega)]
      simp_all [onW,qc4]
      try omega)
   | (rw [← ha,show i = l.length by omega,List.drop_length];rfl)
   | (rw [← ha, qls (l := l) (i := i) (by omega)]
      simp_all [onW,qc4]
      try omega)

def conW (l:List UInt8):Bool:=decide (l≠[]) && qpq (l.getD 0 0).toNat && onsW l
theorem qtv (l:List UInt8):qo Try.prog 39 [.str l] (.bool (conW l)):=by
 refine qj c0bq (by simp) (by simp only [go_sem]) rfl fun hw=>?_
 have hl:l.length≤maxLen:=hw.1
 repeat' (first | refine vs_ ?_ | ((first | refine vr_ ?_ | refine qa (qrm _) fun _=>?_ | refine qa (qhp _) fun _=>?_ | (refine cs_ ?_ ?_<;>intro hc) | refine cj_ ?_ | simp (disch:=omega) only [encs_getN,qc])<;>(try refine ev_ ?_)) | with_reducible exact ti_)
 all_goals simp_all [conW]
set_option maxRecDepth 4000

theorem qsy:IntKind.i64.wrap (0 + 1) = 1:=by decide
def digW (l:List UInt8):Bool:=l.all fun c=>qc4 c.toNat
theorem ql0 {l:List UInt8} {i:Nat} (h:i < l.length):digW (l.drop i) = (qc4 (l.getD i 0).toNat && digW (l.drop (i + 1))):=by
 rw [qip h];rfl

def digV (c:UInt8):Int:=IntKind.i64.wrap (IntKind.u8.wrap ((c.toNat:Int) - 48))
def topV (c:UInt8):Int:=IntKind.i64.wrap ((IntKind.i64.wrap (9223372036854775807 - digV c)).tdiv 10)
def nxtV (k:Int) (c:UInt8):Int:=IntKind.i64.wrap (IntKind.i64.wrap (10 * k) + digV c)
def qe8:Int->List UInt8->Int×Int
 | k,[]=>(k,0)
 | k,c :: r=>if topV c < k then (0,4) else qe8 (nxtV k c) r
def qee (l:List UInt8):Int×Int:=if l = [] then (0,5) else if digW l = true then qe8 0 l else (0,5)
def q5r (p:Int×Int):AV:=.tup [.int .i64 p.1,.int .i64 p.2]
theorem qjf {l:List UInt8} {i:Nat} (h:i < l.length) (k:Int):qe8 k (l.drop i) = if topV (l.getD i 0) < k then (0,4) else qe8 (nxtV k (l.getD i 0)) (l.drop (i + 1)):=by
 rw [qip h];rfl
theorem q87 {c:Int} (h:c < 48∨57 < c):qc4 c = false:=by
 simp only [qc4,Bool.and_eq_false_iff,decide_eq_false_iff_not];omega
theorem q77 {c:Int} (h:¬ c < 48) (h2:¬ 57 < c):qc4 c = true:=by
 simp only [qc4,Bool.and_eq_true,decide_eq_true_eq];omega
theorem qia {l:List UInt8} (h:l≠[]) (hd:digW l = true):qee l = qe8 0 l:=by rw [qee,if_neg h,if_pos hd]
theorem qti {l:List UInt8} (hd:digW l = false):qee l = (0,5):=by rw [qee,hd];simp

theorem qfi (l:List UInt8):qo Try.prog 52 [.str l] (q5r (qee l)):=by
 refine qj c0bm (by simp) (by simp only [go_sem]) rfl fun hw=>?_
 have hl:l.length≤maxLen:=hw.1
 refine qb1 (qem ?_)
 (refine ev_ ?_;(try with_reducible exact ti_))
 refine qvw (S:=Nat×Int) 0 rfl (fun s=>s.1 < l.length∧digW l = true∧qe8 s.2 (l.drop s.1) = qe8 0 l) (fun s=>(⟨[(0,.str l),(5,.int .i64 s.2),(6,.int .i64 s.1)],[]⟩,[])) (fun s=>l.length - s.1) ?_ fun s hs=>?_
 ·repeat' (first | refine vs_ ?_ | ((first | refine vr_ ?_ | (refine cs_ ?_ ?_<;>intro hc) | refine cj_ ?_ | simp (disch:=omega) only [encs_getN,qc])<;>(try refine ev_ ?_)) | with_reducible exact ti_)
  refine qbi (S:=Nat) (fun i=>i≤l.length∧digW (l.drop i) = digW l) (fun i=>(⟨[(0,.str l),(9,.int .i64 l.length),(10,.int .i64 i)],[]⟩,[])) (fun i=>l.length - i) ?_ fun i hi=>?_
  ·refine qu 0 [] ⟨Nat.zero_le _,rfl⟩ rfl (by simp) ?_ ?_ ?_<;>(try refine ev_ ?_)<;>(try with_reducible exact ti_)<;>(try simp (disch:=omega) only [qc,and_true,true_and])
  ·obtain ⟨hi,ha⟩:=hi
   have hs:i < l.length->qc4 (l.getD i 0).toNat = false->qee l = (0,5):=fun h h2=>qti (by rw [← ha,ql0 h,h2];rfl)
   have hs2:0 < l.length->qe8 0 l = if topV (l.getD 0 0) < 0 then (0,4) else qe8 (nxtV 0 (l.getD 0 0)) (l.drop 1):=fun h=>by
    have:=qjf (l:=l) (i:=0) h 0
    rwa [List.drop_zero] at this
   have hdig:¬ (i:Int) < l.length->digW l = true:=fun h=>by rw [← ha,List.drop_of_length_le (by omega)];rfl
   repeat' (first | refine vs_ ?_ | ((first | refine vr_ ?_ | simp (disch:=omega) only [qc] | simp (disch:=omega) only [qsy] | (refine cs_ ?_ ?_<;>intro hc) | refine cj_ ?_ | simp (disch:=omega) only [encs_getN,qc])<;>(try refine ev_ ?_)) | with_reducible exact ti_)
   all_goals first
    | (rw [hs (by omega) (q87 (by omega))];rfl)
    | (refine qu (i + 1) [] ⟨⟨by omega, ?_⟩, by omega⟩ rfl (by simp) ?_ ?_ ?_ <;> (try refine ev_ ?_) <;> (try with_reducible exact ti_) <;> (try simp (disch := omega) only [qc, and_true, true_and])
       have hd:qc4 (l.getD i 0).toNat = true:=q77 (by omega) (by omega)
       rw [← ha,ql0 (l:=l) (i:=i) (by omega),hd,Bool.true_and])
    | (subst hc;rfl)
    | skip
   ·have hlp:=qif (by assumption)
    have hd:=hdig (by assumption)
    have hc':topV (l.getD 0 0) < 0:=hc
    rw [qia (by assumption) hd,hs2 hlp,if_pos hc'];rfl
   ·rename_i hc0
    have hlp:=qif (by assumption)
    have hd:=hdig (by assumption)
    have hc':¬ topV (l.getD 0 0) < 0:=hc0
    refine qu (1,nxtV 0 (l.getD 0 0)) [] ⟨by omega,hd,?_⟩ rfl (by simp) ?_ ?_ ?_<;>(try refine ev_ ?_)<;>(try with_reducible exact ti_)<;>(try simp (disch:=omega) only [qc,and_true,true_and])
    ·rw [hs2 hlp,if_neg hc']
    ·rfl
   ·rename_i hc0
    have hlp:=qif (by assumption)
    have hd:=hdig (by assumption)
    have hc':¬ topV (l.getD 0 0) < 0:=hc0
    rw [qia (by assumption) hd,hs2 hlp,if_neg hc',List.drop_of_length_le (by omega)];rfl
 ·obtain ⟨j,k⟩:=s
  obtain ⟨hj,hd,hr⟩:=hs
  dsimp only at hj hr
  have hs2:qe8 0 l = if topV (l.getD j 0) < k then (0,4) else qe8 (nxtV k (l.getD j 0)) (l.drop (j + 1)):=by rw [← hr,qjf hj]
  have hne:l≠[]:=fun e=>by subst e;simp at hj
  rw [qia hne hd]
  repeat' (first | refine vs_ ?_ | ((first | refine vr_ ?_ | simp (disch:=omega) only [qc] | simp (disch:=omega) only [qsy] | (refine cs_ ?_ ?_<;>intro hc) | refine cj_ ?_ | simp (disch:=omega) only [encs_getN,qc])<;>(try refine ev_ ?_)) | with_reducible exact ti_)
  ·have hc':topV (l.getD j 0) < k:=hc
   rw [hs2,if_pos hc'];rfl
  ·rename_i hc0
   have hc':¬ topV (l.getD j 0) < k:=hc0
   refine qu (j + 1,nxtV k (l.getD j 0)) [] ⟨⟨by omega,hd,?_⟩,by omega⟩ rfl (by simp) ?_ ?_ ?_<;>(try refine ev_ ?_)<;>(try with_reducible exact ti_)<;>(try simp (disch:=omega) only [qc,and_true,true_and])
   ·rw [hs2,if_neg hc']
   ·rfl
  ·rename_i hc0
   have hc':¬ topV (l.getD j 0) < k:=hc0
   rw [hs2,if_neg hc',List.drop_of_length_le (by omega)];rfl
set_option maxRecDepth 4000

def pfx (p l:List UInt8):Bool:=decide (l.take p.length = p)
theorem qhs (l p:List UInt8):qo Try.prog 58 [.str l,.str p] (.bool (pfx p l)):=by
 refine qj c0bk (by simp) (by simp only [go_sem]) rfl fun hw=>?_
 repeat' (first | refine vs_ ?_ | ((first | refine vr_ ?_ | (refine cs_ ?_ ?_<;>intro hc) | refine cj_ ?_ | fail)<;>(try refine ev_ ?_)) | with_reducible exact ti_)
 ·rfl
 ·rw [pfx,decide_eq_false]
  intro h
  have:=congrArg List.length h
  rw [List.length_take] at this
  omega
theorem qf (l p:List UInt8):qo Try.prog 47 [.str l,.str p] (.bool (pfx p l)):=by
 refine qj c0bl (by simp) (by simp only [go_sem]) rfl fun hw=>?_
 repeat' (first | refine vs_ ?_ | ((first | refine vr_ ?_ | refine qa (qhs _ _) fun _=>?_ | (refine cs_ ?_ ?_<;>intro hc) | refine cj_ ?_ | fail)<;>(try refine ev_ ?_)) | with_reducible exact ti_)

end Go.Proofs.Ytefcfdejmfgbpaa
