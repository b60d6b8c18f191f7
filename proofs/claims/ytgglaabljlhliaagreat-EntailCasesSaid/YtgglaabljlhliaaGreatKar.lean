/- Texts of this proof, joined. -/
import Derived.Test.YtgglaabljlhliaaGreatKaj
import Derived.Test.YtgglaabljlhliaaGreatKaq
set_option linter.unusedVariables false
set_option linter.unusedSimpArgs false

/- names -/
set_option maxRecDepth 4000
namespace Go.Proofs.YtgglaabljlhliaaGreat
open Go Go.RowKit Go.V

def qrp (c:Int):Bool:=decide (97≤c) && decide (c≤122) || decide (c = 95)
def qg7 (c:Int):Bool:=decide (65≤c) && decide (c≤90)
def qc8 (c:Int):Bool:=decide (48≤c) && decide (c≤57)

theorem qtw (c:Int):qg Tryz.prog 131 [.int .u8 c] (.bool (qrp c)):=by
 refine qd c0cg (by simp) (by simp only [go_sem]) rfl fun hw=>?_
 repeat' (first | refine vs_ ?_ | ((first | refine vr_ ?_ | (refine cs_ ?_ ?_<;>intro hc) | refine cj_ ?_ | fail)<;>(try refine ev_ ?_)) | with_reducible exact ti_)
 all_goals simp [qrp, *]
theorem qtn (c:Int):qg Tryz.prog 116 [.int .u8 c] (.bool (qrp c)):=by
 refine qd c0ch (by simp) (by simp only [go_sem]) rfl fun hw=>?_
 repeat' (first | refine vs_ ?_ | ((first | refine vr_ ?_ | (refine cs_ ?_ ?_<;>intro hc) | refine cj_ ?_ | fail)<;>(try refine ev_ ?_)) | with_reducible exact ti_)
 all_goals simp [qrp, *]
theorem qk6 (c:Int):qg Tryz.prog 104 [.int .u8 c] (.bool (qg7 c)):=by
 refine qd c0ci (by simp) (by simp only [go_sem]) rfl fun hw=>?_
 repeat' (first | refine vs_ ?_ | ((first | refine vr_ ?_ | (refine cs_ ?_ ?_<;>intro hc) | refine cj_ ?_ | fail)<;>(try refine ev_ ?_)) | with_reducible exact ti_)
 all_goals simp [qg7, *]
theorem qk4 (c:Int):qg Tryz.prog 55 [.int .u8 c] (.bool (qg7 c)):=by
 refine qd c0cj (by simp) (by simp only [go_sem]) rfl fun hw=>?_
 repeat' (first | refine vs_ ?_ | ((first | refine vr_ ?_ | (refine cs_ ?_ ?_<;>intro hc) | refine cj_ ?_ | fail)<;>(try refine ev_ ?_)) | with_reducible exact ti_)
 all_goals simp [qg7, *]
theorem qsi (c:Int):qg Tryz.prog 117 [.int .u8 c] (.bool (qc8 c)):=by
 refine qd c0ck (by simp) (by simp only [go_sem]) rfl fun hw=>?_
 repeat' (first | refine vs_ ?_ | ((first | refine vr_ ?_ | (refine cs_ ?_ ?_<;>intro hc) | refine cj_ ?_ | fail)<;>(try refine ev_ ?_)) | with_reducible exact ti_)
 all_goals simp [qc8, *]
def onW (c:Int):Bool:=qrp c || qg7 c || qc8 c || decide (c = 39)
theorem q8h (c:Int):qg Tryz.prog 90 [.int .u8 c] (.bool (onW c)):=by
 refine qd c0cl (by simp) (by simp only [go_sem]) rfl fun hw=>?_
 repeat' (first | refine vs_ ?_ | ((first | refine vr_ ?_ | refine qa (qtn _) fun _=>?_ | refine qa (qk4 _) fun _=>?_ | refine qa (qsi _) fun _=>?_ | (refine cs_ ?_ ?_<;>intro hc) | refine cj_ ?_ | fail)<;>(try refine ev_ ?_)) | with_reducible exact ti_)
 all_goals simp [onW, *]

def onsW (l:List UInt8):Bool:=l.all fun c=>onW c.toNat
theorem qlb {l:List UInt8} {i:Nat} (h:i < l.length):l.drop i = l.getD i 0 :: l.drop (i + 1):=by
 rw [List.drop_eq_getElem_cons h,List.getD_eq_getElem?_getD,List.getElem?_eq_getElem h];rfl
theorem qfc {l:List UInt8} {i:Nat} (h:i < l.length):onsW (l.drop i) = (onW (l.getD i 0).toNat && onsW (l.drop (i + 1))):=by
 rw [qlb h];rfl
theorem qxl (l:List UInt8):qg Tryz.prog 105 [.str l] (.bool (onsW l)):=by
 refine qd c0cm (by simp) (by simp only [go_sem]) rfl fun hw=>?_
 have hl:l.length≤maxLen:=hw.1
 repeat' (first | refine vs_ ?_ | ((first | refine vr_ ?_ | (refine cs_ ?_ ?_<;>intro hc) | refine cj_ ?_ | simp (disch:=omega) only [encs_getN,qb])<;>(try refine ev_ ?_)) | with_reducible exact ti_)
 refine qi (S:=Nat) (fun i=>i≤l.length∧onsW (l.drop i) = onsW l) (fun i=>(⟨[(0,.str l),(6,.int .i64 l.length),(7,.int .i64 i)],[]⟩,[])) (fun i=>l.length - i) ?_ fun i hi=>?_
 ·refine qf 0 [] ⟨Nat.zero_le _,rfl⟩ rfl (by simp) ?_ ?_ ?_<;>(try refine ev_ ?_)<;>(try with_reducible exact ti_)<;>(try simp (disch:=omega) only [qb,and_true,true_and])
 ·obtain ⟨hi,ha⟩:=hi
  repeat' (first | refine vs_ ?_ | ((first | refine vr_ ?_ | refine qa (qtw _) fun _=>?_ | refine qa (qk6 _) fun _=>?_ | (refine cs_ ?_ ?_<;>intro hc) | refine cj_ ?_ | simp (disch:=omega) only [encs_getN,qb])<;>(try refine ev_ ?_)) | with_reducible exact ti_)
  all_goals first
   | (refine qf (i + 1) [] ⟨⟨by omega, ?_⟩, by omega⟩ rfl (by simp) ?_ ?_ ?_ <;> (try refine ev_ ?_) <;> (try with_reducible exact ti_) <;> (try simp (disch := omega) only [qb, and_true, true_and])
      rw [← ha,qfc (l:=l) (i:=i) (by omega)]
      simp_all [onW,qc8]
      try omega)
   | (rw [← ha,show i = l.length by omega,List.drop_length];rfl)
   | (rw [← ha, qfc (l := l) (i := i) (by omega)]
      simp_all [onW,qc8]
      try omega)

theorem q8d (l:List UInt8):qg Tryz.prog 56 [.str l] (.bool (onsW (l.drop 1))):=by
 refine qd c0cn (by simp) (by simp only [go_sem]) rfl fun hw=>?_
 have hl:l.length≤maxLen:=hw.1
 repeat' (first | refine vs_ ?_ | ((first | refine vr_ ?_ | (refine cs_ ?_ ?_<;>intro hc) | refine cj_ ?_ | simp (disch:=omega) only [encs_getN,qb])<;>(try refine ev_ ?_)) | with_reducible exact ti_)
 refine qi (S:=Nat) (fun i=>1≤i∧onsW (l.drop i) = onsW (l.drop 1)) (fun i=>(⟨[(0,.str l),(3,.int .i64 i)],[]⟩,[])) (fun i=>l.length - i) ?_ fun i hi=>?_
 ·refine qf 1 [] ⟨Nat.le_refl _,rfl⟩ rfl (by simp) ?_ ?_ ?_<;>(try refine ev_ ?_)<;>(try with_reducible exact ti_)<;>(try simp (disch:=omega) only [qb,and_true,true_and])
 ·obtain ⟨hi,ha⟩:=hi
  repeat' (first | refine vs_ ?_ | ((first | refine vr_ ?_ | refine qa (q8h _) fun _=>?_ | (refine cs_ ?_ ?_<;>intro hc) | refine cj_ ?_ | simp (disch:=omega) only [encs_getN,qb])<;>(try refine ev_ ?_)) | with_reducible exact ti_)
  ·rw [← ha,qfc (l:=l) (i:=i) (by omega),hc];rfl
  ·refine qf (i + 1) [] ⟨⟨by omega,?_⟩,by omega⟩ rfl (by simp) ?_ ?_ ?_<;>(try refine ev_ ?_)<;>(try with_reducible exact ti_)<;>(try simp (disch:=omega) only [qb,and_true,true_and])
   rw [← ha,qfc (l:=l) (i:=i) (by omega),hc,Bool.true_and]
  ·rw [← ha,List.drop_of_length_le (by omega)];rfl

def conW (l:List UInt8):Bool:=decide (l≠[]) && qg7 (l.getD 0 0).toNat && onsW l
theorem qh1 (l:List UInt8):qg Tryz.prog 77 [.str l] (.bool (conW l)):=by
 refine qd c0co (by simp) (by simp only [go_sem]) rfl fun hw=>?_
 have hl:l.length≤maxLen:=hw.1
 repeat' (first | refine vs_ ?_ | ((first | refine vr_ ?_ | refine qa (qxl _) fun _=>?_ | refine qa (qk6 _) fun _=>?_ | (refine cs_ ?_ ?_<;>intro hc) | refine cj_ ?_ | simp (disch:=omega) only [encs_getN,qb])<;>(try refine ev_ ?_)) | with_reducible exact ti_)
 all_goals simp_all [conW]
theorem q3a {l:List UInt8} (h:¬ l = []):onsW l = (onW (l.getD 0 0).toNat && onsW (l.drop 1)):=qfc (l:=l) (i:=0) (qiv h)
theorem q8s {c:Int} (h:qg7 c = true):onW c = true:=by simp [onW,h]
theorem qpj (l:List UInt8):qg Tryz.prog 32 [.str l] (.bool (conW l)):=by
 refine qd c0cp (by simp) (by simp only [go_sem]) rfl fun hw=>?_
 have hl:l.length≤maxLen:=hw.1
 have hk:conW l = (decide (l≠[]) && qg7 (l.getD 0 0).toNat && onsW (l.drop 1)):=by
  by_cases h:l = []
  ·subst h;rfl
  ·rw [conW,q3a h]
   cases hg:qg7 (l.getD 0 0).toNat
   ·simp
   ·rw [q8s hg];simp
 rw [hk]
 repeat' (first | refine vs_ ?_ | ((first | refine vr_ ?_ | refine qa (q8d _) fun _=>?_ | refine qa (qk4 _) fun _=>?_ | (refine cs_ ?_ ?_<;>intro hc) | refine cj_ ?_ | simp (disch:=omega) only [encs_getN,qb])<;>(try refine ev_ ?_)) | with_reducible exact ti_)
 all_goals simp_all
set_option maxRecDepth 4000

theorem qgy:IntKind.i64.wrap (0 + 1) = 1:=by decide
def digW (l:List UInt8):Bool:=l.all fun c=>qc8 c.toNat
theorem qhs {l:List UInt8} {i:Nat} (h:i < l.length):digW (l.drop i) = (qc8 (l.getD i 0).toNat && digW (l.drop (i + 1))):=by
 rw [qlb h];rfl

def digV (c:UInt8):Int:=IntKind.i64.wrap (IntKind.u8.wrap ((c.toNat:Int) - 48))
def topV (c:UInt8):Int:=IntKind.i64.wrap ((IntKind.i64.wrap (9223372036854775807 - digV c)).tdiv 10)
def nxtV (k:Int) (c:UInt8):Int:=IntKind.i64.wrap (IntKind.i64.wrap (10 * k) + digV c)
def qe4:Int->List UInt8->Int×Int
 | k,[]=>(k,0)
 | k,c :: r=>if topV c < k then (0,4) else qe4 (nxtV k c) r
def qe6 (l:List UInt8):Int×Int:=if l = [] then (0,5) else if digW l = true then qe4 0 l else (0,5)
def q5p (p:Int×Int):AV:=.tup [.int .i64 p.1,.int .i64 p.2]
theorem qi0 {l:List UInt8} {i:Nat} (h:i < l.length) (k:Int):qe4 k (l.drop i) = if topV (l.getD i 0) < k then (0,4) else qe4 (nxtV k (l.getD i 0)) (l.drop (i + 1)):=by
 rw [qlb h];rfl
theorem q17 {c:Int} (h:c < 48∨57 < c):qc8 c = false:=by
 simp only [qc8,Bool.and_eq_false_iff,decide_eq_false_iff_not];omega
theorem q3y {c:Int} (h:¬ c < 48) (h2:¬ 57 < c):qc8 c = true:=by
 simp only [qc8,Bool.and_eq_true,decide_eq_true_eq];omega
theorem qhe {l:List UInt8} (h:l≠[]) (hd:digW l = true):qe6 l = qe4 0 l:=by rw [qe6,if_neg h,if_pos hd]
theorem qsa {l:List UInt8} (hd:digW l = false):qe6 l = (0,5):=by rw [qe6,hd];simp

theorem qmc (l:List UInt8):qg Tryz.prog 88 [.str l] (q5p (qe6 l)):=by
 refine qd c0ce (by simp) (by simp only [go_sem]) rfl fun hw=>?_
 have hl:l.length≤maxLen:=hw.1
 repeat' (first | refine vs_ ?_ | ((first | refine vr_ ?_ | (refine cs_ ?_ ?_<;>intro hc) | refine cj_ ?_ | simp (disch:=omega) only [encs_getN,qb])<;>(try refine ev_ ?_)) | with_reducible exact ti_)
 ·subst hc;rfl
 ·refine qi (S:=Nat) (fun i=>i≤l.length∧digW (l.drop i) = digW l) (fun i=>(⟨[(0,.str l),(4,.int .i64 i)],[]⟩,[])) (fun i=>l.length - i) ?_ fun i hi=>?_
  ·refine qf 0 [] ⟨Nat.zero_le _,rfl⟩ rfl (by simp) ?_ ?_ ?_<;>(try refine ev_ ?_)<;>(try with_reducible exact ti_)<;>(try simp (disch:=omega) only [qb,and_true,true_and])
  ·obtain ⟨hi,ha⟩:=hi
   have hs:i < l.length->qc8 (l.getD i 0).toNat = false->qe6 l = (0,5):=fun h h2=>qsa (by rw [← ha,qhs h,h2];rfl)
   repeat' (first | refine vs_ ?_ | ((first | refine vr_ ?_ | (refine cs_ ?_ ?_<;>intro hc) | refine cj_ ?_ | simp (disch:=omega) only [encs_getN,qb])<;>(try refine ev_ ?_)) | with_reducible exact ti_)
   ·rw [hs (by omega) (q17 (by omega))];rfl
   ·rw [hs (by omega) (q17 (by omega))];rfl
   ·refine qf (i + 1) [] ⟨⟨by omega,?_⟩,by omega⟩ rfl (by simp) ?_ ?_ ?_<;>(try refine ev_ ?_)<;>(try with_reducible exact ti_)<;>(try simp (disch:=omega) only [qb,and_true,true_and])
    have hd:qc8 (l.getD i 0).toNat = true:=q3y (by omega) (by omega)
    rw [← ha,qhs (l:=l) (i:=i) (by omega),hd,Bool.true_and]
   ·have hd:digW l = true:=by rw [← ha,List.drop_of_length_le (by omega)];rfl
    rw [qhe (by assumption) hd]
    refine qi (S:=Nat×Int) (fun s=>s.1≤l.length∧qe4 s.2 (l.drop s.1) = qe4 0 l) (fun s=>(⟨[(0,.str l),(5,.int .i64 s.2),(6,.int .i64 s.1)],[]⟩,[])) (fun s=>l.length - s.1) ?_ fun s hs=>?_
    ·refine qf (0,0) [] ⟨Nat.zero_le _,rfl⟩ rfl (by simp) ?_ ?_ ?_<;>(try refine ev_ ?_)<;>(try with_reducible exact ti_)<;>(try simp (disch:=omega) only [qb,and_true,true_and])
    ·obtain ⟨j,k⟩:=s
     obtain ⟨hj,hr⟩:=hs
     dsimp only at hj hr
     have hs2:j < l.length->qe4 0 l = if topV (l.getD j 0) < k then (0,4) else qe4 (nxtV k (l.getD j 0)) (l.drop (j + 1)):=fun h=>by rw [← hr,qi0 h]
     repeat' (first | refine vs_ ?_ | ((first | refine vr_ ?_ | (refine cs_ ?_ ?_<;>intro hc) | refine cj_ ?_ | simp (disch:=omega) only [encs_getN,qb])<;>(try refine ev_ ?_)) | with_reducible exact ti_)
     ·have hc':topV (l.getD j 0) < k:=hc
      rw [hs2 (by omega),if_pos hc'];rfl
     ·have hc':¬ topV (l.getD j 0) < k:=hc
      refine qf (j + 1,nxtV k (l.getD j 0)) [] ⟨⟨by omega,?_⟩,by omega⟩ rfl (by simp) ?_ ?_ ?_<;>(try refine ev_ ?_)<;>(try with_reducible exact ti_)<;>(try simp (disch:=omega) only [qb,and_true,true_and])
      ·rw [hs2 (by omega),if_neg hc']
      ·rfl
     ·rw [← hr,List.drop_of_length_le (by omega)];rfl

theorem qhq (l:List UInt8):qg Tryz.prog 126 [.str l] (q5p (qe6 l)):=by
 refine qd c0cf (by simp) (by simp only [go_sem]) rfl fun hw=>?_
 have hl:l.length≤maxLen:=hw.1
 refine qcg (qhu ?_)
 (refine ev_ ?_;(try with_reducible exact ti_))
 refine qzx (S:=Nat×Int) 0 rfl (fun s=>s.1 < l.length∧digW l = true∧qe4 s.2 (l.drop s.1) = qe4 0 l) (fun s=>(⟨[(0,.str l),(5,.int .i64 s.2),(6,.int .i64 s.1)],[]⟩,[])) (fun s=>l.length - s.1) ?_ fun s hs=>?_
 ·repeat' (first | refine vs_ ?_ | ((first | refine vr_ ?_ | (refine cs_ ?_ ?_<;>intro hc) | refine cj_ ?_ | simp (disch:=omega) only [encs_getN,qb])<;>(try refine ev_ ?_)) | with_reducible exact ti_)
  refine qi (S:=Nat) (fun i=>i≤l.length∧digW (l.drop i) = digW l) (fun i=>(⟨[(0,.str l),(9,.int .i64 l.length),(10,.int .i64 i)],[]⟩,[])) (fun i=>l.length - i) ?_ fun i hi=>?_
  ·refine qf 0 [] ⟨Nat.zero_le _,rfl⟩ rfl (by simp) ?_ ?_ ?_<;>(try refine ev_ ?_)<;>(try with_reducible exact ti_)<;>(try simp (disch:=omega) only [qb,and_true,true_and])
  ·obtain ⟨hi,ha⟩:=hi
   have hs:i < l.length->qc8 (l.getD i 0).toNat = false->qe6 l = (0,5):=fun h h2=>qsa (by rw [← ha,qhs h,h2];rfl)
   have hs2:0 < l.length->qe4 0 l = if topV (l.getD 0 0) < 0 then (0,4) else qe4 (nxtV 0 (l.getD 0 0)) (l.drop 1):=fun h=>by
    have:=qi0 (l:=l) (i:=0) h 0
    rwa [List.drop_zero] at this
   have hdig:¬ (i:Int) < l.length->digW l = true:=fun h=>by rw [← ha,List.drop_of_length_le (by omega)];rfl
   repeat' (first | refine vs_ ?_ | ((first | refine vr_ ?_ | simp (disch:=omega) only [qb] | simp (disch:=omega) only [qgy] | (refine cs_ ?_ ?_<;>intro hc) | refine cj_ ?_ | simp (disch:=omega) only [encs_getN,qb])<;>(try refine ev_ ?_)) | with_reducible exact ti_)
   all_goals first
    | (rw [hs (by omega) (q17 (by omega))];rfl)
    | (refine qf (i + 1) [] ⟨⟨by omega, ?_⟩, by omega⟩ rfl (by simp) ?_ ?_ ?_ <;> (try refine ev_ ?_) <;> (try with_reducible exact ti_) <;> (try simp (disch := omega) only [qb, and_true, true_and])
       have hd:qc8 (l.getD i 0).toNat = true:=q3y (by omega) (by omega)
       rw [← ha,qhs (l:=l) (i:=i) (by omega),hd,Bool.true_and])
    | (subst hc;rfl)
    | skip
   ·have hlp:=qiv (by assumption)
    have hd:=hdig (by assumption)
    have hc':topV (l.getD 0 0) < 0:=hc
    rw [qhe (by assumption) hd,hs2 hlp,if_pos hc'];rfl
   ·rename_i hc0
    have hlp:=qiv (by assumption)
    have hd:=hdig (by assumption)
    have hc':¬ topV (l.getD 0 0) < 0:=hc0
    refine qf (1,nxtV 0 (l.getD 0 0)) [] ⟨by omega,hd,?_⟩ rfl (by simp) ?_ ?_ ?_<;>(try refine ev_ ?_)<;>(try with_reducible exact ti_)<;>(try simp (disch:=omega) only [qb,and_true,true_and])
    ·rw [hs2 hlp,if_neg hc']
    ·rfl
   ·rename_i hc0
    have hlp:=qiv (by assumption)
    have hd:=hdig (by assumption)
    have hc':¬ topV (l.getD 0 0) < 0:=hc0
    rw [qhe (by assumption) hd,hs2 hlp,if_neg hc',List.drop_of_length_le (by omega)];rfl
 ·obtain ⟨j,k⟩:=s
  obtain ⟨hj,hd,hr⟩:=hs
  dsimp only at hj hr
  have hs2:qe4 0 l = if topV (l.getD j 0) < k then (0,4) else qe4 (nxtV k (l.getD j 0)) (l.drop (j + 1)):=by rw [← hr,qi0 hj]
  have hne:l≠[]:=fun e=>by subst e;simp at hj
  rw [qhe hne hd]
  repeat' (first | refine vs_ ?_ | ((first | refine vr_ ?_ | simp (disch:=omega) only [qb] | simp (disch:=omega) only [qgy] | (refine cs_ ?_ ?_<;>intro hc) | refine cj_ ?_ | simp (disch:=omega) only [encs_getN,qb])<;>(try refine ev_ ?_)) | with_reducible exact ti_)
  ·have hc':topV (l.getD j 0) < k:=hc
   rw [hs2,if_pos hc'];rfl
  ·rename_i hc0
   have hc':¬ topV (l.getD j 0) < k:=hc0
   refine qf (j + 1,nxtV k (l.getD j 0)) [] ⟨⟨by omega,hd,?_⟩,by omega⟩ rfl (by simp) ?_ ?_ ?_<;>(try refine ev_ ?_)<;>(try with_reducible exact ti_)<;>(try simp (disch:=omega) only [qb,and_true,true_and])
   ·rw [hs2,if_neg hc']
   ·rfl
  ·rename_i hc0
   have hc':¬ topV (l.getD j 0) < k:=hc0
   rw [hs2,if_neg hc',List.drop_of_length_le (by omega)];rfl
end Go.Proofs.YtgglaabljlhliaaGreat
