/- Texts of this proof, joined. -/
import Derived.Test.YtgglaabljlhliaaGreatKau
set_option linter.unusedVariables false
set_option linter.unusedSimpArgs false

/- rows of integers: whether a number is there, each once -/
set_option maxRecDepth 4000
namespace Go.Proofs.YtgglaabljlhliaaGreat
open Go Go.RowKit Go.V

def ints (l:List Int):List AV:=l.map (AV.int .i64)
theorem qbu (l:List Int):(ints l).length = l.length:=by simp [ints]
theorem qdi (k:Nat) (l:List Int):AV.bds k (ints l) = true:=by rw [ints,qb2];simp [AV.bd]
theorem qew (σ:Nat->Nat) (l:List Int):AV.rens σ (ints l) = ints l:=qj (m:=0) (fun i hi=>by omega) _ (qdi 0 l)
theorem qk1 {l:List Int} {i:Nat} (h:i < l.length):(ints l).getD i .junk = .int .i64 (l.getD i 0):=by
 rw [ints,List.getD_eq_getElem?_getD,List.getElem?_map,List.getElem?_eq_getElem h,List.getD_eq_getElem?_getD,List.getElem?_eq_getElem h];rfl
theorem qhp (l:List Int) (v:Int):ints l ++ [.int .i64 v] = ints (l ++ [v]):=by simp [ints]
theorem qba8 (a b:List Int):ints a ++ ints b = ints (a ++ b):=by simp [ints]
theorem qjw (v:Int):[AV.int .i64 v] = ints [v]:=rfl
theorem qic:ints [] = []:=rfl
theorem qfs {l:List Int} (h:l≠[]):ints l≠[]:=by cases l with | nil=>exact absurd rfl h | cons _ _=>simp [ints]
attribute [go_sem] qbu qdi qew cond_false cond_true
theorem qbzv {l:List Int} {i:Nat} (h:i < l.length):l.drop i = l.getD i 0 :: l.drop (i + 1):=by
 rw [List.drop_eq_getElem_cons h,List.getD_eq_getElem?_getD,List.getElem?_eq_getElem h];rfl
theorem q9t {l:List Int} {i:Nat} (h:i < l.length):l.getD i 0∈l:=by
 rw [List.getD_eq_getElem?_getD,List.getElem?_eq_getElem h];exact List.getElem_mem h
theorem capI {k:Nat} (h:k≤1000000000):qbe k 8:=by unfold qbe;omega

def idxW (v:Int):List Int->Int->Int
 | [],_=>-1
 | x :: r,k=>if v = x then k else idxW v r (k + 1)
theorem qzi (v:Int):∀ (l:List Int) (k:Int),0≤k->(decide (0≤idxW v l k) = decide (v∈l))
 | [],k,h=>by simp [idxW]
 | x :: r, k, h => by
   rw [idxW]
   by_cases hx:v = x
   ·simp [hx,h]
   ·rw [if_neg hx,qzi v r (k + 1) (by omega)];simp [hx]
theorem qrg (l:List Int) (v:Int):qg Tryz.prog 107 [.sl 1 (ints l),.int .i64 v] (.int .i64 (idxW v l 0)):=by
 refine qd c0bt (by simp) (by simp only [go_sem]) rfl fun hw=>?_
 have hl:l.length≤maxLen:=by have:=hw.1.1;rwa [qbu] at this
 repeat' (first | refine vs_ ?_ | ((first | refine vr_ ?_ | (refine cs_ ?_ ?_<;>intro hc) | refine cj_ ?_ | simp (disch:=omega) only [encs_getN,qb])<;>(try refine ev_ ?_)) | with_reducible exact ti_)
 refine qi (S:=Nat) (fun i=>i≤l.length∧idxW v (l.drop i) i = idxW v l 0) (fun i=>(⟨[(0,.sl 1 (ints l)),(1,.int .i64 v),(7,.int .i64 l.length),(8,.int .i64 i)],[]⟩,[])) (fun i=>l.length - i) ?_ fun i hi=>?_
 ·refine qf 0 [] ⟨Nat.zero_le _,rfl⟩ rfl (by simp) ?_ ?_ ?_<;>(try refine ev_ ?_)<;>(try with_reducible exact ti_)<;>(try simp (disch:=omega) only [qb,and_true,true_and])
 ·obtain ⟨hi,ha⟩:=hi
  repeat' (first | refine vs_ ?_ | ((first | refine vr_ ?_ | fail)<;>(try simp (disch:=first | omega | (simp only [List.length_set,List.length_append,List.length_cons,List.length_nil];done) | (simp only [List.length_set,List.length_append,List.length_cons,List.length_nil];omega)) only [qk1,qb,go_sem,↓reduceIte])) | ((first | (refine cs_ ?_ ?_<;>intro hc) | refine cj_ ?_ | simp (disch:=omega) only [encs_getN,qb])<;>(try refine ev_ ?_)) | with_reducible exact ti_)
  ·rw [← ha,qbzv (by omega),idxW,if_pos (by assumption)]
  ·refine qf (i + 1) [] ⟨⟨by omega,?_⟩,by omega⟩ rfl (by simp) ?_ ?_ ?_<;>(try refine ev_ ?_)<;>(try with_reducible exact ti_)<;>(try simp (disch:=omega) only [qb,and_true,true_and])
   rw [← ha,qbzv (l:=l) (i:=i) (by omega),idxW,if_neg (by assumption)];rfl
  ·rw [← ha,List.drop_of_length_le (by omega)];rfl
theorem qki (l:List Int) (v:Int):qg Tryz.prog 80 [.sl 1 (ints l),.int .i64 v] (.bool (decide (v∈l))):=by
 refine qd c0bu (by simp) (by simp only [go_sem]) rfl fun hw=>?_
 repeat' (first | refine vs_ ?_ | ((first | refine vr_ ?_ | refine qa (qrg _ _) fun _=>?_ | (refine cs_ ?_ ?_<;>intro hc) | refine cj_ ?_ | fail)<;>(try refine ev_ ?_)) | with_reducible exact ti_)
 rw [qzi v l 0 (by omega)]
/-! each once -/
theorem qu {H:List Ent} {n:Nat}:co H (.sl n) .nils = .sl n []:=Eq.trans rfl rfl
/-! all variables -/
/-! the program's: a walk that gathers -/
set_option maxRecDepth 4000

/-! the program's -/
abbrev numE (n:Int):Ent:=.blk [.int .i64 n]
def qfq (n:Int) (t:Ty) (k:Int):Int×Bool:=(IntKind.i64.wrap (n + 1),decide (IntKind.i64.wrap (n + 1)≤4096) && (decide (k≤100) && mayY t))
theorem qbyz (n:Int) (t:Ty) (k:Int):VM Tryz.prog 98 (numE n) (numE (qfq n t k).1) [encY t,.int .i64 k,.ptr 0 0] (.bool (qfq n t k).2):=by
 refine qho (by kernel_rfl) fun hw=>?_
 have hk:=qcs hw.1
 refine qt c0bh 1 (by simp) (by simp) ?_
 repeat' (first | refine vs_ ?_ | ((first | refine vr_ ?_ | refine qa (qh0 _) fun _=>?_ | refine qa (q7p _ _ _) fun _=>?_ | (refine cs_ ?_ ?_<;>intro hc) | refine cj_ ?_ | simp (disch:=omega) only [encs_getN,qb])<;>(try refine ev_ ?_)) | with_reducible exact ti_)
 ·simp_all [qfq]
 ·exact ⟨rfl,by simp only [qfq, *,decide_true,decide_false,Bool.true_and,Bool.false_and]⟩
 ·exact ⟨rfl,by simp only [qfq, *,decide_true,decide_false,Bool.true_and,Bool.false_and]⟩
def qtq (n:Int) (_:Ty) (_:Int):Int×Bool:=(IntKind.i64.wrap (n + 1),true)
theorem qb42 (n:Int) (t:Ty) (k:Int):VM Tryz.prog 147 (numE n) (numE (qtq n t k).1) [encY t,.int .i64 k,.ptr 0 0] (.bool (qtq n t k).2):=by
 refine qt c0bi 1 (by simp) (by simp) ?_
 repeat' (first | refine vs_ ?_ | ((first | refine vr_ ?_ | (refine cs_ ?_ ?_<;>intro hc) | refine cj_ ?_ | simp (disch:=omega) only [encs_getN,qb])<;>(try refine ev_ ?_)) | with_reducible exact ti_)
 exact ⟨rfl,rfl⟩
def qsf (n:Int) (_:Ty) (k:Int):Int×Bool:=(if k > n then k else n,true)
theorem qbxw (n:Int) (t:Ty) (k:Int):VM Tryz.prog 148 (numE n) (numE (qsf n t k).1) [encY t,.int .i64 k,.ptr 0 0] (.bool (qsf n t k).2):=by
 refine qt c0bj 1 (by simp) (by simp) ?_
 repeat' (first | refine vs_ ?_ | ((first | refine vr_ ?_ | (refine cs_ ?_ ?_<;>intro hc) | refine cj_ ?_ | fail)<;>(try refine ev_ ?_)) | with_reducible exact ti_)
 exact ⟨rfl,rfl⟩
theorem qn5 {f:FuncId} {step:Int->Ty->Int->Int×Bool} (h:∀ n t k,VM Tryz.prog f (numE n) (numE (step n t k).1) [encY t,.int .i64 k,.ptr 0 0] (.bool (step n t k).2)) (t:Ty) (n k:Int) :
 VM Tryz.prog 97 (numE n) (numE (qcx step t n k).1) [encY t,.int .i64 k,.fn f [] [.ptr 0 0]] (.bool (qcx step t n k).2) :=
 qx3 (st:=numE) (ok:=fun _ _=>True) (fun _=>rfl) (fun _ _ _ _ _=>trivial) (fun _ _ _=>trivial) (fun n t k _=>h n t k) t n k trivial
def q1z (t:Ty):Bool:=(qcx qfq t 0 1).2
theorem qsl (t:Ty):qg Tryz.prog 68 [encY t] (.bool (q1z t)):=by
 refine qd c0bk (by simp) (by simp only [go_sem]) rfl fun hw=>?_
 repeat' (first | refine vs_ ?_ | ((first | refine vr_ ?_ | refine qce 1 (qn5 qbyz t 0 1) ?_ | (refine cs_ ?_ ?_<;>intro hc) | refine cj_ ?_ | fail)<;>(try refine ev_ ?_)) | with_reducible exact ti_)
 rfl
theorem qxu (t:Ty):qg Tryz.prog 137 [encY t] (.int .i64 (qcx qtq t 0 1).1):=by
 refine qd c0bl (by simp) (by simp only [go_sem]) rfl fun hw=>?_
 repeat' (first | refine vs_ ?_ | ((first | refine vr_ ?_ | refine qce 1 (qn5 qb42 t 0 1) ?_ | (refine cs_ ?_ ?_<;>intro hc) | refine cj_ ?_ | fail)<;>(try refine ev_ ?_)) | with_reducible exact ti_)
theorem qs7 (t:Ty):qg Tryz.prog 138 [encY t] (.int .i64 (qcx qsf t 0 1).1):=by
 refine qd c0bm (by simp) (by simp only [go_sem]) rfl fun hw=>?_
 repeat' (first | refine vs_ ?_ | ((first | refine vr_ ?_ | refine qce 1 (qn5 qbxw t 0 1) ?_ | (refine cs_ ?_ ?_<;>intro hc) | refine cj_ ?_ | fail)<;>(try refine ev_ ?_)) | with_reducible exact ti_)

/-! the references -/
mutual
def qi9:Ty->Int
 | .mk _ _ l=>qfp 1 l
def qfp:Int->List Ty->Int
 | a,[]=>a
 | a,x :: r=>qfp (IntKind.i64.wrap (a + qi9 x)) r
end
theorem q1p (t:Ty):qi9 t = qfp 1 t.args:=by cases t;rw [qi9];rfl
theorem qf5:∀ t,qg Tryz.prog 11 [encY t] (.int .i64 (qi9 t)):=by
 refine Ty.ind fun t ih=>?_
 refine qd c0bn (by simp) (by simp only [go_sem]) rfl fun hw=>?_
 have hk:=qcs hw.1
 repeat' (first | refine vs_ ?_ | ((first | refine vr_ ?_ | (refine cs_ ?_ ?_<;>intro hc) | refine cj_ ?_ | simp (disch:=omega) only [encs_getN,qb])<;>(try refine ev_ ?_)) | with_reducible exact ti_)
 refine qi (S:=Nat×Int) (fun s=>s.1≤t.args.length∧qfp s.2 (t.args.drop s.1) = qi9 t) (fun s=>(⟨[(1,.ptr 0 0),(3,.int .i64 s.2),(4,.int .i64 s.1)],[]⟩,[.blk (yc t)])) (fun s=>t.args.length - s.1) ?_ fun s hs=>?_
 ·refine qf (0,1) [0] ⟨Nat.zero_le _,(q1p t).symm⟩ rfl (by simp) ?_ ?_ ?_<;>(try refine ev_ ?_)<;>(try with_reducible exact ti_)<;>(try simp (disch:=omega) only [qb,and_true,true_and])
 ·obtain ⟨i,a⟩:=s
  obtain ⟨hi,ha⟩:=hs
  dsimp only at hi ha
  repeat' (first | refine vs_ ?_ | ((first | refine vr_ ?_ | fail)<;>(try simp (disch:=first | omega | (simp only [List.length_set,List.length_append,List.length_cons,List.length_nil];done) | (simp only [List.length_set,List.length_append,List.length_cons,List.length_nil];omega)) only [qw,qb,go_sem,↓reduceIte])) | ((first | (refine cs_ ?_ ?_<;>intro hc) | refine cj_ ?_ | simp (disch:=omega) only [encs_getN,qb] | refine qa (ih _ (qbi (by omega))) fun _=>?_)<;>(try refine ev_ ?_)) | with_reducible exact ti_)
  ·refine qf (i + 1,IntKind.i64.wrap (a + qi9 (t.args.getD i Y0))) [0] ⟨⟨by dsimp only;omega,?_⟩,by dsimp only;omega⟩ rfl (by simp) ?_ ?_ ?_<;>(try refine ev_ ?_)<;>(try with_reducible exact ti_)<;>(try simp (disch:=omega) only [qb,and_true,true_and])
   rw [← ha,qnr (l:=t.args) (i:=i) (by omega),qfp]
  ·rw [← ha,List.drop_of_length_le (by omega)];rfl
mutual
def qou:Ty->Int
 | .mk _ _ l=>IntKind.i64.wrap (qhb 0 l + 1)
def qhb:Int->List Ty->Int
 | a,[]=>a
 | a,x :: r=>qhb (if qou x > a then qou x else a) r
end
theorem q7w (t:Ty):qou t = IntKind.i64.wrap (qhb 0 t.args + 1):=by cases t;rw [qou];rfl
theorem qg1:∀ t,qg Tryz.prog 21 [encY t] (.int .i64 (qou t)):=by
 refine Ty.ind fun t ih=>?_
 refine qd c0bo (by simp) (by simp only [go_sem]) rfl fun hw=>?_
 have hk:=qcs hw.1
 repeat' (first | refine vs_ ?_ | ((first | refine vr_ ?_ | (refine cs_ ?_ ?_<;>intro hc) | refine cj_ ?_ | simp (disch:=omega) only [encs_getN,qb])<;>(try refine ev_ ?_)) | with_reducible exact ti_)
 refine qi (S:=Nat×Int) (fun s=>s.1≤t.args.length∧qhb s.2 (t.args.drop s.1) = qhb 0 t.args) (fun s=>(⟨[(1,.ptr 0 0),(3,.int .i64 s.2),(4,.int .i64 s.1)],[]⟩,[.blk (yc t)])) (fun s=>t.args.length - s.1) ?_ fun s hs=>?_
 ·refine qf (0,0) [0] ⟨Nat.zero_le _,rfl⟩ rfl (by simp) ?_ ?_ ?_<;>(try refine ev_ ?_)<;>(try with_reducible exact ti_)<;>(try simp (disch:=omega) only [qb,and_true,true_and])
 ·obtain ⟨i,a⟩:=s
  obtain ⟨hi,ha⟩:=hs
  dsimp only at hi ha
  repeat' (first | refine vs_ ?_ | ((first | refine vr_ ?_ | fail)<;>(try simp (disch:=first | omega | (simp only [List.length_set,List.length_append,List.length_cons,List.length_nil];done) | (simp only [List.length_set,List.length_append,List.length_cons,List.length_nil];omega)) only [qw,qb,go_sem,↓reduceIte])) | ((first | (refine cs_ ?_ ?_<;>intro hc) | refine cj_ ?_ | simp (disch:=omega) only [encs_getN,qb] | refine qa (ih _ (qbi (by omega))) fun _=>?_)<;>(try refine ev_ ?_)) | with_reducible exact ti_)
  ·refine qf (i + 1,if qou (t.args.getD i Y0) > a then qou (t.args.getD i Y0) else a) [0] ⟨⟨by dsimp only;omega,?_⟩,by dsimp only;omega⟩ rfl (by simp) ?_ ?_ ?_<;>(try refine ev_ ?_)<;>(try with_reducible exact ti_)<;>(try simp (disch:=omega) only [qb,and_true,true_and])
   rw [← ha,qnr (l:=t.args) (i:=i) (by omega),qhb]
  ·rw [q7w,← ha,List.drop_of_length_le (by omega)];rfl
mutual
def qb4:Ty->Bool
 | .mk c v l=>qbo l && mayW c v l.length
def qbo:List Ty->Bool
 | []=>true
 | x :: r=>qb4 x && qbo r
end
theorem qfk (t:Ty):qb4 t = (qbo t.args && mayY t):=by cases t;rw [qb4];rfl
theorem qje {l:List Ty} {i:Nat} (h:i < l.length):qbo (l.drop i) = (qb4 (l.getD i Y0) && qbo (l.drop (i + 1))):=by rw [qnr h,qbo]
theorem qlr:∀ t,qg Tryz.prog 30 [encY t] (.bool (qb4 t)):=by
 refine Ty.ind fun t ih=>?_
 refine qd c0bp (by simp) (by simp only [go_sem]) rfl fun hw=>?_
 have hk:=qcs hw.1
 repeat' (first | refine vs_ ?_ | ((first | refine vr_ ?_ | (refine cs_ ?_ ?_<;>intro hc) | refine cj_ ?_ | simp (disch:=omega) only [encs_getN,qb])<;>(try refine ev_ ?_)) | with_reducible exact ti_)
 refine qi (S:=Nat) (fun i=>i≤t.args.length∧qbo (t.args.drop i) = qbo t.args) (fun i=>(⟨[(1,.ptr 0 0),(3,.int .i64 i)],[]⟩,[.blk (yc t)])) (fun i=>t.args.length - i) ?_ fun i hi=>?_
 ·refine qf 0 [0] ⟨Nat.zero_le _,rfl⟩ rfl (by simp) ?_ ?_ ?_<;>(try refine ev_ ?_)<;>(try with_reducible exact ti_)<;>(try simp (disch:=omega) only [qb,and_true,true_and])
 ·obtain ⟨hi,ha⟩:=hi
  rw [qfk]
  repeat' (first | refine vs_ ?_ | ((first | refine vr_ ?_ | fail)<;>(try simp (disch:=first | omega | (simp only [List.length_set,List.length_append,List.length_cons,List.length_nil];done) | (simp only [List.length_set,List.length_append,List.length_cons,List.length_nil];omega)) only [qw,qb,go_sem,↓reduceIte])) | ((first | (refine cs_ ?_ ?_<;>intro hc) | refine cj_ ?_ | simp (disch:=omega) only [encs_getN,qb] | refine qa (ih _ (qbi (by omega))) fun _=>?_ | refine qa (qti _) fun _=>?_ | refine qa (qpj _) fun _=>?_)<;>(try refine ev_ ?_)) | with_reducible exact ti_)
  ·have:qbo t.args = false:=by rw [← ha,qje (by omega),hc];rfl
   rw [this];rfl
  ·refine qf (i + 1) [0] ⟨⟨by omega,?_⟩,by omega⟩ rfl (by simp) ?_ ?_ ?_<;>(try refine ev_ ?_)<;>(try with_reducible exact ti_)<;>(try simp (disch:=omega) only [qb,and_true,true_and])
   rw [← ha,qje (i:=i) (by omega),hc,Bool.true_and]
  all_goals
   have hs:qbo t.args = true:=by rw [← ha,List.drop_of_length_le (by omega)];rfl
   rw [hs,Bool.true_and,mayY,mayW]
   simp only [arrW, *,if_true,if_false,decide_true,decide_false,Bool.and_true,Bool.and_false,Bool.false_eq_true]
   try rfl
/-! Few -/
mutual
def cntY:Ty->Int->Int->Int
 | .mk _ _ l,k,d=>if d < 1 then -1 else qet l (IntKind.i64.wrap (k - 1)) d
def qet:List Ty->Int->Int->Int
 | [],a,_=>a
 | x :: r,a,d=>if 0≤a then qet r (cntY x a (IntKind.i64.wrap (d - 1))) d else a
end
theorem q1h (t:Ty) (k d:Int):cntY t k d = if d < 1 then -1 else qet t.args (IntKind.i64.wrap (k - 1)) d:=by cases t;rw [cntY];rfl
theorem qhd {a:Int} (h:a < 0) (l:List Ty) (d:Int):qet l a d = a:=by
 cases l with
 | nil=>rw [qet]
 | cons x r=>rw [qet,if_neg (by omega)]
theorem qbc7:∀ t k d,qg Tryz.prog 62 [encY t,.int .i64 k,.int .i64 d] (.int .i64 (cntY t k d)):=by
 refine Ty.ind fun t ih k d=>?_
 refine qd c0bq (by simp) (by simp only [go_sem]) rfl fun hw=>?_
 have hk:=qcs hw.1
 rw [q1h]
 repeat' (first | refine vs_ ?_ | ((first | refine vr_ ?_ | (refine cs_ ?_ ?_<;>intro hc) | refine cj_ ?_ | simp (disch:=omega) only [encs_getN,qb])<;>(try refine ev_ ?_)) | with_reducible exact ti_)
 ·rw [if_pos (by assumption)]
 rw [if_neg (by assumption)]
 refine qi (S:=Nat×Int) (fun s=>s.1≤t.args.length∧qet (t.args.drop s.1) s.2 d = qet t.args (IntKind.i64.wrap (k - 1)) d) (fun s=>(⟨[(1,.int .i64 s.2),(2,.int .i64 d),(3,.ptr 0 0),(7,.int .i64 s.1)],[]⟩,[.blk (yc t)])) (fun s=>t.args.length - s.1) ?_ fun s hs=>?_
 ·refine qf (0,IntKind.i64.wrap (k - 1)) [0] ⟨Nat.zero_le _,rfl⟩ rfl (by simp) ?_ ?_ ?_<;>(try refine ev_ ?_)<;>(try with_reducible exact ti_)<;>(try simp (disch:=omega) only [qb,and_true,true_and])
 ·obtain ⟨i,a⟩:=s
  obtain ⟨hi,ha⟩:=hs
  dsimp only at hi ha
  repeat' (first | refine vs_ ?_ | ((first | refine vr_ ?_ | fail)<;>(try simp (disch:=first | omega | (simp only [List.length_set,List.length_append,List.length_cons,List.length_nil];done) | (simp only [List.length_set,List.length_append,List.length_cons,List.length_nil];omega)) only [qw,qb,go_sem,↓reduceIte])) | ((first | (refine cs_ ?_ ?_<;>intro hc) | refine cj_ ?_ | simp (disch:=omega) only [encs_getN,qb] | refine qa (ih _ (qbi (by omega)) _ _) fun _=>?_)<;>(try refine ev_ ?_)) | with_reducible exact ti_)
  ·refine qf (i + 1,cntY (t.args.getD i Y0) a (IntKind.i64.wrap (d - 1))) [0] ⟨⟨by dsimp only;omega,?_⟩,by dsimp only;omega⟩ rfl (by simp) ?_ ?_ ?_<;>(try refine ev_ ?_)<;>(try with_reducible exact ti_)<;>(try simp (disch:=omega) only [qb,and_true,true_and])
   rw [← ha,qnr (l:=t.args) (i:=i) (by omega),qet,if_pos (by assumption)]
  ·rw [← ha,qhd (by omega)]
  ·rw [← ha,List.drop_of_length_le (by omega)];rfl
def ql4 (a:Int):List Ty->Int
 | []=>a
 | x :: r=>ql4 (cntY x a 300) r
def qm2 (l:List Ty):Bool:=decide (0≤ql4 20000 l)
theorem qb4q (l:List Ty):qg Tryz.prog 39 [.sl 3 (qq l)] (.int .i64 (if qm2 l = true then 1 else 0)):=by
 refine qd c0br (by simp) (by simp only [go_sem]) rfl fun hw=>?_
 have hk:l.length≤maxLen:=by have:=hw.1.1;rwa [qbg] at this
 repeat' (first | refine vs_ ?_ | ((first | refine vr_ ?_ | (refine cs_ ?_ ?_<;>intro hc) | refine cj_ ?_ | simp (disch:=omega) only [encs_getN,qb])<;>(try refine ev_ ?_)) | with_reducible exact ti_)
 refine qi (S:=Nat×Int) (fun s=>s.1≤l.length∧ql4 s.2 (l.drop s.1) = ql4 20000 l) (fun s=>(⟨[(0,.sl 3 (qq l)),(3,.int .i64 s.2),(4,.int .i64 s.1)],[]⟩,[])) (fun s=>l.length - s.1) ?_ fun s hs=>?_
 ·refine qf (0,20000) [] ⟨Nat.zero_le _,rfl⟩ rfl (by simp) ?_ ?_ ?_<;>(try refine ev_ ?_)<;>(try with_reducible exact ti_)<;>(try simp (disch:=omega) only [qb,and_true,true_and])
 ·obtain ⟨i,a⟩:=s
  obtain ⟨hi,ha⟩:=hs
  dsimp only at hi ha
  repeat' (first | refine vs_ ?_ | ((first | refine vr_ ?_ | fail)<;>(try simp (disch:=first | omega | (simp only [List.length_set,List.length_append,List.length_cons,List.length_nil];done) | (simp only [List.length_set,List.length_append,List.length_cons,List.length_nil];omega)) only [qw,qb,go_sem,↓reduceIte])) | ((first | (refine cs_ ?_ ?_<;>intro hc) | refine cj_ ?_ | simp (disch:=omega) only [encs_getN,qb] | refine qa (qbc7 _ _ _) fun _=>?_)<;>(try refine ev_ ?_)) | with_reducible exact ti_)
  ·refine qf (i + 1,cntY (l.getD i Y0) a 300) [] ⟨⟨by dsimp only;omega,?_⟩,by dsimp only;omega⟩ rfl (by simp) ?_ ?_ ?_<;>(try refine ev_ ?_)<;>(try with_reducible exact ti_)<;>(try simp (disch:=omega) only [qb,and_true,true_and])
   rw [← ha,qnr (l:=l) (i:=i) (by omega),ql4]
  all_goals
   have hf:ql4 20000 l = a:=by rw [← ha,List.drop_of_length_le (by omega)];rfl
   rw [qm2,hf]
  ·rw [if_neg (by simp;omega)]
  ·rw [if_pos (by simp;omega)]

/-! the laws of sizes -/
mutual
theorem q0u:∀ (t:Ty) (k d:Int),0≤k->k≤20000->d≤300->0≤cntY t k d->cntY t k d = k - szY t∧(dpY t:Int)≤d
 | .mk c v l, k, d, h0, h1, h2, h3 => by
   rw [cntY] at h3 ⊢
   by_cases hd:d < 1
   ·rw [if_pos hd] at h3;omega
   ·rw [if_neg hd] at h3 ⊢
    have hk:IntKind.i64.wrap (k - 1) = k - 1:=qba (by omega) (by omega)
    rw [hk] at h3 ⊢
    have h4:0≤k - 1:=by
     by_cases h:0≤k - 1
     ·exact h
     ·rw [qhd (by omega)] at h3;exact h3
    have:=qvy l (k - 1) d h4 (by omega) (by omega) h2 h3
    rw [szY,dpY]
    omega
theorem qvy:∀ (l:List Ty) (a d:Int),0≤a->a≤20000->1≤d->d≤300->0≤qet l a d->qet l a d = a - szYs l∧(dpYs l:Int)≤d - 1
 | [],a,d,h0,h1,h2,h3,h4=>by rw [qet,szYs,dpYs];omega
 | x :: r, a, d, h0, h1, h2, h3, h4 => by
   rw [qet,if_pos h0] at h4 ⊢
   have hd:IntKind.i64.wrap (d - 1) = d - 1:=qba (by omega) (by omega)
   rw [hd] at h4 ⊢
   have h5:0≤cntY x a (d - 1):=by
    by_cases h:0≤cntY x a (d - 1)
    ·exact h
    ·rw [qhd (by omega)] at h4;exact absurd h4 h
   obtain ⟨h6,h7⟩:=q0u x a (d - 1) h0 h1 (by omega) h5
   obtain ⟨h8,h9⟩:=qvy r _ d h5 (by omega) h2 h3 h4
   rw [szYs,dpYs]
   omega
end
mutual
theorem q34:∀ (t:Ty) (k d:Int),0≤k->k≤20000->-1≤cntY t k d
 | .mk c v l, k, d, h0, h1 => by
   rw [cntY]
   split
   ·omega
   ·rw [qba (z:=k - 1) (by omega) (by omega)]
    exact q3b l (k - 1) d (by omega) (by omega)
theorem q3b:∀ (l:List Ty) (a d:Int),-1≤a->a≤20000->-1≤qet l a d
 | [],a,d,h0,_=>by rw [qet];exact h0
 | x :: r, a, d, h0, h1 => by
   rw [qet]
   split
   ·rename_i h
    have h2:=q34 x a (IntKind.i64.wrap (d - 1)) h h1
    have h3:=qbcg x a (IntKind.i64.wrap (d - 1)) h h1
    exact q3b r _ d h2 (by omega)
   ·exact h0
theorem qbcg:∀ (t:Ty) (k d:Int),0≤k->k≤20000->cntY t k d≤k
 | .mk c v l, k, d, h0, h1 => by
   rw [cntY]
   split
   ·omega
   ·rw [qba (z:=k - 1) (by omega) (by omega)]
    have:=q4r l (k - 1) d (by omega) (by omega)
    omega
theorem q4r:∀ (l:List Ty) (a d:Int),-1≤a->a≤20000->qet l a d≤a
 | [],a,d,h0,_=>by rw [qet];exact Int.le_refl _
 | x :: r, a, d, h0, h1 => by
   rw [qet]
   split
   ·rename_i h
    have h2:=q34 x a (IntKind.i64.wrap (d - 1)) h h1
    have h3:=qbcg x a (IntKind.i64.wrap (d - 1)) h h1
    have:=q4r r _ d h2 (by omega)
    omega
   ·exact Int.le_refl _
end
theorem qwe:∀ (l:List Ty) {a:Int},a < 0->-9223372036854775808≤a - l.length->ql4 a l < 0
 | [],a,h,_=>h
 | x :: r, a, h, h2 => by
   rw [ql4]
   have h3:cntY x a 300 = IntKind.i64.wrap (a - 1):=by
    rw [q1h,if_neg (by omega)]
    have hk:IntKind.i64.wrap (a - 1) = a - 1:=qba (by simp only [List.length_cons] at h2;omega) (by omega)
    rw [hk,qhd (by omega)]
   have hk:IntKind.i64.wrap (a - 1) = a - 1:=qba (by simp only [List.length_cons] at h2;omega) (by omega)
   rw [h3,hk]
   exact qwe r (by omega) (by simp only [List.length_cons] at h2;omega)
theorem qwc:∀ (l:List Ty) (a:Int),0≤a->a≤20000->l.length≤9223372036854775807->0≤ql4 a l->(szYs l:Int)≤a∧(dpYs l:Int)≤300
 | [],a,h0,h1,_,h2=>by rw [szYs,dpYs];omega
 | x :: r, a, h0, h1, hl, h2 => by
   rw [ql4] at h2
   simp only [List.length_cons] at hl
   have h5:0≤cntY x a 300:=by
    by_cases h:0≤cntY x a 300
    ·exact h
    ·have:-1≤cntY x a 300:=q34 x a 300 h0 h1
     have:=qwe r (a:=cntY x a 300) (by omega) (by omega)
     omega
   obtain ⟨h6,h7⟩:=q0u x a 300 h0 h1 (by omega) h5
   obtain ⟨h8,h9⟩:=qwc r _ h5 (by omega) (by omega) h2
   rw [szYs,dpYs]
   omega
theorem qblo {l:List Ty} (hl:l.length≤maxLen) (h:qm2 l = true):szYs l≤20000∧dpYs l≤300:=by
 have:=qwc l 20000 (by omega) (by omega) (by unfold maxLen at hl;omega) (by simpa [qm2] using h)
 omega

mutual
theorem qeg:∀ (t:Ty),szY t≤1000000->qi9 t = szY t
 | .mk c v l, h => by
   rw [szY] at h
   rw [qi9,szY,qln l 1 (by omega) (by omega)]
   omega
theorem qln:∀ (l:List Ty) (a:Int),1≤a->a + szYs l≤1000001->qfp a l = a + szYs l
 | [],a,_,_=>by rw [qfp,szYs];omega
 | x :: r, a, h0, h => by
   rw [szYs] at h
   rw [qfp,qeg x (by omega),qba (by omega) (by omega),qln r _ (by omega) (by omega),szYs]
   omega
end
mutual
theorem qh9:∀ (t:Ty),dpY t≤1000000->qou t = dpY t
 | .mk c v l, h => by
   rw [dpY] at h
   rw [qou,dpY,qm5 l 0 (by omega) (by omega),qba (by omega) (by omega)]
   omega
theorem qm5:∀ (l:List Ty) (a:Int),dpYs l≤1000000->0≤a->qhb a l = max a (dpYs l)
 | [],a,_,_=>by rw [qhb,dpYs];omega
 | x :: r, a, h, h0 => by
   rw [dpYs] at h
   have h1:=qh9 x (by omega)
   rw [qhb,h1]
   have h2:(if (dpY x:Int) > a then (dpY x:Int) else a) = max a (dpY x):=by split<;>omega
   rw [h2,qm5 r _ (by omega) (by omega),dpYs]
   omega
end
mutual
theorem qqf:∀ (t:Ty) (n k:Int),0≤n->n + szY t≤1000000->qcx qtq t n k = (n + szY t,true)
 | .mk c v l, n, k, h0, h => by
   rw [szY] at h
   rw [qcx,if_pos (show (qtq n (.mk c v l) k).2 = true from rfl)]
   have h1:(qtq n (.mk c v l) k).1 = n + 1:=qba (by omega) (by omega)
   rw [h1,qmm l _ _ (by omega) (by omega),szY]
   congr 1;omega
theorem qmm:∀ (l:List Ty) (n k:Int),0≤n->n + szYs l≤1000000->qca qtq l n k = (n + szYs l,true)
 | [],n,k,_,_=>by rw [qca,szYs];congr 1;omega
 | x :: r, n, k, h0, h => by
   rw [szYs] at h
   rw [qca,qqf x n k h0 (by omega),if_pos rfl,qmm r _ k (by omega) (by omega),szYs]
   congr 1;omega
end
mutual
theorem qrk:∀ (t:Ty) (n k:Int),0≤n->1≤k->k + dpY t≤1000000->qcx qsf t n k = (max n (k + dpY t - 1),true)
 | .mk c v l, n, k, h0, h1, h => by
   rw [dpY] at h
   rw [qcx,if_pos (show (qsf n (.mk c v l) k).2 = true from rfl)]
   have h2:(qsf n (.mk c v l) k).1 = max n k:=by simp only [qsf];split<;>omega
   rw [h2,qba (z:=k + 1) (by omega) (by omega),qmk l _ _ (by omega) (by omega) (by omega),dpY]
   congr 1;split<;>omega
theorem qmk:∀ (l:List Ty) (n k:Int),0≤n->1≤k->k + dpYs l≤1000000->qca qsf l n k = (if dpYs l = 0 then n else max n (k + dpYs l - 1),true)
 | [],n,k,_,_,_=>by rw [qca,dpYs,if_pos rfl]
 | x :: r, n, k, h0, h1, h => by
   rw [dpYs] at h
   have hp:=qblw x
   rw [qca,qrk x n k h0 h1 (by omega),if_pos rfl,qmk r _ k (by omega) h1 (by omega),dpYs]
   congr 1
   rw [if_neg (by omega:¬ max (dpY x) (dpYs r) = 0)]
   split<;>omega
end
mutual
theorem qrt:∀ (t:Ty) (n k:Int),0≤n->n + szY t≤1000000->1≤k->k + dpY t≤1000000 →
 ((qcx qfq t n k).2 = true ↔ n + szY t≤4096∧k + dpY t - 1≤100∧qb4 t = true)∧((qcx qfq t n k).2 = true->(qcx qfq t n k).1 = n + szY t)
 | .mk c v l, n, k, h0, h1, h2, h3 => by
   rw [szY] at h1
   rw [dpY] at h3
   have e1:IntKind.i64.wrap (n + 1) = n + 1:=qba (by omega) (by omega)
   have e2:IntKind.i64.wrap (k + 1) = k + 1:=qba (by omega) (by omega)
   have e3:(qfq n (.mk c v l) k).1 = n + 1:=e1
   have e4:(qfq n (.mk c v l) k).2 = true ↔ n + 1≤4096∧k≤100∧mayW c v l.length = true:=by
    simp only [qfq,e1,Bool.and_eq_true,decide_eq_true_eq];rfl
   rw [qcx,szY,dpY,qb4]
   by_cases hs:(qfq n (.mk c v l) k).2 = true
   ·rw [if_pos hs,e3,e2]
    obtain ⟨q1,q2,q3⟩:=e4.1 hs
    obtain ⟨r1,r2⟩:=qmz l (n + 1) (k + 1) (by omega) (by omega) (by omega) (by omega) (by omega) (by omega)
    refine ⟨?_,fun h=>by rw [r2 h];omega⟩
    rw [r1,q3,Bool.and_true]
    constructor
    ·rintro ⟨a1,a2,a3⟩;exact ⟨by omega,by omega,a3⟩
    ·rintro ⟨a1,a2,a3⟩;exact ⟨by omega,by omega,a3⟩
   ·rw [if_neg hs]
    refine ⟨⟨fun h=>(by cases h),fun ⟨a1,a2,a3⟩=>absurd (e4.2 ⟨by omega,by omega,(by rw [Bool.and_eq_true] at a3;exact a3.2)⟩) hs⟩,fun h=>by cases h⟩
theorem qmz:∀ (l:List Ty) (n k:Int),0≤n->n + szYs l≤1000000->1≤k->k + dpYs l≤1000000->n≤4096->k - 1≤100 →
 ((qca qfq l n k).2 = true ↔ n + szYs l≤4096∧k + dpYs l - 1≤100∧qbo l = true)∧((qca qfq l n k).2 = true->(qca qfq l n k).1 = n + szYs l)
 | [], n, k, h0, h1, h2, h3, h4, h5 => by
   rw [qca,szYs,dpYs,qbo]
   exact ⟨⟨fun _=>⟨by omega,by omega,rfl⟩,fun _=>rfl⟩,fun _=>by simp⟩
 | x :: r, n, k, h0, h1, h2, h3, h4, h5 => by
   rw [szYs] at h1
   rw [dpYs] at h3
   obtain ⟨q1,q2⟩:=qrt x n k h0 (by omega) h2 (by omega)
   rw [qca,szYs,dpYs,qbo]
   by_cases hs:(qcx qfq x n k).2 = true
   ·rw [if_pos hs,q2 hs]
    obtain ⟨a1,a2,a3⟩:=q1.1 hs
    obtain ⟨r1,r2⟩:=qmz r (n + szY x) k (by omega) (by omega) h2 (by omega) (by omega) h5
    refine ⟨?_,fun h=>by rw [r2 h];omega⟩
    rw [r1,a3,Bool.true_and]
    constructor
    ·rintro ⟨b1,b2,b3⟩;exact ⟨by omega,by omega,b3⟩
    ·rintro ⟨b1,b2,b3⟩;exact ⟨by omega,by omega,b3⟩
   ·rw [if_neg hs]
    refine ⟨⟨fun h=>(by cases h),fun ⟨a1,a2,a3⟩=>absurd (q1.2 ⟨by omega,by omega,?_⟩) hs⟩,fun h=>by cases h⟩
    rw [Bool.and_eq_true] at a3
    exact a3.1
end
def qv (t:Ty):Bool:=decide (szY t≤4096) && (decide (dpY t≤100) && qb4 t)
theorem qz8 {t:Ty} (h1:szY t≤20000) (h2:dpY t≤300):q1z t = qv t:=by
 have:=(qrt t 0 1 (by omega) (by omega) (by omega) (by omega)).1
 rw [q1z,Bool.eq_iff_iff,this,qv,Bool.and_eq_true,Bool.and_eq_true,decide_eq_true_eq,decide_eq_true_eq]
 constructor
 ·rintro ⟨a1,a2,a3⟩;exact ⟨by omega,by omega,a3⟩
 ·rintro ⟨a1,a2,a3⟩;exact ⟨by omega,by omega,a3⟩
theorem qtk {t:Ty} (h1:szY t≤20000) (h2:dpY t≤300):qg Tryz.prog 10 [encY t] (.bool (qv t)):=by
 refine qd c0bs (by simp) (by simp only [go_sem]) rfl fun hw=>?_
 have e1:=qf5 t
 have e2:=qg1 t
 rw [qeg t (by omega)] at e1
 rw [qh9 t (by omega)] at e2
 repeat' (first | refine vs_ ?_ | ((first | refine vr_ ?_ | refine qa e1 fun _=>?_ | refine qa e2 fun _=>?_ | refine qa (qlr t) fun _=>?_ | (refine cs_ ?_ ?_<;>intro hc) | refine cj_ ?_ | fail)<;>(try refine ev_ ?_)) | with_reducible exact ti_)
 all_goals
  rw [qv]
 ·rw [decide_eq_true (by omega),decide_eq_true (by omega)];rfl
 ·rw [decide_eq_false (p:=dpY t≤100) (by omega),Bool.false_and,Bool.and_false]
 ·rw [decide_eq_false (p:=szY t≤4096) (by omega)];rfl
theorem qdc {t:Ty} (h1:szY t≤20000) (h2:dpY t≤300):qg Tryz.prog 68 [encY t] (.bool (qv t)):=by
 rw [← qz8 h1 h2];exact qsl t

theorem qbad {t a b:Ty} (h1:t.con = arrW) (h2:t.args = [a,b]):txtY t = parW (decide (a.con = arrW)) (txtY a) ++ ([32,45,62,32] ++ txtY b):=by
 cases t with
 | mk c v l =>
   have h1':c = arrW:=h1
   have h2':l = [a,b]:=h2
   subst h1' h2'
   rw [txtY,if_pos rfl]
theorem q9b {t:Ty} (h1:¬ t.con = arrW):txtY t = qih t ++ argY t.args:=by
 cases t with
 | mk c v l =>
   have h1':¬ c = arrW:=h1
   rcases l with _ | ⟨a,_ | ⟨b,_ | ⟨d,r⟩⟩⟩<;>(simp only [txtY,if_neg h1'];rfl)
theorem qlq (l:List Ty) (i:Nat) (h:i < l.length):argY (l.take (i + 1)) = argY (l.take i) ++ (32 :: parW (decide ((l.getD i Y0).args≠[])) (txtY (l.getD i Y0))):=by
 have h1:l.take (i + 1) = l.take i ++ [l.getD i Y0]:=by
  rw [List.take_add_one,List.getD_eq_getElem?_getD,List.getElem?_eq_getElem h];rfl
 rw [h1]
 generalize l.take i = a
 generalize l.getD i Y0 = x
 induction a with
 | nil=>simp [argY]
 | cons y a ih=>simp only [List.cons_append,argY,ih,List.append_assoc]
theorem qhm (l:List Ty) (i:Nat):(argY (l.take i)).length≤(argY l).length:=by
 induction l generalizing i with
 | nil=>simp
 | cons x r ih =>
   cases i with
   | zero=>simp [argY]
   | succ i=>rw [List.take_succ_cons,argY,argY,List.length_append,List.length_append];have:=ih i;omega
theorem q24 {t:Ty} (h:qb4 t = true) (h1:t.con = arrW):∃ a b,t.args = [a,b]∧qb4 a = true∧qb4 b = true:=by
 rw [qfk,Bool.and_eq_true] at h
 obtain ⟨h2,h3⟩:=h
 rw [mayY,mayW,h1,if_neg (by decide),if_pos rfl,Bool.and_eq_true,decide_eq_true_eq,decide_eq_true_eq] at h3
 have hl:t.args.length = 2:=by omega
 obtain ⟨a,b,hab⟩:∃ a b,t.args = [a,b]:=by
  match hh:t.args,hl with
  | [a,b],_=>exact ⟨a,b,rfl⟩
 rw [hab] at h2
 simp only [qbo,Bool.and_eq_true] at h2
 exact ⟨a,b,hab,h2.1,h2.2.1⟩
theorem q2d {t x:Ty} (h:qb4 t = true) (hx:x∈t.args):qb4 x = true:=by
 rw [qfk,Bool.and_eq_true] at h
 have h2:=h.1
 generalize t.args = l at hx h2
 induction l with
 | nil=>cases hx
 | cons y r ih =>
   rw [qbo,Bool.and_eq_true] at h2
   rcases List.mem_cons.1 hx with rfl | hx
   ·exact h2.1
   ·exact ih hx h2.2
theorem qv1 (b:Bool) (s:List UInt8):s.length≤(parW b s).length∧(parW b s).length≤s.length + 2:=by
 rw [parW];split<;>simp<;>omega
def Big:Nat:=140737488355328
theorem qk0 {n:Nat} (h:n≤Big):n≤maxLen:=by unfold Big at h;unfold maxLen;omega

theorem qb3i {v:Int} (h:(Lit.int .i64 v).wf = true) (h0:v < 0):IntKind.i64.wrap (-1 - v) = -1 - v:=by
 have:=qlg h
 exact qba (by omega) (by omega)
end Go.Proofs.YtgglaabljlhliaaGreat
