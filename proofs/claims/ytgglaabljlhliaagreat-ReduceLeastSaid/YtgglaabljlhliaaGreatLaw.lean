/- Texts of this proof, joined. -/
import Derived.Test.YtgglaabljlhliaaGreatLav
set_option linter.unusedVariables false
set_option linter.unusedSimpArgs false

/- rows of integers: whether a number is there, each once -/
set_option maxRecDepth 4000
namespace Go.Proofs.YtgglaabljlhliaaGreat
open Go Go.RowKit Go.V

def ints (l:List Int):List AV:=l.map (AV.int .i64)
theorem qby (l:List Int):(ints l).length = l.length:=by simp [ints]
theorem qdr (k:Nat) (l:List Int):AV.bds k (ints l) = true:=by rw [ints,qb9];simp [AV.bd]
theorem qff (σ:Nat->Nat) (l:List Int):AV.rens σ (ints l) = ints l:=ql (m:=0) (fun i hi=>by omega) _ (qdr 0 l)
theorem qk3 {l:List Int} {i:Nat} (h:i < l.length):(ints l).getD i .junk = .int .i64 (l.getD i 0):=by
 rw [ints,List.getD_eq_getElem?_getD,List.getElem?_map,List.getElem?_eq_getElem h,List.getD_eq_getElem?_getD,List.getElem?_eq_getElem h];rfl
theorem qhj (l:List Int) (v:Int):ints l ++ [.int .i64 v] = ints (l ++ [v]):=by simp [ints]
theorem q75 (a b:List Int):ints a ++ ints b = ints (a ++ b):=by simp [ints]
theorem qj6 (v:Int):[AV.int .i64 v] = ints [v]:=rfl
theorem qhv:ints [] = []:=rfl
theorem qgm {l:List Int} (h:l≠[]):ints l≠[]:=by cases l with | nil=>exact absurd rfl h | cons _ _=>simp [ints]
attribute [go_sem] qby qdr qff cond_false cond_true
theorem qbyq {l:List Int} {i:Nat} (h:i < l.length):l.drop i = l.getD i 0 :: l.drop (i + 1):=by
 rw [List.drop_eq_getElem_cons h,List.getD_eq_getElem?_getD,List.getElem?_eq_getElem h];rfl
theorem q88 {l:List Int} {i:Nat} (h:i < l.length):l.getD i 0∈l:=by
 rw [List.getD_eq_getElem?_getD,List.getElem?_eq_getElem h];exact List.getElem_mem h
theorem capI {k:Nat} (h:k≤1000000000):qbb k 8:=by unfold qbb;omega

def idxW (v:Int):List Int->Int->Int
 | [],_=>-1
 | x :: r,k=>if v = x then k else idxW v r (k + 1)
theorem q5n (v:Int):∀ (l:List Int) (k:Int),0≤k->(decide (0≤idxW v l k) = decide (v∈l))
 | [],k,h=>by simp [idxW]
 | x :: r, k, h => by
   rw [idxW]
   by_cases hx:v = x
   ·simp [hx,h]
   ·rw [if_neg hx,q5n v r (k + 1) (by omega)];simp [hx]
theorem qqo (l:List Int) (v:Int):qk Tryz.prog 107 [.sl 1 (ints l),.int .i64 v] (.int .i64 (idxW v l 0)):=by
 refine qd c0br (by simp) (by simp only [go_sem]) rfl fun hw=>?_
 have hl:l.length≤maxLen:=by have:=hw.1.1;rwa [qby] at this
 repeat' (first | refine vs_ ?_ | ((first | refine vr_ ?_ | (refine cs_ ?_ ?_<;>intro hc) | refine cj_ ?_ | simp (disch:=omega) only [encs_getN,qb])<;>(try refine ev_ ?_)) | with_reducible exact ti_)
 refine qj (S:=Nat) (fun i=>i≤l.length∧idxW v (l.drop i) i = idxW v l 0) (fun i=>(⟨[(0,.sl 1 (ints l)),(1,.int .i64 v),(7,.int .i64 l.length),(8,.int .i64 i)],[]⟩,[])) (fun i=>l.length - i) ?_ fun i hi=>?_
 ·refine qf 0 [] ⟨Nat.zero_le _,rfl⟩ rfl (by simp) ?_ ?_ ?_<;>(try refine ev_ ?_)<;>(try with_reducible exact ti_)<;>(try simp (disch:=omega) only [qb,and_true,true_and])
 ·obtain ⟨hi,ha⟩:=hi
  repeat' (first | refine vs_ ?_ | ((first | refine vr_ ?_ | fail)<;>(try simp (disch:=first | omega | (simp only [List.length_set,List.length_append,List.length_cons,List.length_nil];done) | (simp only [List.length_set,List.length_append,List.length_cons,List.length_nil];omega)) only [qk3,qb,go_sem,↓reduceIte])) | ((first | (refine cs_ ?_ ?_<;>intro hc) | refine cj_ ?_ | simp (disch:=omega) only [encs_getN,qb])<;>(try refine ev_ ?_)) | with_reducible exact ti_)
  ·rw [← ha,qbyq (by omega),idxW,if_pos (by assumption)]
  ·refine qf (i + 1) [] ⟨⟨by omega,?_⟩,by omega⟩ rfl (by simp) ?_ ?_ ?_<;>(try refine ev_ ?_)<;>(try with_reducible exact ti_)<;>(try simp (disch:=omega) only [qb,and_true,true_and])
   rw [← ha,qbyq (l:=l) (i:=i) (by omega),idxW,if_neg (by assumption)];rfl
  ·rw [← ha,List.drop_of_length_le (by omega)];rfl
theorem qlm (l:List Int) (v:Int):qk Tryz.prog 80 [.sl 1 (ints l),.int .i64 v] (.bool (decide (v∈l))):=by
 refine qd c0bs (by simp) (by simp only [go_sem]) rfl fun hw=>?_
 repeat' (first | refine vs_ ?_ | ((first | refine vr_ ?_ | refine qa (qqo _ _) fun _=>?_ | (refine cs_ ?_ ?_<;>intro hc) | refine cj_ ?_ | fail)<;>(try refine ev_ ?_)) | with_reducible exact ti_)
 rw [q5n v l 0 (by omega)]
/-! each once -/
theorem q7 {H:List Ent} {n:Nat}:co H (.sl n) .nils = .sl n []:=Eq.trans rfl rfl
/-! all variables -/
/-! the program's: a walk that gathers -/
set_option maxRecDepth 4000

/-! the program's -/
abbrev numE (n:Int):Ent:=.blk [.int .i64 n]
def qgn (n:Int) (t:Ty) (k:Int):Int×Bool:=(IntKind.i64.wrap (n + 1),decide (IntKind.i64.wrap (n + 1)≤4096) && (decide (k≤100) && mayY t))
theorem qbzj (n:Int) (t:Ty) (k:Int):VM Tryz.prog 98 (numE n) (numE (qgn n t k).1) [encY t,.int .i64 k,.ptr 0 0] (.bool (qgn n t k).2):=by
 refine qig (by kernel_rfl) fun hw=>?_
 have hk:=qds hw.1
 refine qr c0bh 1 (by simp) (by simp) ?_
 repeat' (first | refine vs_ ?_ | ((first | refine vr_ ?_ | refine qa (qif _) fun _=>?_ | refine qa (q8i _ _ _) fun _=>?_ | (refine cs_ ?_ ?_<;>intro hc) | refine cj_ ?_ | simp (disch:=omega) only [encs_getN,qb])<;>(try refine ev_ ?_)) | with_reducible exact ti_)
 ·simp_all [qgn]
 ·exact ⟨rfl,by simp only [qgn, *,decide_true,decide_false,Bool.true_and,Bool.false_and]⟩
 ·exact ⟨rfl,by simp only [qgn, *,decide_true,decide_false,Bool.true_and,Bool.false_and]⟩
def quk (n:Int) (_:Ty) (_:Int):Int×Bool:=(IntKind.i64.wrap (n + 1),true)
theorem qb7u (n:Int) (t:Ty) (k:Int):VM Tryz.prog 147 (numE n) (numE (quk n t k).1) [encY t,.int .i64 k,.ptr 0 0] (.bool (quk n t k).2):=by
 refine qr c0bi 1 (by simp) (by simp) ?_
 repeat' (first | refine vs_ ?_ | ((first | refine vr_ ?_ | (refine cs_ ?_ ?_<;>intro hc) | refine cj_ ?_ | simp (disch:=omega) only [encs_getN,qb])<;>(try refine ev_ ?_)) | with_reducible exact ti_)
 exact ⟨rfl,rfl⟩
def qsn (n:Int) (_:Ty) (k:Int):Int×Bool:=(if k > n then k else n,true)
theorem qbxs (n:Int) (t:Ty) (k:Int):VM Tryz.prog 148 (numE n) (numE (qsn n t k).1) [encY t,.int .i64 k,.ptr 0 0] (.bool (qsn n t k).2):=by
 refine qr c0bj 1 (by simp) (by simp) ?_
 repeat' (first | refine vs_ ?_ | ((first | refine vr_ ?_ | (refine cs_ ?_ ?_<;>intro hc) | refine cj_ ?_ | fail)<;>(try refine ev_ ?_)) | with_reducible exact ti_)
 exact ⟨rfl,rfl⟩
theorem qo7 {f:FuncId} {step:Int->Ty->Int->Int×Bool} (h:∀ n t k,VM Tryz.prog f (numE n) (numE (step n t k).1) [encY t,.int .i64 k,.ptr 0 0] (.bool (step n t k).2)) (t:Ty) (n k:Int) :
 VM Tryz.prog 97 (numE n) (numE (qc7 step t n k).1) [encY t,.int .i64 k,.fn f [] [.ptr 0 0]] (.bool (qc7 step t n k).2) :=
 qz5 (st:=numE) (ok:=fun _ _=>True) (fun _=>rfl) (fun _ _ _ _ _=>trivial) (fun _ _ _=>trivial) (fun n t k _=>h n t k) t n k trivial
def q1k (t:Ty):Bool:=(qc7 qgn t 0 1).2
theorem qtl (t:Ty):qk Tryz.prog 68 [encY t] (.bool (q1k t)):=by
 refine qd c0bk (by simp) (by simp only [go_sem]) rfl fun hw=>?_
 repeat' (first | refine vs_ ?_ | ((first | refine vr_ ?_ | refine qcc 1 (qo7 qbzj t 0 1) ?_ | (refine cs_ ?_ ?_<;>intro hc) | refine cj_ ?_ | fail)<;>(try refine ev_ ?_)) | with_reducible exact ti_)
 rfl
theorem qx6 (t:Ty):qk Tryz.prog 137 [encY t] (.int .i64 (qc7 quk t 0 1).1):=by
 refine qd c0bl (by simp) (by simp only [go_sem]) rfl fun hw=>?_
 repeat' (first | refine vs_ ?_ | ((first | refine vr_ ?_ | refine qcc 1 (qo7 qb7u t 0 1) ?_ | (refine cs_ ?_ ?_<;>intro hc) | refine cj_ ?_ | fail)<;>(try refine ev_ ?_)) | with_reducible exact ti_)
theorem qtf (t:Ty):qk Tryz.prog 138 [encY t] (.int .i64 (qc7 qsn t 0 1).1):=by
 refine qd c0bm (by simp) (by simp only [go_sem]) rfl fun hw=>?_
 repeat' (first | refine vs_ ?_ | ((first | refine vr_ ?_ | refine qcc 1 (qo7 qbxs t 0 1) ?_ | (refine cs_ ?_ ?_<;>intro hc) | refine cj_ ?_ | fail)<;>(try refine ev_ ?_)) | with_reducible exact ti_)

/-! the references -/
mutual
def qjo:Ty->Int
 | .mk _ _ l=>qgj 1 l
def qgj:Int->List Ty->Int
 | a,[]=>a
 | a,x :: r=>qgj (IntKind.i64.wrap (a + qjo x)) r
end
theorem q0y (t:Ty):qjo t = qgj 1 t.args:=by cases t;rw [qjo];rfl
theorem qbxm:∀ t,qk Tryz.prog 11 [encY t] (.int .i64 (qjo t)):=by
 refine Ty.ind fun t ih=>?_
 refine qd c0bn (by simp) (by simp only [go_sem]) rfl fun hw=>?_
 have hk:=qds hw.1
 repeat' (first | refine vs_ ?_ | ((first | refine vr_ ?_ | (refine cs_ ?_ ?_<;>intro hc) | refine cj_ ?_ | simp (disch:=omega) only [encs_getN,qb])<;>(try refine ev_ ?_)) | with_reducible exact ti_)
 refine qj (S:=Nat×Int) (fun s=>s.1≤t.args.length∧qgj s.2 (t.args.drop s.1) = qjo t) (fun s=>(⟨[(1,.ptr 0 0),(3,.int .i64 s.2),(4,.int .i64 s.1)],[]⟩,[.blk (yc t)])) (fun s=>t.args.length - s.1) ?_ fun s hs=>?_
 ·refine qf (0,1) [0] ⟨Nat.zero_le _,(q0y t).symm⟩ rfl (by simp) ?_ ?_ ?_<;>(try refine ev_ ?_)<;>(try with_reducible exact ti_)<;>(try simp (disch:=omega) only [qb,and_true,true_and])
 ·obtain ⟨i,a⟩:=s
  obtain ⟨hi,ha⟩:=hs
  dsimp only at hi ha
  repeat' (first | refine vs_ ?_ | ((first | refine vr_ ?_ | fail)<;>(try simp (disch:=first | omega | (simp only [List.length_set,List.length_append,List.length_cons,List.length_nil];done) | (simp only [List.length_set,List.length_append,List.length_cons,List.length_nil];omega)) only [qb6,qb,go_sem,↓reduceIte])) | ((first | (refine cs_ ?_ ?_<;>intro hc) | refine cj_ ?_ | simp (disch:=omega) only [encs_getN,qb] | refine qa (ih _ (qb2 (by omega))) fun _=>?_)<;>(try refine ev_ ?_)) | with_reducible exact ti_)
  ·refine qf (i + 1,IntKind.i64.wrap (a + qjo (t.args.getD i Y0))) [0] ⟨⟨by dsimp only;omega,?_⟩,by dsimp only;omega⟩ rfl (by simp) ?_ ?_ ?_<;>(try refine ev_ ?_)<;>(try with_reducible exact ti_)<;>(try simp (disch:=omega) only [qb,and_true,true_and])
   rw [← ha,qqy (l:=t.args) (i:=i) (by omega),qgj]
  ·rw [← ha,List.drop_of_length_le (by omega)];rfl
mutual
def qpf:Ty->Int
 | .mk _ _ l=>IntKind.i64.wrap (qh8 0 l + 1)
def qh8:Int->List Ty->Int
 | a,[]=>a
 | a,x :: r=>qh8 (if qpf x > a then qpf x else a) r
end
theorem q97 (t:Ty):qpf t = IntKind.i64.wrap (qh8 0 t.args + 1):=by cases t;rw [qpf];rfl
theorem qtm:∀ t,qk Tryz.prog 21 [encY t] (.int .i64 (qpf t)):=by
 refine Ty.ind fun t ih=>?_
 refine qd c0bo (by simp) (by simp only [go_sem]) rfl fun hw=>?_
 have hk:=qds hw.1
 repeat' (first | refine vs_ ?_ | ((first | refine vr_ ?_ | (refine cs_ ?_ ?_<;>intro hc) | refine cj_ ?_ | simp (disch:=omega) only [encs_getN,qb])<;>(try refine ev_ ?_)) | with_reducible exact ti_)
 refine qj (S:=Nat×Int) (fun s=>s.1≤t.args.length∧qh8 s.2 (t.args.drop s.1) = qh8 0 t.args) (fun s=>(⟨[(1,.ptr 0 0),(3,.int .i64 s.2),(4,.int .i64 s.1)],[]⟩,[.blk (yc t)])) (fun s=>t.args.length - s.1) ?_ fun s hs=>?_
 ·refine qf (0,0) [0] ⟨Nat.zero_le _,rfl⟩ rfl (by simp) ?_ ?_ ?_<;>(try refine ev_ ?_)<;>(try with_reducible exact ti_)<;>(try simp (disch:=omega) only [qb,and_true,true_and])
 ·obtain ⟨i,a⟩:=s
  obtain ⟨hi,ha⟩:=hs
  dsimp only at hi ha
  repeat' (first | refine vs_ ?_ | ((first | refine vr_ ?_ | fail)<;>(try simp (disch:=first | omega | (simp only [List.length_set,List.length_append,List.length_cons,List.length_nil];done) | (simp only [List.length_set,List.length_append,List.length_cons,List.length_nil];omega)) only [qb6,qb,go_sem,↓reduceIte])) | ((first | (refine cs_ ?_ ?_<;>intro hc) | refine cj_ ?_ | simp (disch:=omega) only [encs_getN,qb] | refine qa (ih _ (qb2 (by omega))) fun _=>?_)<;>(try refine ev_ ?_)) | with_reducible exact ti_)
  ·refine qf (i + 1,if qpf (t.args.getD i Y0) > a then qpf (t.args.getD i Y0) else a) [0] ⟨⟨by dsimp only;omega,?_⟩,by dsimp only;omega⟩ rfl (by simp) ?_ ?_ ?_<;>(try refine ev_ ?_)<;>(try with_reducible exact ti_)<;>(try simp (disch:=omega) only [qb,and_true,true_and])
   rw [← ha,qqy (l:=t.args) (i:=i) (by omega),qh8]
  ·rw [q97,← ha,List.drop_of_length_le (by omega)];rfl
mutual
def qcg:Ty->Bool
 | .mk c v l=>qcd l && mayW c v l.length
def qcd:List Ty->Bool
 | []=>true
 | x :: r=>qcg x && qcd r
end
theorem qie (t:Ty):qcg t = (qcd t.args && mayY t):=by cases t;rw [qcg];rfl
/-! Few -/
mutual
def cntY:Ty->Int->Int->Int
 | .mk _ _ l,k,d=>if d < 1 then -1 else qfd l (IntKind.i64.wrap (k - 1)) d
def qfd:List Ty->Int->Int->Int
 | [],a,_=>a
 | x :: r,a,d=>if 0≤a then qfd r (cntY x a (IntKind.i64.wrap (d - 1))) d else a
end
theorem q4l (t:Ty) (k d:Int):cntY t k d = if d < 1 then -1 else qfd t.args (IntKind.i64.wrap (k - 1)) d:=by cases t;rw [cntY];rfl
theorem qhq {a:Int} (h:a < 0) (l:List Ty) (d:Int):qfd l a d = a:=by
 cases l with
 | nil=>rw [qfd]
 | cons x r=>rw [qfd,if_neg (by omega)]
theorem qbp0:∀ t k d,qk Tryz.prog 62 [encY t,.int .i64 k,.int .i64 d] (.int .i64 (cntY t k d)):=by
 refine Ty.ind fun t ih k d=>?_
 refine qd c0bp (by simp) (by simp only [go_sem]) rfl fun hw=>?_
 have hk:=qds hw.1
 rw [q4l]
 repeat' (first | refine vs_ ?_ | ((first | refine vr_ ?_ | (refine cs_ ?_ ?_<;>intro hc) | refine cj_ ?_ | simp (disch:=omega) only [encs_getN,qb])<;>(try refine ev_ ?_)) | with_reducible exact ti_)
 ·rw [if_pos (by assumption)]
 rw [if_neg (by assumption)]
 refine qj (S:=Nat×Int) (fun s=>s.1≤t.args.length∧qfd (t.args.drop s.1) s.2 d = qfd t.args (IntKind.i64.wrap (k - 1)) d) (fun s=>(⟨[(1,.int .i64 s.2),(2,.int .i64 d),(3,.ptr 0 0),(7,.int .i64 s.1)],[]⟩,[.blk (yc t)])) (fun s=>t.args.length - s.1) ?_ fun s hs=>?_
 ·refine qf (0,IntKind.i64.wrap (k - 1)) [0] ⟨Nat.zero_le _,rfl⟩ rfl (by simp) ?_ ?_ ?_<;>(try refine ev_ ?_)<;>(try with_reducible exact ti_)<;>(try simp (disch:=omega) only [qb,and_true,true_and])
 ·obtain ⟨i,a⟩:=s
  obtain ⟨hi,ha⟩:=hs
  dsimp only at hi ha
  repeat' (first | refine vs_ ?_ | ((first | refine vr_ ?_ | fail)<;>(try simp (disch:=first | omega | (simp only [List.length_set,List.length_append,List.length_cons,List.length_nil];done) | (simp only [List.length_set,List.length_append,List.length_cons,List.length_nil];omega)) only [qb6,qb,go_sem,↓reduceIte])) | ((first | (refine cs_ ?_ ?_<;>intro hc) | refine cj_ ?_ | simp (disch:=omega) only [encs_getN,qb] | refine qa (ih _ (qb2 (by omega)) _ _) fun _=>?_)<;>(try refine ev_ ?_)) | with_reducible exact ti_)
  ·refine qf (i + 1,cntY (t.args.getD i Y0) a (IntKind.i64.wrap (d - 1))) [0] ⟨⟨by dsimp only;omega,?_⟩,by dsimp only;omega⟩ rfl (by simp) ?_ ?_ ?_<;>(try refine ev_ ?_)<;>(try with_reducible exact ti_)<;>(try simp (disch:=omega) only [qb,and_true,true_and])
   rw [← ha,qqy (l:=t.args) (i:=i) (by omega),qfd,if_pos (by assumption)]
  ·rw [← ha,qhq (by omega)]
  ·rw [← ha,List.drop_of_length_le (by omega)];rfl
def qmk (a:Int):List Ty->Int
 | []=>a
 | x :: r=>qmk (cntY x a 300) r
def qnc (l:List Ty):Bool:=decide (0≤qmk 20000 l)
theorem qb7n (l:List Ty):qk Tryz.prog 39 [.sl 3 (qx l)] (.int .i64 (if qnc l = true then 1 else 0)):=by
 refine qd c0bq (by simp) (by simp only [go_sem]) rfl fun hw=>?_
 have hk:l.length≤maxLen:=by have:=hw.1.1;rwa [qbz] at this
 repeat' (first | refine vs_ ?_ | ((first | refine vr_ ?_ | (refine cs_ ?_ ?_<;>intro hc) | refine cj_ ?_ | simp (disch:=omega) only [encs_getN,qb])<;>(try refine ev_ ?_)) | with_reducible exact ti_)
 refine qj (S:=Nat×Int) (fun s=>s.1≤l.length∧qmk s.2 (l.drop s.1) = qmk 20000 l) (fun s=>(⟨[(0,.sl 3 (qx l)),(3,.int .i64 s.2),(4,.int .i64 s.1)],[]⟩,[])) (fun s=>l.length - s.1) ?_ fun s hs=>?_
 ·refine qf (0,20000) [] ⟨Nat.zero_le _,rfl⟩ rfl (by simp) ?_ ?_ ?_<;>(try refine ev_ ?_)<;>(try with_reducible exact ti_)<;>(try simp (disch:=omega) only [qb,and_true,true_and])
 ·obtain ⟨i,a⟩:=s
  obtain ⟨hi,ha⟩:=hs
  dsimp only at hi ha
  repeat' (first | refine vs_ ?_ | ((first | refine vr_ ?_ | fail)<;>(try simp (disch:=first | omega | (simp only [List.length_set,List.length_append,List.length_cons,List.length_nil];done) | (simp only [List.length_set,List.length_append,List.length_cons,List.length_nil];omega)) only [qb6,qb,go_sem,↓reduceIte])) | ((first | (refine cs_ ?_ ?_<;>intro hc) | refine cj_ ?_ | simp (disch:=omega) only [encs_getN,qb] | refine qa (qbp0 _ _ _) fun _=>?_)<;>(try refine ev_ ?_)) | with_reducible exact ti_)
  ·refine qf (i + 1,cntY (l.getD i Y0) a 300) [] ⟨⟨by dsimp only;omega,?_⟩,by dsimp only;omega⟩ rfl (by simp) ?_ ?_ ?_<;>(try refine ev_ ?_)<;>(try with_reducible exact ti_)<;>(try simp (disch:=omega) only [qb,and_true,true_and])
   rw [← ha,qqy (l:=l) (i:=i) (by omega),qmk]
  all_goals
   have hf:qmk 20000 l = a:=by rw [← ha,List.drop_of_length_le (by omega)];rfl
   rw [qnc,hf]
  ·rw [if_neg (by simp;omega)]
  ·rw [if_pos (by simp;omega)]

/-! the laws of sizes -/
mutual
theorem q2i:∀ (t:Ty) (k d:Int),0≤k->k≤20000->d≤300->0≤cntY t k d->cntY t k d = k - szY t∧(dpY t:Int)≤d
 | .mk c v l, k, d, h0, h1, h2, h3 => by
   rw [cntY] at h3 ⊢
   by_cases hd:d < 1
   ·rw [if_pos hd] at h3;omega
   ·rw [if_neg hd] at h3 ⊢
    have hk:IntKind.i64.wrap (k - 1) = k - 1:=qbc (by omega) (by omega)
    rw [hk] at h3 ⊢
    have h4:0≤k - 1:=by
     by_cases h:0≤k - 1
     ·exact h
     ·rw [qhq (by omega)] at h3;exact h3
    have:=qwk l (k - 1) d h4 (by omega) (by omega) h2 h3
    rw [szY,dpY]
    omega
theorem qwk:∀ (l:List Ty) (a d:Int),0≤a->a≤20000->1≤d->d≤300->0≤qfd l a d->qfd l a d = a - szYs l∧(dpYs l:Int)≤d - 1
 | [],a,d,h0,h1,h2,h3,h4=>by rw [qfd,szYs,dpYs];omega
 | x :: r, a, d, h0, h1, h2, h3, h4 => by
   rw [qfd,if_pos h0] at h4 ⊢
   have hd:IntKind.i64.wrap (d - 1) = d - 1:=qbc (by omega) (by omega)
   rw [hd] at h4 ⊢
   have h5:0≤cntY x a (d - 1):=by
    by_cases h:0≤cntY x a (d - 1)
    ·exact h
    ·rw [qhq (by omega)] at h4;exact absurd h4 h
   obtain ⟨h6,h7⟩:=q2i x a (d - 1) h0 h1 (by omega) h5
   obtain ⟨h8,h9⟩:=qwk r _ d h5 (by omega) h2 h3 h4
   rw [szYs,dpYs]
   omega
end
mutual
theorem q59:∀ (t:Ty) (k d:Int),0≤k->k≤20000->-1≤cntY t k d
 | .mk c v l, k, d, h0, h1 => by
   rw [cntY]
   split
   ·omega
   ·rw [qbc (z:=k - 1) (by omega) (by omega)]
    exact q1o l (k - 1) d (by omega) (by omega)
theorem q1o:∀ (l:List Ty) (a d:Int),-1≤a->a≤20000->-1≤qfd l a d
 | [],a,d,h0,_=>by rw [qfd];exact h0
 | x :: r, a, d, h0, h1 => by
   rw [qfd]
   split
   ·rename_i h
    have h2:=q59 x a (IntKind.i64.wrap (d - 1)) h h1
    have h3:=qbd2 x a (IntKind.i64.wrap (d - 1)) h h1
    exact q1o r _ d h2 (by omega)
   ·exact h0
theorem qbd2:∀ (t:Ty) (k d:Int),0≤k->k≤20000->cntY t k d≤k
 | .mk c v l, k, d, h0, h1 => by
   rw [cntY]
   split
   ·omega
   ·rw [qbc (z:=k - 1) (by omega) (by omega)]
    have:=q56 l (k - 1) d (by omega) (by omega)
    omega
theorem q56:∀ (l:List Ty) (a d:Int),-1≤a->a≤20000->qfd l a d≤a
 | [],a,d,h0,_=>by rw [qfd];exact Int.le_refl _
 | x :: r, a, d, h0, h1 => by
   rw [qfd]
   split
   ·rename_i h
    have h2:=q59 x a (IntKind.i64.wrap (d - 1)) h h1
    have h3:=qbd2 x a (IntKind.i64.wrap (d - 1)) h h1
    have:=q56 r _ d h2 (by omega)
    omega
   ·exact Int.le_refl _
end
theorem qvk:∀ (l:List Ty) {a:Int},a < 0->-9223372036854775808≤a - l.length->qmk a l < 0
 | [],a,h,_=>h
 | x :: r, a, h, h2 => by
   rw [qmk]
   have h3:cntY x a 300 = IntKind.i64.wrap (a - 1):=by
    rw [q4l,if_neg (by omega)]
    have hk:IntKind.i64.wrap (a - 1) = a - 1:=qbc (by simp only [List.length_cons] at h2;omega) (by omega)
    rw [hk,qhq (by omega)]
   have hk:IntKind.i64.wrap (a - 1) = a - 1:=qbc (by simp only [List.length_cons] at h2;omega) (by omega)
   rw [h3,hk]
   exact qvk r (by omega) (by simp only [List.length_cons] at h2;omega)
theorem qwe:∀ (l:List Ty) (a:Int),0≤a->a≤20000->l.length≤9223372036854775807->0≤qmk a l->(szYs l:Int)≤a∧(dpYs l:Int)≤300
 | [],a,h0,h1,_,h2=>by rw [szYs,dpYs];omega
 | x :: r, a, h0, h1, hl, h2 => by
   rw [qmk] at h2
   simp only [List.length_cons] at hl
   have h5:0≤cntY x a 300:=by
    by_cases h:0≤cntY x a 300
    ·exact h
    ·have:-1≤cntY x a 300:=q59 x a 300 h0 h1
     have:=qvk r (a:=cntY x a 300) (by omega) (by omega)
     omega
   obtain ⟨h6,h7⟩:=q2i x a 300 h0 h1 (by omega) h5
   obtain ⟨h8,h9⟩:=qwe r _ h5 (by omega) (by omega) h2
   rw [szYs,dpYs]
   omega
theorem qbhg {l:List Ty} (hl:l.length≤maxLen) (h:qnc l = true):szYs l≤20000∧dpYs l≤300:=by
 have:=qwe l 20000 (by omega) (by omega) (by unfold maxLen at hl;omega) (by simpa [qnc] using h)
 omega

mutual
theorem qz4:∀ (t:Ty),szY t≤1000000->qjo t = szY t
 | .mk c v l, h => by
   rw [szY] at h
   rw [qjo,szY,qlv l 1 (by omega) (by omega)]
   omega
theorem qlv:∀ (l:List Ty) (a:Int),1≤a->a + szYs l≤1000001->qgj a l = a + szYs l
 | [],a,_,_=>by rw [qgj,szYs];omega
 | x :: r, a, h0, h => by
   rw [szYs] at h
   rw [qgj,qz4 x (by omega),qbc (by omega) (by omega),qlv r _ (by omega) (by omega),szYs]
   omega
end
mutual
theorem qss:∀ (t:Ty),dpY t≤1000000->qpf t = dpY t
 | .mk c v l, h => by
   rw [dpY] at h
   rw [qpf,dpY,qm2 l 0 (by omega) (by omega),qbc (by omega) (by omega)]
   omega
theorem qm2:∀ (l:List Ty) (a:Int),dpYs l≤1000000->0≤a->qh8 a l = max a (dpYs l)
 | [],a,_,_=>by rw [qh8,dpYs];omega
 | x :: r, a, h, h0 => by
   rw [dpYs] at h
   have h1:=qss x (by omega)
   rw [qh8,h1]
   have h2:(if (dpY x:Int) > a then (dpY x:Int) else a) = max a (dpY x):=by split<;>omega
   rw [h2,qm2 r _ (by omega) (by omega),dpYs]
   omega
end
mutual
theorem qqa:∀ (t:Ty) (n k:Int),0≤n->n + szY t≤1000000->qc7 quk t n k = (n + szY t,true)
 | .mk c v l, n, k, h0, h => by
   rw [szY] at h
   rw [qc7,if_pos (show (quk n (.mk c v l) k).2 = true from rfl)]
   have h1:(quk n (.mk c v l) k).1 = n + 1:=qbc (by omega) (by omega)
   rw [h1,qnf l _ _ (by omega) (by omega),szY]
   congr 1;omega
theorem qnf:∀ (l:List Ty) (n k:Int),0≤n->n + szYs l≤1000000->qcj quk l n k = (n + szYs l,true)
 | [],n,k,_,_=>by rw [qcj,szYs];congr 1;omega
 | x :: r, n, k, h0, h => by
   rw [szYs] at h
   rw [qcj,qqa x n k h0 (by omega),if_pos rfl,qnf r _ k (by omega) (by omega),szYs]
   congr 1;omega
end
mutual
theorem qrg:∀ (t:Ty) (n k:Int),0≤n->1≤k->k + dpY t≤1000000->qc7 qsn t n k = (max n (k + dpY t - 1),true)
 | .mk c v l, n, k, h0, h1, h => by
   rw [dpY] at h
   rw [qc7,if_pos (show (qsn n (.mk c v l) k).2 = true from rfl)]
   have h2:(qsn n (.mk c v l) k).1 = max n k:=by simp only [qsn];split<;>omega
   rw [h2,qbc (z:=k + 1) (by omega) (by omega),qn0 l _ _ (by omega) (by omega) (by omega),dpY]
   congr 1;split<;>omega
theorem qn0:∀ (l:List Ty) (n k:Int),0≤n->1≤k->k + dpYs l≤1000000->qcj qsn l n k = (if dpYs l = 0 then n else max n (k + dpYs l - 1),true)
 | [],n,k,_,_,_=>by rw [qcj,dpYs,if_pos rfl]
 | x :: r, n, k, h0, h1, h => by
   rw [dpYs] at h
   have hp:=qbfi x
   rw [qcj,qrg x n k h0 h1 (by omega),if_pos rfl,qn0 r _ k (by omega) h1 (by omega),dpYs]
   congr 1
   rw [if_neg (by omega:¬ max (dpY x) (dpYs r) = 0)]
   split<;>omega
end
mutual
theorem qr7:∀ (t:Ty) (n k:Int),0≤n->n + szY t≤1000000->1≤k->k + dpY t≤1000000 →
 ((qc7 qgn t n k).2 = true ↔ n + szY t≤4096∧k + dpY t - 1≤100∧qcg t = true)∧((qc7 qgn t n k).2 = true->(qc7 qgn t n k).1 = n + szY t)
 | .mk c v l, n, k, h0, h1, h2, h3 => by
   rw [szY] at h1
   rw [dpY] at h3
   have e1:IntKind.i64.wrap (n + 1) = n + 1:=qbc (by omega) (by omega)
   have e2:IntKind.i64.wrap (k + 1) = k + 1:=qbc (by omega) (by omega)
   have e3:(qgn n (.mk c v l) k).1 = n + 1:=e1
   have e4:(qgn n (.mk c v l) k).2 = true ↔ n + 1≤4096∧k≤100∧mayW c v l.length = true:=by
    simp only [qgn,e1,Bool.and_eq_true,decide_eq_true_eq];rfl
   rw [qc7,szY,dpY,qcg]
   by_cases hs:(qgn n (.mk c v l) k).2 = true
   ·rw [if_pos hs,e3,e2]
    obtain ⟨q1,q2,q3⟩:=e4.1 hs
    obtain ⟨r1,r2⟩:=qm9 l (n + 1) (k + 1) (by omega) (by omega) (by omega) (by omega) (by omega) (by omega)
    refine ⟨?_,fun h=>by rw [r2 h];omega⟩
    rw [r1,q3,Bool.and_true]
    constructor
    ·rintro ⟨a1,a2,a3⟩;exact ⟨by omega,by omega,a3⟩
    ·rintro ⟨a1,a2,a3⟩;exact ⟨by omega,by omega,a3⟩
   ·rw [if_neg hs]
    refine ⟨⟨fun h=>(by cases h),fun ⟨a1,a2,a3⟩=>absurd (e4.2 ⟨by omega,by omega,(by rw [Bool.and_eq_true] at a3;exact a3.2)⟩) hs⟩,fun h=>by cases h⟩
theorem qm9:∀ (l:List Ty) (n k:Int),0≤n->n + szYs l≤1000000->1≤k->k + dpYs l≤1000000->n≤4096->k - 1≤100 →
 ((qcj qgn l n k).2 = true ↔ n + szYs l≤4096∧k + dpYs l - 1≤100∧qcd l = true)∧((qcj qgn l n k).2 = true->(qcj qgn l n k).1 = n + szYs l)
 | [], n, k, h0, h1, h2, h3, h4, h5 => by
   rw [qcj,szYs,dpYs,qcd]
   exact ⟨⟨fun _=>⟨by omega,by omega,rfl⟩,fun _=>rfl⟩,fun _=>by simp⟩
 | x :: r, n, k, h0, h1, h2, h3, h4, h5 => by
   rw [szYs] at h1
   rw [dpYs] at h3
   obtain ⟨q1,q2⟩:=qr7 x n k h0 (by omega) h2 (by omega)
   rw [qcj,szYs,dpYs,qcd]
   by_cases hs:(qc7 qgn x n k).2 = true
   ·rw [if_pos hs,q2 hs]
    obtain ⟨a1,a2,a3⟩:=q1.1 hs
    obtain ⟨r1,r2⟩:=qm9 r (n + szY x) k (by omega) (by omega) h2 (by omega) (by omega) h5
    refine ⟨?_,fun h=>by rw [r2 h];omega⟩
    rw [r1,a3,Bool.true_and]
    constructor
    ·rintro ⟨b1,b2,b3⟩;exact ⟨by omega,by omega,b3⟩
    ·rintro ⟨b1,b2,b3⟩;exact ⟨by omega,by omega,b3⟩
   ·rw [if_neg hs]
    refine ⟨⟨fun h=>(by cases h),fun ⟨a1,a2,a3⟩=>absurd (q1.2 ⟨by omega,by omega,?_⟩) hs⟩,fun h=>by cases h⟩
    rw [Bool.and_eq_true] at a3
    exact a3.1
end
def qba (t:Ty):Bool:=decide (szY t≤4096) && (decide (dpY t≤100) && qcg t)
theorem q49 {t:Ty} (h1:szY t≤20000) (h2:dpY t≤300):q1k t = qba t:=by
 have:=(qr7 t 0 1 (by omega) (by omega) (by omega) (by omega)).1
 rw [q1k,Bool.eq_iff_iff,this,qba,Bool.and_eq_true,Bool.and_eq_true,decide_eq_true_eq,decide_eq_true_eq]
 constructor
 ·rintro ⟨a1,a2,a3⟩;exact ⟨by omega,by omega,a3⟩
 ·rintro ⟨a1,a2,a3⟩;exact ⟨by omega,by omega,a3⟩
theorem qdl {t:Ty} (h1:szY t≤20000) (h2:dpY t≤300):qk Tryz.prog 68 [encY t] (.bool (qba t)):=by
 rw [← q49 h1 h2];exact qtl t

theorem q7d {t a b:Ty} (h1:t.con = arrW) (h2:t.args = [a,b]):txtY t = parW (decide (a.con = arrW)) (txtY a) ++ ([32,45,62,32] ++ txtY b):=by
 cases t with
 | mk c v l =>
   have h1':c = arrW:=h1
   have h2':l = [a,b]:=h2
   subst h1' h2'
   rw [txtY,if_pos rfl]
theorem q6p {t:Ty} (h1:¬ t.con = arrW):txtY t = qir t ++ argY t.args:=by
 cases t with
 | mk c v l =>
   have h1':¬ c = arrW:=h1
   rcases l with _ | ⟨a,_ | ⟨b,_ | ⟨d,r⟩⟩⟩<;>(simp only [txtY,if_neg h1'];rfl)
theorem qk6 (l:List Ty) (i:Nat) (h:i < l.length):argY (l.take (i + 1)) = argY (l.take i) ++ (32 :: parW (decide ((l.getD i Y0).args≠[])) (txtY (l.getD i Y0))):=by
 have h1:l.take (i + 1) = l.take i ++ [l.getD i Y0]:=by
  rw [List.take_add_one,List.getD_eq_getElem?_getD,List.getElem?_eq_getElem h];rfl
 rw [h1]
 generalize l.take i = a
 generalize l.getD i Y0 = x
 induction a with
 | nil=>simp [argY]
 | cons y a ih=>simp only [List.cons_append,argY,ih,List.append_assoc]
theorem qhh (l:List Ty) (i:Nat):(argY (l.take i)).length≤(argY l).length:=by
 induction l generalizing i with
 | nil=>simp
 | cons x r ih =>
   cases i with
   | zero=>simp [argY]
   | succ i=>rw [List.take_succ_cons,argY,argY,List.length_append,List.length_append];have:=ih i;omega
theorem q3h {t:Ty} (h:qcg t = true) (h1:t.con = arrW):∃ a b,t.args = [a,b]∧qcg a = true∧qcg b = true:=by
 rw [qie,Bool.and_eq_true] at h
 obtain ⟨h2,h3⟩:=h
 rw [mayY,mayW,h1,if_neg (by decide),if_pos rfl,Bool.and_eq_true,decide_eq_true_eq,decide_eq_true_eq] at h3
 have hl:t.args.length = 2:=by omega
 obtain ⟨a,b,hab⟩:∃ a b,t.args = [a,b]:=by
  match hh:t.args,hl with
  | [a,b],_=>exact ⟨a,b,rfl⟩
 rw [hab] at h2
 simp only [qcd,Bool.and_eq_true] at h2
 exact ⟨a,b,hab,h2.1,h2.2.1⟩
theorem q6b {t x:Ty} (h:qcg t = true) (hx:x∈t.args):qcg x = true:=by
 rw [qie,Bool.and_eq_true] at h
 have h2:=h.1
 generalize t.args = l at hx h2
 induction l with
 | nil=>cases hx
 | cons y r ih =>
   rw [qcd,Bool.and_eq_true] at h2
   rcases List.mem_cons.1 hx with rfl | hx
   ·exact h2.1
   ·exact ih hx h2.2
theorem qxm (b:Bool) (s:List UInt8):s.length≤(parW b s).length∧(parW b s).length≤s.length + 2:=by
 rw [parW];split<;>simp<;>omega
def Big:Nat:=140737488355328
theorem qkp {n:Nat} (h:n≤Big):n≤maxLen:=by unfold Big at h;unfold maxLen;omega

theorem qbyb {v:Int} (h:(Lit.int .i64 v).wf = true) (h0:v < 0):IntKind.i64.wrap (-1 - v) = -1 - v:=by
 have:=qkk h
 exact qbc (by omega) (by omega)
end Go.Proofs.YtgglaabljlhliaaGreat
