/- Texts of this proof, joined. -/
import Derived.Test.YtefcfdejmfgbpaaMav
set_option linter.unusedVariables false
set_option linter.unusedSimpArgs false

/- rows of integers: whether a number is there, each once -/
namespace Go.Proofs.Ytefcfdejmfgbpaa
open Go Go.RowKit Go.V

attribute [go_sem] cond_false cond_true
/-! each once -/
theorem qjt {H:List Ent} {n:Nat}:co H (.sl n) .nils = .sl n []:=Eq.trans rfl rfl
/-! all variables -/
/-! the program's: a walk that gathers -/
set_option maxRecDepth 4000

/-! the program's -/
abbrev numE (n:Int):Ent:=.blk [.int .i64 n]
def qd2 (n:Int) (t:Ty) (k:Int):Int×Bool:=(IntKind.i64.wrap (n + 1),decide (IntKind.i64.wrap (n + 1)≤4096) && (decide (k≤100) && mayY t))
theorem qbch (n:Int) (t:Ty) (k:Int):VM Try.prog 23 (numE n) (numE (qd2 n t k).1) [encY t,.int .i64 k,.ptr 0 0] (.bool (qd2 n t k).2):=by
 refine qe2 (by kernel_rfl) fun hw=>?_
 have hk:=qen hw.1
 refine qh c0x 1 (by simp) (by simp) ?_
 repeat' (first | refine vs_ ?_ | ((first | refine vr_ ?_ | refine qa (qfm _) fun _=>?_ | refine qa (qy9 _ _ _) fun _=>?_ | (refine cs_ ?_ ?_<;>intro hc) | refine cj_ ?_ | simp (disch:=omega) only [encs_getN,qc])<;>(try refine ev_ ?_)) | with_reducible exact ti_)
 ·simp_all [qd2]
 ·exact ⟨rfl,by simp only [qd2, *,decide_true,decide_false,Bool.true_and,Bool.false_and]⟩
 ·exact ⟨rfl,by simp only [qd2, *,decide_true,decide_false,Bool.true_and,Bool.false_and]⟩
def qnh (n:Int) (_:Ty) (_:Int):Int×Bool:=(IntKind.i64.wrap (n + 1),true)
theorem qbgk (n:Int) (t:Ty) (k:Int):VM Try.prog 40 (numE n) (numE (qnh n t k).1) [encY t,.int .i64 k,.ptr 0 0] (.bool (qnh n t k).2):=by
 refine qh c0y 1 (by simp) (by simp) ?_
 repeat' (first | refine vs_ ?_ | ((first | refine vr_ ?_ | (refine cs_ ?_ ?_<;>intro hc) | refine cj_ ?_ | simp (disch:=omega) only [encs_getN,qc])<;>(try refine ev_ ?_)) | with_reducible exact ti_)
 exact ⟨rfl,rfl⟩
def qlo (n:Int) (_:Ty) (k:Int):Int×Bool:=(if k > n then k else n,true)
theorem q9w (n:Int) (t:Ty) (k:Int):VM Try.prog 41 (numE n) (numE (qlo n t k).1) [encY t,.int .i64 k,.ptr 0 0] (.bool (qlo n t k).2):=by
 refine qh c0z 1 (by simp) (by simp) ?_
 repeat' (first | refine vs_ ?_ | ((first | refine vr_ ?_ | (refine cs_ ?_ ?_<;>intro hc) | refine cj_ ?_ | fail)<;>(try refine ev_ ?_)) | with_reducible exact ti_)
 exact ⟨rfl,rfl⟩
theorem qkw {f:FuncId} {step:Int->Ty->Int->Int×Bool} (h:∀ n t k,VM Try.prog f (numE n) (numE (step n t k).1) [encY t,.int .i64 k,.ptr 0 0] (.bool (step n t k).2)) (t:Ty) (n k:Int) :
 VM Try.prog 22 (numE n) (numE (qb8 step t n k).1) [encY t,.int .i64 k,.fn f [] [.ptr 0 0]] (.bool (qb8 step t n k).2) :=
 qrf (st:=numE) (ok:=fun _ _=>True) (fun _=>rfl) (fun _ _ _ _ _=>trivial) (fun _ _ _=>trivial) (fun n t k _=>h n t k) t n k trivial
def qvb (t:Ty):Bool:=(qb8 qd2 t 0 1).2
theorem qn6 (t:Ty):qo Try.prog 15 [encY t] (.bool (qvb t)):=by
 refine qj c0ba (by simp) (by simp only [go_sem]) rfl fun hw=>?_
 repeat' (first | refine vs_ ?_ | ((first | refine vr_ ?_ | refine qbj 1 (qkw qbch t 0 1) ?_ | (refine cs_ ?_ ?_<;>intro hc) | refine cj_ ?_ | fail)<;>(try refine ev_ ?_)) | with_reducible exact ti_)
 rfl
theorem qqu (t:Ty):qo Try.prog 26 [encY t] (.int .i64 (qb8 qnh t 0 1).1):=by
 refine qj c0bb (by simp) (by simp only [go_sem]) rfl fun hw=>?_
 repeat' (first | refine vs_ ?_ | ((first | refine vr_ ?_ | refine qbj 1 (qkw qbgk t 0 1) ?_ | (refine cs_ ?_ ?_<;>intro hc) | refine cj_ ?_ | fail)<;>(try refine ev_ ?_)) | with_reducible exact ti_)
theorem qoe (t:Ty):qo Try.prog 27 [encY t] (.int .i64 (qb8 qlo t 0 1).1):=by
 refine qj c0bc (by simp) (by simp only [go_sem]) rfl fun hw=>?_
 repeat' (first | refine vs_ ?_ | ((first | refine vr_ ?_ | refine qbj 1 (qkw q9w t 0 1) ?_ | (refine cs_ ?_ ?_<;>intro hc) | refine cj_ ?_ | fail)<;>(try refine ev_ ?_)) | with_reducible exact ti_)

/-! the references -/
mutual
def qsh:Ty->Int
 | .mk _ _ l=>qh6 1 l
def qh6:Int->List Ty->Int
 | a,[]=>a
 | a,x :: r=>qh6 (IntKind.i64.wrap (a + qsh x)) r
end
mutual
def qbf:Ty->Bool
 | .mk c v l=>qba l && mayW c v l.length
def qba:List Ty->Bool
 | []=>true
 | x :: r=>qbf x && qba r
end
theorem qdy (t:Ty):qbf t = (qba t.args && mayY t):=by cases t;rw [qbf];rfl
/-! Few -/
mutual
def cntY:Ty->Int->Int->Int
 | .mk _ _ l,k,d=>if d < 1 then -1 else qdg l (IntKind.i64.wrap (k - 1)) d
def qdg:List Ty->Int->Int->Int
 | [],a,_=>a
 | x :: r,a,d=>if 0≤a then qdg r (cntY x a (IntKind.i64.wrap (d - 1))) d else a
end
theorem qsq (t:Ty) (k d:Int):cntY t k d = if d < 1 then -1 else qdg t.args (IntKind.i64.wrap (k - 1)) d:=by cases t;rw [cntY];rfl
theorem qfk {a:Int} (h:a < 0) (l:List Ty) (d:Int):qdg l a d = a:=by
 cases l with
 | nil=>rw [qdg]
 | cons x r=>rw [qdg,if_neg (by omega)]
theorem q36:∀ t k d,qo Try.prog 9 [encY t,.int .i64 k,.int .i64 d] (.int .i64 (cntY t k d)):=by
 refine Ty.ind fun t ih k d=>?_
 refine qj c0bd (by simp) (by simp only [go_sem]) rfl fun hw=>?_
 have hk:=qen hw.1
 rw [qsq]
 repeat' (first | refine vs_ ?_ | ((first | refine vr_ ?_ | (refine cs_ ?_ ?_<;>intro hc) | refine cj_ ?_ | simp (disch:=omega) only [encs_getN,qc])<;>(try refine ev_ ?_)) | with_reducible exact ti_)
 ·rw [if_pos (by assumption)]
 rw [if_neg (by assumption)]
 refine qbi (S:=Nat×Int) (fun s=>s.1≤t.args.length∧qdg (t.args.drop s.1) s.2 d = qdg t.args (IntKind.i64.wrap (k - 1)) d) (fun s=>(⟨[(1,.int .i64 s.2),(2,.int .i64 d),(3,.ptr 0 0),(7,.int .i64 s.1)],[]⟩,[.blk (yc t)])) (fun s=>t.args.length - s.1) ?_ fun s hs=>?_
 ·refine qu (0,IntKind.i64.wrap (k - 1)) [0] ⟨Nat.zero_le _,rfl⟩ rfl (by simp) ?_ ?_ ?_<;>(try refine ev_ ?_)<;>(try with_reducible exact ti_)<;>(try simp (disch:=omega) only [qc,and_true,true_and])
 ·obtain ⟨i,a⟩:=s
  obtain ⟨hi,ha⟩:=hs
  dsimp only at hi ha
  repeat' (first | refine vs_ ?_ | ((first | refine vr_ ?_ | fail)<;>(try simp (disch:=first | omega | (simp only [List.length_set,List.length_append,List.length_cons,List.length_nil];done) | (simp only [List.length_set,List.length_append,List.length_cons,List.length_nil];omega)) only [qbp,qc,go_sem,↓reduceIte])) | ((first | (refine cs_ ?_ ?_<;>intro hc) | refine cj_ ?_ | simp (disch:=omega) only [encs_getN,qc] | refine qa (ih _ (qb5 (by omega)) _ _) fun _=>?_)<;>(try refine ev_ ?_)) | with_reducible exact ti_)
  ·refine qu (i + 1,cntY (t.args.getD i Y0) a (IntKind.i64.wrap (d - 1))) [0] ⟨⟨by dsimp only;omega,?_⟩,by dsimp only;omega⟩ rfl (by simp) ?_ ?_ ?_<;>(try refine ev_ ?_)<;>(try with_reducible exact ti_)<;>(try simp (disch:=omega) only [qc,and_true,true_and])
   rw [← ha,qiw (l:=t.args) (i:=i) (by omega),qdg,if_pos (by assumption)]
  ·rw [← ha,qfk (by omega)]
  ·rw [← ha,List.drop_of_length_le (by omega)];rfl
def qi4 (a:Int):List Ty->Int
 | []=>a
 | x :: r=>qi4 (cntY x a 300) r
def qdk (l:List Ty):Bool:=decide (0≤qi4 20000 l)
theorem qbb9 (l:List Ty):qo Try.prog 4 [.sl 3 (qn l)] (.int .i64 (if qdk l = true then 1 else 0)):=by
 refine qj c0be (by simp) (by simp only [go_sem]) rfl fun hw=>?_
 have hk:l.length≤maxLen:=by have:=hw.1.1;rwa [qbh] at this
 repeat' (first | refine vs_ ?_ | ((first | refine vr_ ?_ | (refine cs_ ?_ ?_<;>intro hc) | refine cj_ ?_ | simp (disch:=omega) only [encs_getN,qc])<;>(try refine ev_ ?_)) | with_reducible exact ti_)
 refine qbi (S:=Nat×Int) (fun s=>s.1≤l.length∧qi4 s.2 (l.drop s.1) = qi4 20000 l) (fun s=>(⟨[(0,.sl 3 (qn l)),(3,.int .i64 s.2),(4,.int .i64 s.1)],[]⟩,[])) (fun s=>l.length - s.1) ?_ fun s hs=>?_
 ·refine qu (0,20000) [] ⟨Nat.zero_le _,rfl⟩ rfl (by simp) ?_ ?_ ?_<;>(try refine ev_ ?_)<;>(try with_reducible exact ti_)<;>(try simp (disch:=omega) only [qc,and_true,true_and])
 ·obtain ⟨i,a⟩:=s
  obtain ⟨hi,ha⟩:=hs
  dsimp only at hi ha
  repeat' (first | refine vs_ ?_ | ((first | refine vr_ ?_ | fail)<;>(try simp (disch:=first | omega | (simp only [List.length_set,List.length_append,List.length_cons,List.length_nil];done) | (simp only [List.length_set,List.length_append,List.length_cons,List.length_nil];omega)) only [qbp,qc,go_sem,↓reduceIte])) | ((first | (refine cs_ ?_ ?_<;>intro hc) | refine cj_ ?_ | simp (disch:=omega) only [encs_getN,qc] | refine qa (q36 _ _ _) fun _=>?_)<;>(try refine ev_ ?_)) | with_reducible exact ti_)
  ·refine qu (i + 1,cntY (l.getD i Y0) a 300) [] ⟨⟨by dsimp only;omega,?_⟩,by dsimp only;omega⟩ rfl (by simp) ?_ ?_ ?_<;>(try refine ev_ ?_)<;>(try with_reducible exact ti_)<;>(try simp (disch:=omega) only [qc,and_true,true_and])
   rw [← ha,qiw (l:=l) (i:=i) (by omega),qi4]
  all_goals
   have hf:qi4 20000 l = a:=by rw [← ha,List.drop_of_length_le (by omega)];rfl
   rw [qdk,hf]
  ·rw [if_neg (by simp;omega)]
  ·rw [if_pos (by simp;omega)]

/-! the laws of sizes -/
mutual
theorem qvx:∀ (t:Ty) (k d:Int),0≤k->k≤20000->d≤300->0≤cntY t k d->cntY t k d = k - szY t∧(dpY t:Int)≤d
 | .mk c v l, k, d, h0, h1, h2, h3 => by
   rw [cntY] at h3 ⊢
   by_cases hd:d < 1
   ·rw [if_pos hd] at h3;omega
   ·rw [if_neg hd] at h3 ⊢
    have hk:IntKind.i64.wrap (k - 1) = k - 1:=qw (by omega) (by omega)
    rw [hk] at h3 ⊢
    have h4:0≤k - 1:=by
     by_cases h:0≤k - 1
     ·exact h
     ·rw [qfk (by omega)] at h3;exact h3
    have:=qpd l (k - 1) d h4 (by omega) (by omega) h2 h3
    rw [szY,dpY]
    omega
theorem qpd:∀ (l:List Ty) (a d:Int),0≤a->a≤20000->1≤d->d≤300->0≤qdg l a d->qdg l a d = a - szYs l∧(dpYs l:Int)≤d - 1
 | [],a,d,h0,h1,h2,h3,h4=>by rw [qdg,szYs,dpYs];omega
 | x :: r, a, d, h0, h1, h2, h3, h4 => by
   rw [qdg,if_pos h0] at h4 ⊢
   have hd:IntKind.i64.wrap (d - 1) = d - 1:=qw (by omega) (by omega)
   rw [hd] at h4 ⊢
   have h5:0≤cntY x a (d - 1):=by
    by_cases h:0≤cntY x a (d - 1)
    ·exact h
    ·rw [qfk (by omega)] at h4;exact absurd h4 h
   obtain ⟨h6,h7⟩:=qvx x a (d - 1) h0 h1 (by omega) h5
   obtain ⟨h8,h9⟩:=qpd r _ d h5 (by omega) h2 h3 h4
   rw [szYs,dpYs]
   omega
end
mutual
theorem qv0:∀ (t:Ty) (k d:Int),0≤k->k≤20000->-1≤cntY t k d
 | .mk c v l, k, d, h0, h1 => by
   rw [cntY]
   split
   ·omega
   ·rw [qw (z:=k - 1) (by omega) (by omega)]
    exact qr2 l (k - 1) d (by omega) (by omega)
theorem qr2:∀ (l:List Ty) (a d:Int),-1≤a->a≤20000->-1≤qdg l a d
 | [],a,d,h0,_=>by rw [qdg];exact h0
 | x :: r, a, d, h0, h1 => by
   rw [qdg]
   split
   ·rename_i h
    have h2:=qv0 x a (IntKind.i64.wrap (d - 1)) h h1
    have h3:=qz8 x a (IntKind.i64.wrap (d - 1)) h h1
    exact qr2 r _ d h2 (by omega)
   ·exact h0
theorem qz8:∀ (t:Ty) (k d:Int),0≤k->k≤20000->cntY t k d≤k
 | .mk c v l, k, d, h0, h1 => by
   rw [cntY]
   split
   ·omega
   ·rw [qw (z:=k - 1) (by omega) (by omega)]
    have:=qtk l (k - 1) d (by omega) (by omega)
    omega
theorem qtk:∀ (l:List Ty) (a d:Int),-1≤a->a≤20000->qdg l a d≤a
 | [],a,d,h0,_=>by rw [qdg];exact Int.le_refl _
 | x :: r, a, d, h0, h1 => by
   rw [qdg]
   split
   ·rename_i h
    have h2:=qv0 x a (IntKind.i64.wrap (d - 1)) h h1
    have h3:=qz8 x a (IntKind.i64.wrap (d - 1)) h h1
    have:=qtk r _ d h2 (by omega)
    omega
   ·exact Int.le_refl _
end
theorem qo7:∀ (l:List Ty) {a:Int},a < 0->-9223372036854775808≤a - l.length->qi4 a l < 0
 | [],a,h,_=>h
 | x :: r, a, h, h2 => by
   rw [qi4]
   have h3:cntY x a 300 = IntKind.i64.wrap (a - 1):=by
    rw [qsq,if_neg (by omega)]
    have hk:IntKind.i64.wrap (a - 1) = a - 1:=qw (by simp only [List.length_cons] at h2;omega) (by omega)
    rw [hk,qfk (by omega)]
   have hk:IntKind.i64.wrap (a - 1) = a - 1:=qw (by simp only [List.length_cons] at h2;omega) (by omega)
   rw [h3,hk]
   exact qo7 r (by omega) (by simp only [List.length_cons] at h2;omega)
theorem qot:∀ (l:List Ty) (a:Int),0≤a->a≤20000->l.length≤9223372036854775807->0≤qi4 a l->(szYs l:Int)≤a∧(dpYs l:Int)≤300
 | [],a,h0,h1,_,h2=>by rw [szYs,dpYs];omega
 | x :: r, a, h0, h1, hl, h2 => by
   rw [qi4] at h2
   simp only [List.length_cons] at hl
   have h5:0≤cntY x a 300:=by
    by_cases h:0≤cntY x a 300
    ·exact h
    ·have:-1≤cntY x a 300:=qv0 x a 300 h0 h1
     have:=qo7 r (a:=cntY x a 300) (by omega) (by omega)
     omega
   obtain ⟨h6,h7⟩:=qvx x a 300 h0 h1 (by omega) h5
   obtain ⟨h8,h9⟩:=qot r _ h5 (by omega) (by omega) h2
   rw [szYs,dpYs]
   omega
theorem q4f {l:List Ty} (hl:l.length≤maxLen) (h:qdk l = true):szYs l≤20000∧dpYs l≤300:=by
 have:=qot l 20000 (by omega) (by omega) (by unfold maxLen at hl;omega) (by simpa [qdk] using h)
 omega

mutual
theorem qq2:∀ (t:Ty),szY t≤1000000->qsh t = szY t
 | .mk c v l, h => by
   rw [szY] at h
   rw [qsh,szY,qhd l 1 (by omega) (by omega)]
   omega
theorem qhd:∀ (l:List Ty) (a:Int),1≤a->a + szYs l≤1000001->qh6 a l = a + szYs l
 | [],a,_,_=>by rw [qh6,szYs];omega
 | x :: r, a, h0, h => by
   rw [szYs] at h
   rw [qh6,qq2 x (by omega),qw (by omega) (by omega),qhd r _ (by omega) (by omega),szYs]
   omega
end
mutual
theorem qmf:∀ (t:Ty) (n k:Int),0≤n->n + szY t≤1000000->qb8 qnh t n k = (n + szY t,true)
 | .mk c v l, n, k, h0, h => by
   rw [szY] at h
   rw [qb8,if_pos (show (qnh n (.mk c v l) k).2 = true from rfl)]
   have h1:(qnh n (.mk c v l) k).1 = n + 1:=qw (by omega) (by omega)
   rw [h1,qjn l _ _ (by omega) (by omega),szY]
   congr 1;omega
theorem qjn:∀ (l:List Ty) (n k:Int),0≤n->n + szYs l≤1000000->qbm qnh l n k = (n + szYs l,true)
 | [],n,k,_,_=>by rw [qbm,szYs];congr 1;omega
 | x :: r, n, k, h0, h => by
   rw [szYs] at h
   rw [qbm,qmf x n k h0 (by omega),if_pos rfl,qjn r _ k (by omega) (by omega),szYs]
   congr 1;omega
end
mutual
theorem qme:∀ (t:Ty) (n k:Int),0≤n->1≤k->k + dpY t≤1000000->qb8 qlo t n k = (max n (k + dpY t - 1),true)
 | .mk c v l, n, k, h0, h1, h => by
   rw [dpY] at h
   rw [qb8,if_pos (show (qlo n (.mk c v l) k).2 = true from rfl)]
   have h2:(qlo n (.mk c v l) k).1 = max n k:=by simp only [qlo];split<;>omega
   rw [h2,qw (z:=k + 1) (by omega) (by omega),qjm l _ _ (by omega) (by omega) (by omega),dpY]
   congr 1;split<;>omega
theorem qjm:∀ (l:List Ty) (n k:Int),0≤n->1≤k->k + dpYs l≤1000000->qbm qlo l n k = (if dpYs l = 0 then n else max n (k + dpYs l - 1),true)
 | [],n,k,_,_,_=>by rw [qbm,dpYs,if_pos rfl]
 | x :: r, n, k, h0, h1, h => by
   rw [dpYs] at h
   have hp:=q2x x
   rw [qbm,qme x n k h0 h1 (by omega),if_pos rfl,qjm r _ k (by omega) h1 (by omega),dpYs]
   congr 1
   rw [if_neg (by omega:¬ max (dpY x) (dpYs r) = 0)]
   split<;>omega
end
mutual
theorem qmg:∀ (t:Ty) (n k:Int),0≤n->n + szY t≤1000000->1≤k->k + dpY t≤1000000 →
 ((qb8 qd2 t n k).2 = true ↔ n + szY t≤4096∧k + dpY t - 1≤100∧qbf t = true)∧((qb8 qd2 t n k).2 = true->(qb8 qd2 t n k).1 = n + szY t)
 | .mk c v l, n, k, h0, h1, h2, h3 => by
   rw [szY] at h1
   rw [dpY] at h3
   have e1:IntKind.i64.wrap (n + 1) = n + 1:=qw (by omega) (by omega)
   have e2:IntKind.i64.wrap (k + 1) = k + 1:=qw (by omega) (by omega)
   have e3:(qd2 n (.mk c v l) k).1 = n + 1:=e1
   have e4:(qd2 n (.mk c v l) k).2 = true ↔ n + 1≤4096∧k≤100∧mayW c v l.length = true:=by
    simp only [qd2,e1,Bool.and_eq_true,decide_eq_true_eq];rfl
   rw [qb8,szY,dpY,qbf]
   by_cases hs:(qd2 n (.mk c v l) k).2 = true
   ·rw [if_pos hs,e3,e2]
    obtain ⟨q1,q2,q3⟩:=e4.1 hs
    obtain ⟨r1,r2⟩:=qje l (n + 1) (k + 1) (by omega) (by omega) (by omega) (by omega) (by omega) (by omega)
    refine ⟨?_,fun h=>by rw [r2 h];omega⟩
    rw [r1,q3,Bool.and_true]
    constructor
    ·rintro ⟨a1,a2,a3⟩;exact ⟨by omega,by omega,a3⟩
    ·rintro ⟨a1,a2,a3⟩;exact ⟨by omega,by omega,a3⟩
   ·rw [if_neg hs]
    refine ⟨⟨fun h=>(by cases h),fun ⟨a1,a2,a3⟩=>absurd (e4.2 ⟨by omega,by omega,(by rw [Bool.and_eq_true] at a3;exact a3.2)⟩) hs⟩,fun h=>by cases h⟩
theorem qje:∀ (l:List Ty) (n k:Int),0≤n->n + szYs l≤1000000->1≤k->k + dpYs l≤1000000->n≤4096->k - 1≤100 →
 ((qbm qd2 l n k).2 = true ↔ n + szYs l≤4096∧k + dpYs l - 1≤100∧qba l = true)∧((qbm qd2 l n k).2 = true->(qbm qd2 l n k).1 = n + szYs l)
 | [], n, k, h0, h1, h2, h3, h4, h5 => by
   rw [qbm,szYs,dpYs,qba]
   exact ⟨⟨fun _=>⟨by omega,by omega,rfl⟩,fun _=>rfl⟩,fun _=>by simp⟩
 | x :: r, n, k, h0, h1, h2, h3, h4, h5 => by
   rw [szYs] at h1
   rw [dpYs] at h3
   obtain ⟨q1,q2⟩:=qmg x n k h0 (by omega) h2 (by omega)
   rw [qbm,szYs,dpYs,qba]
   by_cases hs:(qb8 qd2 x n k).2 = true
   ·rw [if_pos hs,q2 hs]
    obtain ⟨a1,a2,a3⟩:=q1.1 hs
    obtain ⟨r1,r2⟩:=qje r (n + szY x) k (by omega) (by omega) h2 (by omega) (by omega) h5
    refine ⟨?_,fun h=>by rw [r2 h];omega⟩
    rw [r1,a3,Bool.true_and]
    constructor
    ·rintro ⟨b1,b2,b3⟩;exact ⟨by omega,by omega,b3⟩
    ·rintro ⟨b1,b2,b3⟩;exact ⟨by omega,by omega,b3⟩
   ·rw [if_neg hs]
    refine ⟨⟨fun h=>(by cases h),fun ⟨a1,a2,a3⟩=>absurd (q1.2 ⟨by omega,by omega,?_⟩) hs⟩,fun h=>by cases h⟩
    rw [Bool.and_eq_true] at a3
    exact a3.1
end
def qi (t:Ty):Bool:=decide (szY t≤4096) && (decide (dpY t≤100) && qbf t)
theorem qtl {t:Ty} (h1:szY t≤20000) (h2:dpY t≤300):qvb t = qi t:=by
 have:=(qmg t 0 1 (by omega) (by omega) (by omega) (by omega)).1
 rw [qvb,Bool.eq_iff_iff,this,qi,Bool.and_eq_true,Bool.and_eq_true,decide_eq_true_eq,decide_eq_true_eq]
 constructor
 ·rintro ⟨a1,a2,a3⟩;exact ⟨by omega,by omega,a3⟩
 ·rintro ⟨a1,a2,a3⟩;exact ⟨by omega,by omega,a3⟩
theorem qcc {t:Ty} (h1:szY t≤20000) (h2:dpY t≤300):qo Try.prog 15 [encY t] (.bool (qi t)):=by
 rw [← qtl h1 h2];exact qn6 t

theorem qw3 {t a b:Ty} (h1:t.con = arrW) (h2:t.args = [a,b]):txtY t = parW (decide (a.con = arrW)) (txtY a) ++ ([32,45,62,32] ++ txtY b):=by
 cases t with
 | mk c v l =>
   have h1':c = arrW:=h1
   have h2':l = [a,b]:=h2
   subst h1' h2'
   rw [txtY,if_pos rfl]
theorem qy7 {t:Ty} (h1:¬ t.con = arrW):txtY t = qf2 t ++ argY t.args:=by
 cases t with
 | mk c v l =>
   have h1':¬ c = arrW:=h1
   rcases l with _ | ⟨a,_ | ⟨b,_ | ⟨d,r⟩⟩⟩<;>(simp only [txtY,if_neg h1'];rfl)
theorem qhf (l:List Ty) (i:Nat) (h:i < l.length):argY (l.take (i + 1)) = argY (l.take i) ++ (32 :: parW (decide ((l.getD i Y0).args≠[])) (txtY (l.getD i Y0))):=by
 have h1:l.take (i + 1) = l.take i ++ [l.getD i Y0]:=by
  rw [List.take_add_one,List.getD_eq_getElem?_getD,List.getElem?_eq_getElem h];rfl
 rw [h1]
 generalize l.take i = a
 generalize l.getD i Y0 = x
 induction a with
 | nil=>simp [argY]
 | cons y a ih=>simp only [List.cons_append,argY,ih,List.append_assoc]
theorem qe7 (l:List Ty) (i:Nat):(argY (l.take i)).length≤(argY l).length:=by
 induction l generalizing i with
 | nil=>simp
 | cons x r ih =>
   cases i with
   | zero=>simp [argY]
   | succ i=>rw [List.take_succ_cons,argY,argY,List.length_append,List.length_append];have:=ih i;omega
theorem qtj {t:Ty} (h:qbf t = true) (h1:t.con = arrW):∃ a b,t.args = [a,b]∧qbf a = true∧qbf b = true:=by
 rw [qdy,Bool.and_eq_true] at h
 obtain ⟨h2,h3⟩:=h
 rw [mayY,mayW,h1,if_neg (by decide),if_pos rfl,Bool.and_eq_true,decide_eq_true_eq,decide_eq_true_eq] at h3
 have hl:t.args.length = 2:=by omega
 obtain ⟨a,b,hab⟩:∃ a b,t.args = [a,b]:=by
  match hh:t.args,hl with
  | [a,b],_=>exact ⟨a,b,rfl⟩
 rw [hab] at h2
 simp only [qba,Bool.and_eq_true] at h2
 exact ⟨a,b,hab,h2.1,h2.2.1⟩
theorem qsg {t x:Ty} (h:qbf t = true) (hx:x∈t.args):qbf x = true:=by
 rw [qdy,Bool.and_eq_true] at h
 have h2:=h.1
 generalize t.args = l at hx h2
 induction l with
 | nil=>cases hx
 | cons y r ih =>
   rw [qba,Bool.and_eq_true] at h2
   rcases List.mem_cons.1 hx with rfl | hx
   ·exact h2.1
   ·exact ih hx h2.2
theorem qph (b:Bool) (s:List UInt8):s.length≤(parW b s).length∧(parW b s).length≤s.length + 2:=by
 rw [parW];split<;>simp<;>omega
def Big:Nat:=140737488355328
theorem qhc {n:Nat} (h:n≤Big):n≤maxLen:=by unfold Big at h;unfold maxLen;omega

theorem qbdn {v:Int} (h:(Lit.int .i64 v).wf = true) (h0:v < 0):IntKind.i64.wrap (-1 - v) = -1 - v:=by
 have:=qmi h
 exact qw (by omega) (by omega)
end Go.Proofs.Ytefcfdejmfgbpaa
