/- A text of this proof. -/
import Derived.Test.YtkenggenkmfopaaGreatSan
set_option linter.unusedVariables false
set_option linter.unusedSimpArgs false

/- terms: how great, how deep, whether a type is one; Few -/
set_option maxRecDepth 4000
namespace Go.Proofs.YtkenggenkmfopaaGreat
open Go Go.RowKit Go.V

/-! the program's -/
abbrev numE(n:Int):Ent:=.blk [.int .i64 n]
def qhe(n:Int)(t:Ty)(k:Int):Int×Bool:=(IntKind.i64.wrap (n+1),decide (IntKind.i64.wrap (n+1)≤4096)&&(decide (k≤100)&&mayY t))
theorem qcgn(n:Int)(t:Ty)(k:Int):VM Tryz.prog 100 (numE n) (numE (qhe n t k).1) [encY t,.int .i64 k,.ptr 0 0] (.bool (qhe n t k).2):=by
 refine qgz (by kernel_rfl) fun hw=>?_
 have hk:=qcn hw.1
 refine qe c0dd 1 (by simp) (by simp) ?_
 repeat'(first|refine vs_ ?_|((first|refine vr_ ?_|refine qa (qqh _) fun _=>?_|refine qa (qbkw _ _ _) fun _=>?_|(refine cs_ ?_ ?_<;>intro hc)|refine cj_ ?_)<;>try refine ev_ ?_)|with_reducible exact ti_)
 ·simp_all[qhe]
 ·exact⟨rfl,by simp only[qhe, *,decide_true,decide_false,Bool.true_and,Bool.false_and]⟩
 ·exact⟨rfl,by simp only[qhe, *,decide_true,decide_false,Bool.true_and,Bool.false_and]⟩
def qw7(n:Int)(_:Ty)(_:Int):Int×Bool:=(IntKind.i64.wrap (n+1),true)
theorem qcn5(n:Int)(t:Ty)(k:Int):VM Tryz.prog 175 (numE n) (numE (qw7 n t k).1) [encY t,.int .i64 k,.ptr 0 0] (.bool (qw7 n t k).2):=by
 refine qe c0de 1 (by simp) (by simp) ?_
 repeat'(first|refine vs_ ?_|((first|refine vr_ ?_|(refine cs_ ?_ ?_<;>intro hc)|refine cj_ ?_)<;>try refine ev_ ?_)|with_reducible exact ti_)
 exact⟨rfl,rfl⟩
def qtb(n:Int)(_:Ty)(k:Int):Int×Bool:=(if k > n then k else n,true)
theorem qcmz(n:Int)(t:Ty)(k:Int):VM Tryz.prog 176 (numE n) (numE (qtb n t k).1) [encY t,.int .i64 k,.ptr 0 0] (.bool (qtb n t k).2):=by
 refine qe c0df 1 (by simp) (by simp) ?_
 repeat'(first|refine vs_ ?_|((first|refine vr_ ?_|(refine cs_ ?_ ?_<;>intro hc)|refine cj_ ?_)<;>try refine ev_ ?_)|with_reducible exact ti_)
 exact⟨rfl,rfl⟩
theorem qrr{f:FuncId}{step:Int->Ty->Int->Int×Bool}(h:∀n t k,VM Tryz.prog f (numE n) (numE (step n t k).1) [encY t,.int .i64 k,.ptr 0 0] (.bool (step n t k).2))(t:Ty)(n k:Int):
 VM Tryz.prog 99 (numE n) (numE (qdi step t n k).1) [encY t,.int .i64 k,.fn f [] [.ptr 0 0]] (.bool (qdi step t n k).2) :=
 qo8 (st:=numE) (ok:=fun _ _=>True) (fun _=>rfl) (fun _ _ _ _ _=>trivial) (fun _ _ _=>trivial) (fun n t k _=>h n t k) t n k trivial
def qx6(t:Ty):Bool:=(qdi qhe t 0 1).2
theorem qmk(t:Ty):qj Tryz.prog 67 [encY t] (.bool (qx6 t)):=by
 refine qd c0dg (by simp) (by simp only[go_sem]) rfl fun hw=>?_
 repeat'(first|refine vs_ ?_|((first|refine vr_ ?_|refine qca 1 (qrr qcgn t 0 1) ?_|(refine cs_ ?_ ?_<;>intro hc)|refine cj_ ?_)<;>try refine ev_ ?_)|with_reducible exact ti_)
 rfl
theorem q27(t:Ty):qj Tryz.prog 124 [encY t] (.int .i64 (qdi qw7 t 0 1).1):=by
 refine qd c0dh (by simp) (by simp only[go_sem]) rfl fun hw=>?_
 repeat'(first|refine vs_ ?_|((first|refine vr_ ?_|refine qca 1 (qrr qcn5 t 0 1) ?_|(refine cs_ ?_ ?_<;>intro hc)|refine cj_ ?_)<;>try refine ev_ ?_)|with_reducible exact ti_)
theorem qvz(t:Ty):qj Tryz.prog 125 [encY t] (.int .i64 (qdi qtb t 0 1).1):=by
 refine qd c0di (by simp) (by simp only[go_sem]) rfl fun hw=>?_
 repeat'(first|refine vs_ ?_|((first|refine vr_ ?_|refine qca 1 (qrr qcmz t 0 1) ?_|(refine cs_ ?_ ?_<;>intro hc)|refine cj_ ?_)<;>try refine ev_ ?_)|with_reducible exact ti_)

/-! the references -/
mutual
def qde:Ty->Int
 | .mk _ _ l=>qe6 1 l
def qe6:Int->List Ty->Int
 | a,[]=>a
 | a,x::r=>qe6 (IntKind.i64.wrap (a+qde x)) r
end
theorem q48(t:Ty):qde t=qe6 1 t.args:=by cases t;rw[qde];rfl
theorem qd3:∀t,qj Tryz.prog 9 [encY t] (.int .i64 (qde t)):=by
 refine Ty.ind fun t ih=>?_
 refine qd c0dj (by simp) (by simp only[go_sem]) rfl fun hw=>?_
 have hk:=qcn hw.1
 repeat'(first|refine vs_ ?_|((first|refine vr_ ?_|(refine cs_ ?_ ?_<;>intro hc)|refine cj_ ?_)<;>try refine ev_ ?_)|with_reducible exact ti_)
 refine qk (S:=Nat×Int) (fun s=>s.1≤t.args.length∧qe6 s.2 (t.args.drop s.1)=qde t) (fun s=>(⟨[(1,.ptr 0 0),(3,.int .i64 s.2),(4,.int .i64 s.1)],[]⟩,[.blk (yc t)])) (fun s=>t.args.length-s.1) ?_ fun s hs=>?_
 ·refine qf (0,1) [0] ⟨Nat.zero_le _,(q48 t).symm⟩ rfl (by simp) ?_ ?_ ?_<;>(try refine ev_ ?_)<;>(try with_reducible exact ti_)<;>(try simp (disch:=omega) only[qb,and_true,true_and])
 ·obtain⟨i,a⟩:=s
  obtain⟨hi,ha⟩:=hs
  dsimp only at hi ha
  repeat'(first|refine vs_ ?_|(refine vr_ ?_<;>try simp (disch:=first|omega|(simp only[List.length_set,List.length_append,List.length_cons,List.length_nil];try omega)) only[ql,qb,go_sem,↓reduceIte])|((first|(refine cs_ ?_ ?_<;>intro hc)|refine cj_ ?_|refine qa (ih _ (qba (by omega))) fun _=>?_)<;>try refine ev_ ?_)|with_reducible exact ti_)
  ·refine qf (i+1,IntKind.i64.wrap (a+qde (t.args.getD i Y0))) [0] ⟨⟨by dsimp only;omega,?_⟩,by dsimp only;omega⟩ rfl (by simp) ?_ ?_ ?_<;>(try refine ev_ ?_)<;>(try with_reducible exact ti_)<;>(try simp (disch:=omega) only[qb,and_true,true_and])
   rw[←ha,qj1 (l:=t.args) (i:=i) (by omega),qe6]
  ·rw[←ha,List.drop_of_length_le (by omega)];rfl
mutual
def qn7:Ty->Int
 | .mk _ _ l=>IntKind.i64.wrap (qje 0 l+1)
def qje:Int->List Ty->Int
 | a,[]=>a
 | a,x::r=>qje (if qn7 x > a then qn7 x else a) r
end
theorem qbcu(t:Ty):qn7 t=IntKind.i64.wrap (qje 0 t.args+1):=by cases t;rw[qn7];rfl
theorem qmt:∀t,qj Tryz.prog 162 [encY t] (.int .i64 (qn7 t)):=by
 refine Ty.ind fun t ih=>?_
 refine qd c0dk (by simp) (by simp only[go_sem]) rfl fun hw=>?_
 have hk:=qcn hw.1
 repeat'(first|refine vs_ ?_|((first|refine vr_ ?_|(refine cs_ ?_ ?_<;>intro hc)|refine cj_ ?_)<;>try refine ev_ ?_)|with_reducible exact ti_)
 refine qk (S:=Nat×Int) (fun s=>s.1≤t.args.length∧qje s.2 (t.args.drop s.1)=qje 0 t.args) (fun s=>(⟨[(1,.ptr 0 0),(3,.int .i64 s.2),(4,.int .i64 s.1)],[]⟩,[.blk (yc t)])) (fun s=>t.args.length-s.1) ?_ fun s hs=>?_
 ·refine qf (0,0) [0] ⟨Nat.zero_le _,rfl⟩ rfl (by simp) ?_ ?_ ?_<;>(try refine ev_ ?_)<;>(try with_reducible exact ti_)<;>(try simp (disch:=omega) only[qb,and_true,true_and])
 ·obtain⟨i,a⟩:=s
  obtain⟨hi,ha⟩:=hs
  dsimp only at hi ha
  repeat'(first|refine vs_ ?_|(refine vr_ ?_<;>try simp (disch:=first|omega|(simp only[List.length_set,List.length_append,List.length_cons,List.length_nil];try omega)) only[ql,qb,go_sem,↓reduceIte])|((first|(refine cs_ ?_ ?_<;>intro hc)|refine cj_ ?_|refine qa (ih _ (qba (by omega))) fun _=>?_)<;>try refine ev_ ?_)|with_reducible exact ti_)
  ·refine qf (i+1,if qn7 (t.args.getD i Y0) > a then qn7 (t.args.getD i Y0) else a) [0] ⟨⟨by dsimp only;omega,?_⟩,by dsimp only;omega⟩ rfl (by simp) ?_ ?_ ?_<;>(try refine ev_ ?_)<;>(try with_reducible exact ti_)<;>(try simp (disch:=omega) only[qb,and_true,true_and])
   rw[←ha,qj1 (l:=t.args) (i:=i) (by omega),qje]
  ·rw[qbcu,←ha,List.drop_of_length_le (by omega)];rfl
mutual
def qch:Ty->Bool
 | .mk c v l=>qbo l&&mayW c v l.length
def qbo:List Ty->Bool
 | []=>true
 | x::r=>qch x&&qbo r
end
theorem qdm(t:Ty):qch t=(qbo t.args&&mayY t):=by cases t;rw[qch];rfl
theorem qld{l:List Ty}{i:Nat}(h:i<l.length):qbo (l.drop i)=(qch (l.getD i Y0)&&qbo (l.drop (i+1))):=by rw[qj1 h,qbo]
theorem qxt:∀t,qj Tryz.prog 163 [encY t] (.bool (qch t)):=by
 refine Ty.ind fun t ih=>?_
 refine qd c0dl (by simp) (by simp only[go_sem]) rfl fun hw=>?_
 have hk:=qcn hw.1
 repeat'(first|refine vs_ ?_|((first|refine vr_ ?_|(refine cs_ ?_ ?_<;>intro hc)|refine cj_ ?_)<;>try refine ev_ ?_)|with_reducible exact ti_)
 refine qk (S:=Nat) (fun i=>i≤t.args.length∧qbo (t.args.drop i)=qbo t.args) (fun i=>(⟨[(1,.ptr 0 0),(3,.int .i64 i)],[]⟩,[.blk (yc t)])) (fun i=>t.args.length-i) ?_ fun i hi=>?_
 ·refine qf 0 [0] ⟨Nat.zero_le _,rfl⟩ rfl (by simp) ?_ ?_ ?_<;>(try refine ev_ ?_)<;>(try with_reducible exact ti_)<;>(try simp (disch:=omega) only[qb,and_true,true_and])
 ·obtain⟨hi,ha⟩:=hi
  rw[qdm]
  repeat'(first|refine vs_ ?_|(refine vr_ ?_<;>try simp (disch:=first|omega|(simp only[List.length_set,List.length_append,List.length_cons,List.length_nil];try omega)) only[ql,qb,go_sem,↓reduceIte])|((first|(refine cs_ ?_ ?_<;>intro hc)|refine cj_ ?_|refine qa (ih _ (qba (by omega))) fun _=>?_|refine qa (qw6 _) fun _=>?_|refine qa (qsf _) fun _=>?_)<;>try refine ev_ ?_)|with_reducible exact ti_)
  ·have:qbo t.args=false:=by rw[←ha,qld (by omega),hc];rfl
   rw[this];rfl
  ·refine qf (i+1) [0] ⟨⟨by omega,?_⟩,by omega⟩ rfl (by simp) ?_ ?_ ?_<;>(try refine ev_ ?_)<;>(try with_reducible exact ti_)<;>(try simp (disch:=omega) only[qb,and_true,true_and])
   rw[←ha,qld (i:=i) (by omega),hc,Bool.true_and]
  all_goals
   have hs:qbo t.args=true:=by rw[←ha,List.drop_of_length_le (by omega)];rfl
   rw[hs,Bool.true_and,mayY,mayW]
   simp only[arrW, *,if_true,if_false,decide_true,decide_false,Bool.and_true,Bool.and_false,Bool.false_eq_true]
   try rfl
/-! Few -/
mutual
def cntY:Ty->Int->Int->Int
 | .mk _ _ l,k,d=>if d<1 then -1 else qgm l (IntKind.i64.wrap (k-1)) d
def qgm:List Ty->Int->Int->Int
 | [],a,_=>a
 | x::r,a,d=>if 0≤a then qgm r (cntY x a (IntKind.i64.wrap (d-1))) d else a
end
theorem q9q(t:Ty)(k d:Int):cntY t k d=if d<1 then -1 else qgm t.args (IntKind.i64.wrap (k-1)) d:=by cases t;rw[cntY];rfl
theorem qjy{a:Int}(h:a<0)(l:List Ty)(d:Int):qgm l a d=a:=by
 cases l with
 | nil=>rw[qgm]
 | cons x r=>rw[qgm,if_neg (by omega)]
theorem qb9e:∀t k d,qj Tryz.prog 37 [encY t,.int .i64 k,.int .i64 d] (.int .i64 (cntY t k d)):=by
 refine Ty.ind fun t ih k d=>?_
 refine qd c0dm (by simp) (by simp only[go_sem]) rfl fun hw=>?_
 have hk:=qcn hw.1
 rw[q9q]
 repeat'(first|refine vs_ ?_|((first|refine vr_ ?_|(refine cs_ ?_ ?_<;>intro hc)|refine cj_ ?_)<;>try refine ev_ ?_)|with_reducible exact ti_)
 ·rw[if_pos (by assumption)]
 rw[if_neg (by assumption)]
 refine qk (S:=Nat×Int) (fun s=>s.1≤t.args.length∧qgm (t.args.drop s.1) s.2 d=qgm t.args (IntKind.i64.wrap (k-1)) d) (fun s=>(⟨[(1,.int .i64 s.2),(2,.int .i64 d),(3,.ptr 0 0),(7,.int .i64 s.1)],[]⟩,[.blk (yc t)])) (fun s=>t.args.length-s.1) ?_ fun s hs=>?_
 ·refine qf (0,IntKind.i64.wrap (k-1)) [0] ⟨Nat.zero_le _,rfl⟩ rfl (by simp) ?_ ?_ ?_<;>(try refine ev_ ?_)<;>(try with_reducible exact ti_)<;>(try simp (disch:=omega) only[qb,and_true,true_and])
 ·obtain⟨i,a⟩:=s
  obtain⟨hi,ha⟩:=hs
  dsimp only at hi ha
  repeat'(first|refine vs_ ?_|(refine vr_ ?_<;>try simp (disch:=first|omega|(simp only[List.length_set,List.length_append,List.length_cons,List.length_nil];try omega)) only[ql,qb,go_sem,↓reduceIte])|((first|(refine cs_ ?_ ?_<;>intro hc)|refine cj_ ?_|refine qa (ih _ (qba (by omega)) _ _) fun _=>?_)<;>try refine ev_ ?_)|with_reducible exact ti_)
  ·refine qf (i+1,cntY (t.args.getD i Y0) a (IntKind.i64.wrap (d-1))) [0] ⟨⟨by dsimp only;omega,?_⟩,by dsimp only;omega⟩ rfl (by simp) ?_ ?_ ?_<;>(try refine ev_ ?_)<;>(try with_reducible exact ti_)<;>(try simp (disch:=omega) only[qb,and_true,true_and])
   rw[←ha,qj1 (l:=t.args) (i:=i) (by omega),qgm,if_pos (by assumption)]
  ·rw[←ha,qjy (by omega)]
  ·rw[←ha,List.drop_of_length_le (by omega)];rfl
def qow(a:Int):List Ty->Int
 | []=>a
 | x::r=>qow (cntY x a 300) r
def qe0(l:List Ty):Bool:=decide (0≤qow 20000 l)
theorem qcdi(l:List Ty):qj Tryz.prog 8 [.sl 3 (qg l)] (.int .i64 (if qe0 l=true then 1 else 0)):=by
 refine qd c0dn (by simp) (by simp only[go_sem]) rfl fun hw=>?_
 have hk:l.length≤maxLen:=by have:=hw.1.1;rwa [q8] at this
 repeat'(first|refine vs_ ?_|((first|refine vr_ ?_|(refine cs_ ?_ ?_<;>intro hc)|refine cj_ ?_)<;>try refine ev_ ?_)|with_reducible exact ti_)
 refine qk (S:=Nat×Int) (fun s=>s.1≤l.length∧qow s.2 (l.drop s.1)=qow 20000 l) (fun s=>(⟨[(0,.sl 3 (qg l)),(3,.int .i64 s.2),(4,.int .i64 s.1)],[]⟩,[])) (fun s=>l.length-s.1) ?_ fun s hs=>?_
 ·refine qf (0,20000) [] ⟨Nat.zero_le _,rfl⟩ rfl (by simp) ?_ ?_ ?_<;>(try refine ev_ ?_)<;>(try with_reducible exact ti_)<;>(try simp (disch:=omega) only[qb,and_true,true_and])
 ·obtain⟨i,a⟩:=s
  obtain⟨hi,ha⟩:=hs
  dsimp only at hi ha
  repeat'(first|refine vs_ ?_|(refine vr_ ?_<;>try simp (disch:=first|omega|(simp only[List.length_set,List.length_append,List.length_cons,List.length_nil];try omega)) only[ql,qb,go_sem,↓reduceIte])|((first|(refine cs_ ?_ ?_<;>intro hc)|refine cj_ ?_|refine qa (qb9e _ _ _) fun _=>?_)<;>try refine ev_ ?_)|with_reducible exact ti_)
  ·refine qf (i+1,cntY (l.getD i Y0) a 300) [] ⟨⟨by dsimp only;omega,?_⟩,by dsimp only;omega⟩ rfl (by simp) ?_ ?_ ?_<;>(try refine ev_ ?_)<;>(try with_reducible exact ti_)<;>(try simp (disch:=omega) only[qb,and_true,true_and])
   rw[←ha,qj1 (l:=l) (i:=i) (by omega),qow]
  all_goals
   have hf:qow 20000 l=a:=by rw[←ha,List.drop_of_length_le (by omega)];rfl
   rw[qe0,hf]
  ·rw[if_neg (by simp;omega)]
  ·rw[if_pos (by simp;omega)]

/-! the laws of sizes -/
mutual
theorem q9l:∀(t:Ty) (k d:Int),0≤k->k≤20000->d≤300->0≤cntY t k d->cntY t k d=k-szY t∧(dpY t:Int)≤d
 | .mk c v l, k, d, h0, h1, h2, h3 => by
   rw[cntY] at h3 ⊢
   by_cases hd:d<1
   ·rw[if_pos hd] at h3;omega
   ·rw[if_neg hd] at h3 ⊢
    have hk:IntKind.i64.wrap (k-1)=k-1:=qo (by omega) (by omega)
    rw[hk] at h3 ⊢
    have h4:0≤k-1:=by
     by_cases h:0≤k-1
     ·exact h
     ·rw[qjy (by omega)] at h3;exact h3
    have:=qyz l (k-1) d h4 (by omega) (by omega) h2 h3
    rw[szY,dpY]
    omega
theorem qyz:∀(l:List Ty) (a d:Int),0≤a->a≤20000->1≤d->d≤300->0≤qgm l a d->qgm l a d=a-szYs l∧(dpYs l:Int)≤d-1
 | [],a,d,h0,h1,h2,h3,h4=>by rw[qgm,szYs,dpYs];omega
 | x :: r, a, d, h0, h1, h2, h3, h4 => by
   rw[qgm,if_pos h0] at h4 ⊢
   have hd:IntKind.i64.wrap (d-1)=d-1:=qo (by omega) (by omega)
   rw[hd] at h4 ⊢
   have h5:0≤cntY x a (d-1):=by
    by_cases h:0≤cntY x a (d-1)
    ·exact h
    ·rw[qjy (by omega)] at h4;exact absurd h4 h
   obtain⟨h6,h7⟩:=q9l x a (d-1) h0 h1 (by omega) h5
   obtain⟨h8,h9⟩:=qyz r _ d h5 (by omega) h2 h3 h4
   rw[szYs,dpYs]
   omega
end
mutual
theorem q68:∀(t:Ty) (k d:Int),0≤k->k≤20000->-1≤cntY t k d
 | .mk c v l, k, d, h0, h1 => by
   rw[cntY]
   split
   ·omega
   ·rw[qo (z:=k-1) (by omega) (by omega)]
    exact q4c l (k-1) d (by omega) (by omega)
theorem q4c:∀(l:List Ty) (a d:Int),-1≤a->a≤20000->-1≤qgm l a d
 | [],a,d,h0,_=>by rw[qgm];exact h0
 | x :: r, a, d, h0, h1 => by
   rw[qgm]
   split
   ·rename_i h
    have h2:=q68 x a (IntKind.i64.wrap (d-1)) h h1
    have h3:=qblt x a (IntKind.i64.wrap (d-1)) h h1
    exact q4c r _ d h2 (by omega)
   ·exact h0
theorem qblt:∀(t:Ty) (k d:Int),0≤k->k≤20000->cntY t k d≤k
 | .mk c v l, k, d, h0, h1 => by
   rw[cntY]
   split
   ·omega
   ·rw[qo (z:=k-1) (by omega) (by omega)]
    have:=q40 l (k-1) d (by omega) (by omega)
    omega
theorem q40:∀(l:List Ty) (a d:Int),-1≤a->a≤20000->qgm l a d≤a
 | [],a,d,h0,_=>by rw[qgm];exact Int.le_refl _
 | x :: r, a, d, h0, h1 => by
   rw[qgm]
   split
   ·rename_i h
    have h2:=q68 x a (IntKind.i64.wrap (d-1)) h h1
    have h3:=qblt x a (IntKind.i64.wrap (d-1)) h h1
    have:=q40 r _ d h2 (by omega)
    omega
   ·exact Int.le_refl _
end
theorem qzu:∀(l:List Ty) {a:Int},a<0->-9223372036854775808≤a-l.length->qow a l<0
 | [],a,h,_=>h
 | x :: r, a, h, h2 => by
   rw[qow]
   have h3:cntY x a 300=IntKind.i64.wrap (a-1):=by
    rw[q9q,if_neg (by omega)]
    have hk:IntKind.i64.wrap (a-1)=a-1:=qo (by simp only[List.length_cons] at h2;omega) (by omega)
    rw[hk,qjy (by omega)]
   have hk:IntKind.i64.wrap (a-1)=a-1:=qo (by simp only[List.length_cons] at h2;omega) (by omega)
   rw[h3,hk]
   exact qzu r (by omega) (by simp only[List.length_cons] at h2;omega)
theorem qx4:∀(l:List Ty) (a:Int),0≤a->a≤20000->l.length≤9223372036854775807->0≤qow a l->(szYs l:Int)≤a∧(dpYs l:Int)≤300
 | [],a,h0,h1,_,h2=>by rw[szYs,dpYs];omega
 | x :: r, a, h0, h1, hl, h2 => by
   rw[qow] at h2
   simp only[List.length_cons] at hl
   have h5:0≤cntY x a 300:=by
    by_cases h:0≤cntY x a 300
    ·exact h
    ·have:-1≤cntY x a 300:=q68 x a 300 h0 h1
     have:=qzu r (a:=cntY x a 300) (by omega) (by omega)
     omega
   obtain⟨h6,h7⟩:=q9l x a 300 h0 h1 (by omega) h5
   obtain⟨h8,h9⟩:=qx4 r _ h5 (by omega) (by omega) h2
   rw[szYs,dpYs]
   omega
theorem qwd{l:List Ty}(hl:l.length≤maxLen)(h:qe0 l=true):szYs l≤20000∧dpYs l≤300:=by
 have:=qx4 l 20000 (by omega) (by omega) (by unfold maxLen at hl;omega) (by simpa [qe0] using h)
 omega

mutual
theorem qfx:∀(t:Ty),szY t≤1000000->qde t=szY t
 | .mk c v l, h => by
   rw[szY] at h
   rw[qde,szY,qnn l 1 (by omega) (by omega)]
   omega
theorem qnn:∀(l:List Ty) (a:Int),1≤a->a+szYs l≤1000001->qe6 a l=a+szYs l
 | [],a,_,_=>by rw[qe6,szYs];omega
 | x :: r, a, h0, h => by
   rw[szYs] at h
   rw[qe6,qfx x (by omega),qo (by omega) (by omega),qnn r _ (by omega) (by omega),szYs]
   omega
end
mutual
theorem qvk:∀(t:Ty),dpY t≤1000000->qn7 t=dpY t
 | .mk c v l, h => by
   rw[dpY] at h
   rw[qn7,dpY,qo6 l 0 (by omega) (by omega),qo (by omega) (by omega)]
   omega
theorem qo6:∀(l:List Ty) (a:Int),dpYs l≤1000000->0≤a->qje a l=max a (dpYs l)
 | [],a,_,_=>by rw[qje,dpYs];omega
 | x :: r, a, h, h0 => by
   rw[dpYs] at h
   have h1:=qvk x (by omega)
   rw[qje,h1]
   have h2:(if(dpY x:Int) > a then(dpY x:Int) else a)=max a (dpY x):=by split<;>omega
   rw[h2,qo6 r _ (by omega) (by omega),dpYs]
   omega
end
mutual
theorem qtv:∀(t:Ty) (n k:Int),0≤n->n+szY t≤1000000->qdi qw7 t n k=(n+szY t,true)
 | .mk c v l, n, k, h0, h => by
   rw[szY] at h
   rw[qdi,if_pos (show(qw7 n (.mk c v l) k).2=true from rfl)]
   have h1:(qw7 n (.mk c v l) k).1=n+1:=qo (by omega) (by omega)
   rw[h1,qpw l _ _ (by omega) (by omega),szY]
   congr 1;omega
theorem qpw:∀(l:List Ty) (n k:Int),0≤n->n+szYs l≤1000000->qcl qw7 l n k=(n+szYs l,true)
 | [],n,k,_,_=>by rw[qcl,szYs];congr 1;omega
 | x :: r, n, k, h0, h => by
   rw[szYs] at h
   rw[qcl,qtv x n k h0 (by omega),if_pos rfl,qpw r _ k (by omega) (by omega),szYs]
   congr 1;omega
end
mutual
theorem qsp:∀(t:Ty) (n k:Int),0≤n->1≤k->k+dpY t≤1000000->qdi qtb t n k=(max n (k+dpY t-1),true)
 | .mk c v l, n, k, h0, h1, h => by
   rw[dpY] at h
   rw[qdi,if_pos (show(qtb n (.mk c v l) k).2=true from rfl)]
   have h2:(qtb n (.mk c v l) k).1=max n k:=by simp only[qtb];split<;>omega
   rw[h2,qo (z:=k+1) (by omega) (by omega),qp2 l _ _ (by omega) (by omega) (by omega),dpY]
   congr 1;split<;>omega
theorem qp2:∀(l:List Ty) (n k:Int),0≤n->1≤k->k+dpYs l≤1000000->qcl qtb l n k=(if dpYs l=0 then n else max n (k+dpYs l-1),true)
 | [],n,k,_,_,_=>by rw[qcl,dpYs,if_pos rfl]
 | x :: r, n, k, h0, h1, h => by
   rw[dpYs] at h
   have hp:=qb3v x
   rw[qcl,qsp x n k h0 h1 (by omega),if_pos rfl,qp2 r _ k (by omega) h1 (by omega),dpYs]
   congr 1
   rw[if_neg (by omega:¬max (dpY x) (dpYs r)=0)]
   split<;>omega
end
mutual
theorem qtx:∀(t:Ty) (n k:Int),0≤n->n+szY t≤1000000->1≤k->k+dpY t≤1000000 →
 ((qdi qhe t n k).2=true↔n+szY t≤4096∧k+dpY t-1≤100∧qch t=true)∧((qdi qhe t n k).2=true->(qdi qhe t n k).1=n+szY t)
 | .mk c v l, n, k, h0, h1, h2, h3 => by
   rw[szY] at h1
   rw[dpY] at h3
   have e1:IntKind.i64.wrap (n+1)=n+1:=qo (by omega) (by omega)
   have e2:IntKind.i64.wrap (k+1)=k+1:=qo (by omega) (by omega)
   have e3:(qhe n (.mk c v l) k).1=n+1:=e1
   have e4:(qhe n (.mk c v l) k).2=true↔n+1≤4096∧k≤100∧mayW c v l.length=true:=by
    simp only[qhe,e1,Bool.and_eq_true,decide_eq_true_eq];rfl
   rw[qdi,szY,dpY,qch]
   by_cases hs:(qhe n (.mk c v l) k).2=true
   ·rw[if_pos hs,e3,e2]
    obtain⟨q1,q2,q3⟩:=e4.1 hs
    obtain⟨r1,r2⟩:=qo7 l (n+1) (k+1) (by omega) (by omega) (by omega) (by omega) (by omega) (by omega)
    refine⟨?_,fun h=>by rw[r2 h];omega⟩
    rw[r1,q3,Bool.and_true]
    constructor
    ·rintro⟨a1,a2,a3⟩;exact⟨by omega,by omega,a3⟩
    ·rintro⟨a1,a2,a3⟩;exact⟨by omega,by omega,a3⟩
   ·rw[if_neg hs]
    refine⟨⟨fun h=>(by cases h),fun ⟨a1,a2,a3⟩=>absurd (e4.2 ⟨by omega,by omega,(by rw[Bool.and_eq_true] at a3;exact a3.2)⟩) hs⟩,fun h=>by cases h⟩
theorem qo7:∀(l:List Ty) (n k:Int),0≤n->n+szYs l≤1000000->1≤k->k+dpYs l≤1000000->n≤4096->k-1≤100 →
 ((qcl qhe l n k).2=true↔n+szYs l≤4096∧k+dpYs l-1≤100∧qbo l=true)∧((qcl qhe l n k).2=true->(qcl qhe l n k).1=n+szYs l)
 | [], n, k, h0, h1, h2, h3, h4, h5 => by
   rw[qcl,szYs,dpYs,qbo]
   exact⟨⟨fun _=>⟨by omega,by omega,rfl⟩,fun _=>rfl⟩,fun _=>by simp⟩
 | x :: r, n, k, h0, h1, h2, h3, h4, h5 => by
   rw[szYs] at h1
   rw[dpYs] at h3
   obtain⟨q1,q2⟩:=qtx x n k h0 (by omega) h2 (by omega)
   rw[qcl,szYs,dpYs,qbo]
   by_cases hs:(qdi qhe x n k).2=true
   ·rw[if_pos hs,q2 hs]
    obtain⟨a1,a2,a3⟩:=q1.1 hs
    obtain⟨r1,r2⟩:=qo7 r (n+szY x) k (by omega) (by omega) h2 (by omega) (by omega) h5
    refine⟨?_,fun h=>by rw[r2 h];omega⟩
    rw[r1,a3,Bool.true_and]
    constructor
    ·rintro⟨b1,b2,b3⟩;exact⟨by omega,by omega,b3⟩
    ·rintro⟨b1,b2,b3⟩;exact⟨by omega,by omega,b3⟩
   ·rw[if_neg hs]
    refine⟨⟨fun h=>(by cases h),fun ⟨a1,a2,a3⟩=>absurd (q1.2 ⟨by omega,by omega,?_⟩) hs⟩,fun h=>by cases h⟩
    rw[Bool.and_eq_true] at a3
    exact a3.1
end
def qh(t:Ty):Bool:=decide (szY t≤4096)&&(decide (dpY t≤100)&&qch t)
theorem qsx{t:Ty}(h1:szY t≤20000)(h2:dpY t≤300):qx6 t=qh t:=by
 have:=(qtx t 0 1 (by omega) (by omega) (by omega) (by omega)).1
 rw[qx6,Bool.eq_iff_iff,this,qh,Bool.and_eq_true,Bool.and_eq_true,decide_eq_true_eq,decide_eq_true_eq]
 constructor
 ·rintro⟨a1,a2,a3⟩;exact⟨by omega,by omega,a3⟩
 ·rintro⟨a1,a2,a3⟩;exact⟨by omega,by omega,a3⟩
theorem qd1{t:Ty}(h1:szY t≤20000)(h2:dpY t≤300):qj Tryz.prog 112 [encY t] (.bool (qh t)):=by
 refine qd c0do (by simp) (by simp only[go_sem]) rfl fun hw=>?_
 have e1:=qd3 t
 have e2:=qmt t
 rw[qfx t (by omega)] at e1
 rw[qvk t (by omega)] at e2
 repeat'(first|refine vs_ ?_|((first|refine vr_ ?_|refine qa e1 fun _=>?_|refine qa e2 fun _=>?_|refine qa (qxt t) fun _=>?_|(refine cs_ ?_ ?_<;>intro hc)|refine cj_ ?_)<;>try refine ev_ ?_)|with_reducible exact ti_)
 all_goals
  rw[qh]
 ·rw[decide_eq_true (by omega),decide_eq_true (by omega)];rfl
 ·rw[decide_eq_false (p:=dpY t≤100) (by omega),Bool.false_and,Bool.and_false]
 ·rw[decide_eq_false (p:=szY t≤4096) (by omega)];rfl
theorem qee{t:Ty}(h1:szY t≤20000)(h2:dpY t≤300):qj Tryz.prog 67 [encY t] (.bool (qh t)):=by
 rw[←qsx h1 h2];exact qmk t
end Go.Proofs.YtkenggenkmfopaaGreat
