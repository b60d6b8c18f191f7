/- A text of this proof. -/
import Derived.Test.YtkenggenkmfopaaGreatFan
set_option linter.unusedVariables false
set_option linter.unusedSimpArgs false

/- terms: how great, how deep, whether a type is one; Few -/
set_option maxRecDepth 4000
namespace Go.Proofs.YtkenggenkmfopaaGreat
open Go Go.RowKit Go.V

/-! the program's -/
abbrev numE(n:Int):Ent:=.blk [.int .i64 n]
def qhc(n:Int)(t:Ty)(k:Int):Int×Bool:=(IntKind.i64.wrap (n+1),decide (IntKind.i64.wrap (n+1)≤4096)&&(decide (k≤100)&&mayY t))
theorem qch1(n:Int)(t:Ty)(k:Int):VM Tryz.prog 100 (numE n) (numE (qhc n t k).1) [encY t,.int .i64 k,.ptr 0 0] (.bool (qhc n t k).2):=by
 refine qha (by kernel_rfl) fun hw=>?_
 have hk:=qci hw.1
 refine qe c0dd 1 (by simp) (by simp) ?_
 repeat'(first|refine vs_ ?_|((first|refine vr_ ?_|refine qa (qq0 _) fun _=>?_|refine qa (qbj7 _ _ _) fun _=>?_|(refine cs_ ?_ ?_<;>intro hc)|refine cj_ ?_)<;>try refine ev_ ?_)|with_reducible exact ti_)
 ·simp_all[qhc]
 ·exact⟨rfl,by simp only[qhc, *,decide_true,decide_false,Bool.true_and,Bool.false_and]⟩
 ·exact⟨rfl,by simp only[qhc, *,decide_true,decide_false,Bool.true_and,Bool.false_and]⟩
def qv0(n:Int)(_:Ty)(_:Int):Int×Bool:=(IntKind.i64.wrap (n+1),true)
theorem qcoc(n:Int)(t:Ty)(k:Int):VM Tryz.prog 175 (numE n) (numE (qv0 n t k).1) [encY t,.int .i64 k,.ptr 0 0] (.bool (qv0 n t k).2):=by
 refine qe c0de 1 (by simp) (by simp) ?_
 repeat'(first|refine vs_ ?_|((first|refine vr_ ?_|(refine cs_ ?_ ?_<;>intro hc)|refine cj_ ?_)<;>try refine ev_ ?_)|with_reducible exact ti_)
 exact⟨rfl,rfl⟩
def qtq(n:Int)(_:Ty)(k:Int):Int×Bool:=(if k > n then k else n,true)
theorem qcl3(n:Int)(t:Ty)(k:Int):VM Tryz.prog 176 (numE n) (numE (qtq n t k).1) [encY t,.int .i64 k,.ptr 0 0] (.bool (qtq n t k).2):=by
 refine qe c0df 1 (by simp) (by simp) ?_
 repeat'(first|refine vs_ ?_|((first|refine vr_ ?_|(refine cs_ ?_ ?_<;>intro hc)|refine cj_ ?_)<;>try refine ev_ ?_)|with_reducible exact ti_)
 exact⟨rfl,rfl⟩
theorem qp9{f:FuncId}{step:Int->Ty->Int->Int×Bool}(h:∀n t k,VM Tryz.prog f (numE n) (numE (step n t k).1) [encY t,.int .i64 k,.ptr 0 0] (.bool (step n t k).2))(t:Ty)(n k:Int):
 VM Tryz.prog 99 (numE n) (numE (qdc step t n k).1) [encY t,.int .i64 k,.fn f [] [.ptr 0 0]] (.bool (qdc step t n k).2) :=
 qp0 (st:=numE) (ok:=fun _ _=>True) (fun _=>rfl) (fun _ _ _ _ _=>trivial) (fun _ _ _=>trivial) (fun n t k _=>h n t k) t n k trivial
def qx7(t:Ty):Bool:=(qdc qhc t 0 1).2
theorem qnh(t:Ty):qj Tryz.prog 67 [encY t] (.bool (qx7 t)):=by
 refine qd c0dg (by simp) (by simp only[go_sem]) rfl fun hw=>?_
 repeat'(first|refine vs_ ?_|((first|refine vr_ ?_|refine qca 1 (qp9 qch1 t 0 1) ?_|(refine cs_ ?_ ?_<;>intro hc)|refine cj_ ?_)<;>try refine ev_ ?_)|with_reducible exact ti_)
 rfl
theorem q1m(t:Ty):qj Tryz.prog 124 [encY t] (.int .i64 (qdc qv0 t 0 1).1):=by
 refine qd c0dh (by simp) (by simp only[go_sem]) rfl fun hw=>?_
 repeat'(first|refine vs_ ?_|((first|refine vr_ ?_|refine qca 1 (qp9 qcoc t 0 1) ?_|(refine cs_ ?_ ?_<;>intro hc)|refine cj_ ?_)<;>try refine ev_ ?_)|with_reducible exact ti_)
theorem qxc(t:Ty):qj Tryz.prog 125 [encY t] (.int .i64 (qdc qtq t 0 1).1):=by
 refine qd c0di (by simp) (by simp only[go_sem]) rfl fun hw=>?_
 repeat'(first|refine vs_ ?_|((first|refine vr_ ?_|refine qca 1 (qp9 qcl3 t 0 1) ?_|(refine cs_ ?_ ?_<;>intro hc)|refine cj_ ?_)<;>try refine ev_ ?_)|with_reducible exact ti_)

/-! the references -/
mutual
def qdf:Ty->Int
 | .mk _ _ l=>qeu 1 l
def qeu:Int->List Ty->Int
 | a,[]=>a
 | a,x::r=>qeu (IntKind.i64.wrap (a+qdf x)) r
end
theorem q35(t:Ty):qdf t=qeu 1 t.args:=by cases t;rw[qdf];rfl
theorem qes:∀t,qj Tryz.prog 9 [encY t] (.int .i64 (qdf t)):=by
 refine Ty.ind fun t ih=>?_
 refine qd c0dj (by simp) (by simp only[go_sem]) rfl fun hw=>?_
 have hk:=qci hw.1
 repeat'(first|refine vs_ ?_|((first|refine vr_ ?_|(refine cs_ ?_ ?_<;>intro hc)|refine cj_ ?_)<;>try refine ev_ ?_)|with_reducible exact ti_)
 refine qk (S:=Nat×Int) (fun s=>s.1≤t.args.length∧qeu s.2 (t.args.drop s.1)=qdf t) (fun s=>(⟨[(1,.ptr 0 0),(3,.int .i64 s.2),(4,.int .i64 s.1)],[]⟩,[.blk (yc t)])) (fun s=>t.args.length-s.1) ?_ fun s hs=>?_
 ·refine qg (0,1) [0] ⟨Nat.zero_le _,(q35 t).symm⟩ rfl (by simp) ?_ ?_ ?_<;>(try refine ev_ ?_)<;>(try with_reducible exact ti_)<;>(try simp (disch:=omega) only[qb,and_true,true_and])
 ·obtain⟨i,a⟩:=s
  obtain⟨hi,ha⟩:=hs
  dsimp only at hi ha
  repeat'(first|refine vs_ ?_|(refine vr_ ?_<;>try simp (disch:=first|omega|(simp only[List.length_set,List.length_append,List.length_cons,List.length_nil];try omega)) only[ql,qb,go_sem,↓reduceIte])|((first|(refine cs_ ?_ ?_<;>intro hc)|refine cj_ ?_|refine qa (ih _ (qba (by omega))) fun _=>?_)<;>try refine ev_ ?_)|with_reducible exact ti_)
  ·refine qg (i+1,IntKind.i64.wrap (a+qdf (t.args.getD i Y0))) [0] ⟨⟨by dsimp only;omega,?_⟩,by dsimp only;omega⟩ rfl (by simp) ?_ ?_ ?_<;>(try refine ev_ ?_)<;>(try with_reducible exact ti_)<;>(try simp (disch:=omega) only[qb,and_true,true_and])
   rw[←ha,qjt (l:=t.args) (i:=i) (by omega),qeu]
  ·rw[←ha,List.drop_of_length_le (by omega)];rfl
mutual
def qm2:Ty->Int
 | .mk _ _ l=>IntKind.i64.wrap (qjl 0 l+1)
def qjl:Int->List Ty->Int
 | a,[]=>a
 | a,x::r=>qjl (if qm2 x > a then qm2 x else a) r
end
theorem q9b(t:Ty):qm2 t=IntKind.i64.wrap (qjl 0 t.args+1):=by cases t;rw[qm2];rfl
theorem ql5:∀t,qj Tryz.prog 162 [encY t] (.int .i64 (qm2 t)):=by
 refine Ty.ind fun t ih=>?_
 refine qd c0dk (by simp) (by simp only[go_sem]) rfl fun hw=>?_
 have hk:=qci hw.1
 repeat'(first|refine vs_ ?_|((first|refine vr_ ?_|(refine cs_ ?_ ?_<;>intro hc)|refine cj_ ?_)<;>try refine ev_ ?_)|with_reducible exact ti_)
 refine qk (S:=Nat×Int) (fun s=>s.1≤t.args.length∧qjl s.2 (t.args.drop s.1)=qjl 0 t.args) (fun s=>(⟨[(1,.ptr 0 0),(3,.int .i64 s.2),(4,.int .i64 s.1)],[]⟩,[.blk (yc t)])) (fun s=>t.args.length-s.1) ?_ fun s hs=>?_
 ·refine qg (0,0) [0] ⟨Nat.zero_le _,rfl⟩ rfl (by simp) ?_ ?_ ?_<;>(try refine ev_ ?_)<;>(try with_reducible exact ti_)<;>(try simp (disch:=omega) only[qb,and_true,true_and])
 ·obtain⟨i,a⟩:=s
  obtain⟨hi,ha⟩:=hs
  dsimp only at hi ha
  repeat'(first|refine vs_ ?_|(refine vr_ ?_<;>try simp (disch:=first|omega|(simp only[List.length_set,List.length_append,List.length_cons,List.length_nil];try omega)) only[ql,qb,go_sem,↓reduceIte])|((first|(refine cs_ ?_ ?_<;>intro hc)|refine cj_ ?_|refine qa (ih _ (qba (by omega))) fun _=>?_)<;>try refine ev_ ?_)|with_reducible exact ti_)
  ·refine qg (i+1,if qm2 (t.args.getD i Y0) > a then qm2 (t.args.getD i Y0) else a) [0] ⟨⟨by dsimp only;omega,?_⟩,by dsimp only;omega⟩ rfl (by simp) ?_ ?_ ?_<;>(try refine ev_ ?_)<;>(try with_reducible exact ti_)<;>(try simp (disch:=omega) only[qb,and_true,true_and])
   rw[←ha,qjt (l:=t.args) (i:=i) (by omega),qjl]
  ·rw[q9b,←ha,List.drop_of_length_le (by omega)];rfl
mutual
def qcs:Ty->Bool
 | .mk c v l=>qby l&&mayW c v l.length
def qby:List Ty->Bool
 | []=>true
 | x::r=>qcs x&&qby r
end
theorem qft(t:Ty):qcs t=(qby t.args&&mayY t):=by cases t;rw[qcs];rfl
theorem qk1{l:List Ty}{i:Nat}(h:i<l.length):qby (l.drop i)=(qcs (l.getD i Y0)&&qby (l.drop (i+1))):=by rw[qjt h,qby]
theorem qv9:∀t,qj Tryz.prog 163 [encY t] (.bool (qcs t)):=by
 refine Ty.ind fun t ih=>?_
 refine qd c0dl (by simp) (by simp only[go_sem]) rfl fun hw=>?_
 have hk:=qci hw.1
 repeat'(first|refine vs_ ?_|((first|refine vr_ ?_|(refine cs_ ?_ ?_<;>intro hc)|refine cj_ ?_)<;>try refine ev_ ?_)|with_reducible exact ti_)
 refine qk (S:=Nat) (fun i=>i≤t.args.length∧qby (t.args.drop i)=qby t.args) (fun i=>(⟨[(1,.ptr 0 0),(3,.int .i64 i)],[]⟩,[.blk (yc t)])) (fun i=>t.args.length-i) ?_ fun i hi=>?_
 ·refine qg 0 [0] ⟨Nat.zero_le _,rfl⟩ rfl (by simp) ?_ ?_ ?_<;>(try refine ev_ ?_)<;>(try with_reducible exact ti_)<;>(try simp (disch:=omega) only[qb,and_true,true_and])
 ·obtain⟨hi,ha⟩:=hi
  rw[qft]
  repeat'(first|refine vs_ ?_|(refine vr_ ?_<;>try simp (disch:=first|omega|(simp only[List.length_set,List.length_append,List.length_cons,List.length_nil];try omega)) only[ql,qb,go_sem,↓reduceIte])|((first|(refine cs_ ?_ ?_<;>intro hc)|refine cj_ ?_|refine qa (ih _ (qba (by omega))) fun _=>?_|refine qa (qwz _) fun _=>?_|refine qa (qr8 _) fun _=>?_)<;>try refine ev_ ?_)|with_reducible exact ti_)
  ·have:qby t.args=false:=by rw[←ha,qk1 (by omega),hc];rfl
   rw[this];rfl
  ·refine qg (i+1) [0] ⟨⟨by omega,?_⟩,by omega⟩ rfl (by simp) ?_ ?_ ?_<;>(try refine ev_ ?_)<;>(try with_reducible exact ti_)<;>(try simp (disch:=omega) only[qb,and_true,true_and])
   rw[←ha,qk1 (i:=i) (by omega),hc,Bool.true_and]
  all_goals
   have hs:qby t.args=true:=by rw[←ha,List.drop_of_length_le (by omega)];rfl
   rw[hs,Bool.true_and,mayY,mayW]
   simp only[arrW, *,if_true,if_false,decide_true,decide_false,Bool.and_true,Bool.and_false,Bool.false_eq_true]
   try rfl
/-! Few -/
mutual
def cntY:Ty->Int->Int->Int
 | .mk _ _ l,k,d=>if d<1 then -1 else qf9 l (IntKind.i64.wrap (k-1)) d
def qf9:List Ty->Int->Int->Int
 | [],a,_=>a
 | x::r,a,d=>if 0≤a then qf9 r (cntY x a (IntKind.i64.wrap (d-1))) d else a
end
theorem q7y(t:Ty)(k d:Int):cntY t k d=if d<1 then -1 else qf9 t.args (IntKind.i64.wrap (k-1)) d:=by cases t;rw[cntY];rfl
theorem qi4{a:Int}(h:a<0)(l:List Ty)(d:Int):qf9 l a d=a:=by
 cases l with
 | nil=>rw[qf9]
 | cons x r=>rw[qf9,if_neg (by omega)]
theorem qbxb:∀t k d,qj Tryz.prog 37 [encY t,.int .i64 k,.int .i64 d] (.int .i64 (cntY t k d)):=by
 refine Ty.ind fun t ih k d=>?_
 refine qd c0dm (by simp) (by simp only[go_sem]) rfl fun hw=>?_
 have hk:=qci hw.1
 rw[q7y]
 repeat'(first|refine vs_ ?_|((first|refine vr_ ?_|(refine cs_ ?_ ?_<;>intro hc)|refine cj_ ?_)<;>try refine ev_ ?_)|with_reducible exact ti_)
 ·rw[if_pos (by assumption)]
 rw[if_neg (by assumption)]
 refine qk (S:=Nat×Int) (fun s=>s.1≤t.args.length∧qf9 (t.args.drop s.1) s.2 d=qf9 t.args (IntKind.i64.wrap (k-1)) d) (fun s=>(⟨[(1,.int .i64 s.2),(2,.int .i64 d),(3,.ptr 0 0),(7,.int .i64 s.1)],[]⟩,[.blk (yc t)])) (fun s=>t.args.length-s.1) ?_ fun s hs=>?_
 ·refine qg (0,IntKind.i64.wrap (k-1)) [0] ⟨Nat.zero_le _,rfl⟩ rfl (by simp) ?_ ?_ ?_<;>(try refine ev_ ?_)<;>(try with_reducible exact ti_)<;>(try simp (disch:=omega) only[qb,and_true,true_and])
 ·obtain⟨i,a⟩:=s
  obtain⟨hi,ha⟩:=hs
  dsimp only at hi ha
  repeat'(first|refine vs_ ?_|(refine vr_ ?_<;>try simp (disch:=first|omega|(simp only[List.length_set,List.length_append,List.length_cons,List.length_nil];try omega)) only[ql,qb,go_sem,↓reduceIte])|((first|(refine cs_ ?_ ?_<;>intro hc)|refine cj_ ?_|refine qa (ih _ (qba (by omega)) _ _) fun _=>?_)<;>try refine ev_ ?_)|with_reducible exact ti_)
  ·refine qg (i+1,cntY (t.args.getD i Y0) a (IntKind.i64.wrap (d-1))) [0] ⟨⟨by dsimp only;omega,?_⟩,by dsimp only;omega⟩ rfl (by simp) ?_ ?_ ?_<;>(try refine ev_ ?_)<;>(try with_reducible exact ti_)<;>(try simp (disch:=omega) only[qb,and_true,true_and])
   rw[←ha,qjt (l:=t.args) (i:=i) (by omega),qf9,if_pos (by assumption)]
  ·rw[←ha,qi4 (by omega)]
  ·rw[←ha,List.drop_of_length_le (by omega)];rfl
def qoh(a:Int):List Ty->Int
 | []=>a
 | x::r=>qoh (cntY x a 300) r
def qef(l:List Ty):Bool:=decide (0≤qoh 20000 l)
theorem qb9e(l:List Ty):qj Tryz.prog 8 [.sl 3 (qf l)] (.int .i64 (if qef l=true then 1 else 0)):=by
 refine qd c0dn (by simp) (by simp only[go_sem]) rfl fun hw=>?_
 have hk:l.length≤maxLen:=by have:=hw.1.1;rwa [q9] at this
 repeat'(first|refine vs_ ?_|((first|refine vr_ ?_|(refine cs_ ?_ ?_<;>intro hc)|refine cj_ ?_)<;>try refine ev_ ?_)|with_reducible exact ti_)
 refine qk (S:=Nat×Int) (fun s=>s.1≤l.length∧qoh s.2 (l.drop s.1)=qoh 20000 l) (fun s=>(⟨[(0,.sl 3 (qf l)),(3,.int .i64 s.2),(4,.int .i64 s.1)],[]⟩,[])) (fun s=>l.length-s.1) ?_ fun s hs=>?_
 ·refine qg (0,20000) [] ⟨Nat.zero_le _,rfl⟩ rfl (by simp) ?_ ?_ ?_<;>(try refine ev_ ?_)<;>(try with_reducible exact ti_)<;>(try simp (disch:=omega) only[qb,and_true,true_and])
 ·obtain⟨i,a⟩:=s
  obtain⟨hi,ha⟩:=hs
  dsimp only at hi ha
  repeat'(first|refine vs_ ?_|(refine vr_ ?_<;>try simp (disch:=first|omega|(simp only[List.length_set,List.length_append,List.length_cons,List.length_nil];try omega)) only[ql,qb,go_sem,↓reduceIte])|((first|(refine cs_ ?_ ?_<;>intro hc)|refine cj_ ?_|refine qa (qbxb _ _ _) fun _=>?_)<;>try refine ev_ ?_)|with_reducible exact ti_)
  ·refine qg (i+1,cntY (l.getD i Y0) a 300) [] ⟨⟨by dsimp only;omega,?_⟩,by dsimp only;omega⟩ rfl (by simp) ?_ ?_ ?_<;>(try refine ev_ ?_)<;>(try with_reducible exact ti_)<;>(try simp (disch:=omega) only[qb,and_true,true_and])
   rw[←ha,qjt (l:=l) (i:=i) (by omega),qoh]
  all_goals
   have hf:qoh 20000 l=a:=by rw[←ha,List.drop_of_length_le (by omega)];rfl
   rw[qef,hf]
  ·rw[if_neg (by simp;omega)]
  ·rw[if_pos (by simp;omega)]

/-! the laws of sizes -/
mutual
theorem q4q:∀(t:Ty) (k d:Int),0≤k->k≤20000->d≤300->0≤cntY t k d->cntY t k d=k-szY t∧(dpY t:Int)≤d
 | .mk c v l, k, d, h0, h1, h2, h3 => by
   rw[cntY] at h3 ⊢
   by_cases hd:d<1
   ·rw[if_pos hd] at h3;omega
   ·rw[if_neg hd] at h3 ⊢
    have hk:IntKind.i64.wrap (k-1)=k-1:=qo (by omega) (by omega)
    rw[hk] at h3 ⊢
    have h4:0≤k-1:=by
     by_cases h:0≤k-1
     ·exact h
     ·rw[qi4 (by omega)] at h3;exact h3
    have:=qzk l (k-1) d h4 (by omega) (by omega) h2 h3
    rw[szY,dpY]
    omega
theorem qzk:∀(l:List Ty) (a d:Int),0≤a->a≤20000->1≤d->d≤300->0≤qf9 l a d->qf9 l a d=a-szYs l∧(dpYs l:Int)≤d-1
 | [],a,d,h0,h1,h2,h3,h4=>by rw[qf9,szYs,dpYs];omega
 | x :: r, a, d, h0, h1, h2, h3, h4 => by
   rw[qf9,if_pos h0] at h4 ⊢
   have hd:IntKind.i64.wrap (d-1)=d-1:=qo (by omega) (by omega)
   rw[hd] at h4 ⊢
   have h5:0≤cntY x a (d-1):=by
    by_cases h:0≤cntY x a (d-1)
    ·exact h
    ·rw[qi4 (by omega)] at h4;exact absurd h4 h
   obtain⟨h6,h7⟩:=q4q x a (d-1) h0 h1 (by omega) h5
   obtain⟨h8,h9⟩:=qzk r _ d h5 (by omega) h2 h3 h4
   rw[szYs,dpYs]
   omega
end
mutual
theorem q8t:∀(t:Ty) (k d:Int),0≤k->k≤20000->-1≤cntY t k d
 | .mk c v l, k, d, h0, h1 => by
   rw[cntY]
   split
   ·omega
   ·rw[qo (z:=k-1) (by omega) (by omega)]
    exact q3f l (k-1) d (by omega) (by omega)
theorem q3f:∀(l:List Ty) (a d:Int),-1≤a->a≤20000->-1≤qf9 l a d
 | [],a,d,h0,_=>by rw[qf9];exact h0
 | x :: r, a, d, h0, h1 => by
   rw[qf9]
   split
   ·rename_i h
    have h2:=q8t x a (IntKind.i64.wrap (d-1)) h h1
    have h3:=qblb x a (IntKind.i64.wrap (d-1)) h h1
    exact q3f r _ d h2 (by omega)
   ·exact h0
theorem qblb:∀(t:Ty) (k d:Int),0≤k->k≤20000->cntY t k d≤k
 | .mk c v l, k, d, h0, h1 => by
   rw[cntY]
   split
   ·omega
   ·rw[qo (z:=k-1) (by omega) (by omega)]
    have:=q5k l (k-1) d (by omega) (by omega)
    omega
theorem q5k:∀(l:List Ty) (a d:Int),-1≤a->a≤20000->qf9 l a d≤a
 | [],a,d,h0,_=>by rw[qf9];exact Int.le_refl _
 | x :: r, a, d, h0, h1 => by
   rw[qf9]
   split
   ·rename_i h
    have h2:=q8t x a (IntKind.i64.wrap (d-1)) h h1
    have h3:=qblb x a (IntKind.i64.wrap (d-1)) h h1
    have:=q5k r _ d h2 (by omega)
    omega
   ·exact Int.le_refl _
end
theorem qxw:∀(l:List Ty) {a:Int},a<0->-9223372036854775808≤a-l.length->qoh a l<0
 | [],a,h,_=>h
 | x :: r, a, h, h2 => by
   rw[qoh]
   have h3:cntY x a 300=IntKind.i64.wrap (a-1):=by
    rw[q7y,if_neg (by omega)]
    have hk:IntKind.i64.wrap (a-1)=a-1:=qo (by simp only[List.length_cons] at h2;omega) (by omega)
    rw[hk,qi4 (by omega)]
   have hk:IntKind.i64.wrap (a-1)=a-1:=qo (by simp only[List.length_cons] at h2;omega) (by omega)
   rw[h3,hk]
   exact qxw r (by omega) (by simp only[List.length_cons] at h2;omega)
theorem qy2:∀(l:List Ty) (a:Int),0≤a->a≤20000->l.length≤9223372036854775807->0≤qoh a l->(szYs l:Int)≤a∧(dpYs l:Int)≤300
 | [],a,h0,h1,_,h2=>by rw[szYs,dpYs];omega
 | x :: r, a, h0, h1, hl, h2 => by
   rw[qoh] at h2
   simp only[List.length_cons] at hl
   have h5:0≤cntY x a 300:=by
    by_cases h:0≤cntY x a 300
    ·exact h
    ·have:-1≤cntY x a 300:=q8t x a 300 h0 h1
     have:=qxw r (a:=cntY x a 300) (by omega) (by omega)
     omega
   obtain⟨h6,h7⟩:=q4q x a 300 h0 h1 (by omega) h5
   obtain⟨h8,h9⟩:=qy2 r _ h5 (by omega) (by omega) h2
   rw[szYs,dpYs]
   omega
theorem qu9{l:List Ty}(hl:l.length≤maxLen)(h:qef l=true):szYs l≤20000∧dpYs l≤300:=by
 have:=qy2 l 20000 (by omega) (by omega) (by unfold maxLen at hl;omega) (by simpa [qef] using h)
 omega

mutual
theorem qfx:∀(t:Ty),szY t≤1000000->qdf t=szY t
 | .mk c v l, h => by
   rw[szY] at h
   rw[qdf,szY,qmm l 1 (by omega) (by omega)]
   omega
theorem qmm:∀(l:List Ty) (a:Int),1≤a->a+szYs l≤1000001->qeu a l=a+szYs l
 | [],a,_,_=>by rw[qeu,szYs];omega
 | x :: r, a, h0, h => by
   rw[szYs] at h
   rw[qeu,qfx x (by omega),qo (by omega) (by omega),qmm r _ (by omega) (by omega),szYs]
   omega
end
mutual
theorem qsr:∀(t:Ty),dpY t≤1000000->qm2 t=dpY t
 | .mk c v l, h => by
   rw[dpY] at h
   rw[qm2,dpY,qpc l 0 (by omega) (by omega),qo (by omega) (by omega)]
   omega
theorem qpc:∀(l:List Ty) (a:Int),dpYs l≤1000000->0≤a->qjl a l=max a (dpYs l)
 | [],a,_,_=>by rw[qjl,dpYs];omega
 | x :: r, a, h, h0 => by
   rw[dpYs] at h
   have h1:=qsr x (by omega)
   rw[qjl,h1]
   have h2:(if(dpY x:Int) > a then(dpY x:Int) else a)=max a (dpY x):=by split<;>omega
   rw[h2,qpc r _ (by omega) (by omega),dpYs]
   omega
end
mutual
theorem qr7:∀(t:Ty) (n k:Int),0≤n->n+szY t≤1000000->qdc qv0 t n k=(n+szY t,true)
 | .mk c v l, n, k, h0, h => by
   rw[szY] at h
   rw[qdc,if_pos (show(qv0 n (.mk c v l) k).2=true from rfl)]
   have h1:(qv0 n (.mk c v l) k).1=n+1:=qo (by omega) (by omega)
   rw[h1,qpr l _ _ (by omega) (by omega),szY]
   congr 1;omega
theorem qpr:∀(l:List Ty) (n k:Int),0≤n->n+szYs l≤1000000->qch qv0 l n k=(n+szYs l,true)
 | [],n,k,_,_=>by rw[qch,szYs];congr 1;omega
 | x :: r, n, k, h0, h => by
   rw[szYs] at h
   rw[qch,qr7 x n k h0 (by omega),if_pos rfl,qpr r _ k (by omega) (by omega),szYs]
   congr 1;omega
end
mutual
theorem qsj:∀(t:Ty) (n k:Int),0≤n->1≤k->k+dpY t≤1000000->qdc qtq t n k=(max n (k+dpY t-1),true)
 | .mk c v l, n, k, h0, h1, h => by
   rw[dpY] at h
   rw[qdc,if_pos (show(qtq n (.mk c v l) k).2=true from rfl)]
   have h2:(qtq n (.mk c v l) k).1=max n k:=by simp only[qtq];split<;>omega
   rw[h2,qo (z:=k+1) (by omega) (by omega),qpf l _ _ (by omega) (by omega) (by omega),dpY]
   congr 1;split<;>omega
theorem qpf:∀(l:List Ty) (n k:Int),0≤n->1≤k->k+dpYs l≤1000000->qch qtq l n k=(if dpYs l=0 then n else max n (k+dpYs l-1),true)
 | [],n,k,_,_,_=>by rw[qch,dpYs,if_pos rfl]
 | x :: r, n, k, h0, h1, h => by
   rw[dpYs] at h
   have hp:=qcab x
   rw[qch,qsj x n k h0 h1 (by omega),if_pos rfl,qpf r _ k (by omega) h1 (by omega),dpYs]
   congr 1
   rw[if_neg (by omega:¬max (dpY x) (dpYs r)=0)]
   split<;>omega
end
mutual
theorem qs9:∀(t:Ty) (n k:Int),0≤n->n+szY t≤1000000->1≤k->k+dpY t≤1000000 →
 ((qdc qhc t n k).2=true↔n+szY t≤4096∧k+dpY t-1≤100∧qcs t=true)∧((qdc qhc t n k).2=true->(qdc qhc t n k).1=n+szY t)
 | .mk c v l, n, k, h0, h1, h2, h3 => by
   rw[szY] at h1
   rw[dpY] at h3
   have e1:IntKind.i64.wrap (n+1)=n+1:=qo (by omega) (by omega)
   have e2:IntKind.i64.wrap (k+1)=k+1:=qo (by omega) (by omega)
   have e3:(qhc n (.mk c v l) k).1=n+1:=e1
   have e4:(qhc n (.mk c v l) k).2=true↔n+1≤4096∧k≤100∧mayW c v l.length=true:=by
    simp only[qhc,e1,Bool.and_eq_true,decide_eq_true_eq];rfl
   rw[qdc,szY,dpY,qcs]
   by_cases hs:(qhc n (.mk c v l) k).2=true
   ·rw[if_pos hs,e3,e2]
    obtain⟨q1,q2,q3⟩:=e4.1 hs
    obtain⟨r1,r2⟩:=qpl l (n+1) (k+1) (by omega) (by omega) (by omega) (by omega) (by omega) (by omega)
    refine⟨?_,fun h=>by rw[r2 h];omega⟩
    rw[r1,q3,Bool.and_true]
    constructor
    ·rintro⟨a1,a2,a3⟩;exact⟨by omega,by omega,a3⟩
    ·rintro⟨a1,a2,a3⟩;exact⟨by omega,by omega,a3⟩
   ·rw[if_neg hs]
    refine⟨⟨fun h=>(by cases h),fun ⟨a1,a2,a3⟩=>absurd (e4.2 ⟨by omega,by omega,(by rw[Bool.and_eq_true] at a3;exact a3.2)⟩) hs⟩,fun h=>by cases h⟩
theorem qpl:∀(l:List Ty) (n k:Int),0≤n->n+szYs l≤1000000->1≤k->k+dpYs l≤1000000->n≤4096->k-1≤100 →
 ((qch qhc l n k).2=true↔n+szYs l≤4096∧k+dpYs l-1≤100∧qby l=true)∧((qch qhc l n k).2=true->(qch qhc l n k).1=n+szYs l)
 | [], n, k, h0, h1, h2, h3, h4, h5 => by
   rw[qch,szYs,dpYs,qby]
   exact⟨⟨fun _=>⟨by omega,by omega,rfl⟩,fun _=>rfl⟩,fun _=>by simp⟩
 | x :: r, n, k, h0, h1, h2, h3, h4, h5 => by
   rw[szYs] at h1
   rw[dpYs] at h3
   obtain⟨q1,q2⟩:=qs9 x n k h0 (by omega) h2 (by omega)
   rw[qch,szYs,dpYs,qby]
   by_cases hs:(qdc qhc x n k).2=true
   ·rw[if_pos hs,q2 hs]
    obtain⟨a1,a2,a3⟩:=q1.1 hs
    obtain⟨r1,r2⟩:=qpl r (n+szY x) k (by omega) (by omega) h2 (by omega) (by omega) h5
    refine⟨?_,fun h=>by rw[r2 h];omega⟩
    rw[r1,a3,Bool.true_and]
    constructor
    ·rintro⟨b1,b2,b3⟩;exact⟨by omega,by omega,b3⟩
    ·rintro⟨b1,b2,b3⟩;exact⟨by omega,by omega,b3⟩
   ·rw[if_neg hs]
    refine⟨⟨fun h=>(by cases h),fun ⟨a1,a2,a3⟩=>absurd (q1.2 ⟨by omega,by omega,?_⟩) hs⟩,fun h=>by cases h⟩
    rw[Bool.and_eq_true] at a3
    exact a3.1
end
def qi(t:Ty):Bool:=decide (szY t≤4096)&&(decide (dpY t≤100)&&qcs t)
theorem q34{t:Ty}(h1:szY t≤20000)(h2:dpY t≤300):qx7 t=qi t:=by
 have:=(qs9 t 0 1 (by omega) (by omega) (by omega) (by omega)).1
 rw[qx7,Bool.eq_iff_iff,this,qi,Bool.and_eq_true,Bool.and_eq_true,decide_eq_true_eq,decide_eq_true_eq]
 constructor
 ·rintro⟨a1,a2,a3⟩;exact⟨by omega,by omega,a3⟩
 ·rintro⟨a1,a2,a3⟩;exact⟨by omega,by omega,a3⟩
theorem qds{t:Ty}(h1:szY t≤20000)(h2:dpY t≤300):qj Tryz.prog 112 [encY t] (.bool (qi t)):=by
 refine qd c0do (by simp) (by simp only[go_sem]) rfl fun hw=>?_
 have e1:=qes t
 have e2:=ql5 t
 rw[qfx t (by omega)] at e1
 rw[qsr t (by omega)] at e2
 repeat'(first|refine vs_ ?_|((first|refine vr_ ?_|refine qa e1 fun _=>?_|refine qa e2 fun _=>?_|refine qa (qv9 t) fun _=>?_|(refine cs_ ?_ ?_<;>intro hc)|refine cj_ ?_)<;>try refine ev_ ?_)|with_reducible exact ti_)
 all_goals
  rw[qi]
 ·rw[decide_eq_true (by omega),decide_eq_true (by omega)];rfl
 ·rw[decide_eq_false (p:=dpY t≤100) (by omega),Bool.false_and,Bool.and_false]
 ·rw[decide_eq_false (p:=szY t≤4096) (by omega)];rfl
theorem qd6{t:Ty}(h1:szY t≤20000)(h2:dpY t≤300):qj Tryz.prog 67 [encY t] (.bool (qi t)):=by
 rw[←q34 h1 h2];exact qnh t
end Go.Proofs.YtkenggenkmfopaaGreat
