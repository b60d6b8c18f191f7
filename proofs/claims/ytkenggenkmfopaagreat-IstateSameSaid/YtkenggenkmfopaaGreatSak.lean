/- A text of this proof. -/
import Derived.Test.YtkenggenkmfopaaGreatSah
set_option linter.unusedVariables false
set_option linter.unusedSimpArgs false

/-
 Types: how great they are, their variables, whether two are the same; texts of numbers.
-/
namespace Go.V
open Go Go.RowKit

mutual
def szY:Ty->Nat
 | .mk _ _ l=>1+szYs l
def szYs:List Ty->Nat
 | []=>0
 | x::r=>szY x+szYs r
end
mutual
def dpY:Ty->Nat
 | .mk _ _ l=>1+dpYs l
def dpYs:List Ty->Nat
 | []=>0
 | x::r=>max (dpY x) (dpYs r)
end
mutual
def varY:Ty->List Int
 | .mk c v l=>(if c=[] then [v] else [])++qc7 l
def qc7:List Ty->List Int
 | []=>[]
 | x::r=>varY x++qc7 r
end
theorem qdf(t:Ty):szY t=1+szYs t.args:=by cases t;rw[szY];rfl
theorem qpb(t:Ty):dpY t=1+dpYs t.args:=by cases t;rw[dpY];rfl
theorem qb5n(t:Ty):varY t=(if t.con=[] then [t.var] else [])++qc7 t.args:=by cases t;rw[varY];rfl
theorem qks(t:Ty):1≤szY t:=by rw[qdf];omega
theorem qb3v(t:Ty):1≤dpY t:=by rw[qpb];omega

mutual
def qkk:Ty->Ty->Bool
 | .mk c v l,.mk c' v' l'=>decide (c=c')&&decide (v=v')&&qb4 l l'
def qb4:List Ty->List Ty->Bool
 | [],[]=>true
 | x::r,y::r'=>qkk x y&&qb4 r r'
 | _,_=>false
end
theorem qjx(a b:Ty):qkk a b=(decide (a.con=b.con)&&decide (a.var=b.var)&&qb4 a.args b.args):=by cases a;cases b;rw[qkk];rfl
theorem qkh:∀{l l':List Ty},l.length≠l'.length->qb4 l l'=false
 | [],[],h=>absurd rfl h
 | [],y::r',_=>by rw[qb4]<;>simp
 | x::r,[],_=>by rw[qb4]<;>simp
 | x::r,y::r',h=>by rw[qb4,qkh (l:=r) (l':=r') (by simpa using h)];simp
theorem qit{l l':List Ty}{i:Nat}(h:i<l.length)(h':i<l'.length):qb4 (l.drop i) (l'.drop i)=(qkk (l.getD i Y0) (l'.getD i Y0)&&qb4 (l.drop (i+1)) (l'.drop (i+1))):=by
 rw[qj1 h,qj1 h',qb4]
theorem qpv{l l':List Ty}{i:Nat}(h:l.length≤i)(h':l'.length≤i):qb4 (l.drop i) (l'.drop i)=true:=by
 rw[List.drop_of_length_le h,List.drop_of_length_le h',qb4]
theorem qup{y:Ty}{r:List Ty}:qb4 [] (y::r)=false:=by rw[qb4]<;>simp
theorem qve{y:Ty}{r:List Ty}:qb4 (y::r) []=false:=by rw[qb4]<;>simp
theorem q7y{l:List Ty}(h:∀x∈l,∀b,qkk x b=true↔x=b):∀l',qb4 l l'=true↔l=l':=by
 induction l with
 | nil => intro l'; cases l' with
   | nil=>simp[qb4]
   | cons y r=>rw[qup];simp
 | cons x r ih => intro l'; cases l' with
   | nil=>rw[qve];simp
   | cons y r' =>
     rw[qb4,Bool.and_eq_true,h x (by simp),ih (fun z hz=>h z (by simp[hz]))]
     simp
theorem ty_eq{a b:Ty}:a=b↔(a.con=b.con∧a.var=b.var)∧a.args=b.args:=by
 cases a;cases b;simp[Ty.con,Ty.var,Ty.args,and_assoc]
theorem qzj:∀a b,qkk a b=true↔a=b:=Ty.ind fun a ih b=>by
 rw[qjx,Bool.and_eq_true,Bool.and_eq_true,q7y ih,ty_eq,decide_eq_true_eq,decide_eq_true_eq]
mutual
theorem qbic:∀t,(varY t).length≤szY t
 | .mk c v l => by
   rw[varY,szY,List.length_append]
   have:=qmw l
   split<;>simp<;>omega
theorem qmw:∀l,(qc7 l).length≤szYs l
 | []=>by simp[qc7]
 | x :: r => by
   rw[qc7,szYs,List.length_append]
   have:=qbic x
   have:=qmw r
   omega
end
theorem qd6:∀l:List Ty,l.length≤szYs l
 | []=>by simp[szYs]
 | x::r=>by rw[szYs,List.length_cons];have:=qks x;have:=qd6 r;omega
theorem qok:∀(l:List Ty) (i:Nat),szYs (l.take i)≤szYs l
 | [],i=>by simp
 | x::r,0=>by simp[szYs]
 | x::r,i+1=>by rw[List.take_succ_cons,szYs,szYs];have:=qok r i;omega
theorem qdd{l:List Ty}{x:Ty}(h:x∈l):szY x≤szYs l:=by
 induction l with
 | nil=>cases h
 | cons y r ih =>
   rw[szYs]
   rcases List.mem_cons.1 h with rfl | h
   ·omega
   ·have:=ih h;omega
theorem qkf{l:List Ty}{x:Ty}(h:x∈l):dpY x≤dpYs l:=by
 induction l with
 | nil=>cases h
 | cons y r ih =>
   rw[dpYs]
   rcases List.mem_cons.1 h with rfl | h
   ·omega
   ·have:=ih h;omega

def digN(u:Nat):List UInt8:=if h:u<10 then [UInt8.ofNat (48+u)] else digN (u / 10)++[UInt8.ofNat (48+u % 10)]
termination_by u
decreasing_by omega
theorem qif{u:Nat}(h:u<10):digN u=[UInt8.ofNat (48+u)]:=by rw[digN,dif_pos h]
theorem qxh{u:Nat}(h:¬u<10):digN u=digN (u / 10)++[UInt8.ofNat (48+u % 10)]:=by rw[digN,dif_neg h]
theorem qy9:∀(k u:Nat),u<10 ^ (k+1)->(digN u).length≤k+1
 | 0,u,h=>by rw[qif (by simpa using h)];simp
 | k + 1, u, h => by
   by_cases h10:u<10
   ·rw[qif h10];simp
   ·rw[qxh h10,List.length_append]
    have:=qy9 k (u / 10) (by rw[Nat.div_lt_iff_lt_mul (by omega)];rw[Nat.pow_succ] at h;exact h)
    simp;exact this
theorem qbjx(u:Nat):0<(digN u).length:=by
 by_cases h:u<10
 ·rw[qif h];simp
 ·rw[qxh h];simp
def digI(n:Int):List UInt8:=if n<0 then 45::digN n.natAbs else digN n.natAbs
def ltrI(n:Int):List UInt8:=if n<0 then [] else if n<26 then [UInt8.ofNat (97+n.toNat)] else UInt8.ofNat (97+n.toNat % 26)::digN (n.toNat / 26)
def qj9(t:Ty):List UInt8:=if t.con=[] then(if 0≤t.var then ltrI t.var else 63::digI (-1-t.var)) else t.con
def arrW:List UInt8:=[45,62]
def parW(b:Bool)(s:List UInt8):List UInt8:=if b=true then 40::(s++[41]) else s
mutual
def txtY:Ty->List UInt8
 | .mk c v l=>if c=arrW then(match l with | [a,b]=>parW (decide (a.con=arrW)) (txtY a)++([32,45,62,32]++txtY b) | _=>[]) else qj9 (.mk c v l)++argY l
def argY:List Ty->List UInt8
 | []=>[]
 | a::r=>(32::parW (decide (a.args≠[])) (txtY a))++argY r
end
end Go.V
