/- A text of this proof. -/
import Derived.Test.YtkenggenkmfopaaGreatFah
set_option linter.unusedVariables false
set_option linter.unusedSimpArgs false

/-
 Types: how great they are, their variables, whether two are the same; texts of numbers.
-/
namespace Go.V
open Go Go.RowKit

mutual
def szY:Ty->Nat
 | .mk _ _ l=>1+szYs l
def szYs:List Ty->Nat
 | []=>0
 | x::r=>szY x+szYs r
end
mutual
def dpY:Ty->Nat
 | .mk _ _ l=>1+dpYs l
def dpYs:List Ty->Nat
 | []=>0
 | x::r=>max (dpY x) (dpYs r)
end
mutual
def varY:Ty->List Int
 | .mk c v l=>(if c=[] then [v] else [])++qc5 l
def qc5:List Ty->List Int
 | []=>[]
 | x::r=>varY x++qc5 r
end
theorem qdr(t:Ty):szY t=1+szYs t.args:=by cases t;rw[szY];rfl
theorem qrv(t:Ty):dpY t=1+dpYs t.args:=by cases t;rw[dpY];rfl
theorem qbqz(t:Ty):varY t=(if t.con=[] then [t.var] else [])++qc5 t.args:=by cases t;rw[varY];rfl
theorem qkg(t:Ty):1≤szY t:=by rw[qdr];omega
theorem qcab(t:Ty):1≤dpY t:=by rw[qrv];omega

mutual
def qn1:Ty->Ty->Bool
 | .mk c v l,.mk c' v' l'=>decide (c=c')&&decide (v=v')&&qb3 l l'
def qb3:List Ty->List Ty->Bool
 | [],[]=>true
 | x::r,y::r'=>qn1 x y&&qb3 r r'
 | _,_=>false
end
theorem qi9(a b:Ty):qn1 a b=(decide (a.con=b.con)&&decide (a.var=b.var)&&qb3 a.args b.args):=by cases a;cases b;rw[qn1];rfl
theorem qj8:∀{l l':List Ty},l.length≠l'.length->qb3 l l'=false
 | [],[],h=>absurd rfl h
 | [],y::r',_=>by rw[qb3]<;>simp
 | x::r,[],_=>by rw[qb3]<;>simp
 | x::r,y::r',h=>by rw[qb3,qj8 (l:=r) (l':=r') (by simpa using h)];simp
theorem qid{l l':List Ty}{i:Nat}(h:i<l.length)(h':i<l'.length):qb3 (l.drop i) (l'.drop i)=(qn1 (l.getD i Y0) (l'.getD i Y0)&&qb3 (l.drop (i+1)) (l'.drop (i+1))):=by
 rw[qjt h,qjt h',qb3]
theorem qps{l l':List Ty}{i:Nat}(h:l.length≤i)(h':l'.length≤i):qb3 (l.drop i) (l'.drop i)=true:=by
 rw[List.drop_of_length_le h,List.drop_of_length_le h',qb3]
theorem qtv{y:Ty}{r:List Ty}:qb3 [] (y::r)=false:=by rw[qb3]<;>simp
theorem qt0{y:Ty}{r:List Ty}:qb3 (y::r) []=false:=by rw[qb3]<;>simp
theorem q6w{l:List Ty}(h:∀x∈l,∀b,qn1 x b=true↔x=b):∀l',qb3 l l'=true↔l=l':=by
 induction l with
 | nil => intro l'; cases l' with
   | nil=>simp[qb3]
   | cons y r=>rw[qtv];simp
 | cons x r ih => intro l'; cases l' with
   | nil=>rw[qt0];simp
   | cons y r' =>
     rw[qb3,Bool.and_eq_true,h x (by simp),ih (fun z hz=>h z (by simp[hz]))]
     simp
theorem ty_eq{a b:Ty}:a=b↔(a.con=b.con∧a.var=b.var)∧a.args=b.args:=by
 cases a;cases b;simp[Ty.con,Ty.var,Ty.args,and_assoc]
theorem qbjm:∀a b,qn1 a b=true↔a=b:=Ty.ind fun a ih b=>by
 rw[qi9,Bool.and_eq_true,Bool.and_eq_true,q6w ih,ty_eq,decide_eq_true_eq,decide_eq_true_eq]
mutual
theorem qbb3:∀t,(varY t).length≤szY t
 | .mk c v l => by
   rw[varY,szY,List.length_append]
   have:=qn8 l
   split<;>simp<;>omega
theorem qn8:∀l,(qc5 l).length≤szYs l
 | []=>by simp[qc5]
 | x :: r => by
   rw[qc5,szYs,List.length_append]
   have:=qbb3 x
   have:=qn8 r
   omega
end
theorem qen:∀l:List Ty,l.length≤szYs l
 | []=>by simp[szYs]
 | x::r=>by rw[szYs,List.length_cons];have:=qkg x;have:=qen r;omega
theorem qmw:∀(l:List Ty) (i:Nat),szYs (l.take i)≤szYs l
 | [],i=>by simp
 | x::r,0=>by simp[szYs]
 | x::r,i+1=>by rw[List.take_succ_cons,szYs,szYs];have:=qmw r i;omega
theorem qdp{l:List Ty}{x:Ty}(h:x∈l):szY x≤szYs l:=by
 induction l with
 | nil=>cases h
 | cons y r ih =>
   rw[szYs]
   rcases List.mem_cons.1 h with rfl | h
   ·omega
   ·have:=ih h;omega
theorem qnu{l:List Ty}{x:Ty}(h:x∈l):dpY x≤dpYs l:=by
 induction l with
 | nil=>cases h
 | cons y r ih =>
   rw[dpYs]
   rcases List.mem_cons.1 h with rfl | h
   ·omega
   ·have:=ih h;omega

def digN(u:Nat):List UInt8:=if h:u<10 then [UInt8.ofNat (48+u)] else digN (u / 10)++[UInt8.ofNat (48+u % 10)]
termination_by u
decreasing_by omega
theorem qil{u:Nat}(h:u<10):digN u=[UInt8.ofNat (48+u)]:=by rw[digN,dif_pos h]
theorem qvu{u:Nat}(h:¬u<10):digN u=digN (u / 10)++[UInt8.ofNat (48+u % 10)]:=by rw[digN,dif_neg h]
theorem qza:∀(k u:Nat),u<10 ^ (k+1)->(digN u).length≤k+1
 | 0,u,h=>by rw[qil (by simpa using h)];simp
 | k + 1, u, h => by
   by_cases h10:u<10
   ·rw[qil h10];simp
   ·rw[qvu h10,List.length_append]
    have:=qza k (u / 10) (by rw[Nat.div_lt_iff_lt_mul (by omega)];rw[Nat.pow_succ] at h;exact h)
    simp;exact this
theorem q9m(u:Nat):0<(digN u).length:=by
 by_cases h:u<10
 ·rw[qil h];simp
 ·rw[qvu h];simp
def digI(n:Int):List UInt8:=if n<0 then 45::digN n.natAbs else digN n.natAbs
def ltrI(n:Int):List UInt8:=if n<0 then [] else if n<26 then [UInt8.ofNat (97+n.toNat)] else UInt8.ofNat (97+n.toNat % 26)::digN (n.toNat / 26)
def qks(t:Ty):List UInt8:=if t.con=[] then(if 0≤t.var then ltrI t.var else 63::digI (-1-t.var)) else t.con
def arrW:List UInt8:=[45,62]
def parW(b:Bool)(s:List UInt8):List UInt8:=if b=true then 40::(s++[41]) else s
mutual
def txtY:Ty->List UInt8
 | .mk c v l=>if c=arrW then(match l with | [a,b]=>parW (decide (a.con=arrW)) (txtY a)++([32,45,62,32]++txtY b) | _=>[]) else qks (.mk c v l)++argY l
def argY:List Ty->List UInt8
 | []=>[]
 | a::r=>(32::parW (decide (a.args≠[])) (txtY a))++argY r
end
end Go.V
