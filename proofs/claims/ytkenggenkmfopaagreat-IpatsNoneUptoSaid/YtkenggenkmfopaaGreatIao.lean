/- A text of this proof. -/
import Derived.Test.YtkenggenkmfopaaGreatIah
set_option linter.unusedVariables false
set_option linter.unusedSimpArgs false

/-
 Types: how great they are, their variables, whether two are the same; texts of numbers.
-/
namespace Go.V
open Go Go.RowKit

mutual
def szY:Ty->Nat
 | .mk _ _ l=>1+szYs l
def szYs:List Ty->Nat
 | []=>0
 | x::r=>szY x+szYs r
end
mutual
def dpY:Ty->Nat
 | .mk _ _ l=>1+dpYs l
def dpYs:List Ty->Nat
 | []=>0
 | x::r=>max (dpY x) (dpYs r)
end
mutual
def varY:Ty->List Int
 | .mk c v l=>(if c=[] then [v] else [])++qdt l
def qdt:List Ty->List Int
 | []=>[]
 | x::r=>varY x++qdt r
end
theorem qll(t:Ty):szY t=1+szYs t.args:=by cases t;rw[szY];rfl
theorem qz1(t:Ty):dpY t=1+dpYs t.args:=by cases t;rw[dpY];rfl
theorem qwc(t:Ty):1≤szY t:=by rw[qll];omega
theorem qrh(t:Ty):1≤dpY t:=by rw[qz1];omega

mutual
def q3f:Ty->Ty->Bool
 | .mk c v l,.mk c' v' l'=>decide (c=c')&&decide (v=v')&&qed l l'
def qed:List Ty->List Ty->Bool
 | [],[]=>true
 | x::r,y::r'=>q3f x y&&qed r r'
 | _,_=>false
end
theorem ql7(a b:Ty):q3f a b=(decide (a.con=b.con)&&decide (a.var=b.var)&&qed a.args b.args):=by cases a;cases b;rw[q3f];rfl
theorem qp0:∀{l l':List Ty},l.length≠l'.length->qed l l'=false
 | [],[],h=>absurd rfl h
 | [],y::r',_=>by rw[qed]<;>simp
 | x::r,[],_=>by rw[qed]<;>simp
 | x::r,y::r',h=>by rw[qed,qp0 (l:=r) (l':=r') (by simpa using h)];simp
theorem qm9{l l':List Ty}{i:Nat}(h:i<l.length)(h':i<l'.length):qed (l.drop i) (l'.drop i)=(q3f (l.getD i Y0) (l'.getD i Y0)&&qed (l.drop (i+1)) (l'.drop (i+1))):=by
 rw[qsn h,qsn h',qed]
theorem q10{l l':List Ty}{i:Nat}(h:l.length≤i)(h':l'.length≤i):qed (l.drop i) (l'.drop i)=true:=by
 rw[List.drop_of_length_le h,List.drop_of_length_le h',qed]
theorem ty_eq{a b:Ty}:a=b↔(a.con=b.con∧a.var=b.var)∧a.args=b.args:=by
 cases a;cases b;simp[Ty.con,Ty.var,Ty.args,and_assoc]
def qbm(acc:List Int):List Int->List Int
 | []=>acc
 | x::r=>if x∈acc then qbm acc r else qbm (acc++[x]) r
theorem qg1(acc l r:List Int):qbm acc (l++r)=qbm (qbm acc l) r:=by
 induction l generalizing acc with
 | nil=>rfl
 | cons x l ih=>simp only[List.cons_append,qbm];split<;>exact ih _
theorem qbai(l acc:List Int)(x:Int):x∈qbm acc l↔x∈acc∨x∈l:=by
 induction l generalizing acc with
 | nil=>simp[qbm]
 | cons y l ih =>
   rw[qbm]
   split
   ·rename_i h;rw[ih];constructor
    ·rintro (h1 | h1)
     ·exact .inl h1
     ·exact .inr (by simp[h1])
    ·rintro (h1 | h1)
     ·exact .inl h1
     ·rcases List.mem_cons.1 h1 with rfl | h1
      ·exact .inl h
      ·exact .inr h1
   ·rw[ih];simp[or_assoc]
theorem qvv(l acc:List Int):(qbm acc l).length≤acc.length+l.length:=by
 induction l generalizing acc with
 | nil=>simp[qbm]
 | cons y l ih =>
   rw[qbm]
   split
   ·have:=ih acc;simp only[List.length_cons];omega
   ·have:=ih (acc++[y]);simp only[List.length_append,List.length_cons,List.length_nil] at this ⊢;omega

mutual
theorem qr7:∀t,(varY t).length≤szY t
 | .mk c v l => by
   rw[varY,szY,List.length_append]
   have:=qtc l
   split<;>simp<;>omega
theorem qtc:∀l,(qdt l).length≤szYs l
 | []=>by simp[qdt]
 | x :: r => by
   rw[qdt,szYs,List.length_append]
   have:=qr7 x
   have:=qtc r
   omega
end
theorem qjv:∀l:List Ty,l.length≤szYs l
 | []=>by simp[szYs]
 | x::r=>by rw[szYs,List.length_cons];have:=qwc x;have:=qjv r;omega
theorem qot{l:List Ty}{x:Ty}(h:x∈l):szY x≤szYs l:=by
 induction l with
 | nil=>cases h
 | cons y r ih =>
   rw[szYs]
   rcases List.mem_cons.1 h with rfl | h
   ·omega
   ·have:=ih h;omega
theorem qxb{l:List Ty}{x:Ty}(h:x∈l):dpY x≤dpYs l:=by
 induction l with
 | nil=>cases h
 | cons y r ih =>
   rw[dpYs]
   rcases List.mem_cons.1 h with rfl | h
   ·omega
   ·have:=ih h;omega

def digN(u:Nat):List UInt8:=if h:u<10 then [UInt8.ofNat (48+u)] else digN (u / 10)++[UInt8.ofNat (48+u % 10)]
termination_by u
decreasing_by omega
theorem qiq{u:Nat}(h:u<10):digN u=[UInt8.ofNat (48+u)]:=by rw[digN,dif_pos h]
theorem qxz{u:Nat}(h:¬u<10):digN u=digN (u / 10)++[UInt8.ofNat (48+u % 10)]:=by rw[digN,dif_neg h]
theorem qzr:∀(k u:Nat),u<10 ^ (k+1)->(digN u).length≤k+1
 | 0,u,h=>by rw[qiq (by simpa using h)];simp
 | k + 1, u, h => by
   by_cases h10:u<10
   ·rw[qiq h10];simp
   ·rw[qxz h10,List.length_append]
    have:=qzr k (u / 10) (by rw[Nat.div_lt_iff_lt_mul (by omega)];rw[Nat.pow_succ] at h;exact h)
    simp;exact this
theorem qbit(u:Nat):0<(digN u).length:=by
 by_cases h:u<10
 ·rw[qiq h];simp
 ·rw[qxz h];simp
def digI(n:Int):List UInt8:=if n<0 then 45::digN n.natAbs else digN n.natAbs
def ltrI(n:Int):List UInt8:=if n<0 then [] else if n<26 then [UInt8.ofNat (97+n.toNat)] else UInt8.ofNat (97+n.toNat % 26)::digN (n.toNat / 26)
def qlf(t:Ty):List UInt8:=if t.con=[] then(if 0≤t.var then ltrI t.var else 63::digI (-1-t.var)) else t.con
def arrW:List UInt8:=[45,62]
def parW(b:Bool)(s:List UInt8):List UInt8:=if b=true then 40::(s++[41]) else s
mutual
def txtY:Ty->List UInt8
 | .mk c v l=>if c=arrW then(match l with | [a,b]=>parW (decide (a.con=arrW)) (txtY a)++([32,45,62,32]++txtY b) | _=>[]) else qlf (.mk c v l)++argY l
def argY:List Ty->List UInt8
 | []=>[]
 | a::r=>(32::parW (decide (a.args≠[])) (txtY a))++argY r
end
end Go.V
