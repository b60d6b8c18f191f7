/- A text of this proof. -/
import Derived.Test.YtkenggenkmfopaaGreatNal
set_option linter.unusedVariables false
set_option linter.unusedSimpArgs false

/-
 Types: how great they are, their variables, whether two are the same; texts of numbers.
-/
namespace Go.V
open Go Go.RowKit

mutual
def szY:Ty->Nat
 | .mk _ _ l=>1 + szYs l
def szYs:List Ty->Nat
 | []=>0
 | x :: r=>szY x + szYs r
end
mutual
def dpY:Ty->Nat
 | .mk _ _ l=>1 + dpYs l
def dpYs:List Ty->Nat
 | []=>0
 | x :: r=>max (dpY x) (dpYs r)
end
mutual
def varY:Ty->List Int
 | .mk c v l=>(if c = [] then [v] else []) ++ qc8 l
def qc8:List Ty->List Int
 | []=>[]
 | x :: r=>varY x ++ qc8 r
end
theorem qib (t:Ty):szY t = 1 + szYs t.args:=by cases t;rw [szY];rfl
theorem qzo (t:Ty):dpY t = 1 + dpYs t.args:=by cases t;rw [dpY];rfl
theorem qre (t:Ty):1≤szY t:=by rw [qib];omega
theorem qbon (t:Ty):1≤dpY t:=by rw [qzo];omega

mutual
def qvb:Ty->Ty->Bool
 | .mk c v l,.mk c' v' l'=>decide (c = c') && decide (v = v') && qc1 l l'
def qc1:List Ty->List Ty->Bool
 | [],[]=>true
 | x :: r,y :: r'=>qvb x y && qc1 r r'
 | _,_=>false
end
theorem qii (a b:Ty):qvb a b = (decide (a.con = b.con) && decide (a.var = b.var) && qc1 a.args b.args):=by cases a;cases b;rw [qvb];rfl
theorem qlj:∀ {l l':List Ty},l.length≠l'.length->qc1 l l' = false
 | [],[],h=>absurd rfl h
 | [],y :: r',_=>by rw [qc1]<;>simp
 | x :: r,[],_=>by rw [qc1]<;>simp
 | x :: r,y :: r',h=>by rw [qc1,qlj (l:=r) (l':=r') (by simpa using h)];simp
theorem qkl {l l':List Ty} {i:Nat} (h:i < l.length) (h':i < l'.length):qc1 (l.drop i) (l'.drop i) = (qvb (l.getD i Y0) (l'.getD i Y0) && qc1 (l.drop (i + 1)) (l'.drop (i + 1))):=by
 rw [qq7 h,qq7 h',qc1]
theorem quu {l l':List Ty} {i:Nat} (h:l.length≤i) (h':l'.length≤i):qc1 (l.drop i) (l'.drop i) = true:=by
 rw [List.drop_of_length_le h,List.drop_of_length_le h',qc1]
theorem ty_eq {a b:Ty}:a = b ↔ (a.con = b.con∧a.var = b.var)∧a.args = b.args:=by
 cases a;cases b;simp [Ty.con,Ty.var,Ty.args,and_assoc]
mutual
theorem q3f:∀ t,(varY t).length≤szY t
 | .mk c v l => by
   rw [varY,szY,List.length_append]
   have:=qpp l
   split<;>simp<;>omega
theorem qpp:∀ l,(qc8 l).length≤szYs l
 | []=>by simp [qc8]
 | x :: r => by
   rw [qc8,szYs,List.length_append]
   have:=q3f x
   have:=qpp r
   omega
end
theorem qgs:∀ l:List Ty,l.length≤szYs l
 | []=>by simp [szYs]
 | x :: r=>by rw [szYs,List.length_cons];have:=qre x;have:=qgs r;omega
theorem qnb {l:List Ty} {x:Ty} (h:x∈l):szY x≤szYs l:=by
 induction l with
 | nil=>cases h
 | cons y r ih =>
   rw [szYs]
   rcases List.mem_cons.1 h with rfl | h
   ·omega
   ·have:=ih h;omega
theorem qz4 {l:List Ty} {x:Ty} (h:x∈l):dpY x≤dpYs l:=by
 induction l with
 | nil=>cases h
 | cons y r ih =>
   rw [dpYs]
   rcases List.mem_cons.1 h with rfl | h
   ·omega
   ·have:=ih h;omega

def digN (u:Nat):List UInt8:=if h:u < 10 then [UInt8.ofNat (48 + u)] else digN (u / 10) ++ [UInt8.ofNat (48 + u % 10)]
termination_by u
decreasing_by omega
theorem qgj {u:Nat} (h:u < 10):digN u = [UInt8.ofNat (48 + u)]:=by rw [digN,dif_pos h]
theorem qrv {u:Nat} (h:¬ u < 10):digN u = digN (u / 10) ++ [UInt8.ofNat (48 + u % 10)]:=by rw [digN,dif_neg h]
theorem qr9:∀ (k u:Nat),u < 10 ^ (k + 1)->(digN u).length≤k + 1
 | 0,u,h=>by rw [qgj (by simpa using h)];simp
 | k + 1, u, h => by
   by_cases h10:u < 10
   ·rw [qgj h10];simp
   ·rw [qrv h10,List.length_append]
    have:=qr9 k (u / 10) (by rw [Nat.div_lt_iff_lt_mul (by omega)];rw [Nat.pow_succ] at h;exact h)
    simp;exact this
theorem q67 (u:Nat):0 < (digN u).length:=by
 by_cases h:u < 10
 ·rw [qgj h];simp
 ·rw [qrv h];simp
def digI (n:Int):List UInt8:=if n < 0 then 45 :: digN n.natAbs else digN n.natAbs
def ltrI (n:Int):List UInt8:=if n < 0 then [] else if n < 26 then [UInt8.ofNat (97 + n.toNat)] else UInt8.ofNat (97 + n.toNat % 26) :: digN (n.toNat / 26)
def qhx (t:Ty):List UInt8:=if t.con = [] then (if 0≤t.var then ltrI t.var else 63 :: digI (-1 - t.var)) else t.con
def arrW:List UInt8:=[45,62]
def parW (b:Bool) (s:List UInt8):List UInt8:=if b = true then 40 :: (s ++ [41]) else s
mutual
def txtY:Ty->List UInt8
 | .mk c v l=>if c = arrW then (match l with | [a,b]=>parW (decide (a.con = arrW)) (txtY a) ++ ([32,45,62,32] ++ txtY b) | _=>[]) else qhx (.mk c v l) ++ argY l
def argY:List Ty->List UInt8
 | []=>[]
 | a :: r=>(32 :: parW (decide (a.args≠[])) (txtY a)) ++ argY r
end
end Go.V
