/- A text of this proof. -/
import Derived.Test.YtlahgbhhejkgbaaTai
set_option linter.unusedVariables false
set_option linter.unusedSimpArgs false

/-
 Types: how great they are, their variables, whether two are the same; texts of numbers.
-/
namespace Go.V
open Go Go.RowKit

mutual
def szY:Ty->Nat
 | .mk _ _ l=>1 + szYs l
def szYs:List Ty->Nat
 | []=>0
 | x :: r=>szY x + szYs r
end
mutual
def dpY:Ty->Nat
 | .mk _ _ l=>1 + dpYs l
def dpYs:List Ty->Nat
 | []=>0
 | x :: r=>max (dpY x) (dpYs r)
end
mutual
def varY:Ty->List Int
 | .mk c v l=>(if c = [] then [v] else []) ++ ql3 l
def ql3:List Ty->List Int
 | []=>[]
 | x :: r=>varY x ++ ql3 r
end
theorem qzu (t:Ty):szY t = 1 + szYs t.args:=by cases t;rw [szY];rfl
theorem qte (t:Ty):dpY t = 1 + dpYs t.args:=by cases t;rw [dpY];rfl
theorem qeq (t:Ty):1≤dpY t:=by rw [qte];omega

mutual
def qfv:Ty->Ty->Bool
 | .mk c v l,.mk c' v' l'=>decide (c = c') && decide (v = v') && q8 l l'
def q8:List Ty->List Ty->Bool
 | [],[]=>true
 | x :: r,y :: r'=>qfv x y && q8 r r'
 | _,_=>false
end
theorem qez (a b:Ty):qfv a b = (decide (a.con = b.con) && decide (a.var = b.var) && q8 a.args b.args):=by cases a;cases b;rw [qfv];rfl
theorem qi3:∀ {l l':List Ty},l.length≠l'.length->q8 l l' = false
 | [],[],h=>absurd rfl h
 | [],y :: r',_=>by rw [q8]<;>simp
 | x :: r,[],_=>by rw [q8]<;>simp
 | x :: r,y :: r',h=>by rw [q8,qi3 (l:=r) (l':=r') (by simpa using h)];simp
theorem qdv {l l':List Ty} {i:Nat} (h:i < l.length) (h':i < l'.length):q8 (l.drop i) (l'.drop i) = (qfv (l.getD i Y0) (l'.getD i Y0) && q8 (l.drop (i + 1)) (l'.drop (i + 1))):=by
 rw [qiw h,qiw h',q8]
theorem qj0 {l l':List Ty} {i:Nat} (h:l.length≤i) (h':l'.length≤i):q8 (l.drop i) (l'.drop i) = true:=by
 rw [List.drop_of_length_le h,List.drop_of_length_le h',q8]
theorem qk2 {y:Ty} {r:List Ty}:q8 [] (y :: r) = false:=by rw [q8]<;>simp
theorem qk5 {y:Ty} {r:List Ty}:q8 (y :: r) [] = false:=by rw [q8]<;>simp
theorem qud {l:List Ty} (h:∀ x∈l,∀ b,qfv x b = true ↔ x = b):∀ l',q8 l l' = true ↔ l = l':=by
 induction l with
 | nil => intro l'; cases l' with
   | nil=>simp [q8]
   | cons y r=>rw [qk2];simp
 | cons x r ih => intro l'; cases l' with
   | nil=>rw [qk5];simp
   | cons y r' =>
     rw [q8,Bool.and_eq_true,h x (by simp),ih (fun z hz=>h z (by simp [hz]))]
     simp
theorem qbjd {a b:Ty}:a = b ↔ (a.con = b.con∧a.var = b.var)∧a.args = b.args:=by
 cases a;cases b;simp [Ty.con,Ty.var,Ty.args,and_assoc]
theorem qoo:∀ a b,qfv a b = true ↔ a = b:=Ty.ind fun a ih b=>by
 rw [qez,Bool.and_eq_true,Bool.and_eq_true,qud ih,qbjd,decide_eq_true_eq,decide_eq_true_eq]
theorem qt4 (a:Ty):qfv a a = true:=(qoo a a).2 rfl
def qht (acc:List Int):List Int->List Int
 | []=>acc
 | x :: r=>if x∈acc then qht acc r else qht (acc ++ [x]) r
theorem ql1 (acc l r:List Int):qht acc (l ++ r) = qht (qht acc l) r:=by
 induction l generalizing acc with
 | nil=>rfl
 | cons x l ih=>simp only [List.cons_append,qht];split<;>exact ih _
theorem qxx (l r:List Ty):szYs (l ++ r) = szYs l + szYs r:=by
 induction l with
 | nil=>simp [szYs]
 | cons x l ih=>simp only [List.cons_append,szYs,ih];omega
theorem q4e {l:List Ty} {x:Ty} (h:x∈l):szY x≤szYs l:=by
 induction l with
 | nil=>cases h
 | cons y r ih =>
   rw [szYs]
   rcases List.mem_cons.1 h with rfl | h
   ·omega
   ·have:=ih h;omega
theorem qnj {l:List Ty} {x:Ty} (h:x∈l):dpY x≤dpYs l:=by
 induction l with
 | nil=>cases h
 | cons y r ih =>
   rw [dpYs]
   rcases List.mem_cons.1 h with rfl | h
   ·omega
   ·have:=ih h;omega

def digN (u:Nat):List UInt8:=if h:u < 10 then [UInt8.ofNat (48 + u)] else digN (u / 10) ++ [UInt8.ofNat (48 + u % 10)]
termination_by u
decreasing_by omega
theorem qcu {u:Nat} (h:u < 10):digN u = [UInt8.ofNat (48 + u)]:=by rw [digN,dif_pos h]
theorem qh2 {u:Nat} (h:¬ u < 10):digN u = digN (u / 10) ++ [UInt8.ofNat (48 + u % 10)]:=by rw [digN,dif_neg h]
theorem qkx:∀ (k u:Nat),u < 10 ^ (k + 1)->(digN u).length≤k + 1
 | 0,u,h=>by rw [qcu (by simpa using h)];simp
 | k + 1, u, h => by
   by_cases h10:u < 10
   ·rw [qcu h10];simp
   ·rw [qh2 h10,List.length_append]
    have:=qkx k (u / 10) (by rw [Nat.div_lt_iff_lt_mul (by omega)];rw [Nat.pow_succ] at h;exact h)
    simp;exact this
theorem qxa (u:Nat):0 < (digN u).length:=by
 by_cases h:u < 10
 ·rw [qcu h];simp
 ·rw [qh2 h];simp
def digI (n:Int):List UInt8:=if n < 0 then 45 :: digN n.natAbs else digN n.natAbs
def ltrI (n:Int):List UInt8:=if n < 0 then [] else if n < 26 then [UInt8.ofNat (97 + n.toNat)] else UInt8.ofNat (97 + n.toNat % 26) :: digN (n.toNat / 26)
def qbn (t:Ty):List UInt8:=if t.con = [] then (if 0≤t.var then ltrI t.var else 63 :: digI (-1 - t.var)) else t.con
def arrW:List UInt8:=[45,62]
def parW (b:Bool) (s:List UInt8):List UInt8:=if b = true then 40 :: (s ++ [41]) else s
mutual
def txtY:Ty->List UInt8
 | .mk c v l=>if c = arrW then (match l with | [a,b]=>parW (decide (a.con = arrW)) (txtY a) ++ ([32,45,62,32] ++ txtY b) | _=>[]) else qbn (.mk c v l) ++ argY l
def argY:List Ty->List UInt8
 | []=>[]
 | a :: r=>(32 :: parW (decide (a.args≠[])) (txtY a)) ++ argY r
end
end Go.V
