/- A text of this proof. -/
import Derived.Test.YtlahgbhhejkgbaaKai
set_option linter.unusedVariables false
set_option linter.unusedSimpArgs false

/-
 Types: how great they are, their variables, whether two are the same; texts of numbers.
-/
namespace Go.V
open Go Go.RowKit

mutual
def szY:Ty->Nat
 | .mk _ _ l=>1 + szYs l
def szYs:List Ty->Nat
 | []=>0
 | x :: r=>szY x + szYs r
end
mutual
def dpY:Ty->Nat
 | .mk _ _ l=>1 + dpYs l
def dpYs:List Ty->Nat
 | []=>0
 | x :: r=>max (dpY x) (dpYs r)
end
mutual
def varY:Ty->List Int
 | .mk c v l=>(if c = [] then [v] else []) ++ qft l
def qft:List Ty->List Int
 | []=>[]
 | x :: r=>varY x ++ qft r
end
theorem qyg (t:Ty):szY t = 1 + szYs t.args:=by cases t;rw [szY];rfl
theorem qr6 (t:Ty):dpY t = 1 + dpYs t.args:=by cases t;rw [dpY];rfl
theorem qty (t:Ty):varY t = (if t.con = [] then [t.var] else []) ++ qft t.args:=by cases t;rw [varY];rfl
theorem qej (t:Ty):1≤dpY t:=by rw [qr6];omega

mutual
def qfq:Ty->Ty->Bool
 | .mk c v l,.mk c' v' l'=>decide (c = c') && decide (v = v') && qz l l'
def qz:List Ty->List Ty->Bool
 | [],[]=>true
 | x :: r,y :: r'=>qfq x y && qz r r'
 | _,_=>false
end
theorem qex (a b:Ty):qfq a b = (decide (a.con = b.con) && decide (a.var = b.var) && qz a.args b.args):=by cases a;cases b;rw [qfq];rfl
theorem qi4:∀ {l l':List Ty},l.length≠l'.length->qz l l' = false
 | [],[],h=>absurd rfl h
 | [],y :: r',_=>by rw [qz]<;>simp
 | x :: r,[],_=>by rw [qz]<;>simp
 | x :: r,y :: r',h=>by rw [qz,qi4 (l:=r) (l':=r') (by simpa using h)];simp
theorem qd2 {l l':List Ty} {i:Nat} (h:i < l.length) (h':i < l'.length):qz (l.drop i) (l'.drop i) = (qfq (l.getD i Y0) (l'.getD i Y0) && qz (l.drop (i + 1)) (l'.drop (i + 1))):=by
 rw [qnp h,qnp h',qz]
theorem qja {l l':List Ty} {i:Nat} (h:l.length≤i) (h':l'.length≤i):qz (l.drop i) (l'.drop i) = true:=by
 rw [List.drop_of_length_le h,List.drop_of_length_le h',qz]
theorem qk0 {y:Ty} {r:List Ty}:qz [] (y :: r) = false:=by rw [qz]<;>simp
theorem qlp {y:Ty} {r:List Ty}:qz (y :: r) [] = false:=by rw [qz]<;>simp
theorem qud {l:List Ty} (h:∀ x∈l,∀ b,qfq x b = true ↔ x = b):∀ l',qz l l' = true ↔ l = l':=by
 induction l with
 | nil => intro l'; cases l' with
   | nil=>simp [qz]
   | cons y r=>rw [qk0];simp
 | cons x r ih => intro l'; cases l' with
   | nil=>rw [qlp];simp
   | cons y r' =>
     rw [qz,Bool.and_eq_true,h x (by simp),ih (fun z hz=>h z (by simp [hz]))]
     simp
theorem ty_eq {a b:Ty}:a = b ↔ (a.con = b.con∧a.var = b.var)∧a.args = b.args:=by
 cases a;cases b;simp [Ty.con,Ty.var,Ty.args,and_assoc]
theorem qj6:∀ a b,qfq a b = true ↔ a = b:=Ty.ind fun a ih b=>by
 rw [qex,Bool.and_eq_true,Bool.and_eq_true,qud ih,ty_eq,decide_eq_true_eq,decide_eq_true_eq]
theorem qsy (a:Ty):qfq a a = true:=(qj6 a a).2 rfl
def qdi (acc:List Int):List Int->List Int
 | []=>acc
 | x :: r=>if x∈acc then qdi acc r else qdi (acc ++ [x]) r
theorem qmq (acc l r:List Int):qdi acc (l ++ r) = qdi (qdi acc l) r:=by
 induction l generalizing acc with
 | nil=>rfl
 | cons x l ih=>simp only [List.cons_append,qdi];split<;>exact ih _
theorem qq2 (l acc:List Int) (x:Int):x∈qdi acc l ↔ x∈acc∨x∈l:=by
 induction l generalizing acc with
 | nil=>simp [qdi]
 | cons y l ih =>
   rw [qdi]
   split
   ·rename_i h;rw [ih];constructor
    ·rintro (h1 | h1)
     ·exact .inl h1
     ·exact .inr (by simp [h1])
    ·rintro (h1 | h1)
     ·exact .inl h1
     ·rcases List.mem_cons.1 h1 with rfl | h1
      ·exact .inl h
      ·exact .inr h1
   ·rw [ih];simp [or_assoc]
theorem qsn (l acc:List Int):(qdi acc l).length≤acc.length + l.length:=by
 induction l generalizing acc with
 | nil=>simp [qdi]
 | cons y l ih =>
   rw [qdi]
   split
   ·have:=ih acc;simp only [List.length_cons];omega
   ·have:=ih (acc ++ [y]);simp only [List.length_append,List.length_cons,List.length_nil] at this ⊢;omega

mutual
theorem qo4:∀ t,(varY t).length≤szY t
 | .mk c v l => by
   rw [varY,szY,List.length_append]
   have:=qmg l
   split<;>simp<;>omega
theorem qmg:∀ l,(qft l).length≤szYs l
 | []=>by simp [qft]
 | x :: r => by
   rw [qft,szYs,List.length_append]
   have:=qo4 x
   have:=qmg r
   omega
end
theorem qu3 (l r:List Ty):szYs (l ++ r) = szYs l + szYs r:=by
 induction l with
 | nil=>simp [szYs]
 | cons x l ih=>simp only [List.cons_append,szYs,ih];omega
theorem q23 {l:List Ty} {x:Ty} (h:x∈l):szY x≤szYs l:=by
 induction l with
 | nil=>cases h
 | cons y r ih =>
   rw [szYs]
   rcases List.mem_cons.1 h with rfl | h
   ·omega
   ·have:=ih h;omega
theorem qnr {l:List Ty} {x:Ty} (h:x∈l):dpY x≤dpYs l:=by
 induction l with
 | nil=>cases h
 | cons y r ih =>
   rw [dpYs]
   rcases List.mem_cons.1 h with rfl | h
   ·omega
   ·have:=ih h;omega

def digN (u:Nat):List UInt8:=if h:u < 10 then [UInt8.ofNat (48 + u)] else digN (u / 10) ++ [UInt8.ofNat (48 + u % 10)]
termination_by u
decreasing_by omega
theorem qca {u:Nat} (h:u < 10):digN u = [UInt8.ofNat (48 + u)]:=by rw [digN,dif_pos h]
theorem qe6 {u:Nat} (h:¬ u < 10):digN u = digN (u / 10) ++ [UInt8.ofNat (48 + u % 10)]:=by rw [digN,dif_neg h]
theorem qj7:∀ (k u:Nat),u < 10 ^ (k + 1)->(digN u).length≤k + 1
 | 0,u,h=>by rw [qca (by simpa using h)];simp
 | k + 1, u, h => by
   by_cases h10:u < 10
   ·rw [qca h10];simp
   ·rw [qe6 h10,List.length_append]
    have:=qj7 k (u / 10) (by rw [Nat.div_lt_iff_lt_mul (by omega)];rw [Nat.pow_succ] at h;exact h)
    simp;exact this
theorem qgt (u:Nat):0 < (digN u).length:=by
 by_cases h:u < 10
 ·rw [qca h];simp
 ·rw [qe6 h];simp
def digI (n:Int):List UInt8:=if n < 0 then 45 :: digN n.natAbs else digN n.natAbs
def ltrI (n:Int):List UInt8:=if n < 0 then [] else if n < 26 then [UInt8.ofNat (97 + n.toNat)] else UInt8.ofNat (97 + n.toNat % 26) :: digN (n.toNat / 26)
def qbo (t:Ty):List UInt8:=if t.con = [] then (if 0≤t.var then ltrI t.var else 63 :: digI (-1 - t.var)) else t.con
def arrW:List UInt8:=[45,62]
def parW (b:Bool) (s:List UInt8):List UInt8:=if b = true then 40 :: (s ++ [41]) else s
mutual
def txtY:Ty->List UInt8
 | .mk c v l=>if c = arrW then (match l with | [a,b]=>parW (decide (a.con = arrW)) (txtY a) ++ ([32,45,62,32] ++ txtY b) | _=>[]) else qbo (.mk c v l) ++ argY l
def argY:List Ty->List UInt8
 | []=>[]
 | a :: r=>(32 :: parW (decide (a.args≠[])) (txtY a)) ++ argY r
end
end Go.V
