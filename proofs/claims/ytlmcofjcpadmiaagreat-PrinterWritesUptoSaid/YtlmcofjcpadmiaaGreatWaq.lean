/- Texts of this proof, joined. -/
import Derived.Test.YtlmcofjcpadmiaaGreatWaj
set_option linter.unusedVariables false
set_option linter.unusedSimpArgs false

/-
 Types as data.
-/
namespace Go.V
open Go Go.RowKit

end Go.V

/-
 Types: how great they are, their variables, whether two are the same; texts of numbers.
-/
namespace Go.V
open Go Go.RowKit

def digN (u:Nat):List UInt8:=if h:u < 10 then [UInt8.ofNat (48 + u)] else digN (u / 10) ++ [UInt8.ofNat (48 + u % 10)]
termination_by u
decreasing_by omega
theorem qe4 {u:Nat} (h:u < 10):digN u = [UInt8.ofNat (48 + u)]:=by rw [digN,dif_pos h]
theorem qm2 {u:Nat} (h:¬ u < 10):digN u = digN (u / 10) ++ [UInt8.ofNat (48 + u % 10)]:=by rw [digN,dif_neg h]
theorem qn0:∀ (k u:Nat),u < 10 ^ (k + 1)->(digN u).length≤k + 1
 | 0,u,h=>by rw [qe4 (by simpa using h)];simp
 | k + 1, u, h => by
   by_cases h10:u < 10
   ·rw [qe4 h10];simp
   ·rw [qm2 h10,List.length_append]
    have:=qn0 k (u / 10) (by rw [Nat.div_lt_iff_lt_mul (by omega)];rw [Nat.pow_succ] at h;exact h)
    simp;exact this
theorem qxx (u:Nat):0 < (digN u).length:=by
 by_cases h:u < 10
 ·rw [qe4 h];simp
 ·rw [qm2 h];simp
def digI (n:Int):List UInt8:=if n < 0 then 45 :: digN n.natAbs else digN n.natAbs
end Go.V
