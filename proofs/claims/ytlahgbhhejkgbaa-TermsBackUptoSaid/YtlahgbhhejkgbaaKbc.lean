/- A text of this proof. -/
import Derived.Test.YtlahgbhhejkgbaaKan
set_option linter.unusedVariables false
set_option linter.unusedSimpArgs false

/- how long the names of types are -/
namespace Go.V
open Go Go.RowKit
theorem qi3 {u:Nat} (h:u≤9223372036854775808):(digN u).length≤19:=qj7 18 u (by omega)
theorem qtw {t:Ty} (h1:-9223372036854775808≤t.var) (h2:t.var≤9223372036854775807):(qbo t).length≤t.con.length + 21:=by
 rw [qbo]
 split
 ·split
  ·rw [ltrI]
   split
   ·simp
   ·split
    ·simp
    ·have:=qi3 (u:=t.var.toNat / 26) (by omega)
     rw [List.length_cons];omega
  ·rw [List.length_cons,digI]
   have:=qi3 (u:=(-1 - t.var).natAbs) (by omega)
   split
   ·rw [List.length_cons];omega
   ·omega
 ·omega
end Go.V
