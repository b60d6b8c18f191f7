/- A text of this proof. -/
import Derived.Test.YtfjbmjplnmaclaaWat
import Derived.Lib.Join

/- the lexer: plain laws -/
namespace Go.Proofs.Ytfjbmjplnmaclaa
open Go Go.RowKit Go.V
set_option linter.unusedVariables false
set_option linter.unusedSimpArgs false

/-! Where it fails. -/
theorem qme {s : List UInt8} (h : s.length ≤ 1048576) : lexV s = if (lexG s (qb9 s)).2.2 = 0 then ((lexG s (qb9 s)).1 ++ [⟨0, s.length, 0, []⟩], 0, 0) else lexG s (qb9 s) := by
  rw [lexV, if_neg (by omega), qj5]
/-! Each word stands where it says. -/
end Go.Proofs.Ytfjbmjplnmaclaa
