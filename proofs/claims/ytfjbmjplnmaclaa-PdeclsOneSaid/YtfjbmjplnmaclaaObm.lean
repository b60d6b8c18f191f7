/- Texts of this proof, joined. -/
import Derived.Test.YtfjbmjplnmaclaaObi
import Derived.Test.YtfjbmjplnmaclaaObl

/- types: of a text: the reference; the statements' functions -/
namespace Go.Proofs.Ytfjbmjplnmaclaa
open Go Go.RowKit Go.V
set_option linter.unusedVariables false
set_option linter.unusedSimpArgs false

theorem q30 : ∀ n, qvg n n = true := N.ind fun n ih => by
  rw [qh2]
  have key : ∀ l : List N, (∀ x ∈ l, qvg x x = true) → qev l l = true := by
    intro l
    induction l with
    | nil => intro _; rw [qev]
    | cons x r ihr => intro h; rw [qev, h x (by simp), ihr fun y hy => h y (by simp [hy])]; rfl
  simp [key n.kids ih]

end Go.Proofs.Ytfjbmjplnmaclaa
