/- A text of this proof. -/
import Derived.Test.YtmekebfgmjaenaaGreatEbl

/- types: what is read is legal -/
namespace Go.Proofs.YtmekebfgmjaenaaGreat
open Go Go.RowKit Go.V
set_option linter.unusedVariables false
set_option linter.unusedSimpArgs false

theorem q6q {n : N} (h : sz n ≤ 1000000) : lowW n = decide (depR n ≤ 100) := by
  rw [lowW, q98 n 1 false (by omega) (by omega), q35 n (by omega)]
  congr 1; simp only [eq_iff_iff]; omega
theorem qt7 : ∀ {l : List T} {t : T}, t ∈ qgj l → t ∈ l
  | [], t, h => h
  | u :: r, t, h => by
    rw [qgj] at h
    split at h
    · simp at h
    · rcases List.mem_cons.1 h with rfl | h
      · simp
      · exact List.mem_cons_of_mem _ (qt7 h)
theorem qboq (s : List UInt8) : okK (newK (lexV s).1) := fun t ht => qz7 t (qt7 ht)
end Go.Proofs.YtmekebfgmjaenaaGreat
