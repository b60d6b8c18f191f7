/- Texts of this proof, joined. -/
import Derived.Test.YtbbjelfnocmaoaaGreatAbp
import Derived.Test.YtbbjelfnocmaoaaGreatAbg
import Derived.Test.YtbbjelfnocmaoaaGreatAbl
import Derived.Test.YtbbjelfnocmaoaaGreatAbe
import Derived.Test.YtbbjelfnocmaoaaGreatAbn
import Derived.Test.YtbbjelfnocmaoaaGreatAbo

/- matching: the program's walk -/
set_option maxRecDepth 4000
namespace Go.Proofs.YtbbjelfnocmaoaaGreat
open Go Go.RowKit Go.V
set_option linter.unusedVariables false
set_option linter.unusedSimpArgs false

/-! patterns that are let be types -/
set_option maxRecDepth 4000

set_option maxRecDepth 4000

theorem qs6 (l : List Pd) : qg Tryz.prog 19 [.sl 4 (qu l), .sl 4 (qu l)] (.bool true) := by
 have := qr7 l l
 rwa [(qiz l l).2 rfl] at this
set_option maxHeartbeats 2000000 in
theorem qpm (l : List Ins) (p : Pd) : qg Tryz.prog 4 [.sl 4 (qbn l), encP p] (.bool true) := by
 refine qc c0a (by simp) (by simp only [go_sem]) rfl fun hw => ?_
 have h10 : decide ((1 : Int) = 0) = false := rfl
 have hi := (qdz hw.1).2
 by_cases hf : fewI l = true
 case neg =>
  have hf : fewI l = false := by simpa using hf
  repeat' (first | refine vs_ ?_ | ((first | refine vr_ ?_ | refine qa (qzk hf) fun _ => ?_ | refine qa qpl fun _ => ?_ | (refine cs_ ?_ ?_ <;> intro hc) | refine cj_ ?_ | fail) <;> (try refine ev_ ?_)) | with_reducible exact ti_)
 by_cases hp : fewP [p] = true
 case neg =>
  have hp : fewP [p] = false := by simpa using hp
  have hP : qg Tryz.prog 16 [.sl 4 [encP p]] (.int .i64 0) := qpv hp
  repeat' (first | refine vs_ ?_ | ((first | refine vr_ ?_ | fail) <;> (try simp only [h10, go_sem, ↓reduceIte])) | ((first | (refine cs_ ?_ ?_ <;> intro hc) | refine cj_ ?_ | fail | refine qa (qnb hf) fun _ => ?_ | refine qa hP fun _ => ?_ | refine qa qpl fun _ => ?_) <;> (try refine ev_ ?_)) | with_reducible exact ti_)
 have hP : qg Tryz.prog 16 [.sl 4 [encP p]] (.int .i64 1) := qif hp
 have hs := q0y (fun x hx => (qdt (qls (hi x hx)).2.2.2).1) hf
 obtain ⟨_, hsz⟩ := qqy (l := [p]) (show 1 ≤ maxLen by decide) hp
 obtain ⟨h1, h2⟩ := hsz p (by simp)
 have hB := qrh (l := l) (p := p) (fun x hx => (hs x hx).1) h1 h2
 have hR := qya (l := l) (p := p) (fun x hx => (hs x hx).1) h1 h2
 obtain ⟨⟨k, m, b⟩, hq⟩ : ∃ q, byI l p = q := ⟨_, rfl⟩
 rw [hq] at hB hR
 have hT : byA (k, m, b) = .tup [.int .i64 k, .sl 4 (qu m), .bool b] := rfl
 rw [hT] at hB hR
 repeat' (first | refine vs_ ?_ | ((first | refine vr_ ?_ | fail) <;> (try simp only [h10, go_sem, ↓reduceIte])) | ((first | (refine cs_ ?_ ?_ <;> intro hc) | refine cj_ ?_ | fail | refine qa (qnb hf) fun _ => ?_ | refine qa hP fun _ => ?_ | refine qa hB fun _ => ?_ | refine qa hR fun _ => ?_ | refine qa (qs6 m) fun _ => ?_ | refine qa qpl fun _ => ?_) <;> (try refine ev_ ?_)) | with_reducible exact ti_)
 all_goals (exfalso; revert hc; simp)
end Go.Proofs.YtbbjelfnocmaoaaGreat
