/- A text of this proof. -/
import Derived.Test.YtbbjelfnocmaoaaGreatDbp
import Derived.Test.YtbbjelfnocmaoaaGreatDbq

/- instances' heads: the law of checks and texts -/
set_option maxRecDepth 4000
namespace Go.Proofs.YtbbjelfnocmaoaaGreat
open Go Go.RowKit Go.V
set_option linter.unusedVariables false
set_option linter.unusedSimpArgs false

set_option maxHeartbeats 2000000 in
theorem qjr (l : List Ins) (x : Ins) (hx : fewI [x] = true → okI x) : qg Tryz.prog 3 [.sl 4 (qbo l), encI x] (.bool true) := by
 refine qd c0dm (by simp) (by simp only [go_sem]) rfl fun hw => ?_
 have h10 : decide ((1 : Int) = 0) = false := rfl
 by_cases hf : fewI l = true
 case neg =>
  have hf : fewI l = false := by simpa using hf
  repeat' (first | refine vs_ ?_ | ((first | refine vr_ ?_ | refine qa (qmp hf) fun _ => ?_ | refine qa qha fun _ => ?_ | refine qc (qmp hf) ?_ | refine qc qha ?_ | (refine cs_ ?_ ?_ <;> intro hc) | refine cj_ ?_ | fail) <;> (try refine ev_ ?_)) | with_reducible exact ti_)
 by_cases hp : fewI [x] = true
 case neg =>
  have hp : fewI [x] = false := by simpa using hp
  have hP : qg Tryz.prog 6 [.sl 4 [encI x]] (.int .i64 0) := qmp hp
  repeat' (first | refine vs_ ?_ | ((first | refine vr_ ?_ | fail) <;> (try simp only [h10, go_sem, ↓reduceIte])) | ((first | (refine cs_ ?_ ?_ <;> intro hc) | refine cj_ ?_ | fail | refine qa (qek hf) fun _ => ?_ | refine qa hP fun _ => ?_ | refine qa qha fun _ => ?_ | refine qc (qek hf) ?_ | refine qc hP ?_ | refine qc qha ?_) <;> (try refine ev_ ?_)) | with_reducible exact ti_)
 have hP : qg Tryz.prog 6 [.sl 4 [encI x]] (.int .i64 1) := qek hp
 have hx := hx hp
 have hO := qge l
 have hO' := qlm l
 have hF := qg0 l x.cls x.con
 have hF' := qli l x.cls x.con
 have hC := qd5 x
 have hC' := qii x
 have hT := qkq hx
 have hT' := qs3 hx
 generalize ovlI l l.length 0 = o at hO hO'
 obtain ⟨a, b, c⟩ := o
 have hov : ovlA (a, b, c) = .tup [.int .i64 a, .int .i64 b, .bool c] := rfl
 rw [hov] at hO hO'
 generalize fndI x.cls x.con l 0 = g at hF hF'
 obtain ⟨i, ok⟩ := g
 dsimp only at hF hF'
 generalize chkI x = ck at hC hC'
 generalize txtI x = tx at hT hT'
 repeat' (first | refine vs_ ?_ | ((first | refine vr_ ?_ | fail) <;> (try simp only [h10, go_sem, ↓reduceIte])) | ((first | (refine cs_ ?_ ?_ <;> intro hc) | refine cj_ ?_ | fail | refine qa (qek hf) fun _ => ?_ | refine qa hP fun _ => ?_ | refine qa hO fun _ => ?_ | refine qa hO' fun _ => ?_ | refine qa hF fun _ => ?_ | refine qa hF' fun _ => ?_ | refine qc (qek hf) ?_ | refine qc hP ?_ | refine qc hO ?_ | refine qc hO' ?_ | refine qc hF ?_ | refine qc hF' ?_) <;> (try refine ev_ ?_)) | with_reducible exact ti_)
 all_goals try (exfalso; omega)
 repeat' (first | refine vs_ ?_ | ((first | refine vr_ ?_ | fail) <;> (try simp only [h10, go_sem, ↓reduceIte])) | ((first | (refine cs_ ?_ ?_ <;> intro hc) | refine cj_ ?_ | fail | refine qa hC fun _ => ?_ | refine qa hC' fun _ => ?_ | refine qa hT fun _ => ?_ | refine qa hT' fun _ => ?_ | refine qa qha fun _ => ?_ | refine qc hC ?_ | refine qc hC' ?_ | refine qc hT ?_ | refine qc hT' ?_ | refine qc qha ?_) <;> (try refine ev_ ?_)) | with_reducible exact ti_)
 all_goals (exfalso; revert hc; simp)
end Go.Proofs.YtbbjelfnocmaoaaGreat
