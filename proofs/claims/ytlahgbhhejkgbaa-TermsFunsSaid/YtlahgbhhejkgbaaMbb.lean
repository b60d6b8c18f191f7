/- Texts of this proof, joined. -/
import Derived.Test.YtlahgbhhejkgbaaMas
import Derived.Test.YtlahgbhhejkgbaaMba

/- terms: awake -/
set_option maxRecDepth 4000
namespace Go.Proofs.Ytlahgbhhejkgbaa
open Go Go.RowKit Go.V
set_option linter.unusedVariables false
set_option linter.unusedSimpArgs false

def wQ : Ty := ⟨[84], 0, [⟨[], -1, []⟩]⟩
def F16 : Ty := fun2 Y0 (fun2 wQ Y0)
def R16 : Ty := fun2 Y0 wQ
theorem tx1 : qe4 R16 = [97, 32, 45, 62, 32, 84, 32, 63, 48] := by decide +kernel
theorem tx2 : qe4 F16 = [97, 32, 45, 62, 32, 84, 32, 63, 48, 32, 45, 62, 32, 97] := by decide +kernel
theorem rr1 : qdb [97, 32, 45, 62, 32, 84, 32, 63, 48] = (R16, ⟨[], 0, false⟩) := by rfl
theorem rr2 : qdb [97, 32, 32, 45, 62, 32, 98] = (⟨[], 0, [⟨[], 0, []⟩]⟩, ⟨[32, 45, 62, 32, 98], 0, true⟩) := by rfl
theorem ry1 : qk8 [97, 32, 45, 62, 32, 84, 32, 63, 48] = (R16, 0) := by rw [qk8, rr1]; exact (if_neg (by decide)).trans ((if_pos rfl).trans (if_pos tx1))
theorem ry2 : qk8 [97, 32, 32, 45, 62, 32, 98] = (Y0, 5) := by rw [qk8, rr2]; exact if_pos rfl
theorem qt8 : qk Try.prog 29 [.str [97, 32, 45, 62, 32, 84, 32, 63, 48]] (.tup [encY R16, .int .i64 0]) := by
 have h := qh4 (s := [97, 32, 45, 62, 32, 84, 32, 63, 48]) (qpn rr1 (by decide) (by decide) (by decide) (by decide) (by rw [tx1]; decide))
 rwa [ry1] at h
theorem qr9 : qk Try.prog 29 [.str [97, 32, 32, 45, 62, 32, 98]] (.tup [encY Y0, .int .i64 5]) := by
 have h := qh4 (s := [97, 32, 32, 45, 62, 32, 98]) (qpn rr2 (by decide) (by decide) (by decide) (by decide) (by decide +kernel))
 rwa [ry2] at h
theorem q44 : qk Try.prog 24 [.sl 3 (qi [Y0, wQ]), encY Y0] (encY F16) := qjc [Y0, wQ] Y0
theorem qud : qk Try.prog 25 [encY F16] (.tup [.sl 3 (qi [Y0, wQ]), encY Y0]) := qd8 (t := F16) (by decide)
theorem qvc : qk Try.prog 31 [encY R16] (.str [97, 32, 45, 62, 32, 84, 32, 63, 48]) := by
 have h := qe9 (t := R16) (by decide) (by decide) (by rw [tx1]; decide)
 rwa [tx1] at h
theorem qua : qk Try.prog 31 [encY F16] (.str [97, 32, 45, 62, 32, 84, 32, 63, 48, 32, 45, 62, 32, 97]) := by
 have h := qe9 (t := F16) (by decide) (by decide) (by rw [tx2]; decide)
 rwa [tx2] at h
theorem qyl : qk Try.prog 22 [encY Y0, encY Y0] (.bool true) := qnr Y0 Y0
def wArr : Ty := ⟨[45, 62], 0, []⟩
def wFix : Ty := ⟨[33, 51], 0, []⟩
theorem q2v : qk Try.prog 11 [encY F16] (.bool true) := by
 have h := qce (t := F16) (by decide) (by decide)
 rwa [show qd1 F16 = true by decide +kernel] at h
theorem qx9 : qk Try.prog 11 [encY wArr] (.bool false) := by
 have h := qce (t := wArr) (by decide) (by decide)
 rwa [show qd1 wArr = false by decide +kernel] at h
theorem qz7 : qk Try.prog 11 [encY wFix] (.bool true) := by
 have h := qce (t := wFix) (by decide) (by decide)
 rwa [show qd1 wFix = true by decide +kernel] at h
theorem q3l : qk Try.prog 13 [encY F16] (.int .i64 6) := by
 have h := qna F16
 rw [qj9 F16 0 1 (by decide) (by decide)] at h
 exact h
theorem qse : qk Try.prog 15 [encY wQ] (.int .i64 2) := by
 have h := qkw wQ
 rw [qj6 wQ 0 1 (by decide) (by decide) (by decide)] at h
 exact h
theorem q1z : qk Try.prog 20 [encY wQ, .int .i64 (-1)] (.bool true) := qjg wQ (-1)
theorem qyx : qk Try.prog 20 [encY wQ, .int .i64 0] (.bool false) := qjg wQ 0
theorem q14 : qk Try.prog 18 [encY F16] (.sl 1 (ints [0, -1])) := qns F16 (by decide)
theorem q1b : qk Try.prog 17 [.sl 1 (ints [0, -1]), .sl 1 (ints [0, -1])] (.bool true) := qnt [0, -1] [0, -1]
theorem qdi : qk Try.prog 10 [] (.bool true) := by
 refine qf c0c (by simp) rfl rfl fun hw => ?_
 have h2 : ((qi [Y0, wQ]).length : Int) = 2 := rfl
 repeat' (first | refine vs_ ?_ | ((first | refine vr_ ?_ | fail) <;> (try simp only [h2, go_sem, ↓reduceIte])) | ((first | (refine cs_ ?_ ?_ <;> intro hc) | refine cj_ ?_ | fail | refine qa q44 fun _ => ?_ | refine qa qud fun _ => ?_ | refine qa qt8 fun _ => ?_ | refine qa qr9 fun _ => ?_ | refine qa qvc fun _ => ?_ | refine qa qyl fun _ => ?_ | refine qa qua fun _ => ?_ | refine qa q2v fun _ => ?_ | refine qa qx9 fun _ => ?_ | refine qa qz7 fun _ => ?_ | refine qa q3l fun _ => ?_ | refine qa qse fun _ => ?_ | refine qa q1z fun _ => ?_ | refine qa qyx fun _ => ?_ | refine qa q14 fun _ => ?_ | refine qa q1b fun _ => ?_) <;> (try refine ev_ ?_)) | with_reducible exact ti_)
 exact absurd rfl hc
set_option maxRecDepth 4000

theorem qdy {f : FuncId} {args : List AV} {r r' : AV} (h : qk Try.prog f args r) (e : r = r') : qk Try.prog f args r' := e ▸ h
theorem qe5 {l : List Ty} (h : qdr l = true) : qk Try.prog 9 [.sl 3 (qi l)] (.int .i64 1) := qdy (q7j l) (by rw [h]; rfl)
theorem qmc {l : List Ty} (h : qdr l = false) : qk Try.prog 9 [.sl 3 (qi l)] (.int .i64 0) := qdy (q7j l) (by rw [h]; rfl)
theorem qpo {l : List Ty} (hl : l.length ≤ maxLen) (h : qdr l = true) {x : Ty} (hx : x ∈ l) : szY x ≤ 20000 ∧ dpY x ≤ 300 := by
 have := qyz hl h
 have h1 := qxw hx
 have h2 := qq0 hx
 omega
set_option maxRecDepth 4000

theorem qj3 (l m : List Ty) : qk Try.prog 27 [.sl 3 (qi l), .sl 3 (qi m)] (.bool (qn l m)) := by
 refine qf c0a (by simp) (by simp only [go_sem]) rfl fun hw => ?_
 have hl : l.length ≤ maxLen := by have := hw.1.1; rwa [qbf] at this
 by_cases hlm : l.length = m.length
 ·have hlmi : (l.length : Int) = m.length := by omega
  repeat' (first | refine vs_ ?_ | ((first | refine vr_ ?_ | fail) <;> (try simp only [hlmi, go_sem, ↓reduceIte])) | ((first | (refine cs_ ?_ ?_ <;> intro hc) | refine cj_ ?_ | simp (disch := omega) only [encs_getN, qc]) <;> (try refine ev_ ?_)) | with_reducible exact ti_)
  refine q7 (S := Nat) (fun i => i ≤ l.length ∧ qn (l.drop i) (m.drop i) = qn l m) (fun i => (⟨[(0, .sl 3 (qi l)), (1, .sl 3 (qi m)), (5, .int .i64 i)], []⟩, [])) (fun i => l.length - i) ?_ fun i hi => ?_
  ·refine qt 0 [] ⟨Nat.zero_le _, rfl⟩ rfl (by simp) ?_ ?_ ?_ <;> (try refine ev_ ?_) <;> (try with_reducible exact ti_) <;> (try simp (disch := omega) only [qc, and_true, true_and])
  ·obtain ⟨hi, ha⟩ := hi
   by_cases hlt : i < l.length
   ·have hmt : i < m.length := by omega
    rw [qcc hlt hmt] at ha
    repeat' (first | refine vs_ ?_ | ((first | refine vr_ ?_ | fail) <;> (try simp (disch := first | omega | (simp only [List.length_set, List.length_append, List.length_cons, List.length_nil]; done) | (simp only [List.length_set, List.length_append, List.length_cons, List.length_nil]; omega)) only [qu, qc, go_sem, ↓reduceIte])) | ((first | (refine cs_ ?_ ?_ <;> intro hc) | refine cj_ ?_ | simp (disch := omega) only [encs_getN, qc] | refine qa (qdw _ _) fun _ => ?_ | refine qe (qdw _ _) ?_) <;> (try refine ev_ ?_)) | with_reducible exact ti_)
    ·rw [← ha, hc]; rfl
    ·refine qt (i + 1) [] ⟨⟨by omega, by rw [← ha, hc, Bool.true_and]⟩, by omega⟩ rfl (by simp) ?_ ?_ ?_ <;> (try refine ev_ ?_) <;> (try with_reducible exact ti_) <;> (try simp (disch := omega) only [qc, and_true, true_and])
    ·exfalso; omega
   ·rw [qfc (by omega) (by omega)] at ha
    repeat' (first | refine vs_ ?_ | ((first | refine vr_ ?_ | (refine cs_ ?_ ?_ <;> intro hc) | refine cj_ ?_ | simp (disch := omega) only [encs_getN, qc]) <;> (try refine ev_ ?_)) | with_reducible exact ti_)
    all_goals first | (exfalso; omega) | (rw [← ha])
 ·have hlmi : ¬ (l.length : Int) = m.length := by omega
  repeat' (first | refine vs_ ?_ | ((first | refine vr_ ?_ | fail) <;> (try simp only [hlmi, go_sem, ↓reduceIte])) | ((first | (refine cs_ ?_ ?_ <;> intro hc) | refine cj_ ?_ | simp (disch := omega) only [encs_getN, qc]) <;> (try refine ev_ ?_)) | with_reducible exact ti_)
  rw [qe2 hlm]
theorem qg5 (l : List Ty) : qn l l = true := (qhv l l).2 rfl
set_option maxHeartbeats 2000000 in
theorem qr3 (l : List Ty) (t : Ty) : qk Try.prog 5 [.sl 3 (qi l), encY t] (.bool true) := by
 refine qf c0b (by simp) (by simp only [AV.bds, AV.bd, qbv, qbj, Bool.and_true]) rfl fun hw => ?_
 have hll : l.length ≤ maxLen := by have := hw.1.1; rwa [qbf] at this
 have h10 : decide ((1 : Int) = 0) = false := rfl
 by_cases h1 : 50 < (l.length : Int)
 ·repeat' (first | refine vs_ ?_ | ((first | refine vr_ ?_ | fail) <;> (try simp only [h1, decide_true, go_sem, ↓reduceIte])) | ((first | (refine cs_ ?_ ?_ <;> intro hc) | refine cj_ ?_ | simp (disch := omega) only [encs_getN, qc] | refine qa qdi fun _ => ?_ | refine qe qdi ?_) <;> (try refine ev_ ?_)) | with_reducible exact ti_)
 by_cases hf : qdr [t] = true
 case neg =>
  have hf : qdr [t] = false := by simpa using hf
  repeat' (first | refine vs_ ?_ | ((first | refine vr_ ?_ | fail) <;> (try simp only [h1, decide_false, decide_true, go_sem, ↓reduceIte])) | ((first | (refine cs_ ?_ ?_ <;> intro hc) | refine cj_ ?_ | simp (disch := omega) only [encs_getN, qc] | refine qa (qmc hf) fun _ => ?_ | refine qa qdi fun _ => ?_ | refine qe (qmc hf) ?_ | refine qe qdi ?_) <;> (try refine ev_ ?_)) | with_reducible exact ti_)
 by_cases hfl : qdr l = true
 case neg =>
  have hfl : qdr l = false := by simpa using hfl
  repeat' (first | refine vs_ ?_ | ((first | refine vr_ ?_ | fail) <;> (try simp only [h1, decide_false, decide_true, h10, go_sem, ↓reduceIte])) | ((first | (refine cs_ ?_ ?_ <;> intro hc) | refine cj_ ?_ | simp (disch := omega) only [encs_getN, qc] | refine qa (qe5 hf) fun _ => ?_ | refine qa (qmc hfl) fun _ => ?_ | refine qa qdi fun _ => ?_ | refine qe (qe5 hf) ?_ | refine qe (qmc hfl) ?_ | refine qe qdi ?_) <;> (try refine ev_ ?_)) | with_reducible exact ti_)
 obtain ⟨q1, q2⟩ := qpo (l := [t]) (by simp [maxLen]) hf (x := t) (by simp)
 have hdF : ∀ r : List Ty, (∀ x ∈ r, dpY x ≤ 300) → dpY (funY r t) ≤ 301 + r.length := fun r => by
  induction r with
  | nil => intro _; show dpY t ≤ _; omega
  | cons x r ih =>
    intro hx
    have := ih fun y hy => hx y (by simp [hy])
    have h2 := hx x (by simp)
    show dpY (fun2 x (funY r t)) ≤ _
    rw [fun2, dpY, List.length_cons]
    simp only [dpYs]
    omega
 have hdf := hdF l fun x hx => (qpo hll hfl hx).2
 have a1 := qjc l t
 have a2 := qd8 (t := t) (by omega)
 have a3 := qk2 (t := t) (by omega)
 have a4 := qd8 (t := funY l t) (by omega)
 have a5 := qrg l t
 rw [qub] at a4
 obtain ⟨⟨c, d⟩, hcd⟩ : ∃ p, splY t = p := ⟨_, rfl⟩
 rw [hcd] at a2 a3 a4
 have a2 : qk Try.prog 25 [encY t] (.tup [.sl 3 (qi c), encY d]) := a2
 have a3 : qk Try.prog 26 [encY t] (.tup [.sl 3 (qi c), encY d]) := a3
 have a4 : qk Try.prog 25 [encY (funY l t)] (.tup [.sl 3 (qi (l ++ c)), encY d]) := a4
 generalize funY l t = F at a1 a4 a5
 have hlc : ((l ++ c).length : Int) = l.length + c.length := by simp
 have hw2 : IntKind.i64.wrap ((l.length : Int) + c.length) = (l.length : Int) + c.length := by
  have h1 := qsx t
  rw [hcd] at h1
  exact qx (by omega) (by dsimp only at h1; omega)
 repeat' (first | refine vs_ ?_ | ((first | refine vr_ ?_ | fail) <;> (try simp only [h1, h10, decide_false, go_sem, ↓reduceIte])) | ((first | (refine cs_ ?_ ?_ <;> intro hc) | refine cj_ ?_ | simp (disch := omega) only [encs_getN, qc] | refine qa (qe5 hf) fun _ => ?_ | refine qa (qe5 hfl) fun _ => ?_ | refine qa a1 fun _ => ?_ | refine qa a2 fun _ => ?_ | refine qa a3 fun _ => ?_ | refine qa a4 fun _ => ?_ | refine qe (qe5 hf) ?_ | refine qe (qe5 hfl) ?_ | refine qe a1 ?_ | refine qe a2 ?_ | refine qe a3 ?_ | refine qe a4 ?_) <;> (try refine ev_ ?_)) | with_reducible exact ti_)
 all_goals try (exfalso; revert hc; simp [hw2]; done)
 have s1 := qdy (qdw d d) (r' := .bool true) (by rw [qja])
 have htk : List.take l.length (qi (l ++ c)) = qi l := by
  rw [← qol, List.take_left']
  rw [qbf]
 have s2 := qdy (qj3 l l) (r' := .bool true) (by rw [qg5])
 have s3 := qdy (qj3 c c) (r' := .bool true) (by rw [qg5])
 have s4 := qdy (qdw F F) (r' := .bool true) (by rw [qja])
 repeat' (first | refine vs_ ?_ | ((first | refine vr_ ?_ | fail) <;> (try simp only [htk, go_sem, ↓reduceIte])) | ((first | simp (disch := omega) only [htk] | (refine cs_ ?_ ?_ <;> intro hc) | refine cj_ ?_ | simp (disch := omega) only [encs_getN, qc] | refine qa s1 fun _ => ?_ | refine qa s2 fun _ => ?_ | refine qa a5 fun _ => ?_ | refine qa s4 fun _ => ?_ | refine qa s3 fun _ => ?_ | refine qa qdi fun _ => ?_ | refine qe s1 ?_ | refine qe s2 ?_ | refine qe a5 ?_ | refine qe s4 ?_ | refine qe s3 ?_ | refine qe qdi ?_) <;> (try refine ev_ ?_)) | with_reducible exact ti_)
end Go.Proofs.Ytlahgbhhejkgbaa
