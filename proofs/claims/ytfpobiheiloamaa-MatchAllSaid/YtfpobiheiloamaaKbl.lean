/- Texts of this proof, joined. -/
import Derived.Test.YtfpobiheiloamaaKbh
import Derived.Test.YtfpobiheiloamaaKbi
import Derived.Test.YtfpobiheiloamaaKbk
import Derived.Test.YtfpobiheiloamaaKbg

/- matching: awake -/
set_option maxRecDepth 4000
namespace Go.Proofs.Ytfpobiheiloamaa
open Go Go.RowKit Go.V
set_option linter.unusedVariables false
set_option linter.unusedSimpArgs false

theorem qb5 {s : List UInt8} {t : Ty} {e : Int} (h : rdOK s) (hr : qxt s = (t, e)) : qj Try.prog 90 [.str s] (encY t) := by
 have hR := qqy h
 rw [hr] at hR
 refine qe c0ba (by simp) (by simp only [go_sem]) (qbg 0 _) fun hw => ?_
 repeat' (first | refine vs_ ?_ | ((first | refine vr_ ?_ | refine qa hR fun _ => ?_ | (refine cs_ ?_ ?_ <;> intro hc) | refine cj_ ?_ | fail) <;> (try refine ev_ ?_)) | with_reducible exact ti_)
theorem qew {s : List UInt8} {t : Ty} {r : Rd} (h1 : qek s = (t, r)) (h2 : s.length < 1000) (h3 : s.all (fun b => decide (b.toNat < 128)) = true) (h4 : szY t ≤ 20000) (h5 : dpY t ≤ 300) (h6 : (qh3 t).length ≤ 1000) : rdOK s :=
 ⟨⟨by omega, fun b hb => by have := List.all_eq_true.1 h3 b hb; simpa using this⟩, by rw [h1]; exact h4, by rw [h1]; exact h5, by rw [h1]; unfold Big; dsimp only; omega⟩
def wC : Ty := ⟨[], 2, []⟩
def wTA : Ty := ⟨[84], 0, [Y0]⟩
def fn2 (a b : Ty) : Ty := ⟨[45, 62], 0, [a, b]⟩
theorem qbed : qj Try.prog 90 [.str [97, 32, 45, 62, 32, 97]] (encY (fn2 Y0 Y0)) := qb5 (qew (t := fn2 Y0 Y0) (r := ⟨[], 0, false⟩) rfl (by decide) (by decide) (by decide) (by decide) (by decide)) (e := 0) rfl
theorem qbjs : qj Try.prog 90 [.str [84, 32, 45, 62, 32, 85]] (encY (fn2 wT wU)) := qb5 (qew (t := fn2 wT wU) (r := ⟨[], 0, false⟩) rfl (by decide) (by decide) (by decide) (by decide) (by decide)) (e := 0) rfl
theorem qbc1 : qj Try.prog 90 [.str [97, 32, 45, 62, 32, 98]] (encY (fn2 Y0 wB)) := qb5 (qew (t := fn2 Y0 wB) (r := ⟨[], 0, false⟩) rfl (by decide) (by decide) (by decide) (by decide) (by decide)) (e := 0) rfl
theorem qbkf : qj Try.prog 90 [.str [98, 32, 45, 62, 32, 84, 32, 97]] (encY (fn2 wB wTA)) := qb5 (qew (t := fn2 wB wTA) (r := ⟨[], 0, false⟩) rfl (by decide) (by decide) (by decide) (by decide) (by decide)) (e := 0) rfl
theorem qbjv : qj Try.prog 90 [.str [98, 32, 45, 62, 32, 99]] (encY (fn2 wB wC)) := qb5 (qew (t := fn2 wB wC) (r := ⟨[], 0, false⟩) rfl (by decide) (by decide) (by decide) (by decide) (by decide)) (e := 0) rfl
theorem rd_a : qj Try.prog 90 [.str [97]] (encY Y0) := qb5 (qew (t := Y0) (r := ⟨[], 0, false⟩) rfl (by decide) (by decide) (by decide) (by decide) (by decide)) (e := 0) rfl
theorem rd_t : qj Try.prog 90 [.str [84]] (encY wT) := qb5 (qew (t := wT) (r := ⟨[], 0, false⟩) rfl (by decide) (by decide) (by decide) (by decide) (by decide)) (e := 0) rfl
def M1 : List Pr := [⟨0, wB⟩, ⟨1, wTA⟩]
theorem mt1 : matP (fn2 Y0 Y0) (fn2 wT wU) = ([], 14) := by rfl
theorem mt2 : matP (fn2 Y0 wB) (fn2 wB wTA) = (M1, 0) := by rfl
theorem M1_ok : okS M1 := by have h : okS (matP (fn2 Y0 wB) (fn2 wB wTA)).1 := qtf; rwa [mt2] at h
theorem ma1 : VCalls Try.prog 52 [] [encY (fn2 Y0 Y0), encY (fn2 wT wU)] (newQ [] ([], 14)) := mt1 ▸ qem (by decide) (by decide) (by decide) (by decide)
theorem ma2 : VCalls Try.prog 52 [] [encY (fn2 Y0 wB), encY (fn2 wB wTA)] (newQ [] (M1, 0)) := mt2 ▸ qem (by decide) (by decide) (by decide) (by decide)
theorem mg1 : VM Try.prog 37 (subE M1) (subE M1) [.ptr 0 0, .int .i64 0] (.tup [encY wB, .bool true]) := qn9 M1_ok.1 (by decide) 0
theorem mb1 : qj Try.prog 54 [encY Y0, encY wT] (.bool true) := qde (by decide) (by decide) (by decide) (by decide)
theorem mb2 : qj Try.prog 54 [encY wT, encY Y0] (.bool false) := qde (by decide) (by decide) (by decide) (by decide)
theorem mk1 : qj Try.prog 56 [encY (fn2 Y0 wB), encY (fn2 wB wC)] (.bool true) := qil (by decide) (by decide) (by decide) (by decide)
theorem mk2 : qj Try.prog 56 [encY (fn2 Y0 wB), encY (fn2 Y0 Y0)] (.bool false) := qil (by decide) (by decide) (by decide) (by decide)
theorem bds2 (a b : Ty) : AV.bds 0 [encY a, encY b] = true := by simp only [AV.bds, qbg, Bool.and_true]
theorem qgb : qj Try.prog 51 [] (.bool true) := by
 refine qe c0bb (by simp) rfl rfl fun hw => ?_
 have hv : wB.var = 1 := rfl
 repeat' (first | refine vs_ ?_ | ((first | refine vr_ ?_ | fail) <;> (try simp only [hv, go_sem, ↓reduceIte])) | ((first | (refine cs_ ?_ ?_ <;> intro hc) | refine cj_ ?_ | fail | refine qa qbed fun _ => ?_ | refine qa qbjs fun _ => ?_ | refine qa qbc1 fun _ => ?_ | refine qa qbkf fun _ => ?_ | refine qj3 ma1 (bds2 _ _) rfl (by decide) ?_ | refine qj1 ma2 (bds2 _ _) rfl ?_ | refine qhc 0 mg1 rfl rfl ?_) <;> (try refine ev_ ?_)) | with_reducible exact ti_)
 repeat' (first | refine vs_ ?_ | ((first | refine vr_ ?_ | fail) <;> (try simp only [hv, go_sem, ↓reduceIte])) | ((first | (refine cs_ ?_ ?_ <;> intro hc) | refine cj_ ?_ | fail | refine qa rd_a fun _ => ?_ | refine qa rd_t fun _ => ?_ | refine qa mb1 fun _ => ?_ | refine qa mb2 fun _ => ?_) <;> (try refine ev_ ?_)) | with_reducible exact ti_)
 repeat' (first | refine vs_ ?_ | ((first | refine vr_ ?_ | fail) <;> (try simp only [hv, go_sem, ↓reduceIte])) | ((first | (refine cs_ ?_ ?_ <;> intro hc) | refine cj_ ?_ | fail | refine qa qbc1 fun _ => ?_ | refine qa qbjv fun _ => ?_ | refine qa qbed fun _ => ?_ | refine qa mk1 fun _ => ?_ | refine qa mk2 fun _ => ?_) <;> (try refine ev_ ?_)) | with_reducible exact ti_)
set_option maxRecDepth 4000

theorem qdw {l : List Ty} (h : qeb l = true) : qj Try.prog 31 [.sl 3 (qi l)] (.int .i64 1) := qk3 (qbe1 l) (by rw [h]; rfl)
theorem qo1 {l : List Ty} (h : qeb l = false) : qj Try.prog 31 [.sl 3 (qi l)] (.int .i64 0) := qk3 (qbe1 l) (by rw [h]; rfl)
set_option maxRecDepth 4000

theorem qrf : qj Try.prog 41 [.nilp] (.sl 4 (qr [])) := by
 refine qe c0cm (by simp) rfl rfl fun hw => ?_
 repeat' (first | refine vs_ ?_ | ((first | refine vr_ ?_ | (refine cs_ ?_ ?_ <;> intro hc) | refine cj_ ?_ | simp (disch := omega) only [encs_getN, qb]) <;> (try refine ev_ ?_)) | with_reducible exact ti_)
 rfl
theorem qr6 (l : List Pr) : qj Try.prog 40 [.sl 4 (qr l), .sl 4 (qr l)] (.bool true) := qk3 (qri l l) (by rw [(qhm l l).2 rfl])
set_option maxRecDepth 4000

set_option maxRecDepth 4000

set_option maxRecDepth 4000

set_option maxRecDepth 4000

theorem qs7 {l : List Ty} (hl : l.length ≤ maxLen) (h : qeb l = true) : smlY l := fun x hx => by
 have := q1h hl h
 have h1 := qd1 hx
 have h2 := qkl hx
 omega
set_option maxHeartbeats 2000000 in
theorem qk8 (l m : List Ty) : qj Try.prog 12 [.sl 3 (qi l), .sl 3 (qi m)] (.bool true) := by
 refine qe c0z (by simp) (by simp only [AV.bds, AV.bd, qb7, Bool.and_true]) rfl fun hw => ?_
 have hll : l.length ≤ maxLen := by have := hw.1.1; rwa [qbb] at this
 have hml : m.length ≤ maxLen := by have := hw.2.1.1; rwa [qbb] at this
 have h10 : decide ((1 : Int) = 0) = false := rfl
 by_cases h1 : 20 < (l.length : Int)
 ·repeat' (first | refine vs_ ?_ | ((first | refine vr_ ?_ | fail) <;> (try simp only [h1, decide_true, go_sem, ↓reduceIte])) | ((first | (refine cs_ ?_ ?_ <;> intro hc) | refine cj_ ?_ | fail | refine qa qgb fun _ => ?_) <;> (try refine ev_ ?_)) | with_reducible exact ti_)
 by_cases h2 : 20 < (m.length : Int)
 ·repeat' (first | refine vs_ ?_ | ((first | refine vr_ ?_ | fail) <;> (try simp only [h1, h2, decide_true, decide_false, go_sem, ↓reduceIte])) | ((first | (refine cs_ ?_ ?_ <;> intro hc) | refine cj_ ?_ | fail | refine qa qgb fun _ => ?_) <;> (try refine ev_ ?_)) | with_reducible exact ti_)
 by_cases hfl : qeb l = true
 case neg =>
  have hfl : qeb l = false := by simpa using hfl
  repeat' (first | refine vs_ ?_ | ((first | refine vr_ ?_ | fail) <;> (try simp only [h1, h2, decide_true, decide_false, go_sem, ↓reduceIte])) | ((first | (refine cs_ ?_ ?_ <;> intro hc) | refine cj_ ?_ | fail | refine qa (qo1 hfl) fun _ => ?_ | refine qa qgb fun _ => ?_) <;> (try refine ev_ ?_)) | with_reducible exact ti_)
 by_cases hfm : qeb m = true
 case neg =>
  have hfm : qeb m = false := by simpa using hfm
  repeat' (first | refine vs_ ?_ | ((first | refine vr_ ?_ | fail) <;> (try simp only [h1, h2, decide_true, decide_false, go_sem, ↓reduceIte])) | ((first | (refine cs_ ?_ ?_ <;> intro hc) | refine cj_ ?_ | fail | refine qa (qdw hfl) fun _ => ?_ | refine qa (qo1 hfm) fun _ => ?_ | refine qa qgb fun _ => ?_) <;> (try refine ev_ ?_)) | with_reducible exact ti_)
 have hsl := qs7 hll hfl
 have hsm := qs7 hml hfm
 have hA := qmv hsl hsm (by omega)
 have hR : qj Try.prog 58 [.sl 3 (qi l), .sl 3 (qi m)] (.tup [.sl 4 (qr (allP l m).1), .int .i64 (allP l m).2]) := by
  have h := qsf hsl hsm (by omega)
  rw [qx6] at h
  exact h
 have hb : AV.bds 0 [.sl 3 (qi l), .sl 3 (qi m)] = true := by simp only [AV.bds, AV.bd, qb7, Bool.and_true]
 have hok : okS (allP l m).1 := qtf
 have hlen := qwb (l := l) (m := m) (by omega)
 have hz : (allP l m).2 ≠ 0 → (allP l m).1 = [] := fun h => by
  rw [allP] at h ⊢
  split
  ·rename_i h3
   rw [if_pos h3] at h
   split
   ·rename_i h4; rw [if_pos h4] at h; exact absurd rfl h
   ·rfl
  ·rfl
 generalize allP l m = q at hA hR hok hlen hz
 obtain ⟨S, e⟩ := q
 dsimp only at hR hok hlen hz
 have hrS := qr6 S
 have hbS : AV.bd 0 (.sl 4 (qr S)) = true := by simp only [AV.bd, qb1]
 by_cases he : e = 0
 ·subst he
  have hPS := qh0 (s := S) (by omega) (qn1 hok)
  repeat' (first | refine vs_ ?_ | ((first | refine vr_ ?_ | fail) <;> (try simp only [h1, h2, h10, decide_false, go_sem, ↓reduceIte])) | ((first | (refine cs_ ?_ ?_ <;> intro hc) | refine cj_ ?_ | fail | refine qa (qdw hfl) fun _ => ?_ | refine qa (qdw hfm) fun _ => ?_ | refine qj1 hA hb rfl ?_ | refine qa hR fun _ => ?_) <;> (try refine ev_ ?_)) | with_reducible exact ti_)
  repeat' (first | refine vs_ ?_ | ((first | refine vr_ ?_ | refine qhc 0 hPS rfl hbS ?_ | refine qa hrS fun _ => ?_ | refine qa qgb fun _ => ?_ | (refine cs_ ?_ ?_ <;> intro hc) | refine cj_ ?_ | fail) <;> (try refine ev_ ?_)) | with_reducible exact ti_)
  all_goals (exfalso; revert hc; simp)
 ·have hS := hz he
  subst hS
  have hd : decide (e = 0) = false := decide_eq_false he
  repeat' (first | refine vs_ ?_ | ((first | refine vr_ ?_ | fail) <;> (try simp only [h1, h2, h10, decide_false, go_sem, ↓reduceIte])) | ((first | (refine cs_ ?_ ?_ <;> intro hc) | refine cj_ ?_ | fail | refine qa (qdw hfl) fun _ => ?_ | refine qa (qdw hfm) fun _ => ?_ | refine qj3 hA hb rfl he ?_ | refine qa hR fun _ => ?_) <;> (try refine ev_ ?_)) | with_reducible exact ti_)
  repeat' (first | refine vs_ ?_ | ((first | refine vr_ ?_ | fail) <;> (try simp only [hd, go_sem, ↓reduceIte])) | ((first | (refine cs_ ?_ ?_ <;> intro hc) | refine cj_ ?_ | fail | refine qa qrf fun _ => ?_ | refine qa hrS fun _ => ?_ | refine qa qgb fun _ => ?_) <;> (try refine ev_ ?_)) | with_reducible exact ti_)
  all_goals (exfalso; rw [hd] at hc; cases hc)
end Go.Proofs.Ytfpobiheiloamaa
