/- Texts of this proof, joined. -/
import Derived.Test.YtfpobiheiloamaaJbi
import Derived.Test.YtfpobiheiloamaaJbj
import Derived.Test.YtfpobiheiloamaaJbl
import Derived.Test.YtfpobiheiloamaaJbh

/- matching: awake -/
set_option maxRecDepth 4000
namespace Go.Proofs.Ytfpobiheiloamaa
open Go Go.RowKit Go.V
set_option linter.unusedVariables false
set_option linter.unusedSimpArgs false

theorem qb1 {s : List UInt8} {t : Ty} {e : Int} (h : rdOK s) (hr : qw0 s = (t, e)) : qm Try.prog 90 [.str s] (encY t) := by
 have hR := qqx h
 rw [hr] at hR
 refine qf c0z (by simp) (by simp only [go_sem]) (qbe 0 _) fun hw => ?_
 repeat' (first | refine vs_ ?_ | ((first | refine vr_ ?_ | refine qa hR fun _ => ?_ | (refine cs_ ?_ ?_ <;> intro hc) | refine cj_ ?_ | fail) <;> (try refine ev_ ?_)) | with_reducible exact ti_)
theorem qeq {s : List UInt8} {t : Ty} {r : Rd} (h1 : qet s = (t, r)) (h2 : s.length < 1000) (h3 : s.all (fun b => decide (b.toNat < 128)) = true) (h4 : szY t ≤ 20000) (h5 : dpY t ≤ 300) (h6 : (qif t).length ≤ 1000) : rdOK s :=
 ⟨⟨by omega, fun b hb => by have := List.all_eq_true.1 h3 b hb; simpa using this⟩, by rw [h1]; exact h4, by rw [h1]; exact h5, by rw [h1]; unfold Big; dsimp only; omega⟩
def wC : Ty := ⟨[], 2, []⟩
def wTA : Ty := ⟨[84], 0, [Y0]⟩
def fn2 (a b : Ty) : Ty := ⟨[45, 62], 0, [a, b]⟩
theorem qbfa : qm Try.prog 90 [.str [97, 32, 45, 62, 32, 97]] (encY (fn2 Y0 Y0)) := qb1 (qeq (t := fn2 Y0 Y0) (r := ⟨[], 0, false⟩) rfl (by decide) (by decide) (by decide) (by decide) (by decide)) (e := 0) rfl
theorem qbje : qm Try.prog 90 [.str [84, 32, 45, 62, 32, 85]] (encY (fn2 wT wU)) := qb1 (qeq (t := fn2 wT wU) (r := ⟨[], 0, false⟩) rfl (by decide) (by decide) (by decide) (by decide) (by decide)) (e := 0) rfl
theorem qbin : qm Try.prog 90 [.str [97, 32, 45, 62, 32, 98]] (encY (fn2 Y0 wB)) := qb1 (qeq (t := fn2 Y0 wB) (r := ⟨[], 0, false⟩) rfl (by decide) (by decide) (by decide) (by decide) (by decide)) (e := 0) rfl
theorem qbiv : qm Try.prog 90 [.str [98, 32, 45, 62, 32, 84, 32, 97]] (encY (fn2 wB wTA)) := qb1 (qeq (t := fn2 wB wTA) (r := ⟨[], 0, false⟩) rfl (by decide) (by decide) (by decide) (by decide) (by decide)) (e := 0) rfl
theorem qbjg : qm Try.prog 90 [.str [98, 32, 45, 62, 32, 99]] (encY (fn2 wB wC)) := qb1 (qeq (t := fn2 wB wC) (r := ⟨[], 0, false⟩) rfl (by decide) (by decide) (by decide) (by decide) (by decide)) (e := 0) rfl
theorem rd_a : qm Try.prog 90 [.str [97]] (encY Y0) := qb1 (qeq (t := Y0) (r := ⟨[], 0, false⟩) rfl (by decide) (by decide) (by decide) (by decide) (by decide)) (e := 0) rfl
theorem rd_t : qm Try.prog 90 [.str [84]] (encY wT) := qb1 (qeq (t := wT) (r := ⟨[], 0, false⟩) rfl (by decide) (by decide) (by decide) (by decide) (by decide)) (e := 0) rfl
def M1 : List Pr := [⟨0, wB⟩, ⟨1, wTA⟩]
theorem mt1 : matP (fn2 Y0 Y0) (fn2 wT wU) = ([], 14) := by rfl
theorem mt2 : matP (fn2 Y0 wB) (fn2 wB wTA) = (M1, 0) := by rfl
theorem M1_ok : okS M1 := by have h : okS (matP (fn2 Y0 wB) (fn2 wB wTA)).1 := qky; rwa [mt2] at h
theorem ma1 : VCalls Try.prog 52 [] [encY (fn2 Y0 Y0), encY (fn2 wT wU)] (newQ [] ([], 14)) := mt1 ▸ qdi (by decide) (by decide) (by decide) (by decide)
theorem ma2 : VCalls Try.prog 52 [] [encY (fn2 Y0 wB), encY (fn2 wB wTA)] (newQ [] (M1, 0)) := mt2 ▸ qdi (by decide) (by decide) (by decide) (by decide)
theorem mg1 : VM Try.prog 37 (subE M1) (subE M1) [.ptr 0 0, .int .i64 0] (.tup [encY wB, .bool true]) := qkj M1_ok.1 (by decide) 0
theorem mb1 : qm Try.prog 54 [encY Y0, encY wT] (.bool true) := qdj (by decide) (by decide) (by decide) (by decide)
theorem mb2 : qm Try.prog 54 [encY wT, encY Y0] (.bool false) := qdj (by decide) (by decide) (by decide) (by decide)
theorem mk1 : qm Try.prog 56 [encY (fn2 Y0 wB), encY (fn2 wB wC)] (.bool true) := qh4 (by decide) (by decide) (by decide) (by decide)
theorem mk2 : qm Try.prog 56 [encY (fn2 Y0 wB), encY (fn2 Y0 Y0)] (.bool false) := qh4 (by decide) (by decide) (by decide) (by decide)
theorem bds2 (a b : Ty) : AV.bds 0 [encY a, encY b] = true := by simp only [AV.bds, qbe, Bool.and_true]
theorem qgh : qm Try.prog 51 [] (.bool true) := by
 refine qf c0ba (by simp) rfl rfl fun hw => ?_
 have hv : wB.var = 1 := rfl
 repeat' (first | refine vs_ ?_ | ((first | refine vr_ ?_ | fail) <;> (try simp only [hv, go_sem, ↓reduceIte])) | ((first | (refine cs_ ?_ ?_ <;> intro hc) | refine cj_ ?_ | fail | refine qa qbfa fun _ => ?_ | refine qa qbje fun _ => ?_ | refine qa qbin fun _ => ?_ | refine qa qbiv fun _ => ?_ | refine qkw ma1 (bds2 _ _) rfl (by decide) ?_ | refine qka ma2 (bds2 _ _) rfl ?_ | refine qf1 0 mg1 rfl rfl ?_) <;> (try refine ev_ ?_)) | with_reducible exact ti_)
 repeat' (first | refine vs_ ?_ | ((first | refine vr_ ?_ | fail) <;> (try simp only [hv, go_sem, ↓reduceIte])) | ((first | (refine cs_ ?_ ?_ <;> intro hc) | refine cj_ ?_ | fail | refine qa rd_a fun _ => ?_ | refine qa rd_t fun _ => ?_ | refine qa mb1 fun _ => ?_ | refine qa mb2 fun _ => ?_) <;> (try refine ev_ ?_)) | with_reducible exact ti_)
 repeat' (first | refine vs_ ?_ | ((first | refine vr_ ?_ | fail) <;> (try simp only [hv, go_sem, ↓reduceIte])) | ((first | (refine cs_ ?_ ?_ <;> intro hc) | refine cj_ ?_ | fail | refine qa qbin fun _ => ?_ | refine qa qbjg fun _ => ?_ | refine qa qbfa fun _ => ?_ | refine qa mk1 fun _ => ?_ | refine qa mk2 fun _ => ?_) <;> (try refine ev_ ?_)) | with_reducible exact ti_)
set_option maxRecDepth 4000

mutual
theorem qji : ∀ t, qef t t = true
 | .mk c v l => by rw [qef, qik l]; simp
theorem qik : ∀ l, q6 l l = true
 | [] => by rw [q6]
 | x :: r => by rw [q6, qji x, qik r]; rfl
end
theorem qlk (t : Ty) : qm Try.prog 39 [encY t, encY t] (.bool true) := qe3 (qqr t t) (by rw [qji])
theorem qfe {l : List Ty} (h : qej l = true) : qm Try.prog 31 [.sl 3 (qp l)] (.int .i64 1) := qe3 (qbf2 l) (by rw [h]; rfl)
theorem qpo {l : List Ty} (h : qej l = false) : qm Try.prog 31 [.sl 3 (qp l)] (.int .i64 0) := qe3 (qbf2 l) (by rw [h]; rfl)
set_option maxRecDepth 4000

set_option maxRecDepth 4000

set_option maxRecDepth 4000

set_option maxRecDepth 4000

set_option maxRecDepth 4000

theorem q5a {l : List Ty} (hl : l.length ≤ maxLen) (h : qej l = true) : smlY l := fun x hx => by
 have := qbaq hl h
 have h1 := qie hx
 have h2 := qne hx
 omega
theorem q8j {p t : Ty} (h : qej [p, t] = true) : szY p ≤ 20000 ∧ dpY p ≤ 300 ∧ szY t ≤ 20000 ∧ dpY t ≤ 300 := by
 have hs := q5a (l := [p, t]) (by simp [maxLen]) h
 have h1 := hs p (by simp)
 have h2 := hs t (by simp)
 exact ⟨h1.1, h1.2, h2.1, h2.2⟩
theorem qbjd {p t : Ty} (h : (matP p t).2 ≠ 0) : (matP p t).1 = [] := by
 rw [qz2] at h ⊢
 split
 ·rename_i h3
  rw [if_pos h3] at h
  split
  ·rename_i h4; rw [if_pos h4] at h; exact absurd rfl h
  ·rfl
 ·rfl
set_option maxRecDepth 4000

set_option maxHeartbeats 2000000 in
theorem qkx (p t : Ty) : qm Try.prog 14 [encY p, encY t] (.bool true) := by
 refine qf c0y (by simp) (bds2 _ _) rfl fun hw => ?_
 have h10 : decide ((1 : Int) = 0) = false := rfl
 by_cases hf : qej [p, t] = true
 case neg =>
  have hf : qej [p, t] = false := by simpa using hf
  repeat' (first | refine vs_ ?_ | ((first | refine vr_ ?_ | refine qa (qpo hf) fun _ => ?_ | refine qa qgh fun _ => ?_ | refine qd (qpo hf) ?_ | refine qd qgh ?_ | (refine cs_ ?_ ?_ <;> intro hc) | refine cj_ ?_ | simp (disch := omega) only [encs_getN, qb]) <;> (try refine ev_ ?_)) | with_reducible exact ti_)
 obtain ⟨h1, h2, h3, h4⟩ := q8j hf
 have hA := qdi h1 h2 h3 h4
 have hb := bds2 p t
 have hok : okS (matP p t).1 := qky
 have hlen : (matP p t).1.length ≤ 81920 := qxp (by simp)
 have hz := qbjd (p := p) (t := t)
 have hap := q4i (p := p) (t := t)
 have hhas : (matP p t).2 = 0 → ∀ q ∈ (matP p t).1, q.v ∈ varY p := fun h q hq => q84 h hq
 have hln := q23 (p := p) (t := t)
 generalize matP p t = q at hA hok hlen hz hap hhas hln
 obtain ⟨S, e⟩ := q
 dsimp only at hok hlen hz hap hhas hln
 by_cases he : e = 0
 ·subst he
  have hPS := qhj (s := S) (by omega) (qnl hok)
  have hAS := qwx hok (by omega) h1 h2
  have hap := hap rfl
  have hhas := hhas rfl
  have hln := hln rfl
  rw [hap] at hAS
  have hAS : VM Try.prog 35 (subE S) (subE S) [.ptr 0 0, encY p] (.tup [encY t, .int .i64 0]) := hAS
  have hbT : AV.bd 0 (.tup [encY t, .int .i64 0]) = true := q19 0 (t, 0)
  have hbS : AV.bd 0 (.sl 4 (qbj S)) = true := by simp only [AV.bd, qcb]
  have hbp : AV.bds 0 [encY p] = true := by simp only [AV.bds, qbe, Bool.and_true]
  have hlS : S.length ≤ maxLen := by unfold maxLen; omega
  have hV := qqg p (by omega)
  repeat' (first | refine vs_ ?_ | ((first | refine vr_ ?_ | fail) <;> (try simp only [h10, decide_false, go_sem, ↓reduceIte])) | ((first | (refine cs_ ?_ ?_ <;> intro hc) | refine cj_ ?_ | simp (disch := omega) only [encs_getN, qb] | refine qa (qfe hf) fun _ => ?_ | refine qka hA hb rfl ?_ | refine qd (qfe hf) ?_) <;> (try refine ev_ ?_)) | with_reducible exact ti_)
  all_goals try (exfalso; revert hc; simp; done)
  repeat' (first | refine vs_ ?_ | ((first | refine vr_ ?_ | refine qf1 2 hAS hbp hbT ?_ | refine qf1 2 hPS rfl hbS ?_ | (refine cs_ ?_ ?_ <;> intro hc) | refine cj_ ?_ | simp (disch := omega) only [encs_getN, qb]) <;> (try refine ev_ ?_)) | with_reducible exact ti_)
  refine qs (S := Nat) (fun i => i ≤ S.length) (fun i => (⟨[(2, .ptr 0 0), (3, .ptr 1 0), (7, .ptr 3 0), (8, .int .i64 0), (9, .sl 4 (qbj S)), (10, .int .i64 i)], []⟩, [.blk (yc p), .blk (yc t), subE S, .blk (yc t)])) (fun i => S.length - i) ?_ fun i hi => ?_
  ·refine qo 0 [0, 1, 2, 3] (Nat.zero_le _) rfl (by simp) ?_ ?_ ?_ <;> (try refine ev_ ?_) <;> (try with_reducible exact ti_) <;> (try simp (disch := omega) only [qb, and_true, true_and])
  ·by_cases hlt : i < S.length
   ·have hp := qch hlt
    have hH : qm Try.prog 59 [encY p, .int .i64 (S.getD i R0).v] (.bool true) := by
     have := qvs p (S.getD i R0).v (by omega)
     rwa [decide_eq_true (hhas _ (qg3 hlt))] at this
    repeat' (first | refine vs_ ?_ | ((first | refine vr_ ?_ | fail) <;> (try simp (disch := first | omega | (simp only [List.length_set, List.length_append, List.length_cons, List.length_nil]; done) | (simp only [List.length_set, List.length_append, List.length_cons, List.length_nil]; omega)) only [hp, qb, go_sem, ↓reduceIte])) | ((first | simp (disch := omega) only [hp] | (refine cs_ ?_ ?_ <;> intro hc) | refine cj_ ?_ | simp (disch := omega) only [encs_getN, qb] | refine qa hH fun _ => ?_ | refine qd hH ?_) <;> (try refine ev_ ?_)) | with_reducible exact ti_)
    all_goals try (exfalso; omega)
    refine qo (i + 1) [0, 1, 2, 3] ⟨by omega, by omega⟩ rfl (by simp) ?_ ?_ ?_ <;> (try refine ev_ ?_) <;> (try with_reducible exact ti_) <;> (try simp (disch := omega) only [qb, and_true, true_and])
   ·have hie : i = S.length := by omega
    subst hie
    repeat' (first | refine vs_ ?_ | ((first | refine vr_ ?_ | (refine cs_ ?_ ?_ <;> intro hc) | refine cj_ ?_ | simp (disch := omega) only [encs_getN, qb]) <;> (try refine ev_ ?_)) | with_reducible exact ti_)
    all_goals try (exfalso; omega)
    repeat' (first | refine vs_ ?_ | ((first | refine vr_ ?_ | refine qa (qlk t) fun _ => ?_ | refine qa hV fun _ => ?_ | refine qa qgh fun _ => ?_ | refine qd (qlk t) ?_ | refine qd hV ?_ | refine qd qgh ?_ | (refine cs_ ?_ ?_ <;> intro hc) | refine cj_ ?_ | simp (disch := omega) only [encs_getN, qb]) <;> (try refine ev_ ?_)) | with_reducible exact ti_)
    all_goals (exfalso; rename_i hcx; first | exact hcx (by rw [hln]) | (revert hc; simp [hln]; done))
 ·have hd : decide (e = 0) = false := decide_eq_false he
  repeat' (first | refine vs_ ?_ | ((first | refine vr_ ?_ | fail) <;> (try simp only [h10, hd, decide_false, go_sem, ↓reduceIte])) | ((first | (refine cs_ ?_ ?_ <;> intro hc) | refine cj_ ?_ | simp (disch := omega) only [encs_getN, qb] | refine qa (qfe hf) fun _ => ?_ | refine qkw hA hb rfl he ?_ | refine qd (qfe hf) ?_) <;> (try refine ev_ ?_)) | with_reducible exact ti_)
  all_goals try (exfalso; revert hc; simp; done)
  all_goals (repeat' (first | refine vs_ ?_ | ((first | refine vr_ ?_ | refine qa qgh fun _ => ?_ | refine qd qgh ?_ | (refine cs_ ?_ ?_ <;> intro hc) | refine cj_ ?_ | simp (disch := omega) only [encs_getN, qb]) <;> (try refine ev_ ?_)) | with_reducible exact ti_))
end Go.Proofs.Ytfpobiheiloamaa
