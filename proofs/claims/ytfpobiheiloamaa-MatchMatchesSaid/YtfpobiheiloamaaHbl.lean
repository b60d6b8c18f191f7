/- Texts of this proof, joined. -/
import Derived.Test.YtfpobiheiloamaaHbh
import Derived.Test.YtfpobiheiloamaaHbi
import Derived.Test.YtfpobiheiloamaaHbk
import Derived.Test.YtfpobiheiloamaaHbg

/- matching: awake -/
set_option maxRecDepth 4000
namespace Go.Proofs.Ytfpobiheiloamaa
open Go Go.RowKit Go.V
set_option linter.unusedVariables false
set_option linter.unusedSimpArgs false

theorem qb6 {s : List UInt8} {t : Ty} {e : Int} (h : rdOK s) (hr : qyt s = (t, e)) : qh Try.prog 90 [.str s] (encY t) := by
 have hR := qrl h
 rw [hr] at hR
 refine qe c0ba (by simp) (by simp only [go_sem]) (qbe 0 _) fun hw => ?_
 repeat' (first | refine vs_ ?_ | ((first | refine vr_ ?_ | refine qa hR fun _ => ?_ | (refine cs_ ?_ ?_ <;> intro hc) | refine cj_ ?_ | fail) <;> (try refine ev_ ?_)) | with_reducible exact ti_)
theorem qet {s : List UInt8} {t : Ty} {r : Rd} (h1 : qer s = (t, r)) (h2 : s.length < 1000) (h3 : s.all (fun b => decide (b.toNat < 128)) = true) (h4 : szY t ≤ 20000) (h5 : dpY t ≤ 300) (h6 : (qhd t).length ≤ 1000) : rdOK s :=
 ⟨⟨by omega, fun b hb => by have := List.all_eq_true.1 h3 b hb; simpa using this⟩, by rw [h1]; exact h4, by rw [h1]; exact h5, by rw [h1]; unfold Big; dsimp only; omega⟩
def wC : Ty := ⟨[], 2, []⟩
def wTA : Ty := ⟨[84], 0, [Y0]⟩
def fn2 (a b : Ty) : Ty := ⟨[45, 62], 0, [a, b]⟩
theorem qbhf : qh Try.prog 90 [.str [97, 32, 45, 62, 32, 97]] (encY (fn2 Y0 Y0)) := qb6 (qet (t := fn2 Y0 Y0) (r := ⟨[], 0, false⟩) rfl (by decide) (by decide) (by decide) (by decide) (by decide)) (e := 0) rfl
theorem qbkl : qh Try.prog 90 [.str [84, 32, 45, 62, 32, 85]] (encY (fn2 wT wU)) := qb6 (qet (t := fn2 wT wU) (r := ⟨[], 0, false⟩) rfl (by decide) (by decide) (by decide) (by decide) (by decide)) (e := 0) rfl
theorem qbfl : qh Try.prog 90 [.str [97, 32, 45, 62, 32, 98]] (encY (fn2 Y0 wB)) := qb6 (qet (t := fn2 Y0 wB) (r := ⟨[], 0, false⟩) rfl (by decide) (by decide) (by decide) (by decide) (by decide)) (e := 0) rfl
theorem qbkm : qh Try.prog 90 [.str [98, 32, 45, 62, 32, 84, 32, 97]] (encY (fn2 wB wTA)) := qb6 (qet (t := fn2 wB wTA) (r := ⟨[], 0, false⟩) rfl (by decide) (by decide) (by decide) (by decide) (by decide)) (e := 0) rfl
theorem qbj9 : qh Try.prog 90 [.str [98, 32, 45, 62, 32, 99]] (encY (fn2 wB wC)) := qb6 (qet (t := fn2 wB wC) (r := ⟨[], 0, false⟩) rfl (by decide) (by decide) (by decide) (by decide) (by decide)) (e := 0) rfl
theorem rd_a : qh Try.prog 90 [.str [97]] (encY Y0) := qb6 (qet (t := Y0) (r := ⟨[], 0, false⟩) rfl (by decide) (by decide) (by decide) (by decide) (by decide)) (e := 0) rfl
theorem rd_t : qh Try.prog 90 [.str [84]] (encY wT) := qb6 (qet (t := wT) (r := ⟨[], 0, false⟩) rfl (by decide) (by decide) (by decide) (by decide) (by decide)) (e := 0) rfl
def M1 : List Pr := [⟨0, wB⟩, ⟨1, wTA⟩]
theorem mt1 : matP (fn2 Y0 Y0) (fn2 wT wU) = ([], 14) := by rfl
theorem mt2 : matP (fn2 Y0 wB) (fn2 wB wTA) = (M1, 0) := by rfl
theorem M1_ok : okS M1 := by have h : okS (matP (fn2 Y0 wB) (fn2 wB wTA)).1 := qsf; rwa [mt2] at h
theorem ma1 : VCalls Try.prog 52 [] [encY (fn2 Y0 Y0), encY (fn2 wT wU)] (newQ [] ([], 14)) := mt1 ▸ qdd (by decide) (by decide) (by decide) (by decide)
theorem ma2 : VCalls Try.prog 52 [] [encY (fn2 Y0 wB), encY (fn2 wB wTA)] (newQ [] (M1, 0)) := mt2 ▸ qdd (by decide) (by decide) (by decide) (by decide)
theorem mg1 : VM Try.prog 37 (subE M1) (subE M1) [.ptr 0 0, .int .i64 0] (.tup [encY wB, .bool true]) := qnv M1_ok.1 (by decide) 0
theorem mb1 : qh Try.prog 54 [encY Y0, encY wT] (.bool true) := qck (by decide) (by decide) (by decide) (by decide)
theorem mb2 : qh Try.prog 54 [encY wT, encY Y0] (.bool false) := qck (by decide) (by decide) (by decide) (by decide)
theorem mk1 : qh Try.prog 56 [encY (fn2 Y0 wB), encY (fn2 wB wC)] (.bool true) := qek (by decide) (by decide) (by decide) (by decide)
theorem mk2 : qh Try.prog 56 [encY (fn2 Y0 wB), encY (fn2 Y0 Y0)] (.bool false) := qek (by decide) (by decide) (by decide) (by decide)
theorem bds2 (a b : Ty) : AV.bds 0 [encY a, encY b] = true := by simp only [AV.bds, qbe, Bool.and_true]
theorem qfz : qh Try.prog 51 [] (.bool true) := by
 refine qe c0bb (by simp) rfl rfl fun hw => ?_
 have hv : wB.var = 1 := rfl
 repeat' (first | refine vs_ ?_ | ((first | refine vr_ ?_ | fail) <;> (try simp only [hv, go_sem, ↓reduceIte])) | ((first | (refine cs_ ?_ ?_ <;> intro hc) | refine cj_ ?_ | fail | refine qa qbhf fun _ => ?_ | refine qa qbkl fun _ => ?_ | refine qa qbfl fun _ => ?_ | refine qa qbkm fun _ => ?_ | refine qkh ma1 (bds2 _ _) rfl (by decide) ?_ | refine qk2 ma2 (bds2 _ _) rfl ?_ | refine qkf 0 mg1 rfl rfl ?_) <;> (try refine ev_ ?_)) | with_reducible exact ti_)
 repeat' (first | refine vs_ ?_ | ((first | refine vr_ ?_ | fail) <;> (try simp only [hv, go_sem, ↓reduceIte])) | ((first | (refine cs_ ?_ ?_ <;> intro hc) | refine cj_ ?_ | fail | refine qa rd_a fun _ => ?_ | refine qa rd_t fun _ => ?_ | refine qa mb1 fun _ => ?_ | refine qa mb2 fun _ => ?_) <;> (try refine ev_ ?_)) | with_reducible exact ti_)
 repeat' (first | refine vs_ ?_ | ((first | refine vr_ ?_ | fail) <;> (try simp only [hv, go_sem, ↓reduceIte])) | ((first | (refine cs_ ?_ ?_ <;> intro hc) | refine cj_ ?_ | fail | refine qa qbfl fun _ => ?_ | refine qa qbj9 fun _ => ?_ | refine qa qbhf fun _ => ?_ | refine qa mk1 fun _ => ?_ | refine qa mk2 fun _ => ?_) <;> (try refine ev_ ?_)) | with_reducible exact ti_)
set_option maxRecDepth 4000

theorem qfe {l : List Ty} (h : qef l = true) : qh Try.prog 31 [.sl 3 (ql l)] (.int .i64 1) := qkl (qbf0 l) (by rw [h]; rfl)
theorem qor {l : List Ty} (h : qef l = false) : qh Try.prog 31 [.sl 3 (ql l)] (.int .i64 0) := qkl (qbf0 l) (by rw [h]; rfl)
set_option maxRecDepth 4000

theorem qjr : qh Try.prog 41 [.nilp] (.sl 4 (qr [])) := by
 refine qe c0cm (by simp) rfl rfl fun hw => ?_
 repeat' (first | refine vs_ ?_ | ((first | refine vr_ ?_ | (refine cs_ ?_ ?_ <;> intro hc) | refine cj_ ?_ | simp (disch := omega) only [encs_getN, qb]) <;> (try refine ev_ ?_)) | with_reducible exact ti_)
 rfl
theorem qu7 (l : List Pr) : qh Try.prog 40 [.sl 4 (qr l), .sl 4 (qr l)] (.bool true) := qkl (qq7 l l) (by rw [(qhp l l).2 rfl])
set_option maxRecDepth 4000

set_option maxRecDepth 4000

set_option maxRecDepth 4000

set_option maxRecDepth 4000

theorem q29 {l : List Ty} (hl : l.length ≤ maxLen) (h : qef l = true) : smlY l := fun x hx => by
 have := qban hl h
 have h1 := qdv hx
 have h2 := qj3 hx
 omega
theorem qbat {f : FuncId} {e e' : Ent} {rest rs : List AV} {r : AV} {L : List Ent} {Kk : Md → AV → List Ent → Prop} (i : Nat) (h : VM Try.prog f e e' (.ptr 0 0 :: rest) r) (hrest : AV.bds 0 rest = true) (hr : r.bd 0 = true) (hq : Kk (.meth i e e') r (L.set i e')) (hn : e ≠ .dead := by intro h; cases h) (hb : e.bd 0 = true := by rfl) (hb' : e'.bd 0 = true := by rfl) (he : ent L i = e := by rfl) :
 DApp Try.prog L (.fn f [] []) (.ptr i 0 :: rest) rs Kk := by
 refine qu3 i h hq hn hb hb' he hr ?_ ?_
 ·rw [List.append_nil, AV.rens, qq (m := 0) (fun j hj => by omega) rest hrest]; rfl
 ·rw [AV.bds, Bool.and_eq_true]
  exact ⟨rfl, qb4 (Nat.zero_le _) _ hrest⟩
theorem q9z {p t : Ty} (h : qef [p, t] = true) : szY p ≤ 20000 ∧ dpY p ≤ 300 ∧ szY t ≤ 20000 ∧ dpY t ≤ 300 := by
 have hs := q29 (l := [p, t]) (by simp [maxLen]) h
 have h1 := hs p (by simp)
 have h2 := hs t (by simp)
 exact ⟨h1.1, h1.2, h2.1, h2.2⟩
theorem qbke {p t : Ty} (h : (matP p t).2 ≠ 0) : (matP p t).1 = [] := by
 rw [qbfe] at h ⊢
 split
 ·rename_i h3
  rw [if_pos h3] at h
  split
  ·rename_i h4; rw [if_pos h4] at h; exact absurd rfl h
  ·rfl
 ·rfl
set_option maxHeartbeats 2000000 in
theorem qnc (p t : Ty) : qh Try.prog 11 [encY p, encY t] (.bool true) := by
 refine qe c0z (by simp) (bds2 _ _) rfl fun hw => ?_
 have h10 : decide ((1 : Int) = 0) = false := rfl
 by_cases hf : qef [p, t] = true
 case neg =>
  have hf : qef [p, t] = false := by simpa using hf
  repeat' (first | refine vs_ ?_ | ((first | refine vr_ ?_ | refine qa (qor hf) fun _ => ?_ | refine qa qfz fun _ => ?_ | refine qc (qor hf) ?_ | refine qc qfz ?_ | (refine cs_ ?_ ?_ <;> intro hc) | refine cj_ ?_ | fail) <;> (try refine ev_ ?_)) | with_reducible exact ti_)
 obtain ⟨h1, h2, h3, h4⟩ := q9z hf
 have hA := qdd h1 h2 h3 h4
 have hR : qh Try.prog 53 [encY p, encY t] (.tup [.sl 4 (qr (matP p t).1), .int .i64 (matP p t).2]) := qh3 h1 h2 h3 h4
 have hb := bds2 p t
 have hok : okS (matP p t).1 := qsf
 have hlen : (matP p t).1.length ≤ 81920 := qzi (by simp)
 have hz := qbke (p := p) (t := t)
 have b1 := qck h1 h2 h3 h4
 have b2 := qhj h1 h2 h3 h4
 have b3 := qhj h3 h4 h1 h2
 have b4 := qek h1 h2 h3 h4
 generalize matP p t = q at hA hR hok hlen hz
 obtain ⟨S, e⟩ := q
 dsimp only at hR hok hlen hz
 have hrS := qu7 S
 have hbS : AV.bd 0 (.sl 4 (qr S)) = true := by simp only [AV.bd, qb0]
 generalize abvP p t = x at b1 b2 b4
 generalize abvP t p = y at b3 b4
 by_cases he : e = 0
 ·subst he
  have hPS := qhz (s := S) (by omega) (qm0 hok)
  repeat' (first | refine vs_ ?_ | ((first | refine vr_ ?_ | fail) <;> (try simp only [h10, decide_false, go_sem, ↓reduceIte])) | ((first | (refine cs_ ?_ ?_ <;> intro hc) | refine cj_ ?_ | fail | refine qa (qfe hf) fun _ => ?_ | refine qk2 hA hb rfl ?_ | refine qa hR fun _ => ?_ | refine qc (qfe hf) ?_ | refine qc hR ?_) <;> (try refine ev_ ?_)) | with_reducible exact ti_)
  all_goals try (exfalso; revert hc; simp; done)
  cases x <;> cases y
  all_goals (repeat' (first | refine vs_ ?_ | ((first | refine vr_ ?_ | refine qbat 2 hPS rfl hbS ?_ | refine qa hrS fun _ => ?_ | refine qa b1 fun _ => ?_ | refine qa b2 fun _ => ?_ | refine qa b3 fun _ => ?_ | refine qa b4 fun _ => ?_ | refine qa qfz fun _ => ?_ | refine qc hrS ?_ | refine qc b1 ?_ | refine qc b2 ?_ | refine qc b3 ?_ | refine qc b4 ?_ | refine qc qfz ?_ | (refine cs_ ?_ ?_ <;> intro hc) | refine cj_ ?_ | fail) <;> (try refine ev_ ?_)) | with_reducible exact ti_))
  all_goals first | (exfalso; revert hc; simp; done) | (exfalso; rw [hd] at hc; cases hc; done) | (exfalso; revert hc; simp [hd]; done)
 ·have hS := hz he
  subst hS
  have hd : decide (e = 0) = false := decide_eq_false he
  repeat' (first | refine vs_ ?_ | ((first | refine vr_ ?_ | fail) <;> (try simp only [h10, hd, decide_false, go_sem, ↓reduceIte])) | ((first | (refine cs_ ?_ ?_ <;> intro hc) | refine cj_ ?_ | fail | refine qa (qfe hf) fun _ => ?_ | refine qkh hA hb rfl he ?_ | refine qa hR fun _ => ?_ | refine qc (qfe hf) ?_ | refine qc hR ?_) <;> (try refine ev_ ?_)) | with_reducible exact ti_)
  all_goals try (exfalso; revert hc; simp; done)
  cases x <;> cases y
  all_goals (repeat' (first | refine vs_ ?_ | ((first | refine vr_ ?_ | refine qa qjr fun _ => ?_ | refine qa hrS fun _ => ?_ | refine qa b1 fun _ => ?_ | refine qa b2 fun _ => ?_ | refine qa b3 fun _ => ?_ | refine qa b4 fun _ => ?_ | refine qa qfz fun _ => ?_ | refine qc qjr ?_ | refine qc hrS ?_ | refine qc b1 ?_ | refine qc b2 ?_ | refine qc b3 ?_ | refine qc b4 ?_ | refine qc qfz ?_ | (refine cs_ ?_ ?_ <;> intro hc) | refine cj_ ?_ | fail) <;> (try refine ev_ ?_)) | with_reducible exact ti_))
  all_goals first | (exfalso; revert hc; simp; done) | (exfalso; rw [hd] at hc; cases hc; done) | (exfalso; revert hc; simp [hd]; done)
end Go.Proofs.Ytfpobiheiloamaa
