/- Texts of this proof, joined. -/
import Derived.Test.YtfpobiheiloamaaKay
import Derived.Test.YtfpobiheiloamaaKba

/- substitutions: found, got -/
set_option maxRecDepth 4000
namespace Go.Proofs.Ytfpobiheiloamaa
open Go Go.RowKit Go.V
set_option linter.unusedVariables false
set_option linter.unusedSimpArgs false

theorem qdp (v : Int) : qdj [] v = .tup [.int .i64 0, .bool false] := rfl
theorem q2g (v : Int) : qj Try.prog 115 [.sl 4 [], .int .i64 v, .fn 116 [] []] (qdj [] v) := by
 refine qe c0bo (by simp) (by simp only [go_sem]) rfl fun hw => ?_
 rw [qdp]
 repeat' (first | refine vs_ ?_ | ((first | refine vr_ ?_ | (refine cs_ ?_ ?_ <;> intro hc) | refine cj_ ?_ | simp (disch := omega) only [encs_getN, qb]) <;> (try refine ev_ ?_)) | with_reducible exact ti_)
 refine qs (S := Unit) (fun _ => True) (fun _ => (⟨[(0, .sl 4 []), (1, .int .i64 v), (2, .fn 116 [] []), (8, .int .i64 0), (9, .int .i64 0), (10, .int .i64 0)], []⟩, [])) (fun _ => 0) ?_ fun x hx => ?_
 ·refine qo () [] trivial rfl (by simp) ?_ ?_ ?_ <;> (try refine ev_ ?_) <;> (try with_reducible exact ti_) <;> (try simp (disch := omega) only [qb, and_true, true_and])
 ·repeat' (first | refine vs_ ?_ | ((first | refine vr_ ?_ | (refine cs_ ?_ ?_ <;> intro hc) | refine cj_ ?_ | simp (disch := omega) only [encs_getN, qb]) <;> (try refine ev_ ?_)) | with_reducible exact ti_)
  ·exact absurd hc (by omega)
  ·exact ⟨rfl, rfl⟩
def subH (s : List Pr) : List Ent := if s = [] then [.blk [.nils]] else [.blk [.row 1 s.length], qbj s]
theorem qgx : subH [] = [.blk [.nils]] := rfl
theorem qkp {s : List Pr} (h : s ≠ []) : subH s = [.blk [.row 1 s.length], qbj s] := by rw [subH, if_neg h]
abbrev subE (s : List Pr) : Ent := bun (subH s)
theorem qex {Q : List Ent → VO → Prop} {H' : List Ent} {r : AV} (h0 : ent H' 0 = .blk [.nils]) (hl : 0 < H'.length) (hr : r.bd 0 = true) (h : Q [subE []] (.val r)) : qdq Q H' (.val r) :=
 ⟨[.blk [.nils]], [0], rfl, by simp, by simp, ⟨⟨hl, rfl, by rw [h0]; rfl⟩, trivial⟩, qko (Nat.zero_le _) _ hr, h⟩
theorem qco {Q : List Ent → VO → Prop} {H' : List Ent} {s : List Pr} {r : AV} (k : Nat) (hs : s ≠ []) (h0 : ent H' 0 = .blk [.row k s.length]) (h1 : ent H' k = qbj s) (hk : 0 < k) (hl : k < H'.length) (hr : r.bd 0 = true) (h : Q [subE s] (.val r)) : qdq Q H' (.val r) :=
 ⟨[.blk [.row 1 s.length], qbj s], [0, k], rfl, by simp, by simp; omega, ⟨⟨by omega, rfl, by rw [h0]; rfl⟩, ⟨hl, qfr s 2, by rw [h1]; simp only [qbj, Ent.ren, qho]⟩, trivial⟩, qko (Nat.zero_le _) _ hr, by rwa [subE, qkp hs] at h⟩
theorem qd0 (σ : Nat → Nat) (s : List Pr) : (qbj s).ren σ = qbj s := by simp only [qbj, Ent.ren, qho]
theorem qke : ∀ {H : List Ent} {i : Nat} {e : Ent}, ent H i = e → i < H.length → H.set i e = H
 | [], i, e, _, hl => by simp at hl
 | x :: r, 0, e, h, _ => by rw [← h]; rfl
 | x :: r, i + 1, e, h, hl => by
   have h' : ent r i = e := h
   rw [List.set_cons_succ, qke h' (by simpa using hl)]
theorem qzb (v : Int) : VCalls Try.prog 82 [.blk [.nils]] [.ptr 0 0, .int .i64 v] fun H' o => H' = [.blk [.nils]] ∧ o = .val (qdj [] v) := by
 refine ql c0bp 1 (by simp) (by simp) ?_
 rw [qdp]
 repeat' (first | refine vs_ ?_ | ((first | refine vr_ ?_ | refine qa (q2g _) fun _ => ?_ | simp (disch := omega) only [qdp] | (refine cs_ ?_ ?_ <;> intro hc) | refine cj_ ?_ | fail) <;> (try refine ev_ ?_)) | with_reducible exact ti_)
theorem q6c {s : List Pr} (ho : risR s) (hl : s.length ≤ 100000) (v : Int) : VCalls Try.prog 82 [.blk [.row 1 s.length], qbj s] [.ptr 0 0, .int .i64 v] fun H' o => H' = [.blk [.row 1 s.length], qbj s] ∧ o = .val (qdj s v) := by
 refine ql c0bp 2 (by simp) (by simp [qbj, Ent.bd, qb1]) ?_
 rw [qdj]
 repeat' (first | refine vs_ ?_ | ((first | refine vr_ ?_ | refine qbn 1 (q8d ho hl v) ?_ (qfr s 0) (qfr s 0) | simp (disch := omega) only [qdj] | (refine cs_ ?_ ?_ <;> intro hc) | refine cj_ ?_ | fail) <;> (try refine ev_ ?_)) | with_reducible exact ti_)
section
variable {H : List Ent} {Q : List Ent → VO → Prop} {K : Md → AV → List Ent → Prop} {raws : List AV} {s : List Pr}
theorem qls (v : Int) (hq : Q H (.val (qdj [] v))) (h0 : ent H 0 = .blk [.nils] := by rfl) (hl' : 0 < H.length := by simp) : VApp Try.prog H (.fn 82 [] []) [.ptr 0 0, .int .i64 v] Q := by
 refine qcy ?_
 rw [List.nil_append, List.append_nil]
 refine qbz [0] (qzb v) (by simp) ⟨⟨by omega, rfl, h0⟩, trivial⟩ rfl rfl fun H1 o ho => ?_
 obtain ⟨rfl, rfl⟩ := ho
 have : qir H [0] [.blk [.nils]] = H := by
  show (H.set 0 (.blk [.nils])) ++ [] = H
  rw [List.append_nil, qke h0 hl']
 rw [this]
 exact hq
theorem qfp (ho : risR s) (hl : s.length ≤ 100000) (v : Int) (hq : Q H (.val (qdj s v))) (h0 : ent H 0 = .blk [.row 1 s.length] := by rfl) (h1 : ent H 1 = qbj s := by rfl) (hl' : 1 < H.length := by simp) : VApp Try.prog H (.fn 82 [] []) [.ptr 0 0, .int .i64 v] Q := by
 refine qcy ?_
 rw [List.nil_append, List.append_nil]
 refine qbz [0, 1] (q6c ho hl v) (by simp) ⟨⟨by omega, rfl, h0⟩, ⟨hl', qfr s 2, by rw [h1, qd0]⟩, trivial⟩ rfl rfl fun H1 o ho => ?_
 obtain ⟨rfl, rfl⟩ := ho
 have : qir H [0, 1] [.blk [.row 1 s.length], qbj s] = H := by
  show ((H.set 0 (.blk [.row 1 s.length])).set 1 ((qbj s).ren _)) ++ [] = H
  rw [List.append_nil, qd0, qke h0 (by omega), qke h1 hl']
 rw [this]
 exact hq
end
set_option maxRecDepth 4000

def getV (s : List Pr) (v : Int) : AV := .tup [encY ((qx v s).getD Y0), .bool (qx v s).isSome]
theorem qba8 (v : Int) : VCalls Try.prog 37 [.blk [.nils]] [.ptr 0 0, .int .i64 v] (qdq fun H' o => H' = [subE []] ∧ o = .val (getV [] v)) := by
 refine ql c0bn 1 (by simp) (by simp) ?_
 repeat' (first | refine vs_ ?_ | ((first | refine vr_ ?_ | refine qls v ?_ | simp (disch := omega) only [qdp] | (refine cs_ ?_ ?_ <;> intro hc) | refine cj_ ?_ | simp (disch := omega) only [encs_getN, qb]) <;> (try refine ev_ ?_)) | with_reducible exact ti_)
 all_goals exact qex rfl (by simp) rfl ⟨rfl, rfl⟩
theorem qbgg {s : List Pr} (hs : s ≠ []) (ho : risR s) (hl : s.length ≤ 100000) (v : Int) : VCalls Try.prog 37 [.blk [.row 1 s.length], qbj s] [.ptr 0 0, .int .i64 v] (qdq fun H' o => H' = [subE s] ∧ o = .val (getV s v)) := by
 refine ql c0bn 2 (by simp) (by simp [qbj, Ent.bd, qb1]) ?_
 have hlk := qgw (v := v) ho
 have hf : qdj s v = .tup [.int .i64 (ahdR v s), .bool (qx v s).isSome] := rfl
 by_cases hin : ahdR v s < s.length ∧ (s.getD (ahdR v s) R0).v = v
 ·rw [if_pos hin] at hlk
  have hp := q9 hin.1
  have hi := hin.1
  rw [hlk, Option.isSome_some] at hf
  have hg : getV s v = .tup [encY (s.getD (ahdR v s) R0).ty, .bool true] := by rw [getV, hlk]; rfl
  rw [hg]
  clear hin
  repeat' (first | refine vs_ ?_ | ((first | refine vr_ ?_ | fail) <;> (try simp only [hp, go_sem, ↓reduceIte])) | ((first | simp (disch := omega) only [hf] | simp (disch := omega) only [hp] | (refine cs_ ?_ ?_ <;> intro hc) | refine cj_ ?_ | simp (disch := omega) only [encs_getN, qb] | refine qfp ho hl v ?_) <;> (try refine ev_ ?_)) | with_reducible exact ti_)
  all_goals exact qco 1 hs rfl rfl (by simp) (by simp) (by first | rfl | simp only [AV.bd, AV.bds, qbg, Bool.and_true]) ⟨rfl, rfl⟩
 ·rw [if_neg hin] at hlk
  rw [hlk, Option.isSome_none] at hf
  have hg : getV s v = .tup [encY Y0, .bool false] := by rw [getV, hlk]; rfl
  rw [hg]
  repeat' (first | refine vs_ ?_ | ((first | refine vr_ ?_ | refine qfp ho hl v ?_ | simp (disch := omega) only [hf] | (refine cs_ ?_ ?_ <;> intro hc) | refine cj_ ?_ | simp (disch := omega) only [encs_getN, qb]) <;> (try refine ev_ ?_)) | with_reducible exact ti_)
  all_goals exact qco 1 hs rfl rfl (by simp) (by simp) (by first | rfl | simp only [AV.bd, AV.bds, qbg, Bool.and_true]) ⟨rfl, rfl⟩
theorem qn9 {s : List Pr} (ho : risR s) (hl : s.length ≤ 100000) (v : Int) : VM Try.prog 37 (subE s) (subE s) [.ptr 0 0, .int .i64 v] (getV s v) := by
 by_cases hs : s = []
 ·subst hs
  exact qjm (by rw [qgx]; exact qba8 v) rfl
 ·exact qjm (by have := qbgg hs ho hl v; rwa [← qkp hs] at this) rfl
set_option maxRecDepth 4000

abbrev insF : FuncId := 85
theorem qg6 (p : Pr) : (encR p).cells.length = 4 ∧ (encR p).flat := ⟨rfl, .inl ⟨rfl, rfl⟩⟩
theorem qjb (l : List Pr) : ∀ e ∈ qr l, e.flat := fun e he => by
 obtain ⟨p, _, rfl⟩ := List.mem_map.1 he
 exact (qg6 p).2
section
variable {H : List Ent} {K : Md → AV → List Ent → Prop} {args raws : List AV} {s : List Pr} {p : Pr}
theorem q1z (j : Nat) {i : Nat} (hi : i ≤ s.length) (hl : s.length ≤ 100000) (h1 : ent H j = qbj s) : Gro Try.prog H (.fn insF [] []) [.row j s.length, .int .i64 i, .lit 4 [encR p]] (some (j, qbj s)) (qbj (s.take i ++ p :: s.drop i)) (s.length + 1) := by
 refine ⟨fun q hq => by cases hq; exact ⟨by simp, h1⟩, fun H₀ h0 => ?_⟩
 have h0 : ent H₀ j = qbj s := h0 _ rfl
 have hl' := (List.getElem?_eq_some_iff.1 (q7 h0 (by simp))).1
 have hv := qwd (es := qr s) (x := encR p) (i := i) (by rw [qb2]; exact hi) (by rw [qb2]; omega) (qg6 p) (by simp only [AV.bds, qgc, qb1, Bool.and_true]) (qjb s)
 rw [qb2] at hv
 refine qcy ?_
 rw [List.nil_append, List.append_nil]
 refine qbz [j] hv (by simp) ⟨⟨hl', qfr s 1, by rw [h0, qd0]⟩, trivial⟩ (by simp [AV.bds, AV.bd, qgc]) (by simp only [AV.rens, AV.ren, qkm]; rfl) fun H1 o ho => ?_
 obtain ⟨rfl, rfl⟩ := ho
 have he : qr (s.take i ++ p :: s.drop i) = (qr s).take i ++ encR p :: (qr s).drop i := by simp [qr]
 refine ⟨?_, ?_⟩
 ·rw [← he]
  show (H₀.set j .dead) ++ [(qbj (s.take i ++ p :: s.drop i)).ren _] = (H₀.set j .dead) ++ [_]
  rw [qd0]
 ·show VO.val (.row (H₀.length + (1 - 1)) _) = _
  simp
theorem q1u : Gro Try.prog H (.fn insF [] []) [.nils, .int .i64 0, .lit 4 [encR p]] none (qbj [p]) 1 := by
 refine ⟨fun q hq => (by cases hq), fun H₀ h0 => ?_⟩
 refine qcy ?_
 rw [List.nil_append, List.append_nil]
 refine qbz [] (ql1 (qg6 p)) (by simp) trivial (by simp [AV.bds, AV.bd, qgc]) (by simp only [AV.rens, AV.ren, qkm]) fun H1 o ho => ?_
 obtain ⟨rfl, rfl⟩ := ho
 refine ⟨?_, ?_⟩
 ·show H₀ ++ [(qbj [p]).ren _] = H₀ ++ [_]
  rw [qd0]
 ·show VO.val (.row (H₀.length + (0 - 0)) _) = _
  simp
theorem qbfk (j : Nat) {i : Nat} (hi : i ≤ s.length) (hl : s.length ≤ 100000) (hq : K (.grow (some (j, qbj s)) (qbj (s.take i ++ p :: s.drop i)) (s.length + 1)) (.row H.length (s.length + 1)) (H.set j .dead ++ [qbj (s.take i ++ p :: s.drop i)])) (h1 : ent H j = qbj s := by rfl) (hr : raws = [.row j s.length, .int .i64 i, .lit 4 [encR p]] := by rfl) :
 DApp Try.prog H (.fn insF [] []) args raws K := by
 subst hr
 exact .inr (.inr (.inr ⟨_, _, _, q1z j hi hl h1, hq⟩))
theorem qbfr (hq : K (.grow none (qbj [p]) 1) (.row H.length 1) (H ++ [qbj [p]])) (hr : raws = [.nils, .int .i64 0, .lit 4 [encR p]] := by rfl) : DApp Try.prog H (.fn insF [] []) args raws K := by
 subst hr
 exact .inr (.inr (.inr ⟨_, _, _, q1u, hq⟩))
end
theorem qpm {s : List Pr} {v : Int} {t : Ty} (h : qk t = false) : setR s v t = (s, 1) := by rw [setR, if_neg (by simp [h])]
theorem qym {s : List Pr} {v : Int} {t u : Ty} (h : qk t = true) (hl : qx v s = some u) : setR s v t = (s, 6) := by rw [setR, if_pos h, hl]
theorem qj4 {s : List Pr} {v : Int} {t : Ty} (h : qk t = true) (hl : qx v s = none) : setR s v t = (insR v t s, 0) := by rw [setR, if_pos h, hl]
theorem q8i (v : Int) {t : Ty} (h1 : szY t ≤ 20000) (h2 : dpY t ≤ 300) : VCalls Try.prog 45 [.blk [.nils]] [.ptr 0 0, .int .i64 v, encY t] (qdq fun H' o => H' = [subE (setR [] v t).1] ∧ o = .val (.int .i64 (setR [] v t).2)) := by
 have hLg := qcw h1 h2
 have hcp := qdx t (by omega)
 by_cases hlg : qk t = true
 ·rw [qj4 hlg rfl]
  rw [hlg] at hLg
  refine ql c0bm 3 (by simp) (by simp) ?_
  repeat' (first | refine vs_ ?_ | ((first | refine vr_ ?_ | refine qa hLg fun _ => ?_ | refine qa hcp fun _ => ?_ | refine qls v ?_ | refine qbfr (p := ⟨v, t⟩) ?_ | refine qd hLg ?_ | refine qd hcp ?_ | simp (disch := omega) only [qdp] | (refine cs_ ?_ ?_ <;> intro hc) | refine cj_ ?_ | fail) <;> (try refine ev_ ?_)) | with_reducible exact ti_)
  all_goals exact qco (s := insR v t []) 2 (by simp [qol]) rfl rfl (by simp) (by simp) rfl ⟨rfl, rfl⟩
 ·have hlg : qk t = false := by simpa using hlg
  rw [qpm hlg]
  rw [hlg] at hLg
  refine ql c0bm 1 (by simp) (by simp) ?_
  repeat' (first | refine vs_ ?_ | ((first | refine vr_ ?_ | refine qa hLg fun _ => ?_ | refine qd hLg ?_ | (refine cs_ ?_ ?_ <;> intro hc) | refine cj_ ?_ | fail) <;> (try refine ev_ ?_)) | with_reducible exact ti_)
  all_goals exact qex rfl (by simp) rfl ⟨rfl, rfl⟩
theorem qbfx {s : List Pr} (hs : s ≠ []) (ho : risR s) (hl : s.length ≤ 100000) (v : Int) {t : Ty} (h1 : szY t ≤ 20000) (h2 : dpY t ≤ 300) : VCalls Try.prog 45 [.blk [.row 1 s.length], qbj s] [.ptr 0 0, .int .i64 v, encY t] (qdq fun H' o => H' = [subE (setR s v t).1] ∧ o = .val (.int .i64 (setR s v t).2)) := by
 have hLg := qcw h1 h2
 have hcp := qdx t (by omega)
 have hA := qg5 v s
 by_cases hlg : qk t = true
 ·cases hlk : qx v s with
  | some u =>
    have hf : qdj s v = .tup [.int .i64 (ahdR v s), .bool true] := by rw [qdj, hlk]; rfl
    rw [qym hlg hlk]
    rw [hlg] at hLg
    refine ql c0bm 2 (by simp) (by simp) ?_
    repeat' (first | refine vs_ ?_ | ((first | refine vr_ ?_ | refine qa hLg fun _ => ?_ | refine qfp ho hl v ?_ | refine qd hLg ?_ | simp (disch := omega) only [hf] | (refine cs_ ?_ ?_ <;> intro hc) | refine cj_ ?_ | fail) <;> (try refine ev_ ?_)) | with_reducible exact ti_)
    all_goals exact qco 1 hs rfl rfl (by simp) (by simp) rfl ⟨rfl, rfl⟩
  | none =>
    have hf : qdj s v = .tup [.int .i64 (ahdR v s), .bool false] := by rw [qdj, hlk]; rfl
    rw [qj4 hlg hlk]
    rw [hlg] at hLg
    refine ql c0bm 4 (by simp) (by simp) ?_
    repeat' (first | refine vs_ ?_ | ((first | refine vr_ ?_ | refine qa hLg fun _ => ?_ | refine qa hcp fun _ => ?_ | refine qfp ho hl v ?_ | refine qbfk 1 (p := ⟨v, t⟩) hA hl ?_ | refine qd hLg ?_ | refine qd hcp ?_ | simp (disch := omega) only [hf] | (refine cs_ ?_ ?_ <;> intro hc) | refine cj_ ?_ | fail) <;> (try refine ev_ ?_)) | with_reducible exact ti_)
    all_goals exact qco (s := insR v t s) 3 (by simp [insR]) (by rw [qon]; rfl) rfl (by simp) (by simp) rfl ⟨rfl, rfl⟩
 ·have hlg : qk t = false := by simpa using hlg
  rw [qpm hlg]
  rw [hlg] at hLg
  refine ql c0bm 2 (by simp) (by simp) ?_
  repeat' (first | refine vs_ ?_ | ((first | refine vr_ ?_ | refine qa hLg fun _ => ?_ | refine qd hLg ?_ | (refine cs_ ?_ ?_ <;> intro hc) | refine cj_ ?_ | fail) <;> (try refine ev_ ?_)) | with_reducible exact ti_)
  all_goals exact qco 1 hs rfl rfl (by simp) (by simp) rfl ⟨rfl, rfl⟩
theorem qj9 {s : List Pr} (ho : risR s) (hl : s.length ≤ 100000) (v : Int) {t : Ty} (h1 : szY t ≤ 20000) (h2 : dpY t ≤ 300) : VM Try.prog 45 (subE s) (subE (setR s v t).1) [.ptr 0 0, .int .i64 v, encY t] (.int .i64 (setR s v t).2) := by
 by_cases hs : s = []
 ·subst hs
  exact qjm (by rw [qgx]; exact q8i v h1 h2) (by simp [AV.bds, AV.bd, qbg])
 ·exact qjm (by have := qbfx hs ho hl v h1 h2; rwa [← qkp hs] at this) (by simp [AV.bds, AV.bd, qbg])

mutual
def onP : Ty → Ty → List Pr → List Pr × Bool
 | .mk c v l, t, s => if c = [] then (match qx v s with | some u => (s, qdi u t) | none => ((setR s v t).1, decide ((setR s v t).2 = 0)))
  else if c = t.con then (if l.length = t.args.length then onPs l t.args s else (s, false)) else (s, false)
def onPs : List Ty → List Ty → List Pr → List Pr × Bool
 | [], _, s => (s, true)
 | x :: r, m, s => if (onP x (m.headD Y0) s).2 = true then onPs r m.tail (onP x (m.headD Y0) s).1 else ((onP x (m.headD Y0) s).1, false)
end
theorem qbdn (p t : Ty) (s : List Pr) : onP p t s = if p.con = [] then (match qx p.var s with | some u => (s, qdi u t) | none => ((setR s p.var t).1, decide ((setR s p.var t).2 = 0)))
 else if p.con = t.con then (if p.args.length = t.args.length then onPs p.args t.args s else (s, false)) else (s, false) := by
 cases p; rw [onP]; rfl
theorem qs3 {l m : List Ty} {i : Nat} (h : i < l.length) (h' : i < m.length) (s : List Pr) : onPs (l.drop i) (m.drop i) s = if (onP (l.getD i Y0) (m.getD i Y0) s).2 = true then onPs (l.drop (i + 1)) (m.drop (i + 1)) (onP (l.getD i Y0) (m.getD i Y0) s).1 else ((onP (l.getD i Y0) (m.getD i Y0) s).1, false) := by
 rw [qdl h, qdl h', onPs]; rfl
theorem qxy {l m : List Ty} {i : Nat} (h : l.length ≤ i) (s : List Pr) : onPs (l.drop i) (m.drop i) s = (s, true) := by
 rw [List.drop_of_length_le h, onPs]
mutual
theorem q0k : ∀ (p t : Ty) (s : List Pr), okS s → okS (onP p t s).1 ∧ (onP p t s).1.length ≤ s.length + szY p
 | .mk c v l, t, s, h => by
   rw [onP, szY]
   split
   ·cases hl : qx v s with
    | some u => exact ⟨h, by dsimp only; omega⟩
    | none => exact ⟨qkd h v t, by have := qky s v t; dsimp only; omega⟩
   split
   ·split
    ·have := qn6 l t.args s h
     exact ⟨this.1, by omega⟩
    ·exact ⟨h, by dsimp only; omega⟩
   ·exact ⟨h, by dsimp only; omega⟩
theorem qn6 : ∀ (l m : List Ty) (s : List Pr), okS s → okS (onPs l m s).1 ∧ (onPs l m s).1.length ≤ s.length + szYs l
 | [], m, s, h => by rw [onPs, szYs]; exact ⟨h, by dsimp only; omega⟩
 | x :: r, m, s, h => by
   have h1 := q0k x (m.headD Y0) s h
   rw [onPs, szYs]
   split
   ·have h2 := qn6 r m.tail _ h1.1
    exact ⟨h2.1, by omega⟩
   ·exact ⟨h1.1, by dsimp only; omega⟩
end
def qgt (l m : List Ty) (s : List Pr) : List Pr × Bool := if l.length = m.length then onPs l m s else (s, false)
def allP (l m : List Ty) : List Pr × Int := if l.all qk = true ∧ m.all qk = true then (if (qgt l m []).2 = true then ((qgt l m []).1, 0) else ([], 14)) else ([], 1)
def matP (p t : Ty) : List Pr × Int := allP [p] [t]
def abvP (p t : Ty) : Bool := decide ((matP p t).2 = 0)
theorem qpv {l m : List Ty} {s : List Pr} (h : okS s) : okS (qgt l m s).1 ∧ (qgt l m s).1.length ≤ s.length + szYs l := by
 rw [qgt]
 split
 ·exact qn6 l m s h
 ·exact ⟨h, by dsimp only; omega⟩
theorem qhf {l : List Ty} {k : Nat} (h : l.all qk = true) (hl : l.length ≤ k) : szYs l ≤ 4096 * k := by
 induction l generalizing k with
 | nil => simp [szYs]
 | cons x r ih =>
   rw [List.all_cons, Bool.and_eq_true] at h
   rw [List.length_cons] at hl
   have h1 := ih (k := k - 1) h.2 (by omega)
   have h2 := ((qbx x).1 h.1).1
   rw [szYs]
   have : 4096 * k = 4096 * (k - 1) + 4096 := by omega
   omega
theorem qtf {l m : List Ty} : okS (allP l m).1 := by
 rw [allP]
 split
 ·split
  ·exact (qpv qcb).1
  ·exact qcb
 ·exact qcb
theorem qwb {l m : List Ty} (hl : l.length ≤ 20) : (allP l m).1.length ≤ 81920 := by
 rw [allP]
 split
 ·rename_i h
  split
  ·have h1 := (qpv (l := l) (m := m) qcb).2
   have h2 := qhf (k := 20) h.1 hl
   simp only [List.length_nil] at h1
   dsimp only; omega
  ·simp
 ·simp
end Go.Proofs.Ytfpobiheiloamaa
