/- Texts of this proof, joined. -/
import Derived.Test.YtfpobiheiloamaaJaz
import Derived.Test.YtfpobiheiloamaaJbb

/- substitutions: found, got -/
set_option maxRecDepth 4000
namespace Go.Proofs.Ytfpobiheiloamaa
open Go Go.RowKit Go.V
set_option linter.unusedVariables false
set_option linter.unusedSimpArgs false

theorem qd5 (v : Int) : qdp [] v = .tup [.int .i64 0, .bool false] := rfl
theorem q62 (v : Int) : qm Try.prog 115 [.sl 4 [], .int .i64 v, .fn 116 [] []] (qdp [] v) := by
 refine qf c0bn (by simp) (by simp only [go_sem]) rfl fun hw => ?_
 rw [qd5]
 repeat' (first | refine vs_ ?_ | ((first | refine vr_ ?_ | (refine cs_ ?_ ?_ <;> intro hc) | refine cj_ ?_ | simp (disch := omega) only [encs_getN, qb]) <;> (try refine ev_ ?_)) | with_reducible exact ti_)
 refine qs (S := Unit) (fun _ => True) (fun _ => (⟨[(0, .sl 4 []), (1, .int .i64 v), (2, .fn 116 [] []), (8, .int .i64 0), (9, .int .i64 0), (10, .int .i64 0)], []⟩, [])) (fun _ => 0) ?_ fun x hx => ?_
 ·refine qo () [] trivial rfl (by simp) ?_ ?_ ?_ <;> (try refine ev_ ?_) <;> (try with_reducible exact ti_) <;> (try simp (disch := omega) only [qb, and_true, true_and])
 ·repeat' (first | refine vs_ ?_ | ((first | refine vr_ ?_ | (refine cs_ ?_ ?_ <;> intro hc) | refine cj_ ?_ | simp (disch := omega) only [encs_getN, qb]) <;> (try refine ev_ ?_)) | with_reducible exact ti_)
  ·exact absurd hc (by omega)
  ·exact ⟨rfl, rfl⟩
def subH (s : List Pr) : List Ent := if s = [] then [.blk [.nils]] else [.blk [.row 1 s.length], qbl s]
theorem qg5 : subH [] = [.blk [.nils]] := rfl
theorem qkm {s : List Pr} (h : s ≠ []) : subH s = [.blk [.row 1 s.length], qbl s] := by rw [subH, if_neg h]
abbrev subE (s : List Pr) : Ent := bun (subH s)
theorem qez {Q : List Ent → VO → Prop} {H' : List Ent} {r : AV} (h0 : ent H' 0 = .blk [.nils]) (hl : 0 < H'.length) (hr : r.bd 0 = true) (h : Q [subE []] (.val r)) : qd9 Q H' (.val r) :=
 ⟨[.blk [.nils]], [0], rfl, by simp, by simp, ⟨⟨hl, rfl, by rw [h0]; rfl⟩, trivial⟩, qk7 (Nat.zero_le _) _ hr, h⟩
theorem qcl {Q : List Ent → VO → Prop} {H' : List Ent} {s : List Pr} {r : AV} (k : Nat) (hs : s ≠ []) (h0 : ent H' 0 = .blk [.row k s.length]) (h1 : ent H' k = qbl s) (hk : 0 < k) (hl : k < H'.length) (hr : r.bd 0 = true) (h : Q [subE s] (.val r)) : qd9 Q H' (.val r) :=
 ⟨[.blk [.row 1 s.length], qbl s], [0, k], rfl, by simp, by simp; omega, ⟨⟨by omega, rfl, by rw [h0]; rfl⟩, ⟨hl, qfb s 2, by rw [h1]; simp only [qbl, Ent.ren, qhe]⟩, trivial⟩, qk7 (Nat.zero_le _) _ hr, by rwa [subE, qkm hs] at h⟩
theorem qdy (σ : Nat → Nat) (s : List Pr) : (qbl s).ren σ = qbl s := by simp only [qbl, Ent.ren, qhe]
theorem qgl : ∀ {H : List Ent} {i : Nat} {e : Ent}, ent H i = e → i < H.length → H.set i e = H
 | [], i, e, _, hl => by simp at hl
 | x :: r, 0, e, h, _ => by rw [← h]; rfl
 | x :: r, i + 1, e, h, hl => by
   have h' : ent r i = e := h
   rw [List.set_cons_succ, qgl h' (by simpa using hl)]
theorem qze (v : Int) : VCalls Try.prog 82 [.blk [.nils]] [.ptr 0 0, .int .i64 v] fun H' o => H' = [.blk [.nils]] ∧ o = .val (qdp [] v) := by
 refine qg c0bo 1 (by simp) (by simp) ?_
 rw [qd5]
 repeat' (first | refine vs_ ?_ | ((first | refine vr_ ?_ | refine qa (q62 _) fun _ => ?_ | simp (disch := omega) only [qd5] | (refine cs_ ?_ ?_ <;> intro hc) | refine cj_ ?_ | fail) <;> (try refine ev_ ?_)) | with_reducible exact ti_)
theorem q1s {s : List Pr} (ho : risR s) (hl : s.length ≤ 100000) (v : Int) : VCalls Try.prog 82 [.blk [.row 1 s.length], qbl s] [.ptr 0 0, .int .i64 v] fun H' o => H' = [.blk [.row 1 s.length], qbl s] ∧ o = .val (qdp s v) := by
 refine qg c0bo 2 (by simp) (by simp [qbl, Ent.bd, qcb]) ?_
 rw [qdp]
 repeat' (first | refine vs_ ?_ | ((first | refine vr_ ?_ | refine qbi 1 (q5k ho hl v) ?_ (qfb s 0) (qfb s 0) | simp (disch := omega) only [qdp] | (refine cs_ ?_ ?_ <;> intro hc) | refine cj_ ?_ | fail) <;> (try refine ev_ ?_)) | with_reducible exact ti_)
section
variable {H : List Ent} {Q : List Ent → VO → Prop} {K : Md → AV → List Ent → Prop} {raws : List AV} {s : List Pr}
theorem qk9 (v : Int) (hq : Q H (.val (qdp [] v))) (h0 : ent H 0 = .blk [.nils] := by rfl) (hl' : 0 < H.length := by simp) : VApp Try.prog H (.fn 82 [] []) [.ptr 0 0, .int .i64 v] Q := by
 refine qco ?_
 rw [List.nil_append, List.append_nil]
 refine qbs [0] (qze v) (by simp) ⟨⟨by omega, rfl, h0⟩, trivial⟩ rfl rfl fun H1 o ho => ?_
 obtain ⟨rfl, rfl⟩ := ho
 have : qih H [0] [.blk [.nils]] = H := by
  show (H.set 0 (.blk [.nils])) ++ [] = H
  rw [List.append_nil, qgl h0 hl']
 rw [this]
 exact hq
theorem qfq (ho : risR s) (hl : s.length ≤ 100000) (v : Int) (hq : Q H (.val (qdp s v))) (h0 : ent H 0 = .blk [.row 1 s.length] := by rfl) (h1 : ent H 1 = qbl s := by rfl) (hl' : 1 < H.length := by simp) : VApp Try.prog H (.fn 82 [] []) [.ptr 0 0, .int .i64 v] Q := by
 refine qco ?_
 rw [List.nil_append, List.append_nil]
 refine qbs [0, 1] (q1s ho hl v) (by simp) ⟨⟨by omega, rfl, h0⟩, ⟨hl', qfb s 2, by rw [h1, qdy]⟩, trivial⟩ rfl rfl fun H1 o ho => ?_
 obtain ⟨rfl, rfl⟩ := ho
 have : qih H [0, 1] [.blk [.row 1 s.length], qbl s] = H := by
  show ((H.set 0 (.blk [.row 1 s.length])).set 1 ((qbl s).ren _)) ++ [] = H
  rw [List.append_nil, qdy, qgl h0 (by omega), qgl h1 hl']
 rw [this]
 exact hq
end
set_option maxRecDepth 4000

def getV (s : List Pr) (v : Int) : AV := .tup [encY ((qq v s).getD Y0), .bool (qq v s).isSome]
theorem q6s (k : Nat) (s : List Pr) (v : Int) : (getV s v).bd k = true := by simp only [getV, AV.bd, AV.bds, qbe, Bool.and_true, Bool.true_and]
theorem q0p (v : Int) : VCalls Try.prog 37 [.blk [.nils]] [.ptr 0 0, .int .i64 v] (qd9 fun H' o => H' = [subE []] ∧ o = .val (getV [] v)) := by
 refine qg c0bm 1 (by simp) (by simp) ?_
 repeat' (first | refine vs_ ?_ | ((first | refine vr_ ?_ | refine qk9 v ?_ | simp (disch := omega) only [qd5] | (refine cs_ ?_ ?_ <;> intro hc) | refine cj_ ?_ | simp (disch := omega) only [encs_getN, qb]) <;> (try refine ev_ ?_)) | with_reducible exact ti_)
 all_goals exact qez rfl (by simp) rfl ⟨rfl, rfl⟩
theorem qbfu {s : List Pr} (hs : s ≠ []) (ho : risR s) (hl : s.length ≤ 100000) (v : Int) : VCalls Try.prog 37 [.blk [.row 1 s.length], qbl s] [.ptr 0 0, .int .i64 v] (qd9 fun H' o => H' = [subE s] ∧ o = .val (getV s v)) := by
 refine qg c0bm 2 (by simp) (by simp [qbl, Ent.bd, qcb]) ?_
 have hlk := qg2 (v := v) ho
 have hf : qdp s v = .tup [.int .i64 (ahdR v s), .bool (qq v s).isSome] := rfl
 by_cases hin : ahdR v s < s.length ∧ (s.getD (ahdR v s) R0).v = v
 ·rw [if_pos hin] at hlk
  have hp := qch hin.1
  have hi := hin.1
  rw [hlk, Option.isSome_some] at hf
  have hg : getV s v = .tup [encY (s.getD (ahdR v s) R0).ty, .bool true] := by rw [getV, hlk]; rfl
  rw [hg]
  clear hin
  repeat' (first | refine vs_ ?_ | ((first | refine vr_ ?_ | fail) <;> (try simp only [hp, go_sem, ↓reduceIte])) | ((first | simp (disch := omega) only [hf] | simp (disch := omega) only [hp] | (refine cs_ ?_ ?_ <;> intro hc) | refine cj_ ?_ | simp (disch := omega) only [encs_getN, qb] | refine qfq ho hl v ?_) <;> (try refine ev_ ?_)) | with_reducible exact ti_)
  all_goals exact qcl 1 hs rfl rfl (by simp) (by simp) (by first | rfl | simp only [AV.bd, AV.bds, qbe, Bool.and_true]) ⟨rfl, rfl⟩
 ·rw [if_neg hin] at hlk
  rw [hlk, Option.isSome_none] at hf
  have hg : getV s v = .tup [encY Y0, .bool false] := by rw [getV, hlk]; rfl
  rw [hg]
  repeat' (first | refine vs_ ?_ | ((first | refine vr_ ?_ | refine qfq ho hl v ?_ | simp (disch := omega) only [hf] | (refine cs_ ?_ ?_ <;> intro hc) | refine cj_ ?_ | simp (disch := omega) only [encs_getN, qb]) <;> (try refine ev_ ?_)) | with_reducible exact ti_)
  all_goals exact qcl 1 hs rfl rfl (by simp) (by simp) (by first | rfl | simp only [AV.bd, AV.bds, qbe, Bool.and_true]) ⟨rfl, rfl⟩
theorem qkj {s : List Pr} (ho : risR s) (hl : s.length ≤ 100000) (v : Int) : VM Try.prog 37 (subE s) (subE s) [.ptr 0 0, .int .i64 v] (getV s v) := by
 by_cases hs : s = []
 ·subst hs
  exact qjs (by rw [qg5]; exact q0p v) rfl
 ·exact qjs (by have := qbfu hs ho hl v; rwa [← qkm hs] at this) rfl
set_option maxRecDepth 4000

abbrev insF : FuncId := 85
theorem qic (p : Pr) : (encR p).cells.length = 4 ∧ (encR p).flat := ⟨rfl, .inl ⟨rfl, rfl⟩⟩
theorem qj3 (l : List Pr) : ∀ e ∈ qbj l, e.flat := fun e he => by
 obtain ⟨p, _, rfl⟩ := List.mem_map.1 he
 exact (qic p).2
section
variable {H : List Ent} {K : Md → AV → List Ent → Prop} {args raws : List AV} {s : List Pr} {p : Pr}
theorem q33 (j : Nat) {i : Nat} (hi : i ≤ s.length) (hl : s.length ≤ 100000) (h1 : ent H j = qbl s) : Gro Try.prog H (.fn insF [] []) [.row j s.length, .int .i64 i, .lit 4 [encR p]] (some (j, qbl s)) (qbl (s.take i ++ p :: s.drop i)) (s.length + 1) := by
 refine ⟨fun q hq => by cases hq; exact ⟨by simp, h1⟩, fun H₀ h0 => ?_⟩
 have h0 : ent H₀ j = qbl s := h0 _ rfl
 have hl' := (List.getElem?_eq_some_iff.1 (qu h0 (by simp))).1
 have hv := qyo (es := qbj s) (x := encR p) (i := i) (by rw [qc6]; exact hi) (by rw [qc6]; omega) (qic p) (by simp only [AV.bds, qf8, qcb, Bool.and_true]) (qj3 s)
 rw [qc6] at hv
 refine qco ?_
 rw [List.nil_append, List.append_nil]
 refine qbs [j] hv (by simp) ⟨⟨hl', qfb s 1, by rw [h0, qdy]⟩, trivial⟩ (by simp [AV.bds, AV.bd, qf8]) (by simp only [AV.rens, AV.ren, qk8]; rfl) fun H1 o ho => ?_
 obtain ⟨rfl, rfl⟩ := ho
 have he : qbj (s.take i ++ p :: s.drop i) = (qbj s).take i ++ encR p :: (qbj s).drop i := by simp [qbj]
 refine ⟨?_, ?_⟩
 ·rw [← he]
  show (H₀.set j .dead) ++ [(qbl (s.take i ++ p :: s.drop i)).ren _] = (H₀.set j .dead) ++ [_]
  rw [qdy]
 ·show VO.val (.row (H₀.length + (1 - 1)) _) = _
  simp
theorem q1o : Gro Try.prog H (.fn insF [] []) [.nils, .int .i64 0, .lit 4 [encR p]] none (qbl [p]) 1 := by
 refine ⟨fun q hq => (by cases hq), fun H₀ h0 => ?_⟩
 refine qco ?_
 rw [List.nil_append, List.append_nil]
 refine qbs [] (qlg (qic p)) (by simp) trivial (by simp [AV.bds, AV.bd, qf8]) (by simp only [AV.rens, AV.ren, qk8]) fun H1 o ho => ?_
 obtain ⟨rfl, rfl⟩ := ho
 refine ⟨?_, ?_⟩
 ·show H₀ ++ [(qbl [p]).ren _] = H₀ ++ [_]
  rw [qdy]
 ·show VO.val (.row (H₀.length + (0 - 0)) _) = _
  simp
theorem qbbe (j : Nat) {i : Nat} (hi : i ≤ s.length) (hl : s.length ≤ 100000) (hq : K (.grow (some (j, qbl s)) (qbl (s.take i ++ p :: s.drop i)) (s.length + 1)) (.row H.length (s.length + 1)) (H.set j .dead ++ [qbl (s.take i ++ p :: s.drop i)])) (h1 : ent H j = qbl s := by rfl) (hr : raws = [.row j s.length, .int .i64 i, .lit 4 [encR p]] := by rfl) :
 DApp Try.prog H (.fn insF [] []) args raws K := by
 subst hr
 exact .inr (.inr (.inr ⟨_, _, _, q33 j hi hl h1, hq⟩))
theorem qbdp (hq : K (.grow none (qbl [p]) 1) (.row H.length 1) (H ++ [qbl [p]])) (hr : raws = [.nils, .int .i64 0, .lit 4 [encR p]] := by rfl) : DApp Try.prog H (.fn insF [] []) args raws K := by
 subst hr
 exact .inr (.inr (.inr ⟨_, _, _, q1o, hq⟩))
end
theorem qhc {s : List Pr} {v : Int} {t : Ty} (h : qk t = false) : setR s v t = (s, 1) := by rw [setR, if_neg (by simp [h])]
theorem qv6 {s : List Pr} {v : Int} {t u : Ty} (h : qk t = true) (hl : qq v s = some u) : setR s v t = (s, 6) := by rw [setR, if_pos h, hl]
theorem qhb {s : List Pr} {v : Int} {t : Ty} (h : qk t = true) (hl : qq v s = none) : setR s v t = (insR v t s, 0) := by rw [setR, if_pos h, hl]
theorem q8t (v : Int) {t : Ty} (h1 : szY t ≤ 20000) (h2 : dpY t ≤ 300) : VCalls Try.prog 45 [.blk [.nils]] [.ptr 0 0, .int .i64 v, encY t] (qd9 fun H' o => H' = [subE (setR [] v t).1] ∧ o = .val (.int .i64 (setR [] v t).2)) := by
 have hLg := qb5 h1 h2
 have hcp := qcq t (by omega)
 by_cases hlg : qk t = true
 ·rw [qhb hlg rfl]
  rw [hlg] at hLg
  refine qg c0bl 3 (by simp) (by simp) ?_
  repeat' (first | refine vs_ ?_ | ((first | refine vr_ ?_ | refine qa hLg fun _ => ?_ | refine qa hcp fun _ => ?_ | refine qk9 v ?_ | refine qbdp (p := ⟨v, t⟩) ?_ | refine qd hLg ?_ | refine qd hcp ?_ | simp (disch := omega) only [qd5] | (refine cs_ ?_ ?_ <;> intro hc) | refine cj_ ?_ | fail) <;> (try refine ev_ ?_)) | with_reducible exact ti_)
  all_goals exact qcl (s := insR v t []) 2 (by simp [qj6]) rfl rfl (by simp) (by simp) rfl ⟨rfl, rfl⟩
 ·have hlg : qk t = false := by simpa using hlg
  rw [qhc hlg]
  rw [hlg] at hLg
  refine qg c0bl 1 (by simp) (by simp) ?_
  repeat' (first | refine vs_ ?_ | ((first | refine vr_ ?_ | refine qa hLg fun _ => ?_ | refine qd hLg ?_ | (refine cs_ ?_ ?_ <;> intro hc) | refine cj_ ?_ | fail) <;> (try refine ev_ ?_)) | with_reducible exact ti_)
  all_goals exact qez rfl (by simp) rfl ⟨rfl, rfl⟩
theorem qbcf {s : List Pr} (hs : s ≠ []) (ho : risR s) (hl : s.length ≤ 100000) (v : Int) {t : Ty} (h1 : szY t ≤ 20000) (h2 : dpY t ≤ 300) : VCalls Try.prog 45 [.blk [.row 1 s.length], qbl s] [.ptr 0 0, .int .i64 v, encY t] (qd9 fun H' o => H' = [subE (setR s v t).1] ∧ o = .val (.int .i64 (setR s v t).2)) := by
 have hLg := qb5 h1 h2
 have hcp := qcq t (by omega)
 have hA := qko v s
 by_cases hlg : qk t = true
 ·cases hlk : qq v s with
  | some u =>
    have hf : qdp s v = .tup [.int .i64 (ahdR v s), .bool true] := by rw [qdp, hlk]; rfl
    rw [qv6 hlg hlk]
    rw [hlg] at hLg
    refine qg c0bl 2 (by simp) (by simp) ?_
    repeat' (first | refine vs_ ?_ | ((first | refine vr_ ?_ | refine qa hLg fun _ => ?_ | refine qfq ho hl v ?_ | refine qd hLg ?_ | simp (disch := omega) only [hf] | (refine cs_ ?_ ?_ <;> intro hc) | refine cj_ ?_ | fail) <;> (try refine ev_ ?_)) | with_reducible exact ti_)
    all_goals exact qcl 1 hs rfl rfl (by simp) (by simp) rfl ⟨rfl, rfl⟩
  | none =>
    have hf : qdp s v = .tup [.int .i64 (ahdR v s), .bool false] := by rw [qdp, hlk]; rfl
    rw [qhb hlg hlk]
    rw [hlg] at hLg
    refine qg c0bl 4 (by simp) (by simp) ?_
    repeat' (first | refine vs_ ?_ | ((first | refine vr_ ?_ | refine qa hLg fun _ => ?_ | refine qa hcp fun _ => ?_ | refine qfq ho hl v ?_ | refine qbbe 1 (p := ⟨v, t⟩) hA hl ?_ | refine qd hLg ?_ | refine qd hcp ?_ | simp (disch := omega) only [hf] | (refine cs_ ?_ ?_ <;> intro hc) | refine cj_ ?_ | fail) <;> (try refine ev_ ?_)) | with_reducible exact ti_)
    all_goals exact qcl (s := insR v t s) 3 (by simp [insR]) (by rw [qoy]; rfl) rfl (by simp) (by simp) rfl ⟨rfl, rfl⟩
 ·have hlg : qk t = false := by simpa using hlg
  rw [qhc hlg]
  rw [hlg] at hLg
  refine qg c0bl 2 (by simp) (by simp) ?_
  repeat' (first | refine vs_ ?_ | ((first | refine vr_ ?_ | refine qa hLg fun _ => ?_ | refine qd hLg ?_ | (refine cs_ ?_ ?_ <;> intro hc) | refine cj_ ?_ | fail) <;> (try refine ev_ ?_)) | with_reducible exact ti_)
  all_goals exact qcl 1 hs rfl rfl (by simp) (by simp) rfl ⟨rfl, rfl⟩
theorem qkb {s : List Pr} (ho : risR s) (hl : s.length ≤ 100000) (v : Int) {t : Ty} (h1 : szY t ≤ 20000) (h2 : dpY t ≤ 300) : VM Try.prog 45 (subE s) (subE (setR s v t).1) [.ptr 0 0, .int .i64 v, encY t] (.int .i64 (setR s v t).2) := by
 by_cases hs : s = []
 ·subst hs
  exact qjs (by rw [qg5]; exact q8t v h1 h2) (by simp [AV.bds, AV.bd, qbe])
 ·exact qjs (by have := qbcf hs ho hl v h1 h2; rwa [← qkm hs] at this) (by simp [AV.bds, AV.bd, qbe])

mutual
def onP : Ty → Ty → List Pr → List Pr × Bool
 | .mk c v l, t, s => if c = [] then (match qq v s with | some u => (s, qef u t) | none => ((setR s v t).1, decide ((setR s v t).2 = 0)))
  else if c = t.con then (if l.length = t.args.length then onPs l t.args s else (s, false)) else (s, false)
def onPs : List Ty → List Ty → List Pr → List Pr × Bool
 | [], _, s => (s, true)
 | x :: r, m, s => if (onP x (m.headD Y0) s).2 = true then onPs r m.tail (onP x (m.headD Y0) s).1 else ((onP x (m.headD Y0) s).1, false)
end
theorem qbc8 (p t : Ty) (s : List Pr) : onP p t s = if p.con = [] then (match qq p.var s with | some u => (s, qef u t) | none => ((setR s p.var t).1, decide ((setR s p.var t).2 = 0)))
 else if p.con = t.con then (if p.args.length = t.args.length then onPs p.args t.args s else (s, false)) else (s, false) := by
 cases p; rw [onP]; rfl
theorem qse {l m : List Ty} {i : Nat} (h : i < l.length) (h' : i < m.length) (s : List Pr) : onPs (l.drop i) (m.drop i) s = if (onP (l.getD i Y0) (m.getD i Y0) s).2 = true then onPs (l.drop (i + 1)) (m.drop (i + 1)) (onP (l.getD i Y0) (m.getD i Y0) s).1 else ((onP (l.getD i Y0) (m.getD i Y0) s).1, false) := by
 rw [qi4 h, qi4 h', onPs]; rfl
theorem qzm {l m : List Ty} {i : Nat} (h : l.length ≤ i) (s : List Pr) : onPs (l.drop i) (m.drop i) s = (s, true) := by
 rw [List.drop_of_length_le h, onPs]
mutual
theorem qz5 : ∀ (p t : Ty) (s : List Pr), okS s → okS (onP p t s).1 ∧ (onP p t s).1.length ≤ s.length + szY p
 | .mk c v l, t, s, h => by
   rw [onP, szY]
   split
   ·cases hl : qq v s with
    | some u => exact ⟨h, by dsimp only; omega⟩
    | none => exact ⟨qnt h v t, by have := qol s v t; dsimp only; omega⟩
   split
   ·split
    ·have := qn4 l t.args s h
     exact ⟨this.1, by omega⟩
    ·exact ⟨h, by dsimp only; omega⟩
   ·exact ⟨h, by dsimp only; omega⟩
theorem qn4 : ∀ (l m : List Ty) (s : List Pr), okS s → okS (onPs l m s).1 ∧ (onPs l m s).1.length ≤ s.length + szYs l
 | [], m, s, h => by rw [onPs, szYs]; exact ⟨h, by dsimp only; omega⟩
 | x :: r, m, s, h => by
   have h1 := qz5 x (m.headD Y0) s h
   rw [onPs, szYs]
   split
   ·have h2 := qn4 r m.tail _ h1.1
    exact ⟨h2.1, by omega⟩
   ·exact ⟨h1.1, by dsimp only; omega⟩
end
def qgg (l m : List Ty) (s : List Pr) : List Pr × Bool := if l.length = m.length then onPs l m s else (s, false)
def allP (l m : List Ty) : List Pr × Int := if l.all qk = true ∧ m.all qk = true then (if (qgg l m []).2 = true then ((qgg l m []).1, 0) else ([], 14)) else ([], 1)
def matP (p t : Ty) : List Pr × Int := allP [p] [t]
def abvP (p t : Ty) : Bool := decide ((matP p t).2 = 0)
theorem qpg {l m : List Ty} {s : List Pr} (h : okS s) : okS (qgg l m s).1 ∧ (qgg l m s).1.length ≤ s.length + szYs l := by
 rw [qgg]
 split
 ·exact qn4 l m s h
 ·exact ⟨h, by dsimp only; omega⟩
theorem qlc {l : List Ty} {k : Nat} (h : l.all qk = true) (hl : l.length ≤ k) : szYs l ≤ 4096 * k := by
 induction l generalizing k with
 | nil => simp [szYs]
 | cons x r ih =>
   rw [List.all_cons, Bool.and_eq_true] at h
   rw [List.length_cons] at hl
   have h1 := ih (k := k - 1) h.2 (by omega)
   have h2 := ((q8 x).1 h.1).1
   rw [szYs]
   have : 4096 * k = 4096 * (k - 1) + 4096 := by omega
   omega
theorem qky {l m : List Ty} : okS (allP l m).1 := by
 rw [allP]
 split
 ·split
  ·exact (qpg qep).1
  ·exact qep
 ·exact qep
theorem qxp {l m : List Ty} (hl : l.length ≤ 20) : (allP l m).1.length ≤ 81920 := by
 rw [allP]
 split
 ·rename_i h
  split
  ·have h1 := (qpg (l := l) (m := m) qep).2
   have h2 := qlc (k := 20) h.1 hl
   simp only [List.length_nil] at h1
   dsimp only; omega
  ·simp
 ·simp
end Go.Proofs.Ytfpobiheiloamaa
