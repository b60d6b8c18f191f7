/- Texts of this proof, joined. -/
import Derived.Test.YtbbjelfnocmaoaaAax
import Derived.Test.YtbbjelfnocmaoaaAaz

/- substitutions: found, got -/
set_option maxRecDepth 4000
namespace Go.Proofs.Ytbbjelfnocmaoaa
open Go Go.RowKit Go.V
set_option linter.unusedVariables false
set_option linter.unusedSimpArgs false

theorem qea (v : Int) : qdq [] v = .tup [.int .i64 0, .bool false] := rfl
theorem q5u (v : Int) : qk Try.prog 43 [.sl 4 [], .int .i64 v, .fn 44 [] []] (qdq [] v) := by
 refine qf c0p (by simp) (by simp only [go_sem]) rfl fun hw => ?_
 rw [qea]
 repeat' (first | refine vs_ ?_ | ((first | refine vr_ ?_ | (refine cs_ ?_ ?_ <;> intro hc) | refine cj_ ?_ | simp (disch := omega) only [encs_getN, qb]) <;> (try refine ev_ ?_)) | with_reducible exact ti_)
 refine qz (S := Unit) (fun _ => True) (fun _ => (⟨[(0, .sl 4 []), (1, .int .i64 v), (2, .fn 44 [] []), (8, .int .i64 0), (9, .int .i64 0), (10, .int .i64 0)], []⟩, [])) (fun _ => 0) ?_ fun x hx => ?_
 ·refine qp () [] trivial rfl (by simp) ?_ ?_ ?_ <;> (try refine ev_ ?_) <;> (try with_reducible exact ti_) <;> (try simp (disch := omega) only [qb, and_true, true_and])
 ·repeat' (first | refine vs_ ?_ | ((first | refine vr_ ?_ | (refine cs_ ?_ ?_ <;> intro hc) | refine cj_ ?_ | simp (disch := omega) only [encs_getN, qb]) <;> (try refine ev_ ?_)) | with_reducible exact ti_)
  ·exact absurd hc (by omega)
  ·exact ⟨rfl, rfl⟩
def subH (s : List Pr) : List Ent := if s = [] then [.blk [.nils]] else [.blk [.row 1 s.length], qbj s]
theorem qj0 : subH [] = [.blk [.nils]] := rfl
theorem qnz {s : List Pr} (h : s ≠ []) : subH s = [.blk [.row 1 s.length], qbj s] := by rw [subH, if_neg h]
abbrev subE (s : List Pr) : Ent := bun (subH s)
theorem qha {Q : List Ent → VO → Prop} {H' : List Ent} {r : AV} (h0 : ent H' 0 = .blk [.nils]) (hl : 0 < H'.length) (hr : r.bd 0 = true) (h : Q [subE []] (.val r)) : qfh Q H' (.val r) :=
 ⟨[.blk [.nils]], [0], rfl, by simp, by simp, ⟨⟨hl, rfl, by rw [h0]; rfl⟩, trivial⟩, qkr (Nat.zero_le _) _ hr, h⟩
theorem qdc {Q : List Ent → VO → Prop} {H' : List Ent} {s : List Pr} {r : AV} (k : Nat) (hs : s ≠ []) (h0 : ent H' 0 = .blk [.row k s.length]) (h1 : ent H' k = qbj s) (hk : 0 < k) (hl : k < H'.length) (hr : r.bd 0 = true) (h : Q [subE s] (.val r)) : qfh Q H' (.val r) :=
 ⟨[.blk [.row 1 s.length], qbj s], [0, k], rfl, by simp, by simp; omega, ⟨⟨by omega, rfl, by rw [h0]; rfl⟩, ⟨hl, qe8 s 2, by rw [h1]; simp only [qbj, Ent.ren, qin]⟩, trivial⟩, qkr (Nat.zero_le _) _ hr, by rwa [subE, qnz hs] at h⟩
theorem qds (σ : Nat → Nat) (s : List Pr) : (qbj s).ren σ = qbj s := by simp only [qbj, Ent.ren, qin]
theorem qfv : ∀ {H : List Ent} {i : Nat} {e : Ent}, ent H i = e → i < H.length → H.set i e = H
 | [], i, e, _, hl => by simp at hl
 | x :: r, 0, e, h, _ => by rw [← h]; rfl
 | x :: r, i + 1, e, h, hl => by
   have h' : ent r i = e := h
   rw [List.set_cons_succ, qfv h' (by simpa using hl)]
theorem qyt (v : Int) : VCalls Try.prog 24 [.blk [.nils]] [.ptr 0 0, .int .i64 v] fun H' o => H' = [.blk [.nils]] ∧ o = .val (qdq [] v) := by
 refine qn c0q 1 (by simp) (by simp) ?_
 rw [qea]
 repeat' (first | refine vs_ ?_ | ((first | refine vr_ ?_ | refine qa (q5u _) fun _ => ?_ | simp (disch := omega) only [qea] | (refine cs_ ?_ ?_ <;> intro hc) | refine cj_ ?_ | fail) <;> (try refine ev_ ?_)) | with_reducible exact ti_)
theorem q5x {s : List Pr} (ho : risR s) (hl : s.length ≤ 100000) (v : Int) : VCalls Try.prog 24 [.blk [.row 1 s.length], qbj s] [.ptr 0 0, .int .i64 v] fun H' o => H' = [.blk [.row 1 s.length], qbj s] ∧ o = .val (qdq s v) := by
 refine qn c0q 2 (by simp) (by simp [qbj, Ent.bd, qef]) ?_
 rw [qdq]
 repeat' (first | refine vs_ ?_ | ((first | refine vr_ ?_ | refine qbr 1 (q0y ho hl v) ?_ (qe8 s 0) (qe8 s 0) | simp (disch := omega) only [qdq] | (refine cs_ ?_ ?_ <;> intro hc) | refine cj_ ?_ | fail) <;> (try refine ev_ ?_)) | with_reducible exact ti_)
section
variable {H : List Ent} {Q : List Ent → VO → Prop} {K : Md → AV → List Ent → Prop} {raws : List AV} {s : List Pr}
theorem qlw (v : Int) (hq : Q H (.val (qdq [] v))) (h0 : ent H 0 = .blk [.nils] := by rfl) (hl' : 0 < H.length := by simp) : VApp Try.prog H (.fn 24 [] []) [.ptr 0 0, .int .i64 v] Q := by
 refine qcw ?_
 rw [List.nil_append, List.append_nil]
 refine qbx [0] (qyt v) (by simp) ⟨⟨by omega, rfl, h0⟩, trivial⟩ rfl rfl fun H1 o ho => ?_
 obtain ⟨rfl, rfl⟩ := ho
 have : qir H [0] [.blk [.nils]] = H := by
  show (H.set 0 (.blk [.nils])) ++ [] = H
  rw [List.append_nil, qfv h0 hl']
 rw [this]
 exact hq
theorem qfo (ho : risR s) (hl : s.length ≤ 100000) (v : Int) (hq : Q H (.val (qdq s v))) (h0 : ent H 0 = .blk [.row 1 s.length] := by rfl) (h1 : ent H 1 = qbj s := by rfl) (hl' : 1 < H.length := by simp) : VApp Try.prog H (.fn 24 [] []) [.ptr 0 0, .int .i64 v] Q := by
 refine qcw ?_
 rw [List.nil_append, List.append_nil]
 refine qbx [0, 1] (q5x ho hl v) (by simp) ⟨⟨by omega, rfl, h0⟩, ⟨hl', qe8 s 2, by rw [h1, qds]⟩, trivial⟩ rfl rfl fun H1 o ho => ?_
 obtain ⟨rfl, rfl⟩ := ho
 have : qir H [0, 1] [.blk [.row 1 s.length], qbj s] = H := by
  show ((H.set 0 (.blk [.row 1 s.length])).set 1 ((qbj s).ren _)) ++ [] = H
  rw [List.append_nil, qds, qfv h0 (by omega), qfv h1 hl']
 rw [this]
 exact hq
end
set_option maxRecDepth 4000

def getV (s : List Pr) (v : Int) : AV := .tup [encY ((qbl v s).getD Y0), .bool (qbl v s).isSome]
theorem q4i (k : Nat) (s : List Pr) (v : Int) : (getV s v).bd k = true := by simp only [getV, AV.bd, AV.bds, qbv, Bool.and_true, Bool.true_and]
theorem q5q (v : Int) : VCalls Try.prog 59 [.blk [.nils]] [.ptr 0 0, .int .i64 v] (qfh fun H' o => H' = [subE []] ∧ o = .val (getV [] v)) := by
 refine qn c0o 1 (by simp) (by simp) ?_
 repeat' (first | refine vs_ ?_ | ((first | refine vr_ ?_ | refine qlw v ?_ | simp (disch := omega) only [qea] | (refine cs_ ?_ ?_ <;> intro hc) | refine cj_ ?_ | simp (disch := omega) only [encs_getN, qb]) <;> (try refine ev_ ?_)) | with_reducible exact ti_)
 all_goals exact qha rfl (by simp) rfl ⟨rfl, rfl⟩
theorem qbdi {s : List Pr} (hs : s ≠ []) (ho : risR s) (hl : s.length ≤ 100000) (v : Int) : VCalls Try.prog 59 [.blk [.row 1 s.length], qbj s] [.ptr 0 0, .int .i64 v] (qfh fun H' o => H' = [subE s] ∧ o = .val (getV s v)) := by
 refine qn c0o 2 (by simp) (by simp [qbj, Ent.bd, qef]) ?_
 have hlk := qgr (v := v) ho
 have hf : qdq s v = .tup [.int .i64 (ahdR v s), .bool (qbl v s).isSome] := rfl
 by_cases hin : ahdR v s < s.length ∧ (s.getD (ahdR v s) R0).v = v
 ·rw [if_pos hin] at hlk
  have hp := qeb hin.1
  have hi := hin.1
  rw [hlk, Option.isSome_some] at hf
  have hg : getV s v = .tup [encY (s.getD (ahdR v s) R0).ty, .bool true] := by rw [getV, hlk]; rfl
  rw [hg]
  clear hin
  repeat' (first | refine vs_ ?_ | ((first | refine vr_ ?_ | fail) <;> (try simp only [hp, go_sem, ↓reduceIte])) | ((first | simp (disch := omega) only [hf] | simp (disch := omega) only [hp] | (refine cs_ ?_ ?_ <;> intro hc) | refine cj_ ?_ | simp (disch := omega) only [encs_getN, qb] | refine qfo ho hl v ?_) <;> (try refine ev_ ?_)) | with_reducible exact ti_)
  all_goals exact qdc 1 hs rfl rfl (by simp) (by simp) (by first | rfl | simp only [AV.bd, AV.bds, qbv, Bool.and_true]) ⟨rfl, rfl⟩
 ·rw [if_neg hin] at hlk
  rw [hlk, Option.isSome_none] at hf
  have hg : getV s v = .tup [encY Y0, .bool false] := by rw [getV, hlk]; rfl
  rw [hg]
  repeat' (first | refine vs_ ?_ | ((first | refine vr_ ?_ | refine qfo ho hl v ?_ | simp (disch := omega) only [hf] | (refine cs_ ?_ ?_ <;> intro hc) | refine cj_ ?_ | simp (disch := omega) only [encs_getN, qb]) <;> (try refine ev_ ?_)) | with_reducible exact ti_)
  all_goals exact qdc 1 hs rfl rfl (by simp) (by simp) (by first | rfl | simp only [AV.bd, AV.bds, qbv, Bool.and_true]) ⟨rfl, rfl⟩
theorem qr6 {s : List Pr} (ho : risR s) (hl : s.length ≤ 100000) (v : Int) : VM Try.prog 59 (subE s) (subE s) [.ptr 0 0, .int .i64 v] (getV s v) := by
 by_cases hs : s = []
 ·subst hs
  exact qpl (by rw [qj0]; exact q5q v) rfl
 ·exact qpl (by have := qbdi hs ho hl v; rwa [← qnz hs] at this) rfl
set_option maxRecDepth 4000

abbrev insF : FuncId := 25
theorem qg7 (p : Pr) : (encR p).cells.length = 4 ∧ (encR p).flat := ⟨rfl, .inl ⟨rfl, rfl⟩⟩
theorem qqy (l : List Pr) : ∀ e ∈ qci l, e.flat := fun e he => by
 obtain ⟨p, _, rfl⟩ := List.mem_map.1 he
 exact (qg7 p).2
section
variable {H : List Ent} {K : Md → AV → List Ent → Prop} {args raws : List AV} {s : List Pr} {p : Pr}
theorem q0p (j : Nat) {i : Nat} (hi : i ≤ s.length) (hl : s.length ≤ 100000) (h1 : ent H j = qbj s) : Gro Try.prog H (.fn insF [] []) [.row j s.length, .int .i64 i, .lit 4 [encR p]] (some (j, qbj s)) (qbj (s.take i ++ p :: s.drop i)) (s.length + 1) := by
 refine ⟨fun q hq => by cases hq; exact ⟨by simp, h1⟩, fun H₀ h0 => ?_⟩
 have h0 : ent H₀ j = qbj s := h0 _ rfl
 have hl' := (List.getElem?_eq_some_iff.1 (qv h0 (by simp))).1
 have hv := qyr (es := qci s) (x := encR p) (i := i) (by rw [qfg]; exact hi) (by rw [qfg]; omega) (qg7 p) (by simp only [AV.bds, qga, qef, Bool.and_true]) (qqy s)
 rw [qfg] at hv
 refine qcw ?_
 rw [List.nil_append, List.append_nil]
 refine qbx [j] hv (by simp) ⟨⟨hl', qe8 s 1, by rw [h0, qds]⟩, trivial⟩ (by simp [AV.bds, AV.bd, qga]) (by simp only [AV.rens, AV.ren, qki]; rfl) fun H1 o ho => ?_
 obtain ⟨rfl, rfl⟩ := ho
 have he : qci (s.take i ++ p :: s.drop i) = (qci s).take i ++ encR p :: (qci s).drop i := by simp [qci]
 refine ⟨?_, ?_⟩
 ·rw [← he]
  show (H₀.set j .dead) ++ [(qbj (s.take i ++ p :: s.drop i)).ren _] = (H₀.set j .dead) ++ [_]
  rw [qds]
 ·show VO.val (.row (H₀.length + (1 - 1)) _) = _
  simp
theorem q0x : Gro Try.prog H (.fn insF [] []) [.nils, .int .i64 0, .lit 4 [encR p]] none (qbj [p]) 1 := by
 refine ⟨fun q hq => (by cases hq), fun H₀ h0 => ?_⟩
 refine qcw ?_
 rw [List.nil_append, List.append_nil]
 refine qbx [] (qme (qg7 p)) (by simp) trivial (by simp [AV.bds, AV.bd, qga]) (by simp only [AV.rens, AV.ren, qki]) fun H1 o ho => ?_
 obtain ⟨rfl, rfl⟩ := ho
 refine ⟨?_, ?_⟩
 ·show H₀ ++ [(qbj [p]).ren _] = H₀ ++ [_]
  rw [qds]
 ·show VO.val (.row (H₀.length + (0 - 0)) _) = _
  simp
theorem qbdj (j : Nat) {i : Nat} (hi : i ≤ s.length) (hl : s.length ≤ 100000) (hq : K (.grow (some (j, qbj s)) (qbj (s.take i ++ p :: s.drop i)) (s.length + 1)) (.row H.length (s.length + 1)) (H.set j .dead ++ [qbj (s.take i ++ p :: s.drop i)])) (h1 : ent H j = qbj s := by rfl) (hr : raws = [.row j s.length, .int .i64 i, .lit 4 [encR p]] := by rfl) :
 DApp Try.prog H (.fn insF [] []) args raws K := by
 subst hr
 exact .inr (.inr (.inr ⟨_, _, _, q0p j hi hl h1, hq⟩))
theorem qbb9 (hq : K (.grow none (qbj [p]) 1) (.row H.length 1) (H ++ [qbj [p]])) (hr : raws = [.nils, .int .i64 0, .lit 4 [encR p]] := by rfl) : DApp Try.prog H (.fn insF [] []) args raws K := by
 subst hr
 exact .inr (.inr (.inr ⟨_, _, _, q0x, hq⟩))
end
theorem qox {s : List Pr} {v : Int} {t : Ty} (h : q6 t = false) : setR s v t = (s, 1) := by rw [setR, if_neg (by simp [h])]
theorem qx0 {s : List Pr} {v : Int} {t u : Ty} (h : q6 t = true) (hl : qbl v s = some u) : setR s v t = (s, 6) := by rw [setR, if_pos h, hl]
theorem qo2 {s : List Pr} {v : Int} {t : Ty} (h : q6 t = true) (hl : qbl v s = none) : setR s v t = (insR v t s, 0) := by rw [setR, if_pos h, hl]
theorem q69 (v : Int) {t : Ty} (h1 : szY t ≤ 20000) (h2 : dpY t ≤ 300) : VCalls Try.prog 16 [.blk [.nils]] [.ptr 0 0, .int .i64 v, encY t] (qfh fun H' o => H' = [subE (setR [] v t).1] ∧ o = .val (.int .i64 (setR [] v t).2)) := by
 have hLg := qb3 h1 h2
 have hcp := qd8 t (by omega)
 by_cases hlg : q6 t = true
 ·rw [qo2 hlg rfl]
  rw [hlg] at hLg
  refine qn c0n 3 (by simp) (by simp) ?_
  repeat' (first | refine vs_ ?_ | ((first | refine vr_ ?_ | refine qa hLg fun _ => ?_ | refine qa hcp fun _ => ?_ | refine qlw v ?_ | refine qbb9 (p := ⟨v, t⟩) ?_ | refine qg hLg ?_ | refine qg hcp ?_ | simp (disch := omega) only [qea] | (refine cs_ ?_ ?_ <;> intro hc) | refine cj_ ?_ | fail) <;> (try refine ev_ ?_)) | with_reducible exact ti_)
  all_goals exact qdc (s := insR v t []) 2 (by simp [qn7]) rfl rfl (by simp) (by simp) rfl ⟨rfl, rfl⟩
 ·have hlg : q6 t = false := by simpa using hlg
  rw [qox hlg]
  rw [hlg] at hLg
  refine qn c0n 1 (by simp) (by simp) ?_
  repeat' (first | refine vs_ ?_ | ((first | refine vr_ ?_ | refine qa hLg fun _ => ?_ | refine qg hLg ?_ | (refine cs_ ?_ ?_ <;> intro hc) | refine cj_ ?_ | fail) <;> (try refine ev_ ?_)) | with_reducible exact ti_)
  all_goals exact qha rfl (by simp) rfl ⟨rfl, rfl⟩
theorem qbej {s : List Pr} (hs : s ≠ []) (ho : risR s) (hl : s.length ≤ 100000) (v : Int) {t : Ty} (h1 : szY t ≤ 20000) (h2 : dpY t ≤ 300) : VCalls Try.prog 16 [.blk [.row 1 s.length], qbj s] [.ptr 0 0, .int .i64 v, encY t] (qfh fun H' o => H' = [subE (setR s v t).1] ∧ o = .val (.int .i64 (setR s v t).2)) := by
 have hLg := qb3 h1 h2
 have hcp := qd8 t (by omega)
 have hA := qke v s
 by_cases hlg : q6 t = true
 ·cases hlk : qbl v s with
  | some u =>
    have hf : qdq s v = .tup [.int .i64 (ahdR v s), .bool true] := by rw [qdq, hlk]; rfl
    rw [qx0 hlg hlk]
    rw [hlg] at hLg
    refine qn c0n 2 (by simp) (by simp) ?_
    repeat' (first | refine vs_ ?_ | ((first | refine vr_ ?_ | refine qa hLg fun _ => ?_ | refine qfo ho hl v ?_ | refine qg hLg ?_ | simp (disch := omega) only [hf] | (refine cs_ ?_ ?_ <;> intro hc) | refine cj_ ?_ | fail) <;> (try refine ev_ ?_)) | with_reducible exact ti_)
    all_goals exact qdc 1 hs rfl rfl (by simp) (by simp) rfl ⟨rfl, rfl⟩
  | none =>
    have hf : qdq s v = .tup [.int .i64 (ahdR v s), .bool false] := by rw [qdq, hlk]; rfl
    rw [qo2 hlg hlk]
    rw [hlg] at hLg
    refine qn c0n 4 (by simp) (by simp) ?_
    repeat' (first | refine vs_ ?_ | ((first | refine vr_ ?_ | refine qa hLg fun _ => ?_ | refine qa hcp fun _ => ?_ | refine qfo ho hl v ?_ | refine qbdj 1 (p := ⟨v, t⟩) hA hl ?_ | refine qg hLg ?_ | refine qg hcp ?_ | simp (disch := omega) only [hf] | (refine cs_ ?_ ?_ <;> intro hc) | refine cj_ ?_ | fail) <;> (try refine ev_ ?_)) | with_reducible exact ti_)
    all_goals exact qdc (s := insR v t s) 3 (by simp [insR]) (by rw [qo6]; rfl) rfl (by simp) (by simp) rfl ⟨rfl, rfl⟩
 ·have hlg : q6 t = false := by simpa using hlg
  rw [qox hlg]
  rw [hlg] at hLg
  refine qn c0n 2 (by simp) (by simp) ?_
  repeat' (first | refine vs_ ?_ | ((first | refine vr_ ?_ | refine qa hLg fun _ => ?_ | refine qg hLg ?_ | (refine cs_ ?_ ?_ <;> intro hc) | refine cj_ ?_ | fail) <;> (try refine ev_ ?_)) | with_reducible exact ti_)
  all_goals exact qdc 1 hs rfl rfl (by simp) (by simp) rfl ⟨rfl, rfl⟩
theorem qj8 {s : List Pr} (ho : risR s) (hl : s.length ≤ 100000) (v : Int) {t : Ty} (h1 : szY t ≤ 20000) (h2 : dpY t ≤ 300) : VM Try.prog 16 (subE s) (subE (setR s v t).1) [.ptr 0 0, .int .i64 v, encY t] (.int .i64 (setR s v t).2) := by
 by_cases hs : s = []
 ·subst hs
  exact qpl (by rw [qj0]; exact q69 v h1 h2) (by simp [AV.bds, AV.bd, qbv])
 ·exact qpl (by have := qbej hs ho hl v h1 h2; rwa [← qnz hs] at this) (by simp [AV.bds, AV.bd, qbv])
end Go.Proofs.Ytbbjelfnocmaoaa
