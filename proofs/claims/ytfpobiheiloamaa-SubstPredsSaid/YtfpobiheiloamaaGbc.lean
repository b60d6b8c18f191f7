/- Texts of this proof, joined. -/
import Derived.Test.YtfpobiheiloamaaGaz
import Derived.Test.YtfpobiheiloamaaGbb

/- substitutions: found, got -/
set_option maxRecDepth 4000
namespace Go.Proofs.Ytfpobiheiloamaa
open Go Go.RowKit Go.V
set_option linter.unusedVariables false
set_option linter.unusedSimpArgs false

theorem qd4 (v : Int) : qds [] v = .tup [.int .i64 0, .bool false] := rfl
theorem q31 (v : Int) : qn Try.prog 115 [.sl 4 [], .int .i64 v, .fn 116 [] []] (qds [] v) := by
 refine qe c0bo (by simp) (by simp only [go_sem]) rfl fun hw => ?_
 rw [qd4]
 repeat' (first | refine vs_ ?_ | ((first | refine vr_ ?_ | (refine cs_ ?_ ?_ <;> intro hc) | refine cj_ ?_ | simp (disch := omega) only [encs_getN, qb]) <;> (try refine ev_ ?_)) | with_reducible exact ti_)
 refine qk (S := Unit) (fun _ => True) (fun _ => (⟨[(0, .sl 4 []), (1, .int .i64 v), (2, .fn 116 [] []), (8, .int .i64 0), (9, .int .i64 0), (10, .int .i64 0)], []⟩, [])) (fun _ => 0) ?_ fun x hx => ?_
 ·refine qh () [] trivial rfl (by simp) ?_ ?_ ?_ <;> (try refine ev_ ?_) <;> (try with_reducible exact ti_) <;> (try simp (disch := omega) only [qb, and_true, true_and])
 ·repeat' (first | refine vs_ ?_ | ((first | refine vr_ ?_ | (refine cs_ ?_ ?_ <;> intro hc) | refine cj_ ?_ | simp (disch := omega) only [encs_getN, qb]) <;> (try refine ev_ ?_)) | with_reducible exact ti_)
  ·exact absurd hc (by omega)
  ·exact ⟨rfl, rfl⟩
def subH (s : List Pr) : List Ent := if s = [] then [.blk [.nils]] else [.blk [.row 1 s.length], qbp s]
theorem qg5 : subH [] = [.blk [.nils]] := rfl
theorem qkt {s : List Pr} (h : s ≠ []) : subH s = [.blk [.row 1 s.length], qbp s] := by rw [subH, if_neg h]
abbrev subE (s : List Pr) : Ent := bun (subH s)
theorem qer {Q : List Ent → VO → Prop} {H' : List Ent} {r : AV} (h0 : ent H' 0 = .blk [.nils]) (hl : 0 < H'.length) (hr : r.bd 0 = true) (h : Q [subE []] (.val r)) : qd5 Q H' (.val r) :=
 ⟨[.blk [.nils]], [0], rfl, by simp, by simp, ⟨⟨hl, rfl, by rw [h0]; rfl⟩, trivial⟩, qkp (Nat.zero_le _) _ hr, h⟩
theorem qct {Q : List Ent → VO → Prop} {H' : List Ent} {s : List Pr} {r : AV} (k : Nat) (hs : s ≠ []) (h0 : ent H' 0 = .blk [.row k s.length]) (h1 : ent H' k = qbp s) (hk : 0 < k) (hl : k < H'.length) (hr : r.bd 0 = true) (h : Q [subE s] (.val r)) : qd5 Q H' (.val r) :=
 ⟨[.blk [.row 1 s.length], qbp s], [0, k], rfl, by simp, by simp; omega, ⟨⟨by omega, rfl, by rw [h0]; rfl⟩, ⟨hl, qfg s 2, by rw [h1]; simp only [qbp, Ent.ren, qh7]⟩, trivial⟩, qkp (Nat.zero_le _) _ hr, by rwa [subE, qkt hs] at h⟩
theorem qd7 (σ : Nat → Nat) (s : List Pr) : (qbp s).ren σ = qbp s := by simp only [qbp, Ent.ren, qh7]
theorem qdl : ∀ {H : List Ent} {i : Nat} {e : Ent}, ent H i = e → i < H.length → H.set i e = H
 | [], i, e, _, hl => by simp at hl
 | x :: r, 0, e, h, _ => by rw [← h]; rfl
 | x :: r, i + 1, e, h, hl => by
   have h' : ent r i = e := h
   rw [List.set_cons_succ, qdl h' (by simpa using hl)]
theorem qz7 (v : Int) : VCalls Try.prog 82 [.blk [.nils]] [.ptr 0 0, .int .i64 v] fun H' o => H' = [.blk [.nils]] ∧ o = .val (qds [] v) := by
 refine qp c0bp 1 (by simp) (by simp) ?_
 rw [qd4]
 repeat' (first | refine vs_ ?_ | ((first | refine vr_ ?_ | refine qa (q31 _) fun _ => ?_ | simp (disch := omega) only [qd4] | (refine cs_ ?_ ?_ <;> intro hc) | refine cj_ ?_ | fail) <;> (try refine ev_ ?_)) | with_reducible exact ti_)
theorem q81 {s : List Pr} (ho : risR s) (hl : s.length ≤ 100000) (v : Int) : VCalls Try.prog 82 [.blk [.row 1 s.length], qbp s] [.ptr 0 0, .int .i64 v] fun H' o => H' = [.blk [.row 1 s.length], qbp s] ∧ o = .val (qds s v) := by
 refine qp c0bp 2 (by simp) (by simp [qbp, Ent.bd, qbi]) ?_
 rw [qds]
 repeat' (first | refine vs_ ?_ | ((first | refine vr_ ?_ | refine qco 1 (q3s ho hl v) ?_ (qfg s 0) (qfg s 0) | simp (disch := omega) only [qds] | (refine cs_ ?_ ?_ <;> intro hc) | refine cj_ ?_ | fail) <;> (try refine ev_ ?_)) | with_reducible exact ti_)
section
variable {H : List Ent} {Q : List Ent → VO → Prop} {K : Md → AV → List Ent → Prop} {raws : List AV} {s : List Pr}
theorem qlc (v : Int) (hq : Q H (.val (qds [] v))) (h0 : ent H 0 = .blk [.nils] := by rfl) (hl' : 0 < H.length := by simp) : VApp Try.prog H (.fn 82 [] []) [.ptr 0 0, .int .i64 v] Q := by
 refine qc6 ?_
 rw [List.nil_append, List.append_nil]
 refine qb4 [0] (qz7 v) (by simp) ⟨⟨by omega, rfl, h0⟩, trivial⟩ rfl rfl fun H1 o ho => ?_
 obtain ⟨rfl, rfl⟩ := ho
 have : qgt H [0] [.blk [.nils]] = H := by
  show (H.set 0 (.blk [.nils])) ++ [] = H
  rw [List.append_nil, qdl h0 hl']
 rw [this]
 exact hq
theorem qfq (ho : risR s) (hl : s.length ≤ 100000) (v : Int) (hq : Q H (.val (qds s v))) (h0 : ent H 0 = .blk [.row 1 s.length] := by rfl) (h1 : ent H 1 = qbp s := by rfl) (hl' : 1 < H.length := by simp) : VApp Try.prog H (.fn 82 [] []) [.ptr 0 0, .int .i64 v] Q := by
 refine qc6 ?_
 rw [List.nil_append, List.append_nil]
 refine qb4 [0, 1] (q81 ho hl v) (by simp) ⟨⟨by omega, rfl, h0⟩, ⟨hl', qfg s 2, by rw [h1, qd7]⟩, trivial⟩ rfl rfl fun H1 o ho => ?_
 obtain ⟨rfl, rfl⟩ := ho
 have : qgt H [0, 1] [.blk [.row 1 s.length], qbp s] = H := by
  show ((H.set 0 (.blk [.row 1 s.length])).set 1 ((qbp s).ren _)) ++ [] = H
  rw [List.append_nil, qd7, qdl h0 (by omega), qdl h1 hl']
 rw [this]
 exact hq
end
set_option maxRecDepth 4000

def getV (s : List Pr) (v : Int) : AV := .tup [encY ((qv v s).getD Y0), .bool (qv v s).isSome]
theorem qbbz (k : Nat) (s : List Pr) (v : Int) : (getV s v).bd k = true := by simp only [getV, AV.bd, AV.bds, qb2, Bool.and_true, Bool.true_and]
theorem q6h (v : Int) : VCalls Try.prog 37 [.blk [.nils]] [.ptr 0 0, .int .i64 v] (qd5 fun H' o => H' = [subE []] ∧ o = .val (getV [] v)) := by
 refine qp c0bn 1 (by simp) (by simp) ?_
 repeat' (first | refine vs_ ?_ | ((first | refine vr_ ?_ | refine qlc v ?_ | simp (disch := omega) only [qd4] | (refine cs_ ?_ ?_ <;> intro hc) | refine cj_ ?_ | simp (disch := omega) only [encs_getN, qb]) <;> (try refine ev_ ?_)) | with_reducible exact ti_)
 all_goals exact qer rfl (by simp) rfl ⟨rfl, rfl⟩
theorem qbg7 {s : List Pr} (hs : s ≠ []) (ho : risR s) (hl : s.length ≤ 100000) (v : Int) : VCalls Try.prog 37 [.blk [.row 1 s.length], qbp s] [.ptr 0 0, .int .i64 v] (qd5 fun H' o => H' = [subE s] ∧ o = .val (getV s v)) := by
 refine qp c0bn 2 (by simp) (by simp [qbp, Ent.bd, qbi]) ?_
 have hlk := qgv (v := v) ho
 have hf : qds s v = .tup [.int .i64 (ahdR v s), .bool (qv v s).isSome] := rfl
 by_cases hin : ahdR v s < s.length ∧ (s.getD (ahdR v s) R0).v = v
 ·rw [if_pos hin] at hlk
  have hp := qj hin.1
  have hi := hin.1
  rw [hlk, Option.isSome_some] at hf
  have hg : getV s v = .tup [encY (s.getD (ahdR v s) R0).ty, .bool true] := by rw [getV, hlk]; rfl
  rw [hg]
  clear hin
  repeat' (first | refine vs_ ?_ | ((first | refine vr_ ?_ | fail) <;> (try simp only [hp, go_sem, ↓reduceIte])) | ((first | simp (disch := omega) only [hf] | simp (disch := omega) only [hp] | (refine cs_ ?_ ?_ <;> intro hc) | refine cj_ ?_ | simp (disch := omega) only [encs_getN, qb] | refine qfq ho hl v ?_) <;> (try refine ev_ ?_)) | with_reducible exact ti_)
  all_goals exact qct 1 hs rfl rfl (by simp) (by simp) (by first | rfl | simp only [AV.bd, AV.bds, qb2, Bool.and_true]) ⟨rfl, rfl⟩
 ·rw [if_neg hin] at hlk
  rw [hlk, Option.isSome_none] at hf
  have hg : getV s v = .tup [encY Y0, .bool false] := by rw [getV, hlk]; rfl
  rw [hg]
  repeat' (first | refine vs_ ?_ | ((first | refine vr_ ?_ | refine qfq ho hl v ?_ | simp (disch := omega) only [hf] | (refine cs_ ?_ ?_ <;> intro hc) | refine cj_ ?_ | simp (disch := omega) only [encs_getN, qb]) <;> (try refine ev_ ?_)) | with_reducible exact ti_)
  all_goals exact qct 1 hs rfl rfl (by simp) (by simp) (by first | rfl | simp only [AV.bd, AV.bds, qb2, Bool.and_true]) ⟨rfl, rfl⟩
theorem qnz {s : List Pr} (ho : risR s) (hl : s.length ≤ 100000) (v : Int) : VM Try.prog 37 (subE s) (subE s) [.ptr 0 0, .int .i64 v] (getV s v) := by
 by_cases hs : s = []
 ·subst hs
  exact qjt (by rw [qg5]; exact q6h v) rfl
 ·exact qjt (by have := qbg7 hs ho hl v; rwa [← qkt hs] at this) rfl
set_option maxRecDepth 4000

abbrev insF : FuncId := 85
theorem qh4 (p : Pr) : (encR p).cells.length = 4 ∧ (encR p).flat := ⟨rfl, .inl ⟨rfl, rfl⟩⟩
theorem qi8 (l : List Pr) : ∀ e ∈ qo l, e.flat := fun e he => by
 obtain ⟨p, _, rfl⟩ := List.mem_map.1 he
 exact (qh4 p).2
section
variable {H : List Ent} {K : Md → AV → List Ent → Prop} {args raws : List AV} {s : List Pr} {p : Pr}
theorem q1c (j : Nat) {i : Nat} (hi : i ≤ s.length) (hl : s.length ≤ 100000) (h1 : ent H j = qbp s) : Gro Try.prog H (.fn insF [] []) [.row j s.length, .int .i64 i, .lit 4 [encR p]] (some (j, qbp s)) (qbp (s.take i ++ p :: s.drop i)) (s.length + 1) := by
 refine ⟨fun q hq => by cases hq; exact ⟨by simp, h1⟩, fun H₀ h0 => ?_⟩
 have h0 : ent H₀ j = qbp s := h0 _ rfl
 have hl' := (List.getElem?_eq_some_iff.1 (qx h0 (by simp))).1
 have hv := qzv (es := qo s) (x := encR p) (i := i) (by rw [qb3]; exact hi) (by rw [qb3]; omega) (qh4 p) (by simp only [AV.bds, qgc, qbi, Bool.and_true]) (qi8 s)
 rw [qb3] at hv
 refine qc6 ?_
 rw [List.nil_append, List.append_nil]
 refine qb4 [j] hv (by simp) ⟨⟨hl', qfg s 1, by rw [h0, qd7]⟩, trivial⟩ (by simp [AV.bds, AV.bd, qgc]) (by simp only [AV.rens, AV.ren, qkw]; rfl) fun H1 o ho => ?_
 obtain ⟨rfl, rfl⟩ := ho
 have he : qo (s.take i ++ p :: s.drop i) = (qo s).take i ++ encR p :: (qo s).drop i := by simp [qo]
 refine ⟨?_, ?_⟩
 ·rw [← he]
  show (H₀.set j .dead) ++ [(qbp (s.take i ++ p :: s.drop i)).ren _] = (H₀.set j .dead) ++ [_]
  rw [qd7]
 ·show VO.val (.row (H₀.length + (1 - 1)) _) = _
  simp
theorem q7v : Gro Try.prog H (.fn insF [] []) [.nils, .int .i64 0, .lit 4 [encR p]] none (qbp [p]) 1 := by
 refine ⟨fun q hq => (by cases hq), fun H₀ h0 => ?_⟩
 refine qc6 ?_
 rw [List.nil_append, List.append_nil]
 refine qb4 [] (qk6 (qh4 p)) (by simp) trivial (by simp [AV.bds, AV.bd, qgc]) (by simp only [AV.rens, AV.ren, qkw]) fun H1 o ho => ?_
 obtain ⟨rfl, rfl⟩ := ho
 refine ⟨?_, ?_⟩
 ·show H₀ ++ [(qbp [p]).ren _] = H₀ ++ [_]
  rw [qd7]
 ·show VO.val (.row (H₀.length + (0 - 0)) _) = _
  simp
theorem qbho (j : Nat) {i : Nat} (hi : i ≤ s.length) (hl : s.length ≤ 100000) (hq : K (.grow (some (j, qbp s)) (qbp (s.take i ++ p :: s.drop i)) (s.length + 1)) (.row H.length (s.length + 1)) (H.set j .dead ++ [qbp (s.take i ++ p :: s.drop i)])) (h1 : ent H j = qbp s := by rfl) (hr : raws = [.row j s.length, .int .i64 i, .lit 4 [encR p]] := by rfl) :
 DApp Try.prog H (.fn insF [] []) args raws K := by
 subst hr
 exact .inr (.inr (.inr ⟨_, _, _, q1c j hi hl h1, hq⟩))
theorem qbir (hq : K (.grow none (qbp [p]) 1) (.row H.length 1) (H ++ [qbp [p]])) (hr : raws = [.nils, .int .i64 0, .lit 4 [encR p]] := by rfl) : DApp Try.prog H (.fn insF [] []) args raws K := by
 subst hr
 exact .inr (.inr (.inr ⟨_, _, _, q7v, hq⟩))
end
theorem qo6 {s : List Pr} {v : Int} {t : Ty} (h : qs t = false) : setR s v t = (s, 1) := by rw [setR, if_neg (by simp [h])]
theorem qv2 {s : List Pr} {v : Int} {t u : Ty} (h : qs t = true) (hl : qv v s = some u) : setR s v t = (s, 6) := by rw [setR, if_pos h, hl]
theorem qor {s : List Pr} {v : Int} {t : Ty} (h : qs t = true) (hl : qv v s = none) : setR s v t = (insR v t s, 0) := by rw [setR, if_pos h, hl]
theorem q46 (v : Int) {t : Ty} (h1 : szY t ≤ 20000) (h2 : dpY t ≤ 300) : VCalls Try.prog 45 [.blk [.nils]] [.ptr 0 0, .int .i64 v, encY t] (qd5 fun H' o => H' = [subE (setR [] v t).1] ∧ o = .val (.int .i64 (setR [] v t).2)) := by
 have hLg := qc3 h1 h2
 have hcp := qcz t (by omega)
 by_cases hlg : qs t = true
 ·rw [qor hlg rfl]
  rw [hlg] at hLg
  refine qp c0bm 3 (by simp) (by simp) ?_
  repeat' (first | refine vs_ ?_ | ((first | refine vr_ ?_ | refine qa hLg fun _ => ?_ | refine qa hcp fun _ => ?_ | refine qlc v ?_ | refine qbir (p := ⟨v, t⟩) ?_ | refine qc hLg ?_ | refine qc hcp ?_ | simp (disch := omega) only [qd4] | (refine cs_ ?_ ?_ <;> intro hc) | refine cj_ ?_ | fail) <;> (try refine ev_ ?_)) | with_reducible exact ti_)
  all_goals exact qct (s := insR v t []) 2 (by simp [qol]) rfl rfl (by simp) (by simp) rfl ⟨rfl, rfl⟩
 ·have hlg : qs t = false := by simpa using hlg
  rw [qo6 hlg]
  rw [hlg] at hLg
  refine qp c0bm 1 (by simp) (by simp) ?_
  repeat' (first | refine vs_ ?_ | ((first | refine vr_ ?_ | refine qa hLg fun _ => ?_ | refine qc hLg ?_ | (refine cs_ ?_ ?_ <;> intro hc) | refine cj_ ?_ | fail) <;> (try refine ev_ ?_)) | with_reducible exact ti_)
  all_goals exact qer rfl (by simp) rfl ⟨rfl, rfl⟩
theorem qbg3 {s : List Pr} (hs : s ≠ []) (ho : risR s) (hl : s.length ≤ 100000) (v : Int) {t : Ty} (h1 : szY t ≤ 20000) (h2 : dpY t ≤ 300) : VCalls Try.prog 45 [.blk [.row 1 s.length], qbp s] [.ptr 0 0, .int .i64 v, encY t] (qd5 fun H' o => H' = [subE (setR s v t).1] ∧ o = .val (.int .i64 (setR s v t).2)) := by
 have hLg := qc3 h1 h2
 have hcp := qcz t (by omega)
 have hA := qif v s
 by_cases hlg : qs t = true
 ·cases hlk : qv v s with
  | some u =>
    have hf : qds s v = .tup [.int .i64 (ahdR v s), .bool true] := by rw [qds, hlk]; rfl
    rw [qv2 hlg hlk]
    rw [hlg] at hLg
    refine qp c0bm 2 (by simp) (by simp) ?_
    repeat' (first | refine vs_ ?_ | ((first | refine vr_ ?_ | refine qa hLg fun _ => ?_ | refine qfq ho hl v ?_ | refine qc hLg ?_ | simp (disch := omega) only [hf] | (refine cs_ ?_ ?_ <;> intro hc) | refine cj_ ?_ | fail) <;> (try refine ev_ ?_)) | with_reducible exact ti_)
    all_goals exact qct 1 hs rfl rfl (by simp) (by simp) rfl ⟨rfl, rfl⟩
  | none =>
    have hf : qds s v = .tup [.int .i64 (ahdR v s), .bool false] := by rw [qds, hlk]; rfl
    rw [qor hlg hlk]
    rw [hlg] at hLg
    refine qp c0bm 4 (by simp) (by simp) ?_
    repeat' (first | refine vs_ ?_ | ((first | refine vr_ ?_ | refine qa hLg fun _ => ?_ | refine qa hcp fun _ => ?_ | refine qfq ho hl v ?_ | refine qbho 1 (p := ⟨v, t⟩) hA hl ?_ | refine qc hLg ?_ | refine qc hcp ?_ | simp (disch := omega) only [hf] | (refine cs_ ?_ ?_ <;> intro hc) | refine cj_ ?_ | fail) <;> (try refine ev_ ?_)) | with_reducible exact ti_)
    all_goals exact qct (s := insR v t s) 3 (by simp [insR]) (by rw [qpl]; rfl) rfl (by simp) (by simp) rfl ⟨rfl, rfl⟩
 ·have hlg : qs t = false := by simpa using hlg
  rw [qo6 hlg]
  rw [hlg] at hLg
  refine qp c0bm 2 (by simp) (by simp) ?_
  repeat' (first | refine vs_ ?_ | ((first | refine vr_ ?_ | refine qa hLg fun _ => ?_ | refine qc hLg ?_ | (refine cs_ ?_ ?_ <;> intro hc) | refine cj_ ?_ | fail) <;> (try refine ev_ ?_)) | with_reducible exact ti_)
  all_goals exact qct 1 hs rfl rfl (by simp) (by simp) rfl ⟨rfl, rfl⟩
theorem qep {s : List Pr} (ho : risR s) (hl : s.length ≤ 100000) (v : Int) {t : Ty} (h1 : szY t ≤ 20000) (h2 : dpY t ≤ 300) : VM Try.prog 45 (subE s) (subE (setR s v t).1) [.ptr 0 0, .int .i64 v, encY t] (.int .i64 (setR s v t).2) := by
 by_cases hs : s = []
 ·subst hs
  exact qjt (by rw [qg5]; exact q46 v h1 h2) (by simp [AV.bds, AV.bd, qb2])
 ·exact qjt (by have := qbg3 hs ho hl v h1 h2; rwa [← qkt hs] at this) (by simp [AV.bds, AV.bd, qb2])

/-! a receiver: there, or none -/
def svA (b : Bool) (k : Nat) : AV := if b then .ptr k 0 else .nilp
theorem qm6 (b : Bool) (k : Nat) (σ : Nat → Nat) : (svA b k).ren σ = svA b (σ k) := by cases b <;> rfl
theorem qul (b : Bool) (k n : Nat) (h : k < n) : (svA b k).bd n = true := by
 cases b
 ·rfl
 ·show decide (k < n) = true
  exact decide_eq_true h
theorem qy3 (b : Bool) (k : Nat) : (svA b k).leaf = true := by cases b <;> rfl
theorem qs9 (b : Bool) (k : Nat) : (svA b k).cells = [svA b k] := by cases b <;> rfl
theorem q1a (b : Bool) (k : Nat) : (svA b k).isAgg = false := by cases b <;> rfl
attribute [go_sem] qm6 qy3 qs9 q1a
attribute [go_sem] qul
abbrev q2s : Ent := .cus (fun _ _ _ => True)
theorem qbcu {P : Program} {f : FuncId} {xs : List AV} {r : AV} (h : VM P f q2s q2s xs r) (ha : AV.bds 0 xs = true) (hr : r.bd 0 = true) : qn P f xs r := by
 refine ⟨⟨h.1, fun w M G vs hst hv => ?_⟩, ha, hr⟩
 have hlen := hst.len
 obtain rfl : G = [] := by
  cases G with
  | nil => rfl
  | cons g r => simp at hlen
 let g0 : Gh := { blk := 0, cap := 0, fp := fun _ => False }
 have hst' : St w M ([] ++ [g0]) ([] ++ [q2s]) := qgg (g := g0) hst (Nat.le_refl _) (fun _ _ => rfl) (fun _ _ h => h) (fun _ _ h => .inl h) hst.Mlt (fun b hb => False.elim hb) ⟨trivial, fun _ _ _ _ _ _ => trivial⟩
 have hv' : VRs w M [g0] xs vs := by
  have := qbv (σ := id) (m := 0) (G' := [g0]) (fun i g hi hg => by omega) (fun b o h => ⟨h, rfl⟩) xs vs ha hv
  rwa [ql (σ := id) (m := 0) (fun _ _ => rfl) xs ha] at this
 have hno : ∀ b, ¬ own [g0] b := fun b ⟨j, gj, hj, hf⟩ => by
  cases j with
  | zero => simp at hj; subst hj; exact hf
  | succ j => simp at hj
 refine CallsIn.mono (h.2 w M [g0] vs hst' hv') fun e w' ho => ?_
 cases e with
 | returned x =>
   obtain ⟨M', G', H', v, ⟨rfl, hvr⟩, hx, hs, hv2⟩ := ho
   obtain rfl : v = r := by simpa using hvr
   refine ⟨M', [], [], v, ⟨rfl, rfl⟩, ⟨hx.os, hx.tape, hx.output, hx.size, fun i g h => by simp at h, hx.le, fun b hb _ => hx.out b hb (hno b), fun b hb => ?_, fun b o hm => ?_⟩, ⟨rfl, fun i g e h => by simp at h, fun i j g g' b h => by simp at h, fun i g b h => by simp at h, hs.Mlt, hs.one⟩, ?_⟩
   ·obtain ⟨j, gj, hj, _⟩ := hb
    simp at hj
   ·rcases hx.Mnew b o hm with h | h | h
    ·exact .inl h
    ·exact absurd h (hno b)
    ·exact .inr (.inr h)
   ·have := qi4 (σ := id) (m := 0) (G' := []) (fun i g hi hg => by omega) (fun b o h => ⟨h, rfl⟩) v x hr hv2
    rwa [ren_same (σ := id) (m := 0) (fun _ _ => rfl) v hr] at this
 | panicked ch =>
   obtain ⟨M', G', H', v, x, ⟨_, hvr⟩, _⟩ := ho
   cases hvr
 | outgrown => exact ho
/-! runs of it -/
def brun (s : List Pr) : List Ty → Int → Int → Int × List Ty
 | [], b, _ => (b, [])
 | x :: r, b, k => ((brun s r (bput s x b k).1 k).1, (bput s x b k).2 :: (brun s r (bput s x b k).1 k).2)
theorem qo2 (s : List Pr) : ∀ (l : List Ty) (b k : Int), (brun s l b k).2.length = l.length
 | [], _, _ => rfl
 | x :: r, b, k => by rw [brun, List.length_cons, List.length_cons, qo2 s r]
theorem qmq (s : List Pr) (x : Ty) (k : Int) : ∀ (l : List Ty) (b : Int), brun s (l ++ [x]) b k = ((bput s x (brun s l b k).1 k).1, (brun s l b k).2 ++ [(bput s x (brun s l b k).1 k).2])
 | [], b => by simp [brun]
 | y :: r, b => by rw [List.cons_append, brun, qmq s x k r, brun]; rfl
theorem qim (s : List Pr) (k : Int) (r : List Ty) : ∀ (l : List Ty) (b : Int), (∀ j, j < l.length → 0 ≤ (brun s (l.take j) b k).1) → qb5 s (l ++ r) b k = ((qb5 s r (brun s l b k).1 k).1, (qb5 s r (brun s l b k).1 k).2.map ((brun s l b k).2 ++ ·))
 | [], b, _ => by simp [brun]
 | x :: l, b, h => by
   have h0 := h 0 (by simp)
   rw [List.take_zero, brun] at h0
   have h1 := qim s k r l (bput s x b k).1 fun j hj => by
    have := h (j + 1) (by simpa using hj)
    rwa [List.take_succ_cons, brun] at this
   rw [List.cons_append, qb5, if_neg (by omega), h1, brun]
   simp only [Option.map_map]
   rfl
theorem qto {s : List Pr} {l : List Ty} {b k : Int} (h : ∀ j, j < l.length → 0 ≤ (brun s (l.take j) b k).1) : qb5 s l b k = ((brun s l b k).1, some (brun s l b k).2) := by
 have := qim s k [] l b h
 rw [List.append_nil] at this
 rw [this, qb5]; simp
theorem qqh {s : List Pr} {l : List Ty} {b k : Int} {i : Nat} (hi : i < l.length) (h : ∀ j, j < i → 0 ≤ (brun s (l.take j) b k).1) (hn : (brun s (l.take i) b k).1 < 0) : qb5 s l b k = ((brun s (l.take i) b k).1, none) := by
 have h2 : (l.take i).length = i := by rw [List.length_take]; omega
 have := qim s k (l.drop i) (l.take i) b fun j hj => by
  rw [h2] at hj
  rw [List.take_take, Nat.min_eq_left (by omega)]
  exact h j hj
 rw [List.take_append_drop] at this
 rw [this, List.drop_eq_getElem_cons hi, qb5, if_pos hn]; rfl
theorem qox {s : List Pr} (hs : okR s) (k : Int) : ∀ (l : List Ty) (b : Int), (∀ j, j < l.length → 0 ≤ (brun s (l.take j) b k).1) → -4096 ≤ b → b ≤ 4096 → -4096 ≤ (brun s l b k).1 ∧ (brun s l b k).1 ≤ 4096
 | [], b, _, h0, h1 => ⟨h0, h1⟩
 | x :: r, b, h, h0, h1 => by
   have hb := h 0 (by simp)
   have hb : 0 ≤ b := hb
   have := qos hs x b k hb h1
   rw [brun]
   exact qox hs k r _ (fun j hj => by
    have := h (j + 1) (by simpa using hj)
    rwa [List.take_succ_cons, brun] at this) this.1 this.2
def gE (o : List Ty) (n : Nat) : List AV := qq o ++ List.replicate (n - o.length) zY
theorem qbe1 {o : List Ty} {n : Nat} (h : o.length ≤ n) : (gE o n).length = n := by rw [gE, List.length_append, q7, List.length_replicate]; omega
theorem gE_0 (n : Nat) : gE [] n = List.replicate n zY := rfl
theorem qbh6 (o : List Ty) : gE o o.length = qq o := by rw [gE, Nat.sub_self, List.replicate_zero, List.append_nil]
theorem qbdn {o : List Ty} {n : Nat} (h : o.length < n) (x : Ty) : (gE o n).set o.length (encY x) = gE (o ++ [x]) n := by
 obtain ⟨k, hk⟩ : ∃ k, n - o.length = k + 1 := ⟨n - o.length - 1, by omega⟩
 have hk2 : n - (o ++ [x]).length = k := by rw [List.length_append, List.length_singleton]; omega
 rw [gE, gE, hk, hk2, List.replicate_succ, ← qfw, List.set_append_right _ _ (by rw [q7]; omega), q7, Nat.sub_self, List.set_cons_zero, List.append_assoc]
 rfl
theorem qvd (k : Nat) (o : List Ty) (n : Nat) : AV.bds k (gE o n) = true := by
 rw [gE, qgd, qb9, qc8]
 simp [zY, AV.bd, AV.bds]
theorem qpb (σ : Nat → Nat) (o : List Ty) (n : Nat) : AV.rens σ (gE o n) = gE o n := ql (m := 0) (fun i hi => by omega) _ (qvd 0 o n)
attribute [go_sem] qvd qpb
set_option maxRecDepth 4000

theorem qdk {f : FuncId} {args : List AV} {r r' : AV} (h : qn Try.prog f args r) (e : r = r') : qn Try.prog f args r' := e ▸ h
abbrev blE (b : Bool) (c : Nat) (lf : Int) : Ent := .blk [svA b c, .int .i64 lf]
theorem qbei (b : Bool) (c : Nat) (lf : Int) (n : Nat) (h : c < n) : (blE b c lf).bd n = true := by simp only [blE, Ent.bd, AV.bds, qul b c n h, AV.bd, Bool.and_true]
theorem qtc (b : Bool) (c : Nat) (lf : Int) (σ : Nat → Nat) : (blE b c lf).ren σ = blE b (σ c) lf := by simp only [blE, Ent.ren, AV.rens, qm6, AV.ren]
abbrev putF : FuncId := 78
def qbft (R : World → (Nat → Nat → Prop) → Gh → Prop) (b : Bool) (t : Ty) (lf k lf' : Int) (t' : Ty) : Prop :=
 VCalls Try.prog putF [blE b 1 lf, .cus R] [.ptr 0 0, encY t, .int .i64 k] fun H' o => H' = [blE b 1 lf', .cus R] ∧ o = .val (encY t')
section
variable {R : World → (Nat → Nat → Prop) → Gh → Prop} {b : Bool} {s : List Pr} {t t' : Ty} {lf k lf' : Int} {H : List Ent} {Q : List Ent → VO → Prop}
theorem qob (a c : Nat) (h : qbft R b t lf k lf' t') (hac : a ≠ c) (hq : Q (H.set a (blE b c lf')) (.val (encY t'))) (h0 : ent H a = blE b c lf := by rfl) (h1 : ent H c = .cus R := by rfl) (ha : a < H.length := by simp) (hc : c < H.length := by simp) :
 VApp Try.prog H (.fn putF [] []) [.ptr a 0, encY t, .int .i64 k] Q := by
 refine qc6 ?_
 rw [List.nil_append, List.append_nil]
 refine qb4 [a, c] h (by simp [hac]) ⟨⟨ha, qbei _ _ _ _ (by simp), by rw [h0, qtc]; rfl⟩, ⟨hc, rfl, by rw [h1]; rfl⟩, trivial⟩ (by simp only [AV.bds, AV.bd, qb2, Bool.and_true]; rfl) (by simp only [AV.rens, AV.ren, qkx]; rfl) fun H1 o ho => ?_
 obtain ⟨rfl, rfl⟩ := ho
 have e1 : qgt H [a, c] [blE b 1 lf', .cus R] = H.set a (blE b c lf') := by
  show ((H.set a ((blE b 1 lf').ren _)).set c (.cus R)) ++ [] = _
  rw [List.append_nil, qtc]
  have h1' : ent (H.set a (blE b (sg' [a, c] H.length 1) lf')) c = .cus R := by
   rw [← h1]
   exact qp7 hac
  exact qdl h1' (by simpa using hc)
 rw [e1]
 simp only [VO.ren, qkx]
 exact hq
theorem q1i (hG : VM Try.prog 37 (.cus R) (.cus R) [svA b 0, .int .i64 k] (getV s k)) {K : Md → AV → List Ent → Prop} {raws : List AV} (hq : K (.meth 1 (.cus R) (.cus R)) (getV s k) H) (h1 : ent H 1 = .cus R := by rfl) (hl : 1 < H.length := by simp) :
 DApp Try.prog H (.fn 37 [] []) [svA b 1, .int .i64 k] raws K := by
 refine .inr (.inr (.inl ⟨getV s k, 1, .cus R, .cus R, ⟨by simp, h1, fun H₀ h0 => ?_⟩, ?_⟩))
 ·have hl0 := (List.getElem?_eq_some_iff.1 (qx h0 (by simp))).1
  exact qco 1 hG ⟨rfl, rfl⟩ rfl rfl hl0 h0 (qbbz 0 _ _) (by simp only [AV.rens, qm6, AV.ren]; rfl) (by simp only [AV.bds, qul b 0 1 (by omega), AV.bd, Bool.and_true])
 ·rw [qdl h1 hl]
  exact hq
end
theorem qqe {l : List Ty} {i : Nat} (h : i < l.length) : l.take (i + 1) = l.take i ++ [l.getD i Y0] := by
 rw [List.take_add_one, List.getD_eq_getElem?_getD, List.getElem?_eq_getElem h]; rfl
def plSt (R : World → (Nat → Nat → Prop) → Gh → Prop) (b : Bool) (s : List Pr) (t : Ty) (lf k : Int) (i : Nat) : AF × List Ent :=
 (⟨[(0, .ptr 0 0), (2, .int .i64 k), (4, .ptr 2 0), (6, .ptr 3 0), (9, .row 4 t.args.length), (57, .int .i64 t.args.length), (58, .int .i64 i)], []⟩,
   [blE b 1 (brun s (t.args.take i) (lf - 1) (k + 1)).1, .cus R, .blk (yc t), .blk [.str [], .int .i64 0, .nils], .mrow 3 (gE (brun s (t.args.take i) (lf - 1) (k + 1)).2 t.args.length)])
theorem q75 {R : World → (Nat → Nat → Prop) → Gh → Prop} {b : Bool} {s : List Pr} (hG : ∀ v, VM Try.prog 37 (.cus R) (.cus R) [svA b 0, .int .i64 v] (getV s v)) (hs : okR s) :
 ∀ t, bare t → szY t ≤ 20000 → ∀ lf k : Int, 0 ≤ lf → lf ≤ 4096 → 0 ≤ k → k + dpY t ≤ 1000 → qbft R b t lf k (bput s t lf k).1 (bput s t lf k).2 := by
 refine Ty.ind fun t ih hb hz lf k h0 h1 h2 h3 => ?_
 refine qp c0bl 2 (by simp) (by simp) ?_
 rw [q4z]
 rw [q3u] at hb
 have hsz := qgh t
 have hal := qg4 t.args
 have w1 : IntKind.i64.wrap (lf - 1) = lf - 1 := qw (by omega) (by omega)
 by_cases hc : t.con = []
 ·have hcd : decide (t.con = []) = true := decide_eq_true hc
  have hargs := hb.1 hc
  rw [if_pos hc]
  cases hlk : qv t.var s with
  | some u =>
    have hu := qe3 hs hlk
    have hg : getV s t.var = .tup [encY u, .bool true] := by rw [getV, hlk]; rfl
    have hS : qn Try.prog 110 [encY u] (.int .i64 (szY u)) := qdk (qqz u) (by rw [qmu u 0 1 (by omega) (by omega)]; simp)
    have hD : qn Try.prog 111 [encY u] (.int .i64 (dpY u)) := qdk (qnv u) (by rw [qmi u 0 1 (by omega) (by omega) (by omega)]; simp only; congr 1; omega)
    have hcp := qcz u (by omega)
    have w2 : IntKind.i64.wrap (lf - szY u) = lf - szY u := qw (by omega) (by omega)
    have w3 : IntKind.i64.wrap (k + dpY u) = k + dpY u := qw (by omega) (by omega)
    simp only
    by_cases hd : 101 < k + dpY u
    ·rw [if_pos hd]
     have hdd : decide (101 < k + (dpY u : Int)) = true := decide_eq_true hd
     repeat' (first | refine vs_ ?_ | ((first | refine vr_ ?_ | fail) <;> (try simp only [hcd, hg, w2, w3, hdd, go_sem, ↓reduceIte])) | ((first | simp (disch := omega) only [hg] | (refine cs_ ?_ ?_ <;> intro hc) | refine cj_ ?_ | simp (disch := omega) only [encs_getN, qb] | refine qa hS fun _ => ?_ | refine qa hD fun _ => ?_ | refine qa hcp fun _ => ?_ | refine q1i (hG _) ?_ | refine qc hS ?_ | refine qc hD ?_ | refine qc hcp ?_) <;> (try refine ev_ ?_)) | with_reducible exact ti_)
    ·rw [if_neg hd]
     have hdd : decide (101 < k + (dpY u : Int)) = false := decide_eq_false hd
     repeat' (first | refine vs_ ?_ | ((first | refine vr_ ?_ | fail) <;> (try simp only [hcd, hg, w2, w3, hdd, go_sem, ↓reduceIte])) | ((first | simp (disch := omega) only [hg] | (refine cs_ ?_ ?_ <;> intro hc) | refine cj_ ?_ | simp (disch := omega) only [encs_getN, qb] | refine qa hS fun _ => ?_ | refine qa hD fun _ => ?_ | refine qa hcp fun _ => ?_ | refine q1i (hG _) ?_ | refine qc hS ?_ | refine qc hD ?_ | refine qc hcp ?_) <;> (try refine ev_ ?_)) | with_reducible exact ti_)
  | none =>
    have hg : getV s t.var = .tup [encY Y0, .bool false] := by rw [getV, hlk]; rfl
    have hbp : qb5 s t.args (lf - 1) (k + 1) = (lf - 1, some []) := by rw [hargs, qb5]
    rw [hbp]
    have hal0 : t.args.length = 0 := by rw [hargs]; rfl
    repeat' (first | refine vs_ ?_ | ((first | refine vr_ ?_ | fail) <;> (try simp only [hcd, hg, w1, go_sem, ↓reduceIte])) | ((first | simp (disch := omega) only [hg] | (refine cs_ ?_ ?_ <;> intro hc) | refine cj_ ?_ | simp (disch := omega) only [encs_getN, qb] | refine q1i (hG _) ?_) <;> (try refine ev_ ?_)) | with_reducible exact ti_)
    refine qk (S := Unit) (fun _ => True) (fun _ => (⟨[(0, .ptr 0 0), (2, .int .i64 k), (4, .ptr 2 0), (6, .ptr 3 0), (9, .row 5 t.args.length), (57, .int .i64 t.args.length), (58, .int .i64 (0 : Nat))], []⟩, [blE b 1 (lf - 1), .cus R, .blk (yc t), .blk [.str [], .int .i64 0, .nils], .blk (yc Y0), .mrow 3 (gE [] t.args.length)])) (fun _ => 0) ?_ fun x hx => ?_
    ·refine qh () [0, 1, 2, 3, 4, 5] trivial rfl (by simp) ?_ ?_ ?_ <;> simp only [gE_0, zY] <;> (try refine ev_ ?_) <;> (try with_reducible exact ti_) <;> (try simp (disch := omega) only [qb, and_true, true_and])
     all_goals
      rw [show List.replicate t.args.length (AV.agg [AV.str [], AV.int IntKind.i64 0, AV.nils]) = gE [] t.args.length from rfl]
      exact ⟨qvd _ _ _, by rw [qpb]⟩
    ·rw [show gE [] t.args.length = qq [] by rw [hal0]; rfl]
     refine qd8 5 rfl (qf9 _) ?_
     repeat' (first | refine vs_ ?_ | ((first | refine vr_ ?_ | (refine cs_ ?_ ?_ <;> intro hc) | refine cj_ ?_ | simp (disch := omega) only [encs_getN, qb]) <;> (try refine ev_ ?_)) | with_reducible exact ti_)
     all_goals try (exfalso; omega)
     all_goals
      rw [if_pos hal0.symm]
      exact ⟨by simp only [AV.bd, qb9], rfl⟩
 ·have hcd : decide (t.con = []) = false := decide_eq_false hc
  rw [if_neg hc]
  have hk1 : IntKind.i64.wrap (k + 1) = k + 1 := qw (by omega) (by omega)
  simp only
  repeat' (first | refine vs_ ?_ | ((first | refine vr_ ?_ | fail) <;> (try simp only [hcd, w1, go_sem, ↓reduceIte])) | ((first | (refine cs_ ?_ ?_ <;> intro hc) | refine cj_ ?_ | simp (disch := omega) only [encs_getN, qb]) <;> (try refine ev_ ?_)) | with_reducible exact ti_)
  refine ⟨⟨by omega, by unfold maxLen; omega⟩, ?_⟩
  repeat' (first | refine vs_ ?_ | ((first | refine vr_ ?_ | fail) <;> (try simp only [hcd, w1, go_sem, ↓reduceIte])) | ((first | (refine cs_ ?_ ?_ <;> intro hc) | refine cj_ ?_ | simp (disch := omega) only [encs_getN, qb]) <;> (try refine ev_ ?_)) | with_reducible exact ti_)
  refine qk (S := Nat) (fun i => i ≤ t.args.length ∧ ∀ j, j < i → 0 ≤ (brun s (t.args.take j) (lf - 1) (k + 1)).1) (plSt R b s t lf k) (fun i => t.args.length - i) ?_ fun i hi => ?_
  ·refine qh 0 [0, 1, 2, 3, 4] ⟨Nat.zero_le _, fun j hj => by omega⟩ rfl (by simp) ?_ ?_ ?_ <;> simp only [plSt, List.take_zero, brun, gE_0, zY] <;> (try refine ev_ ?_) <;> (try with_reducible exact ti_) <;> (try simp (disch := omega) only [qb, and_true, true_and])
   all_goals
    rw [show List.replicate t.args.length (AV.agg [AV.str [], AV.int IntKind.i64 0, AV.nils]) = gE [] t.args.length from rfl]
    exact ⟨qvd _ _ _, by rw [qpb]⟩
  ·obtain ⟨hi, hpos⟩ := hi
   have htl : (t.args.take i).length = i := by rw [List.length_take]; omega
   have hrng := qox hs (k + 1) (t.args.take i) (lf - 1) (fun j hj => by
    rw [htl] at hj
    rw [List.take_take, Nat.min_eq_left (by omega)]
    exact hpos j hj) (by omega) (by omega)
   have hbl := qo2 s (t.args.take i) (lf - 1) (k + 1)
   rw [htl] at hbl
   unfold plSt
   by_cases hlt : i < t.args.length
   ·have hsn := qmq s (t.args.getD i Y0) (k + 1) (t.args.take i) (lf - 1)
    rw [← qqe hlt] at hsn
    obtain ⟨B, hB⟩ : ∃ B, brun s (t.args.take i) (lf - 1) (k + 1) = B := ⟨_, rfl⟩
    have hpi : (brun s (t.args.take i) (lf - 1) (k + 1)).1 = B.1 := by rw [hB]
    by_cases hneg : B.1 < 0
    ·rw [qqh hlt hpos (by rw [hB]; exact hneg)]
     rw [hB]
     have hnd : decide (B.1 < 0) = true := decide_eq_true hneg
     repeat' (first | refine vs_ ?_ | ((first | refine vr_ ?_ | fail) <;> (try simp (disch := first | omega | (simp only [List.length_set, List.length_append, List.length_cons, List.length_nil]; done) | (simp only [List.length_set, List.length_append, List.length_cons, List.length_nil]; omega)) only [hnd, qb, go_sem, ↓reduceIte])) | ((first | (refine cs_ ?_ ?_ <;> intro hc) | refine cj_ ?_ | simp (disch := omega) only [encs_getN, qb]) <;> (try refine ev_ ?_)) | with_reducible exact ti_)
     all_goals (exfalso; omega)
    ·have hnd : decide (B.1 < 0) = false := decide_eq_false hneg
     have hm := q8 hlt
     have hszm := qes hm
     have hdpm := qn9 hm
     have hput := ih _ hm (qk7 hb.2 _ hm) (by omega) B.1 (k + 1) (by omega) (by rw [hB] at hrng; omega) (by omega) (by have := qsg t; omega)
     rw [hB] at hsn hbl ⊢
     have hset := qbdn (o := B.2) (n := t.args.length) (by omega) (bput s (t.args.getD i Y0) B.1 (k + 1)).2
     rw [hbl] at hset
     have hgl := qbe1 (o := B.2) (n := t.args.length) (by omega)
     repeat' (first | refine vs_ ?_ | ((first | refine vr_ ?_ | fail) <;> (try simp (disch := first | omega | (simp only [List.length_set, List.length_append, List.length_cons, List.length_nil]; done) | (simp only [List.length_set, List.length_append, List.length_cons, List.length_nil]; omega)) only [hnd, qr, qb, hk1, go_sem, ↓reduceIte])) | ((first | (refine cs_ ?_ ?_ <;> intro hc) | refine cj_ ?_ | simp (disch := omega) only [encs_getN, qb] | refine qob 0 1 hput (by simp) ?_) <;> (try refine ev_ ?_)) | with_reducible exact ti_)
     ·have hnn : ∀ j, j < i + 1 → 0 ≤ (brun s (t.args.take j) (lf - 1) (k + 1)).1 := fun j hj => by
       by_cases hji : j = i
       ·subst hji
        rw [hB]; omega
       ·exact hpos j (by omega)
      refine qh (i + 1) [0, 1, 2, 3, 4] ⟨⟨by omega, hnn⟩, by omega⟩ rfl (by simp) ?_ ?_ ?_ <;> simp only [hsn, ← hset] <;> (try refine ev_ ?_) <;> (try with_reducible exact ti_) <;> (try simp (disch := omega) only [qb, and_true, true_and])
      ·rw [hset]; exact ⟨qvd _ _ _, by rw [qpb]⟩
      ·rw [qw (by omega) (by omega), Int.natCast_add]; rfl
     ·exfalso; omega
   ·have hie : i = t.args.length := by omega
    subst hie
    rw [qto hpos]
    rw [List.take_length] at hbl ⊢
    obtain ⟨B, hB⟩ : ∃ B, brun s t.args (lf - 1) (k + 1) = B := ⟨_, rfl⟩
    rw [hB] at hbl ⊢
    rw [show gE B.2 t.args.length = qq B.2 by rw [← hbl, qbh6]]
    refine qd8 4 rfl (qf9 _) ?_
    repeat' (first | refine vs_ ?_ | ((first | refine vr_ ?_ | (refine cs_ ?_ ?_ <;> intro hc) | refine cj_ ?_ | simp (disch := omega) only [encs_getN, qb]) <;> (try refine ev_ ?_)) | with_reducible exact ti_)
    all_goals try (exfalso; omega)
    all_goals
     rw [if_pos hbl]
     exact ⟨by simp only [AV.bd, qb9], rfl⟩
end Go.Proofs.Ytfpobiheiloamaa
