/- Texts of this proof, joined. -/
import Derived.Test.YtlahgbhhejkgbaaGreatKay
import Derived.Test.YtlahgbhhejkgbaaGreatKba

/- substitutions: found, got -/
set_option maxRecDepth 4000
namespace Go.Proofs.YtlahgbhhejkgbaaGreat
open Go Go.RowKit Go.V
set_option linter.unusedVariables false
set_option linter.unusedSimpArgs false

theorem qfg (v : Int) : qeq [] v = .tup [.int .i64 0, .bool false] := rfl
theorem qbjk (v : Int) : qj Tryz.prog 65 [.sl 4 [], .int .i64 v, .fn 66 [] []] (qeq [] v) := by
 refine qg c0x (by simp) (by simp only [go_sem]) rfl fun hw => ?_
 rw [qfg]
 repeat' (first | refine vs_ ?_ | ((first | refine vr_ ?_ | (refine cs_ ?_ ?_ <;> intro hc) | refine cj_ ?_ | simp (disch := omega) only [encs_getN, qb]) <;> (try refine ev_ ?_)) | with_reducible exact ti_)
 refine qq (S := Unit) (fun _ => True) (fun _ => (⟨[(0, .sl 4 []), (1, .int .i64 v), (2, .fn 66 [] []), (8, .int .i64 0), (9, .int .i64 0), (10, .int .i64 0)], []⟩, [])) (fun _ => 0) ?_ fun x hx => ?_
 ·refine qi () [] trivial rfl (by simp) ?_ ?_ ?_ <;> (try refine ev_ ?_) <;> (try with_reducible exact ti_) <;> (try simp (disch := omega) only [qb, and_true, true_and])
 ·repeat' (first | refine vs_ ?_ | ((first | refine vr_ ?_ | (refine cs_ ?_ ?_ <;> intro hc) | refine cj_ ?_ | simp (disch := omega) only [encs_getN, qb]) <;> (try refine ev_ ?_)) | with_reducible exact ti_)
  ·exact absurd hc (by omega)
  ·exact ⟨rfl, rfl⟩
def subH (s : List Pr) : List Ent := if s = [] then [.blk [.nils]] else [.blk [.row 1 s.length], qb8 s]
theorem qiy : subH [] = [.blk [.nils]] := rfl
theorem qm8 {s : List Pr} (h : s ≠ []) : subH s = [.blk [.row 1 s.length], qb8 s] := by rw [subH, if_neg h]
abbrev subE (s : List Pr) : Ent := bun (subH s)
theorem qf6 {Q : List Ent → VO → Prop} {H' : List Ent} {r : AV} (h0 : ent H' 0 = .blk [.nils]) (hl : 0 < H'.length) (hr : r.bd 0 = true) (h : Q [subE []] (.val r)) : qcp Q H' (.val r) :=
 ⟨[.blk [.nils]], [0], rfl, by simp, by simp, ⟨⟨hl, rfl, by rw [h0]; rfl⟩, trivial⟩, qms (Nat.zero_le _) _ hr, h⟩
theorem qdk {Q : List Ent → VO → Prop} {H' : List Ent} {s : List Pr} {r : AV} (k : Nat) (hs : s ≠ []) (h0 : ent H' 0 = .blk [.row k s.length]) (h1 : ent H' k = qb8 s) (hk : 0 < k) (hl : k < H'.length) (hr : r.bd 0 = true) (h : Q [subE s] (.val r)) : qcp Q H' (.val r) :=
 ⟨[.blk [.row 1 s.length], qb8 s], [0, k], rfl, by simp, by simp; omega, ⟨⟨by omega, rfl, by rw [h0]; rfl⟩, ⟨hl, qhj s 2, by rw [h1]; simp only [qb8, Ent.ren, qg2]⟩, trivial⟩, qms (Nat.zero_le _) _ hr, by rwa [subE, qm8 hs] at h⟩
theorem qfa (σ : Nat → Nat) (s : List Pr) : (qb8 s).ren σ = qb8 s := by simp only [qb8, Ent.ren, qg2]
theorem qcd : ∀ {H : List Ent} {i : Nat} {e : Ent}, ent H i = e → i < H.length → H.set i e = H
 | [], i, e, _, hl => by simp at hl
 | x :: r, 0, e, h, _ => by rw [← h]; rfl
 | x :: r, i + 1, e, h, hl => by
   have h' : ent r i = e := h
   rw [List.set_cons_succ, qcd h' (by simpa using hl)]
theorem q19 (v : Int) : VCalls Tryz.prog 42 [.blk [.nils]] [.ptr 0 0, .int .i64 v] fun H' o => H' = [.blk [.nils]] ∧ o = .val (qeq [] v) := by
 refine qf c0y 1 (by simp) (by simp) ?_
 rw [qfg]
 repeat' (first | refine vs_ ?_ | ((first | refine vr_ ?_ | refine qa (qbjk _) fun _ => ?_ | simp (disch := omega) only [qfg] | (refine cs_ ?_ ?_ <;> intro hc) | refine cj_ ?_ | fail) <;> (try refine ev_ ?_)) | with_reducible exact ti_)
theorem qbls {s : List Pr} (ho : risR s) (hl : s.length ≤ 100000) (v : Int) : VCalls Tryz.prog 42 [.blk [.row 1 s.length], qb8 s] [.ptr 0 0, .int .i64 v] fun H' o => H' = [.blk [.row 1 s.length], qb8 s] ∧ o = .val (qeq s v) := by
 refine qf c0y 2 (by simp) (by simp [qb8, Ent.bd, qbz]) ?_
 rw [qeq]
 repeat' (first | refine vs_ ?_ | ((first | refine vr_ ?_ | refine qbq 1 (qbeq ho hl v) ?_ (qhj s 0) (qhj s 0) | simp (disch := omega) only [qeq] | (refine cs_ ?_ ?_ <;> intro hc) | refine cj_ ?_ | fail) <;> (try refine ev_ ?_)) | with_reducible exact ti_)
section
variable {H : List Ent} {Q : List Ent → VO → Prop} {K : Md → AV → List Ent → Prop} {raws : List AV} {s : List Pr}
theorem qou (v : Int) (hq : Q H (.val (qeq [] v))) (h0 : ent H 0 = .blk [.nils] := by rfl) (hl' : 0 < H.length := by simp) : VApp Tryz.prog H (.fn 42 [] []) [.ptr 0 0, .int .i64 v] Q := by
 refine qb3 ?_
 rw [List.nil_append, List.append_nil]
 refine qba [0] (q19 v) (by simp) ⟨⟨by omega, rfl, h0⟩, trivial⟩ rfl rfl fun H1 o ho => ?_
 obtain ⟨rfl, rfl⟩ := ho
 have : qea H [0] [.blk [.nils]] = H := by
  show (H.set 0 (.blk [.nils])) ++ [] = H
  rw [List.append_nil, qcd h0 hl']
 rw [this]
 exact hq
theorem qgf (ho : risR s) (hl : s.length ≤ 100000) (v : Int) (hq : Q H (.val (qeq s v))) (h0 : ent H 0 = .blk [.row 1 s.length] := by rfl) (h1 : ent H 1 = qb8 s := by rfl) (hl' : 1 < H.length := by simp) : VApp Tryz.prog H (.fn 42 [] []) [.ptr 0 0, .int .i64 v] Q := by
 refine qb3 ?_
 rw [List.nil_append, List.append_nil]
 refine qba [0, 1] (qbls ho hl v) (by simp) ⟨⟨by omega, rfl, h0⟩, ⟨hl', qhj s 2, by rw [h1, qfa]⟩, trivial⟩ rfl rfl fun H1 o ho => ?_
 obtain ⟨rfl, rfl⟩ := ho
 have : qea H [0, 1] [.blk [.row 1 s.length], qb8 s] = H := by
  show ((H.set 0 (.blk [.row 1 s.length])).set 1 ((qb8 s).ren _)) ++ [] = H
  rw [List.append_nil, qfa, qcd h0 (by omega), qcd h1 hl']
 rw [this]
 exact hq
end
set_option maxRecDepth 4000

def getV (s : List Pr) (v : Int) : AV := .tup [encY ((qk v s).getD Y0), .bool (qk v s).isSome]
theorem qbj1 (k : Nat) (s : List Pr) (v : Int) : (getV s v).bd k = true := by simp only [getV, AV.bd, AV.bds, qz, Bool.and_true, Bool.true_and]
theorem q7c (v : Int) : VCalls Tryz.prog 25 [.blk [.nils]] [.ptr 0 0, .int .i64 v] (qcp fun H' o => H' = [subE []] ∧ o = .val (getV [] v)) := by
 refine qf c0w 1 (by simp) (by simp) ?_
 repeat' (first | refine vs_ ?_ | ((first | refine vr_ ?_ | refine qou v ?_ | simp (disch := omega) only [qfg] | (refine cs_ ?_ ?_ <;> intro hc) | refine cj_ ?_ | simp (disch := omega) only [encs_getN, qb]) <;> (try refine ev_ ?_)) | with_reducible exact ti_)
 all_goals exact qf6 rfl (by simp) rfl ⟨rfl, rfl⟩
theorem qbnr {s : List Pr} (hs : s ≠ []) (ho : risR s) (hl : s.length ≤ 100000) (v : Int) : VCalls Tryz.prog 25 [.blk [.row 1 s.length], qb8 s] [.ptr 0 0, .int .i64 v] (qcp fun H' o => H' = [subE s] ∧ o = .val (getV s v)) := by
 refine qf c0w 2 (by simp) (by simp [qb8, Ent.bd, qbz]) ?_
 have hlk := qi0 (v := v) ho
 have hf : qeq s v = .tup [.int .i64 (ahdR v s), .bool (qk v s).isSome] := rfl
 by_cases hin : ahdR v s < s.length ∧ (s.getD (ahdR v s) R0).v = v
 ·rw [if_pos hin] at hlk
  have hp := ql hin.1
  have hi := hin.1
  rw [hlk, Option.isSome_some] at hf
  have hg : getV s v = .tup [encY (s.getD (ahdR v s) R0).ty, .bool true] := by rw [getV, hlk]; rfl
  rw [hg]
  clear hin
  repeat' (first | refine vs_ ?_ | ((first | refine vr_ ?_ | fail) <;> (try simp only [hp, go_sem, ↓reduceIte])) | ((first | simp (disch := omega) only [hf] | simp (disch := omega) only [hp] | (refine cs_ ?_ ?_ <;> intro hc) | refine cj_ ?_ | simp (disch := omega) only [encs_getN, qb] | refine qgf ho hl v ?_) <;> (try refine ev_ ?_)) | with_reducible exact ti_)
  all_goals exact qdk 1 hs rfl rfl (by simp) (by simp) (by first | rfl | simp only [AV.bd, AV.bds, qz, Bool.and_true]) ⟨rfl, rfl⟩
 ·rw [if_neg hin] at hlk
  rw [hlk, Option.isSome_none] at hf
  have hg : getV s v = .tup [encY Y0, .bool false] := by rw [getV, hlk]; rfl
  rw [hg]
  repeat' (first | refine vs_ ?_ | ((first | refine vr_ ?_ | refine qgf ho hl v ?_ | simp (disch := omega) only [hf] | (refine cs_ ?_ ?_ <;> intro hc) | refine cj_ ?_ | simp (disch := omega) only [encs_getN, qb]) <;> (try refine ev_ ?_)) | with_reducible exact ti_)
  all_goals exact qdk 1 hs rfl rfl (by simp) (by simp) (by first | rfl | simp only [AV.bd, AV.bds, qz, Bool.and_true]) ⟨rfl, rfl⟩
theorem qhk {s : List Pr} (ho : risR s) (hl : s.length ≤ 100000) (v : Int) : VM Tryz.prog 25 (subE s) (subE s) [.ptr 0 0, .int .i64 v] (getV s v) := by
 by_cases hs : s = []
 ·subst hs
  exact qfz (by rw [qiy]; exact q7c v) rfl
 ·exact qfz (by have := qbnr hs ho hl v; rwa [← qm8 hs] at this) rfl
set_option maxRecDepth 4000

abbrev insF : FuncId := 55
theorem qi8 (p : Pr) : (encR p).cells.length = 4 ∧ (encR p).flat := ⟨rfl, .inl ⟨rfl, rfl⟩⟩
theorem qlk (l : List Pr) : ∀ e ∈ qs l, e.flat := fun e he => by
 obtain ⟨p, _, rfl⟩ := List.mem_map.1 he
 exact (qi8 p).2
section
variable {H : List Ent} {K : Md → AV → List Ent → Prop} {args raws : List AV} {s : List Pr} {p : Pr}
theorem qbmg (j : Nat) {i : Nat} (hi : i ≤ s.length) (hl : s.length ≤ 100000) (h1 : ent H j = qb8 s) : Gro Tryz.prog H (.fn insF [] []) [.row j s.length, .int .i64 i, .lit 4 [encR p]] (some (j, qb8 s)) (qb8 (s.take i ++ p :: s.drop i)) (s.length + 1) := by
 refine ⟨fun q hq => by cases hq; exact ⟨by simp, h1⟩, fun H₀ h0 => ?_⟩
 have h0 : ent H₀ j = qb8 s := h0 _ rfl
 have hl' := (List.getElem?_eq_some_iff.1 (q6 h0 (by simp))).1
 have hv := q6g (es := qs s) (x := encR p) (i := i) (by rw [qy]; exact hi) (by rw [qy]; omega) (qi8 p) (by simp only [AV.bds, qhx, qbz, Bool.and_true]) (qlk s)
 rw [qy] at hv
 refine qb3 ?_
 rw [List.nil_append, List.append_nil]
 refine qba [j] hv (by simp) ⟨⟨hl', qhj s 1, by rw [h0, qfa]⟩, trivial⟩ (by simp [AV.bds, AV.bd, qhx]) (by simp only [AV.rens, AV.ren, qni]; rfl) fun H1 o ho => ?_
 obtain ⟨rfl, rfl⟩ := ho
 have he : qs (s.take i ++ p :: s.drop i) = (qs s).take i ++ encR p :: (qs s).drop i := by simp [qs]
 refine ⟨?_, ?_⟩
 ·rw [← he]
  show (H₀.set j .dead) ++ [(qb8 (s.take i ++ p :: s.drop i)).ren _] = (H₀.set j .dead) ++ [_]
  rw [qfa]
 ·show VO.val (.row (H₀.length + (1 - 1)) _) = _
  simp
theorem q98 : Gro Tryz.prog H (.fn insF [] []) [.nils, .int .i64 0, .lit 4 [encR p]] none (qb8 [p]) 1 := by
 refine ⟨fun q hq => (by cases hq), fun H₀ h0 => ?_⟩
 refine qb3 ?_
 rw [List.nil_append, List.append_nil]
 refine qba [] (qp6 (qi8 p)) (by simp) trivial (by simp [AV.bds, AV.bd, qhx]) (by simp only [AV.rens, AV.ren, qni]) fun H1 o ho => ?_
 obtain ⟨rfl, rfl⟩ := ho
 refine ⟨?_, ?_⟩
 ·show H₀ ++ [(qb8 [p]).ren _] = H₀ ++ [_]
  rw [qfa]
 ·show VO.val (.row (H₀.length + (0 - 0)) _) = _
  simp
theorem qbph (j : Nat) {i : Nat} (hi : i ≤ s.length) (hl : s.length ≤ 100000) (hq : K (.grow (some (j, qb8 s)) (qb8 (s.take i ++ p :: s.drop i)) (s.length + 1)) (.row H.length (s.length + 1)) (H.set j .dead ++ [qb8 (s.take i ++ p :: s.drop i)])) (h1 : ent H j = qb8 s := by rfl) (hr : raws = [.row j s.length, .int .i64 i, .lit 4 [encR p]] := by rfl) :
 DApp Tryz.prog H (.fn insF [] []) args raws K := by
 subst hr
 exact .inr (.inr (.inr (.inl ⟨_, _, _, qbmg j hi hl h1, hq⟩)))
theorem qbu3 (hq : K (.grow none (qb8 [p]) 1) (.row H.length 1) (H ++ [qb8 [p]])) (hr : raws = [.nils, .int .i64 0, .lit 4 [encR p]] := by rfl) : DApp Tryz.prog H (.fn insF [] []) args raws K := by
 subst hr
 exact .inr (.inr (.inr (.inl ⟨_, _, _, q98, hq⟩)))
end
theorem qrr {s : List Pr} {v : Int} {t : Ty} (h : qd t = false) : setR s v t = (s, 1) := by rw [setR, if_neg (by simp [h])]
theorem q34 {s : List Pr} {v : Int} {t u : Ty} (h : qd t = true) (hl : qk v s = some u) : setR s v t = (s, 6) := by rw [setR, if_pos h, hl]
theorem qs2 {s : List Pr} {v : Int} {t : Ty} (h : qd t = true) (hl : qk v s = none) : setR s v t = (insR v t s, 0) := by rw [setR, if_pos h, hl]
theorem q8x (v : Int) {t : Ty} (h1 : szY t ≤ 20000) (h2 : dpY t ≤ 300) : VCalls Tryz.prog 36 [.blk [.nils]] [.ptr 0 0, .int .i64 v, encY t] (qcp fun H' o => H' = [subE (setR [] v t).1] ∧ o = .val (.int .i64 (setR [] v t).2)) := by
 have hLg := qc0 h1 h2
 have hcp := qdo t (by omega)
 by_cases hlg : qd t = true
 ·rw [qs2 hlg rfl]
  rw [hlg] at hLg
  refine qf c0v 3 (by simp) (by simp) ?_
  repeat' (first | refine vs_ ?_ | ((first | refine vr_ ?_ | refine qa hLg fun _ => ?_ | refine qa hcp fun _ => ?_ | refine qou v ?_ | refine qbu3 (p := ⟨v, t⟩) ?_ | refine qc hLg ?_ | refine qc hcp ?_ | simp (disch := omega) only [qfg] | (refine cs_ ?_ ?_ <;> intro hc) | refine cj_ ?_ | fail) <;> (try refine ev_ ?_)) | with_reducible exact ti_)
  all_goals exact qdk (s := insR v t []) 2 (by simp [qmf]) rfl rfl (by simp) (by simp) rfl ⟨rfl, rfl⟩
 ·have hlg : qd t = false := by simpa using hlg
  rw [qrr hlg]
  rw [hlg] at hLg
  refine qf c0v 1 (by simp) (by simp) ?_
  repeat' (first | refine vs_ ?_ | ((first | refine vr_ ?_ | refine qa hLg fun _ => ?_ | refine qc hLg ?_ | (refine cs_ ?_ ?_ <;> intro hc) | refine cj_ ?_ | fail) <;> (try refine ev_ ?_)) | with_reducible exact ti_)
  all_goals exact qf6 rfl (by simp) rfl ⟨rfl, rfl⟩
theorem qbs8 {s : List Pr} (hs : s ≠ []) (ho : risR s) (hl : s.length ≤ 100000) (v : Int) {t : Ty} (h1 : szY t ≤ 20000) (h2 : dpY t ≤ 300) : VCalls Tryz.prog 36 [.blk [.row 1 s.length], qb8 s] [.ptr 0 0, .int .i64 v, encY t] (qcp fun H' o => H' = [subE (setR s v t).1] ∧ o = .val (.int .i64 (setR s v t).2)) := by
 have hLg := qc0 h1 h2
 have hcp := qdo t (by omega)
 have hA := qjw v s
 by_cases hlg : qd t = true
 ·cases hlk : qk v s with
  | some u =>
    have hf : qeq s v = .tup [.int .i64 (ahdR v s), .bool true] := by rw [qeq, hlk]; rfl
    rw [q34 hlg hlk]
    rw [hlg] at hLg
    refine qf c0v 2 (by simp) (by simp) ?_
    repeat' (first | refine vs_ ?_ | ((first | refine vr_ ?_ | refine qa hLg fun _ => ?_ | refine qgf ho hl v ?_ | refine qc hLg ?_ | simp (disch := omega) only [hf] | (refine cs_ ?_ ?_ <;> intro hc) | refine cj_ ?_ | fail) <;> (try refine ev_ ?_)) | with_reducible exact ti_)
    all_goals exact qdk 1 hs rfl rfl (by simp) (by simp) rfl ⟨rfl, rfl⟩
  | none =>
    have hf : qeq s v = .tup [.int .i64 (ahdR v s), .bool false] := by rw [qeq, hlk]; rfl
    rw [qs2 hlg hlk]
    rw [hlg] at hLg
    refine qf c0v 4 (by simp) (by simp) ?_
    repeat' (first | refine vs_ ?_ | ((first | refine vr_ ?_ | refine qa hLg fun _ => ?_ | refine qa hcp fun _ => ?_ | refine qgf ho hl v ?_ | refine qbph 1 (p := ⟨v, t⟩) hA hl ?_ | refine qc hLg ?_ | refine qc hcp ?_ | simp (disch := omega) only [hf] | (refine cs_ ?_ ?_ <;> intro hc) | refine cj_ ?_ | fail) <;> (try refine ev_ ?_)) | with_reducible exact ti_)
    all_goals exact qdk (s := insR v t s) 3 (by simp [insR]) (by rw [qme]; rfl) rfl (by simp) (by simp) rfl ⟨rfl, rfl⟩
 ·have hlg : qd t = false := by simpa using hlg
  rw [qrr hlg]
  rw [hlg] at hLg
  refine qf c0v 2 (by simp) (by simp) ?_
  repeat' (first | refine vs_ ?_ | ((first | refine vr_ ?_ | refine qa hLg fun _ => ?_ | refine qc hLg ?_ | (refine cs_ ?_ ?_ <;> intro hc) | refine cj_ ?_ | fail) <;> (try refine ev_ ?_)) | with_reducible exact ti_)
  all_goals exact qdk 1 hs rfl rfl (by simp) (by simp) rfl ⟨rfl, rfl⟩
theorem qf7 {s : List Pr} (ho : risR s) (hl : s.length ≤ 100000) (v : Int) {t : Ty} (h1 : szY t ≤ 20000) (h2 : dpY t ≤ 300) : VM Tryz.prog 36 (subE s) (subE (setR s v t).1) [.ptr 0 0, .int .i64 v, encY t] (.int .i64 (setR s v t).2) := by
 by_cases hs : s = []
 ·subst hs
  exact qfz (by rw [qiy]; exact q8x v h1 h2) (by simp [AV.bds, AV.bd, qz])
 ·exact qfz (by have := qbs8 hs ho hl v h1 h2; rwa [← qm8 hs] at this) (by simp [AV.bds, AV.bd, qz])
end Go.Proofs.YtlahgbhhejkgbaaGreat
