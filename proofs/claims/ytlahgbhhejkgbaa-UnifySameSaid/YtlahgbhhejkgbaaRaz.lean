/- Texts of this proof, joined. -/
import Derived.Test.YtlahgbhhejkgbaaRaw
import Derived.Test.YtlahgbhhejkgbaaRay

/- substitutions: found, got -/
set_option maxRecDepth 4000
namespace Go.Proofs.Ytlahgbhhejkgbaa
open Go Go.RowKit Go.V
set_option linter.unusedVariables false
set_option linter.unusedSimpArgs false

theorem qel (v : Int) : qd8 [] v = .tup [.int .i64 0, .bool false] := rfl
theorem qbby (v : Int) : qp Try.prog 107 [.sl 4 [], .int .i64 v, .fn 108 [] []] (qd8 [] v) := by
 refine qh c0x (by simp) (by simp only [go_sem]) rfl fun hw => ?_
 rw [qel]
 repeat' (first | refine vs_ ?_ | ((first | refine vr_ ?_ | (refine cs_ ?_ ?_ <;> intro hc) | refine cj_ ?_ | simp (disch := omega) only [encs_getN, qb]) <;> (try refine ev_ ?_)) | with_reducible exact ti_)
 refine qu (S := Unit) (fun _ => True) (fun _ => (⟨[(0, .sl 4 []), (1, .int .i64 v), (2, .fn 108 [] []), (8, .int .i64 0), (9, .int .i64 0), (10, .int .i64 0)], []⟩, [])) (fun _ => 0) ?_ fun x hx => ?_
 ·refine qn () [] trivial rfl (by simp) ?_ ?_ ?_ <;> (try refine ev_ ?_) <;> (try with_reducible exact ti_) <;> (try simp (disch := omega) only [qb, and_true, true_and])
 ·repeat' (first | refine vs_ ?_ | ((first | refine vr_ ?_ | (refine cs_ ?_ ?_ <;> intro hc) | refine cj_ ?_ | simp (disch := omega) only [encs_getN, qb]) <;> (try refine ev_ ?_)) | with_reducible exact ti_)
  ·exact absurd hc (by omega)
  ·exact ⟨rfl, rfl⟩
def subH (s : List Pr) : List Ent := if s = [] then [.blk [.nils]] else [.blk [.row 1 s.length], qbr s]
theorem qh1 : subH [] = [.blk [.nils]] := rfl
theorem ql3 {s : List Pr} (h : s ≠ []) : subH s = [.blk [.row 1 s.length], qbr s] := by rw [subH, if_neg h]
abbrev subE (s : List Pr) : Ent := bun (subH s)
theorem qfr {Q : List Ent → VO → Prop} {H' : List Ent} {r : AV} (h0 : ent H' 0 = .blk [.nils]) (hl : 0 < H'.length) (hr : r.bd 0 = true) (h : Q [subE []] (.val r)) : qcc Q H' (.val r) :=
 ⟨[.blk [.nils]], [0], rfl, by simp, by simp, ⟨⟨hl, rfl, by rw [h0]; rfl⟩, trivial⟩, qlj (Nat.zero_le _) _ hr, h⟩
theorem qcz {Q : List Ent → VO → Prop} {H' : List Ent} {s : List Pr} {r : AV} (k : Nat) (hs : s ≠ []) (h0 : ent H' 0 = .blk [.row k s.length]) (h1 : ent H' k = qbr s) (hk : 0 < k) (hl : k < H'.length) (hr : r.bd 0 = true) (h : Q [subE s] (.val r)) : qcc Q H' (.val r) :=
 ⟨[.blk [.row 1 s.length], qbr s], [0, k], rfl, by simp, by simp; omega, ⟨⟨by omega, rfl, by rw [h0]; rfl⟩, ⟨hl, qgh s 2, by rw [h1]; simp only [qbr, Ent.ren, qjf]⟩, trivial⟩, qlj (Nat.zero_le _) _ hr, by rwa [subE, ql3 hs] at h⟩
theorem qej (σ : Nat → Nat) (s : List Pr) : (qbr s).ren σ = qbr s := by simp only [qbr, Ent.ren, qjf]
theorem qb1 : ∀ {H : List Ent} {i : Nat} {e : Ent}, ent H i = e → i < H.length → H.set i e = H
 | [], i, e, _, hl => by simp at hl
 | x :: r, 0, e, h, _ => by rw [← h]; rfl
 | x :: r, i + 1, e, h, hl => by
   have h' : ent r i = e := h
   rw [List.set_cons_succ, qb1 h' (by simpa using hl)]
theorem qzh (v : Int) : VCalls Try.prog 84 [.blk [.nils]] [.ptr 0 0, .int .i64 v] fun H' o => H' = [.blk [.nils]] ∧ o = .val (qd8 [] v) := by
 refine qe c0y 1 (by simp) (by simp) ?_
 rw [qel]
 repeat' (first | refine vs_ ?_ | ((first | refine vr_ ?_ | refine qa (qbby _) fun _ => ?_ | simp (disch := omega) only [qel] | (refine cs_ ?_ ?_ <;> intro hc) | refine cj_ ?_ | fail) <;> (try refine ev_ ?_)) | with_reducible exact ti_)
theorem q71 {s : List Pr} (ho : risR s) (hl : s.length ≤ 100000) (v : Int) : VCalls Try.prog 84 [.blk [.row 1 s.length], qbr s] [.ptr 0 0, .int .i64 v] fun H' o => H' = [.blk [.row 1 s.length], qbr s] ∧ o = .val (qd8 s v) := by
 refine qe c0y 2 (by simp) (by simp [qbr, Ent.bd, qcp]) ?_
 rw [qd8]
 repeat' (first | refine vs_ ?_ | ((first | refine vr_ ?_ | refine qbh 1 (qbct ho hl v) ?_ (qgh s 0) (qgh s 0) | simp (disch := omega) only [qd8] | (refine cs_ ?_ ?_ <;> intro hc) | refine cj_ ?_ | fail) <;> (try refine ev_ ?_)) | with_reducible exact ti_)
section
variable {H : List Ent} {Q : List Ent → VO → Prop} {K : Md → AV → List Ent → Prop} {raws : List AV} {s : List Pr}
theorem qon (v : Int) (hq : Q H (.val (qd8 [] v))) (h0 : ent H 0 = .blk [.nils] := by rfl) (hl' : 0 < H.length := by simp) : VApp Try.prog H (.fn 84 [] []) [.ptr 0 0, .int .i64 v] Q := by
 refine qbp ?_
 rw [List.nil_append, List.append_nil]
 refine q6 [0] (qzh v) (by simp) ⟨⟨by omega, rfl, h0⟩, trivial⟩ rfl rfl fun H1 o ho => ?_
 obtain ⟨rfl, rfl⟩ := ho
 have : qdt H [0] [.blk [.nils]] = H := by
  show (H.set 0 (.blk [.nils])) ++ [] = H
  rw [List.append_nil, qb1 h0 hl']
 rw [this]
 exact hq
theorem qgd (ho : risR s) (hl : s.length ≤ 100000) (v : Int) (hq : Q H (.val (qd8 s v))) (h0 : ent H 0 = .blk [.row 1 s.length] := by rfl) (h1 : ent H 1 = qbr s := by rfl) (hl' : 1 < H.length := by simp) : VApp Try.prog H (.fn 84 [] []) [.ptr 0 0, .int .i64 v] Q := by
 refine qbp ?_
 rw [List.nil_append, List.append_nil]
 refine q6 [0, 1] (q71 ho hl v) (by simp) ⟨⟨by omega, rfl, h0⟩, ⟨hl', qgh s 2, by rw [h1, qej]⟩, trivial⟩ rfl rfl fun H1 o ho => ?_
 obtain ⟨rfl, rfl⟩ := ho
 have : qdt H [0, 1] [.blk [.row 1 s.length], qbr s] = H := by
  show ((H.set 0 (.blk [.row 1 s.length])).set 1 ((qbr s).ren _)) ++ [] = H
  rw [List.append_nil, qej, qb1 h0 (by omega), qb1 h1 hl']
 rw [this]
 exact hq
end
set_option maxRecDepth 4000

def getV (s : List Pr) (v : Int) : AV := .tup [encY ((ql v s).getD Y0), .bool (ql v s).isSome]
theorem q96 (k : Nat) (s : List Pr) (v : Int) : (getV s v).bd k = true := by simp only [getV, AV.bd, AV.bds, qx, Bool.and_true, Bool.true_and]
theorem q7n (v : Int) : VCalls Try.prog 58 [.blk [.nils]] [.ptr 0 0, .int .i64 v] (qcc fun H' o => H' = [subE []] ∧ o = .val (getV [] v)) := by
 refine qe c0w 1 (by simp) (by simp) ?_
 repeat' (first | refine vs_ ?_ | ((first | refine vr_ ?_ | refine qon v ?_ | simp (disch := omega) only [qel] | (refine cs_ ?_ ?_ <;> intro hc) | refine cj_ ?_ | simp (disch := omega) only [encs_getN, qb]) <;> (try refine ev_ ?_)) | with_reducible exact ti_)
 all_goals exact qfr rfl (by simp) rfl ⟨rfl, rfl⟩
theorem qbmg {s : List Pr} (hs : s ≠ []) (ho : risR s) (hl : s.length ≤ 100000) (v : Int) : VCalls Try.prog 58 [.blk [.row 1 s.length], qbr s] [.ptr 0 0, .int .i64 v] (qcc fun H' o => H' = [subE s] ∧ o = .val (getV s v)) := by
 refine qe c0w 2 (by simp) (by simp [qbr, Ent.bd, qcp]) ?_
 have hlk := qh9 (v := v) ho
 have hf : qd8 s v = .tup [.int .i64 (ahdR v s), .bool (ql v s).isSome] := rfl
 by_cases hin : ahdR v s < s.length ∧ (s.getD (ahdR v s) R0).v = v
 ·rw [if_pos hin] at hlk
  have hp := qb7 hin.1
  have hi := hin.1
  rw [hlk, Option.isSome_some] at hf
  have hg : getV s v = .tup [encY (s.getD (ahdR v s) R0).ty, .bool true] := by rw [getV, hlk]; rfl
  rw [hg]
  clear hin
  repeat' (first | refine vs_ ?_ | ((first | refine vr_ ?_ | fail) <;> (try simp only [hp, go_sem, ↓reduceIte])) | ((first | simp (disch := omega) only [hf] | simp (disch := omega) only [hp] | (refine cs_ ?_ ?_ <;> intro hc) | refine cj_ ?_ | simp (disch := omega) only [encs_getN, qb] | refine qgd ho hl v ?_) <;> (try refine ev_ ?_)) | with_reducible exact ti_)
  all_goals exact qcz 1 hs rfl rfl (by simp) (by simp) (by first | rfl | simp only [AV.bd, AV.bds, qx, Bool.and_true]) ⟨rfl, rfl⟩
 ·rw [if_neg hin] at hlk
  rw [hlk, Option.isSome_none] at hf
  have hg : getV s v = .tup [encY Y0, .bool false] := by rw [getV, hlk]; rfl
  rw [hg]
  repeat' (first | refine vs_ ?_ | ((first | refine vr_ ?_ | refine qgd ho hl v ?_ | simp (disch := omega) only [hf] | (refine cs_ ?_ ?_ <;> intro hc) | refine cj_ ?_ | simp (disch := omega) only [encs_getN, qb]) <;> (try refine ev_ ?_)) | with_reducible exact ti_)
  all_goals exact qcz 1 hs rfl rfl (by simp) (by simp) (by first | rfl | simp only [AV.bd, AV.bds, qx, Bool.and_true]) ⟨rfl, rfl⟩
theorem qgz {s : List Pr} (ho : risR s) (hl : s.length ≤ 100000) (v : Int) : VM Try.prog 58 (subE s) (subE s) [.ptr 0 0, .int .i64 v] (getV s v) := by
 by_cases hs : s = []
 ·subst hs
  exact qff (by rw [qh1]; exact q7n v) rfl
 ·exact qff (by have := qbmg hs ho hl v; rwa [← ql3 hs] at this) rfl
set_option maxRecDepth 4000

abbrev insF : FuncId := 122
theorem qjt (p : Pr) : (encR p).cells.length = 4 ∧ (encR p).flat := ⟨rfl, .inl ⟨rfl, rfl⟩⟩
theorem qky (l : List Pr) : ∀ e ∈ qbm l, e.flat := fun e he => by
 obtain ⟨p, _, rfl⟩ := List.mem_map.1 he
 exact (qjt p).2
section
variable {H : List Ent} {K : Md → AV → List Ent → Prop} {args raws : List AV} {s : List Pr} {p : Pr}
theorem q8z (j : Nat) {i : Nat} (hi : i ≤ s.length) (hl : s.length ≤ 100000) (h1 : ent H j = qbr s) : Gro Try.prog H (.fn insF [] []) [.row j s.length, .int .i64 i, .lit 4 [encR p]] (some (j, qbr s)) (qbr (s.take i ++ p :: s.drop i)) (s.length + 1) := by
 refine ⟨fun q hq => by cases hq; exact ⟨by simp, h1⟩, fun H₀ h0 => ?_⟩
 have h0 : ent H₀ j = qbr s := h0 _ rfl
 have hl' := (List.getElem?_eq_some_iff.1 (qv h0 (by simp))).1
 have hv := q0k (es := qbm s) (x := encR p) (i := i) (by rw [qdo]; exact hi) (by rw [qdo]; omega) (qjt p) (by simp only [AV.bds, qhi, qcp, Bool.and_true]) (qky s)
 rw [qdo] at hv
 refine qbp ?_
 rw [List.nil_append, List.append_nil]
 refine q6 [j] hv (by simp) ⟨⟨hl', qgh s 1, by rw [h0, qej]⟩, trivial⟩ (by simp [AV.bds, AV.bd, qhi]) (by simp only [AV.rens, AV.ren, qma]; rfl) fun H1 o ho => ?_
 obtain ⟨rfl, rfl⟩ := ho
 have he : qbm (s.take i ++ p :: s.drop i) = (qbm s).take i ++ encR p :: (qbm s).drop i := by simp [qbm]
 refine ⟨?_, ?_⟩
 ·rw [← he]
  show (H₀.set j .dead) ++ [(qbr (s.take i ++ p :: s.drop i)).ren _] = (H₀.set j .dead) ++ [_]
  rw [qej]
 ·show VO.val (.row (H₀.length + (1 - 1)) _) = _
  simp
theorem q9f : Gro Try.prog H (.fn insF [] []) [.nils, .int .i64 0, .lit 4 [encR p]] none (qbr [p]) 1 := by
 refine ⟨fun q hq => (by cases hq), fun H₀ h0 => ?_⟩
 refine qbp ?_
 rw [List.nil_append, List.append_nil]
 refine q6 [] (qmp (qjt p)) (by simp) trivial (by simp [AV.bds, AV.bd, qhi]) (by simp only [AV.rens, AV.ren, qma]) fun H1 o ho => ?_
 obtain ⟨rfl, rfl⟩ := ho
 refine ⟨?_, ?_⟩
 ·show H₀ ++ [(qbr [p]).ren _] = H₀ ++ [_]
  rw [qej]
 ·show VO.val (.row (H₀.length + (0 - 0)) _) = _
  simp
theorem qbje (j : Nat) {i : Nat} (hi : i ≤ s.length) (hl : s.length ≤ 100000) (hq : K (.grow (some (j, qbr s)) (qbr (s.take i ++ p :: s.drop i)) (s.length + 1)) (.row H.length (s.length + 1)) (H.set j .dead ++ [qbr (s.take i ++ p :: s.drop i)])) (h1 : ent H j = qbr s := by rfl) (hr : raws = [.row j s.length, .int .i64 i, .lit 4 [encR p]] := by rfl) :
 DApp Try.prog H (.fn insF [] []) args raws K := by
 subst hr
 exact .inr (.inr (.inr (.inl ⟨_, _, _, q8z j hi hl h1, hq⟩)))
theorem qbga (hq : K (.grow none (qbr [p]) 1) (.row H.length 1) (H ++ [qbr [p]])) (hr : raws = [.nils, .int .i64 0, .lit 4 [encR p]] := by rfl) : DApp Try.prog H (.fn insF [] []) args raws K := by
 subst hr
 exact .inr (.inr (.inr (.inl ⟨_, _, _, q9f, hq⟩)))
end
theorem qra {s : List Pr} {v : Int} {t : Ty} (h : qd t = false) : setR s v t = (s, 1) := by rw [setR, if_neg (by simp [h])]
theorem qy2 {s : List Pr} {v : Int} {t u : Ty} (h : qd t = true) (hl : ql v s = some u) : setR s v t = (s, 6) := by rw [setR, if_pos h, hl]
theorem qqj {s : List Pr} {v : Int} {t : Ty} (h : qd t = true) (hl : ql v s = none) : setR s v t = (insR v t s, 0) := by rw [setR, if_pos h, hl]
theorem qba0 (v : Int) {t : Ty} (h1 : szY t ≤ 20000) (h2 : dpY t ≤ 300) : VCalls Try.prog 110 [.blk [.nils]] [.ptr 0 0, .int .i64 v, encY t] (qcc fun H' o => H' = [subE (setR [] v t).1] ∧ o = .val (.int .i64 (setR [] v t).2)) := by
 have hLg := qcm h1 h2
 have hcp := qdf t (by omega)
 by_cases hlg : qd t = true
 ·rw [qqj hlg rfl]
  rw [hlg] at hLg
  refine qe c0v 3 (by simp) (by simp) ?_
  repeat' (first | refine vs_ ?_ | ((first | refine vr_ ?_ | refine qa hLg fun _ => ?_ | refine qa hcp fun _ => ?_ | refine qon v ?_ | refine qbga (p := ⟨v, t⟩) ?_ | refine qg hLg ?_ | refine qg hcp ?_ | simp (disch := omega) only [qel] | (refine cs_ ?_ ?_ <;> intro hc) | refine cj_ ?_ | fail) <;> (try refine ev_ ?_)) | with_reducible exact ti_)
  all_goals exact qcz (s := insR v t []) 2 (by simp [ql2]) rfl rfl (by simp) (by simp) rfl ⟨rfl, rfl⟩
 ·have hlg : qd t = false := by simpa using hlg
  rw [qra hlg]
  rw [hlg] at hLg
  refine qe c0v 1 (by simp) (by simp) ?_
  repeat' (first | refine vs_ ?_ | ((first | refine vr_ ?_ | refine qa hLg fun _ => ?_ | refine qg hLg ?_ | (refine cs_ ?_ ?_ <;> intro hc) | refine cj_ ?_ | fail) <;> (try refine ev_ ?_)) | with_reducible exact ti_)
  all_goals exact qfr rfl (by simp) rfl ⟨rfl, rfl⟩
theorem qbil {s : List Pr} (hs : s ≠ []) (ho : risR s) (hl : s.length ≤ 100000) (v : Int) {t : Ty} (h1 : szY t ≤ 20000) (h2 : dpY t ≤ 300) : VCalls Try.prog 110 [.blk [.row 1 s.length], qbr s] [.ptr 0 0, .int .i64 v, encY t] (qcc fun H' o => H' = [subE (setR s v t).1] ∧ o = .val (.int .i64 (setR s v t).2)) := by
 have hLg := qcm h1 h2
 have hcp := qdf t (by omega)
 have hA := ql9 v s
 by_cases hlg : qd t = true
 ·cases hlk : ql v s with
  | some u =>
    have hf : qd8 s v = .tup [.int .i64 (ahdR v s), .bool true] := by rw [qd8, hlk]; rfl
    rw [qy2 hlg hlk]
    rw [hlg] at hLg
    refine qe c0v 2 (by simp) (by simp) ?_
    repeat' (first | refine vs_ ?_ | ((first | refine vr_ ?_ | refine qa hLg fun _ => ?_ | refine qgd ho hl v ?_ | refine qg hLg ?_ | simp (disch := omega) only [hf] | (refine cs_ ?_ ?_ <;> intro hc) | refine cj_ ?_ | fail) <;> (try refine ev_ ?_)) | with_reducible exact ti_)
    all_goals exact qcz 1 hs rfl rfl (by simp) (by simp) rfl ⟨rfl, rfl⟩
  | none =>
    have hf : qd8 s v = .tup [.int .i64 (ahdR v s), .bool false] := by rw [qd8, hlk]; rfl
    rw [qqj hlg hlk]
    rw [hlg] at hLg
    refine qe c0v 4 (by simp) (by simp) ?_
    repeat' (first | refine vs_ ?_ | ((first | refine vr_ ?_ | refine qa hLg fun _ => ?_ | refine qa hcp fun _ => ?_ | refine qgd ho hl v ?_ | refine qbje 1 (p := ⟨v, t⟩) hA hl ?_ | refine qg hLg ?_ | refine qg hcp ?_ | simp (disch := omega) only [hf] | (refine cs_ ?_ ?_ <;> intro hc) | refine cj_ ?_ | fail) <;> (try refine ev_ ?_)) | with_reducible exact ti_)
    all_goals exact qcz (s := insR v t s) 3 (by simp [insR]) (by rw [qlw]; rfl) rfl (by simp) (by simp) rfl ⟨rfl, rfl⟩
 ·have hlg : qd t = false := by simpa using hlg
  rw [qra hlg]
  rw [hlg] at hLg
  refine qe c0v 2 (by simp) (by simp) ?_
  repeat' (first | refine vs_ ?_ | ((first | refine vr_ ?_ | refine qa hLg fun _ => ?_ | refine qg hLg ?_ | (refine cs_ ?_ ?_ <;> intro hc) | refine cj_ ?_ | fail) <;> (try refine ev_ ?_)) | with_reducible exact ti_)
  all_goals exact qcz 1 hs rfl rfl (by simp) (by simp) rfl ⟨rfl, rfl⟩
theorem qfp {s : List Pr} (ho : risR s) (hl : s.length ≤ 100000) (v : Int) {t : Ty} (h1 : szY t ≤ 20000) (h2 : dpY t ≤ 300) : VM Try.prog 110 (subE s) (subE (setR s v t).1) [.ptr 0 0, .int .i64 v, encY t] (.int .i64 (setR s v t).2) := by
 by_cases hs : s = []
 ·subst hs
  exact qff (by rw [qh1]; exact qba0 v h1 h2) (by simp [AV.bds, AV.bd, qx])
 ·exact qff (by have := qbil hs ho hl v h1 h2; rwa [← ql3 hs] at this) (by simp [AV.bds, AV.bd, qx])
end Go.Proofs.Ytlahgbhhejkgbaa
