/- Texts of this proof, joined. -/
import Derived.Test.YtlahgbhhejkgbaaGreatAay
import Derived.Test.YtlahgbhhejkgbaaGreatAba

/- substitutions: found, got -/
set_option maxRecDepth 4000
namespace Go.Proofs.YtlahgbhhejkgbaaGreat
open Go Go.RowKit Go.V
set_option linter.unusedVariables false
set_option linter.unusedSimpArgs false

theorem qe3 (v : Int) : qev [] v = .tup [.int .i64 0, .bool false] := rfl
theorem qblr (v : Int) : ql Tryz.prog 65 [.sl 4 [], .int .i64 v, .fn 66 [] []] (qev [] v) := by
 refine qf c0x (by simp) (by simp only [go_sem]) rfl fun hw => ?_
 rw [qe3]
 repeat' (first | refine vs_ ?_ | ((first | refine vr_ ?_ | (refine cs_ ?_ ?_ <;> intro hc) | refine cj_ ?_ | simp (disch := omega) only [encs_getN, qb]) <;> (try refine ev_ ?_)) | with_reducible exact ti_)
 refine qq (S := Unit) (fun _ => True) (fun _ => (⟨[(0, .sl 4 []), (1, .int .i64 v), (2, .fn 66 [] []), (8, .int .i64 0), (9, .int .i64 0), (10, .int .i64 0)], []⟩, [])) (fun _ => 0) ?_ fun x hx => ?_
 ·refine qh () [] trivial rfl (by simp) ?_ ?_ ?_ <;> (try refine ev_ ?_) <;> (try with_reducible exact ti_) <;> (try simp (disch := omega) only [qb, and_true, true_and])
 ·repeat' (first | refine vs_ ?_ | ((first | refine vr_ ?_ | (refine cs_ ?_ ?_ <;> intro hc) | refine cj_ ?_ | simp (disch := omega) only [encs_getN, qb]) <;> (try refine ev_ ?_)) | with_reducible exact ti_)
  ·exact absurd hc (by omega)
  ·exact ⟨rfl, rfl⟩
def subH (s : List Pr) : List Ent := if s = [] then [.blk [.nils]] else [.blk [.row 1 s.length], qca s]
theorem qi8 : subH [] = [.blk [.nils]] := rfl
theorem qn5 {s : List Pr} (h : s ≠ []) : subH s = [.blk [.row 1 s.length], qca s] := by rw [subH, if_neg h]
abbrev subE (s : List Pr) : Ent := bun (subH s)
theorem qge {Q : List Ent → VO → Prop} {H' : List Ent} {r : AV} (h0 : ent H' 0 = .blk [.nils]) (hl : 0 < H'.length) (hr : r.bd 0 = true) (h : Q [subE []] (.val r)) : qct Q H' (.val r) :=
 ⟨[.blk [.nils]], [0], rfl, by simp, by simp, ⟨⟨hl, rfl, by rw [h0]; rfl⟩, trivial⟩, qnn (Nat.zero_le _) _ hr, h⟩
theorem qdm {Q : List Ent → VO → Prop} {H' : List Ent} {s : List Pr} {r : AV} (k : Nat) (hs : s ≠ []) (h0 : ent H' 0 = .blk [.row k s.length]) (h1 : ent H' k = qca s) (hk : 0 < k) (hl : k < H'.length) (hr : r.bd 0 = true) (h : Q [subE s] (.val r)) : qct Q H' (.val r) :=
 ⟨[.blk [.row 1 s.length], qca s], [0, k], rfl, by simp, by simp; omega, ⟨⟨by omega, rfl, by rw [h0]; rfl⟩, ⟨hl, qgo s 2, by rw [h1]; simp only [qca, Ent.ren, qg9]⟩, trivial⟩, qnn (Nat.zero_le _) _ hr, by rwa [subE, qn5 hs] at h⟩
theorem qe1 (σ : Nat → Nat) (s : List Pr) : (qca s).ren σ = qca s := by simp only [qca, Ent.ren, qg9]
theorem qch : ∀ {H : List Ent} {i : Nat} {e : Ent}, ent H i = e → i < H.length → H.set i e = H
 | [], i, e, _, hl => by simp at hl
 | x :: r, 0, e, h, _ => by rw [← h]; rfl
 | x :: r, i + 1, e, h, hl => by
   have h' : ent r i = e := h
   rw [List.set_cons_succ, qch h' (by simpa using hl)]
theorem q3n (v : Int) : VCalls Tryz.prog 42 [.blk [.nils]] [.ptr 0 0, .int .i64 v] fun H' o => H' = [.blk [.nils]] ∧ o = .val (qev [] v) := by
 refine qg c0y 1 (by simp) (by simp) ?_
 rw [qe3]
 repeat' (first | refine vs_ ?_ | ((first | refine vr_ ?_ | refine qa (qblr _) fun _ => ?_ | simp (disch := omega) only [qe3] | (refine cs_ ?_ ?_ <;> intro hc) | refine cj_ ?_ | fail) <;> (try refine ev_ ?_)) | with_reducible exact ti_)
theorem qbng {s : List Pr} (ho : risR s) (hl : s.length ≤ 100000) (v : Int) : VCalls Tryz.prog 42 [.blk [.row 1 s.length], qca s] [.ptr 0 0, .int .i64 v] fun H' o => H' = [.blk [.row 1 s.length], qca s] ∧ o = .val (qev s v) := by
 refine qg c0y 2 (by simp) (by simp [qca, Ent.bd, qby]) ?_
 rw [qev]
 repeat' (first | refine vs_ ?_ | ((first | refine vr_ ?_ | refine qbt 1 (qbj1 ho hl v) ?_ (qgo s 0) (qgo s 0) | simp (disch := omega) only [qev] | (refine cs_ ?_ ?_ <;> intro hc) | refine cj_ ?_ | fail) <;> (try refine ev_ ?_)) | with_reducible exact ti_)
section
variable {H : List Ent} {Q : List Ent → VO → Prop} {K : Md → AV → List Ent → Prop} {raws : List AV} {s : List Pr}
theorem qox (v : Int) (hq : Q H (.val (qev [] v))) (h0 : ent H 0 = .blk [.nils] := by rfl) (hl' : 0 < H.length := by simp) : VApp Tryz.prog H (.fn 42 [] []) [.ptr 0 0, .int .i64 v] Q := by
 refine qb7 ?_
 rw [List.nil_append, List.append_nil]
 refine qbd [0] (q3n v) (by simp) ⟨⟨by omega, rfl, h0⟩, trivial⟩ rfl rfl fun H1 o ho => ?_
 obtain ⟨rfl, rfl⟩ := ho
 have : qeo H [0] [.blk [.nils]] = H := by
  show (H.set 0 (.blk [.nils])) ++ [] = H
  rw [List.append_nil, qch h0 hl']
 rw [this]
 exact hq
theorem qg0 (ho : risR s) (hl : s.length ≤ 100000) (v : Int) (hq : Q H (.val (qev s v))) (h0 : ent H 0 = .blk [.row 1 s.length] := by rfl) (h1 : ent H 1 = qca s := by rfl) (hl' : 1 < H.length := by simp) : VApp Tryz.prog H (.fn 42 [] []) [.ptr 0 0, .int .i64 v] Q := by
 refine qb7 ?_
 rw [List.nil_append, List.append_nil]
 refine qbd [0, 1] (qbng ho hl v) (by simp) ⟨⟨by omega, rfl, h0⟩, ⟨hl', qgo s 2, by rw [h1, qe1]⟩, trivial⟩ rfl rfl fun H1 o ho => ?_
 obtain ⟨rfl, rfl⟩ := ho
 have : qeo H [0, 1] [.blk [.row 1 s.length], qca s] = H := by
  show ((H.set 0 (.blk [.row 1 s.length])).set 1 ((qca s).ren _)) ++ [] = H
  rw [List.append_nil, qe1, qch h0 (by omega), qch h1 hl']
 rw [this]
 exact hq
end
set_option maxRecDepth 4000

def getV (s : List Pr) (v : Int) : AV := .tup [encY ((qm v s).getD Y0), .bool (qm v s).isSome]
theorem qbev (k : Nat) (s : List Pr) (v : Int) : (getV s v).bd k = true := by simp only [getV, AV.bd, AV.bds, qz, Bool.and_true, Bool.true_and]
theorem qbi5 (v : Int) : VCalls Tryz.prog 25 [.blk [.nils]] [.ptr 0 0, .int .i64 v] (qct fun H' o => H' = [subE []] ∧ o = .val (getV [] v)) := by
 refine qg c0w 1 (by simp) (by simp) ?_
 repeat' (first | refine vs_ ?_ | ((first | refine vr_ ?_ | refine qox v ?_ | simp (disch := omega) only [qe3] | (refine cs_ ?_ ?_ <;> intro hc) | refine cj_ ?_ | simp (disch := omega) only [encs_getN, qb]) <;> (try refine ev_ ?_)) | with_reducible exact ti_)
 all_goals exact qge rfl (by simp) rfl ⟨rfl, rfl⟩
theorem qbwf {s : List Pr} (hs : s ≠ []) (ho : risR s) (hl : s.length ≤ 100000) (v : Int) : VCalls Tryz.prog 25 [.blk [.row 1 s.length], qca s] [.ptr 0 0, .int .i64 v] (qct fun H' o => H' = [subE s] ∧ o = .val (getV s v)) := by
 refine qg c0w 2 (by simp) (by simp [qca, Ent.bd, qby]) ?_
 have hlk := qi5 (v := v) ho
 have hf : qev s v = .tup [.int .i64 (ahdR v s), .bool (qm v s).isSome] := rfl
 by_cases hin : ahdR v s < s.length ∧ (s.getD (ahdR v s) R0).v = v
 ·rw [if_pos hin] at hlk
  have hp := qn hin.1
  have hi := hin.1
  rw [hlk, Option.isSome_some] at hf
  have hg : getV s v = .tup [encY (s.getD (ahdR v s) R0).ty, .bool true] := by rw [getV, hlk]; rfl
  rw [hg]
  clear hin
  repeat' (first | refine vs_ ?_ | ((first | refine vr_ ?_ | fail) <;> (try simp only [hp, go_sem, ↓reduceIte])) | ((first | simp (disch := omega) only [hf] | simp (disch := omega) only [hp] | (refine cs_ ?_ ?_ <;> intro hc) | refine cj_ ?_ | simp (disch := omega) only [encs_getN, qb] | refine qg0 ho hl v ?_) <;> (try refine ev_ ?_)) | with_reducible exact ti_)
  all_goals exact qdm 1 hs rfl rfl (by simp) (by simp) (by first | rfl | simp only [AV.bd, AV.bds, qz, Bool.and_true]) ⟨rfl, rfl⟩
 ·rw [if_neg hin] at hlk
  rw [hlk, Option.isSome_none] at hf
  have hg : getV s v = .tup [encY Y0, .bool false] := by rw [getV, hlk]; rfl
  rw [hg]
  repeat' (first | refine vs_ ?_ | ((first | refine vr_ ?_ | refine qg0 ho hl v ?_ | simp (disch := omega) only [hf] | (refine cs_ ?_ ?_ <;> intro hc) | refine cj_ ?_ | simp (disch := omega) only [encs_getN, qb]) <;> (try refine ev_ ?_)) | with_reducible exact ti_)
  all_goals exact qdm 1 hs rfl rfl (by simp) (by simp) (by first | rfl | simp only [AV.bd, AV.bds, qz, Bool.and_true]) ⟨rfl, rfl⟩
theorem qh1 {s : List Pr} (ho : risR s) (hl : s.length ≤ 100000) (v : Int) : VM Tryz.prog 25 (subE s) (subE s) [.ptr 0 0, .int .i64 v] (getV s v) := by
 by_cases hs : s = []
 ·subst hs
  exact qf7 (by rw [qi8]; exact qbi5 v) rfl
 ·exact qf7 (by have := qbwf hs ho hl v; rwa [← qn5 hs] at this) rfl
set_option maxRecDepth 4000

abbrev insF : FuncId := 55
theorem qky (p : Pr) : (encR p).cells.length = 4 ∧ (encR p).flat := ⟨rfl, .inl ⟨rfl, rfl⟩⟩
theorem qmi (l : List Pr) : ∀ e ∈ qt l, e.flat := fun e he => by
 obtain ⟨p, _, rfl⟩ := List.mem_map.1 he
 exact (qky p).2
section
variable {H : List Ent} {K : Md → AV → List Ent → Prop} {args raws : List AV} {s : List Pr} {p : Pr}
theorem qbbx (j : Nat) {i : Nat} (hi : i ≤ s.length) (hl : s.length ≤ 100000) (h1 : ent H j = qca s) : Gro Tryz.prog H (.fn insF [] []) [.row j s.length, .int .i64 i, .lit 4 [encR p]] (some (j, qca s)) (qca (s.take i ++ p :: s.drop i)) (s.length + 1) := by
 refine ⟨fun q hq => by cases hq; exact ⟨by simp, h1⟩, fun H₀ h0 => ?_⟩
 have h0 : ent H₀ j = qca s := h0 _ rfl
 have hl' := (List.getElem?_eq_some_iff.1 (q7 h0 (by simp))).1
 have hv := q5z (es := qt s) (x := encR p) (i := i) (by rw [q6]; exact hi) (by rw [q6]; omega) (qky p) (by simp only [AV.bds, qij, qby, Bool.and_true]) (qmi s)
 rw [q6] at hv
 refine qb7 ?_
 rw [List.nil_append, List.append_nil]
 refine qbd [j] hv (by simp) ⟨⟨hl', qgo s 1, by rw [h0, qe1]⟩, trivial⟩ (by simp [AV.bds, AV.bd, qij]) (by simp only [AV.rens, AV.ren, qn4]; rfl) fun H1 o ho => ?_
 obtain ⟨rfl, rfl⟩ := ho
 have he : qt (s.take i ++ p :: s.drop i) = (qt s).take i ++ encR p :: (qt s).drop i := by simp [qt]
 refine ⟨?_, ?_⟩
 ·rw [← he]
  show (H₀.set j .dead) ++ [(qca (s.take i ++ p :: s.drop i)).ren _] = (H₀.set j .dead) ++ [_]
  rw [qe1]
 ·show VO.val (.row (H₀.length + (1 - 1)) _) = _
  simp
theorem qbds : Gro Tryz.prog H (.fn insF [] []) [.nils, .int .i64 0, .lit 4 [encR p]] none (qca [p]) 1 := by
 refine ⟨fun q hq => (by cases hq), fun H₀ h0 => ?_⟩
 refine qb7 ?_
 rw [List.nil_append, List.append_nil]
 refine qbd [] (qp2 (qky p)) (by simp) trivial (by simp [AV.bds, AV.bd, qij]) (by simp only [AV.rens, AV.ren, qn4]) fun H1 o ho => ?_
 obtain ⟨rfl, rfl⟩ := ho
 refine ⟨?_, ?_⟩
 ·show H₀ ++ [(qca [p]).ren _] = H₀ ++ [_]
  rw [qe1]
 ·show VO.val (.row (H₀.length + (0 - 0)) _) = _
  simp
theorem qbwx (j : Nat) {i : Nat} (hi : i ≤ s.length) (hl : s.length ≤ 100000) (hq : K (.grow (some (j, qca s)) (qca (s.take i ++ p :: s.drop i)) (s.length + 1)) (.row H.length (s.length + 1)) (H.set j .dead ++ [qca (s.take i ++ p :: s.drop i)])) (h1 : ent H j = qca s := by rfl) (hr : raws = [.row j s.length, .int .i64 i, .lit 4 [encR p]] := by rfl) :
 DApp Tryz.prog H (.fn insF [] []) args raws K := by
 subst hr
 exact .inr (.inr (.inr (.inl ⟨_, _, _, qbbx j hi hl h1, hq⟩)))
theorem qbrp (hq : K (.grow none (qca [p]) 1) (.row H.length 1) (H ++ [qca [p]])) (hr : raws = [.nils, .int .i64 0, .lit 4 [encR p]] := by rfl) : DApp Tryz.prog H (.fn insF [] []) args raws K := by
 subst hr
 exact .inr (.inr (.inr (.inl ⟨_, _, _, qbds, hq⟩)))
end
theorem qsq {s : List Pr} {v : Int} {t : Ty} (h : qd t = false) : setR s v t = (s, 1) := by rw [setR, if_neg (by simp [h])]
theorem q3f {s : List Pr} {v : Int} {t u : Ty} (h : qd t = true) (hl : qm v s = some u) : setR s v t = (s, 6) := by rw [setR, if_pos h, hl]
theorem qua {s : List Pr} {v : Int} {t : Ty} (h : qd t = true) (hl : qm v s = none) : setR s v t = (insR v t s, 0) := by rw [setR, if_pos h, hl]
theorem qbln (v : Int) {t : Ty} (h1 : szY t ≤ 20000) (h2 : dpY t ≤ 300) : VCalls Tryz.prog 36 [.blk [.nils]] [.ptr 0 0, .int .i64 v, encY t] (qct fun H' o => H' = [subE (setR [] v t).1] ∧ o = .val (.int .i64 (setR [] v t).2)) := by
 have hLg := qc6 h1 h2
 have hcp := qdy t (by omega)
 by_cases hlg : qd t = true
 ·rw [qua hlg rfl]
  rw [hlg] at hLg
  refine qg c0v 3 (by simp) (by simp) ?_
  repeat' (first | refine vs_ ?_ | ((first | refine vr_ ?_ | refine qa hLg fun _ => ?_ | refine qa hcp fun _ => ?_ | refine qox v ?_ | refine qbrp (p := ⟨v, t⟩) ?_ | refine qc hLg ?_ | refine qc hcp ?_ | simp (disch := omega) only [qe3] | (refine cs_ ?_ ?_ <;> intro hc) | refine cj_ ?_ | fail) <;> (try refine ev_ ?_)) | with_reducible exact ti_)
  all_goals exact qdm (s := insR v t []) 2 (by simp [qms]) rfl rfl (by simp) (by simp) rfl ⟨rfl, rfl⟩
 ·have hlg : qd t = false := by simpa using hlg
  rw [qsq hlg]
  rw [hlg] at hLg
  refine qg c0v 1 (by simp) (by simp) ?_
  repeat' (first | refine vs_ ?_ | ((first | refine vr_ ?_ | refine qa hLg fun _ => ?_ | refine qc hLg ?_ | (refine cs_ ?_ ?_ <;> intro hc) | refine cj_ ?_ | fail) <;> (try refine ev_ ?_)) | with_reducible exact ti_)
  all_goals exact qge rfl (by simp) rfl ⟨rfl, rfl⟩
theorem qbu5 {s : List Pr} (hs : s ≠ []) (ho : risR s) (hl : s.length ≤ 100000) (v : Int) {t : Ty} (h1 : szY t ≤ 20000) (h2 : dpY t ≤ 300) : VCalls Tryz.prog 36 [.blk [.row 1 s.length], qca s] [.ptr 0 0, .int .i64 v, encY t] (qct fun H' o => H' = [subE (setR s v t).1] ∧ o = .val (.int .i64 (setR s v t).2)) := by
 have hLg := qc6 h1 h2
 have hcp := qdy t (by omega)
 have hA := qlb v s
 by_cases hlg : qd t = true
 ·cases hlk : qm v s with
  | some u =>
    have hf : qev s v = .tup [.int .i64 (ahdR v s), .bool true] := by rw [qev, hlk]; rfl
    rw [q3f hlg hlk]
    rw [hlg] at hLg
    refine qg c0v 2 (by simp) (by simp) ?_
    repeat' (first | refine vs_ ?_ | ((first | refine vr_ ?_ | refine qa hLg fun _ => ?_ | refine qg0 ho hl v ?_ | refine qc hLg ?_ | simp (disch := omega) only [hf] | (refine cs_ ?_ ?_ <;> intro hc) | refine cj_ ?_ | fail) <;> (try refine ev_ ?_)) | with_reducible exact ti_)
    all_goals exact qdm 1 hs rfl rfl (by simp) (by simp) rfl ⟨rfl, rfl⟩
  | none =>
    have hf : qev s v = .tup [.int .i64 (ahdR v s), .bool false] := by rw [qev, hlk]; rfl
    rw [qua hlg hlk]
    rw [hlg] at hLg
    refine qg c0v 4 (by simp) (by simp) ?_
    repeat' (first | refine vs_ ?_ | ((first | refine vr_ ?_ | refine qa hLg fun _ => ?_ | refine qa hcp fun _ => ?_ | refine qg0 ho hl v ?_ | refine qbwx 1 (p := ⟨v, t⟩) hA hl ?_ | refine qc hLg ?_ | refine qc hcp ?_ | simp (disch := omega) only [hf] | (refine cs_ ?_ ?_ <;> intro hc) | refine cj_ ?_ | fail) <;> (try refine ev_ ?_)) | with_reducible exact ti_)
    all_goals exact qdm (s := insR v t s) 3 (by simp [insR]) (by rw [qm5]; rfl) rfl (by simp) (by simp) rfl ⟨rfl, rfl⟩
 ·have hlg : qd t = false := by simpa using hlg
  rw [qsq hlg]
  rw [hlg] at hLg
  refine qg c0v 2 (by simp) (by simp) ?_
  repeat' (first | refine vs_ ?_ | ((first | refine vr_ ?_ | refine qa hLg fun _ => ?_ | refine qc hLg ?_ | (refine cs_ ?_ ?_ <;> intro hc) | refine cj_ ?_ | fail) <;> (try refine ev_ ?_)) | with_reducible exact ti_)
  all_goals exact qdm 1 hs rfl rfl (by simp) (by simp) rfl ⟨rfl, rfl⟩
theorem qgc {s : List Pr} (ho : risR s) (hl : s.length ≤ 100000) (v : Int) {t : Ty} (h1 : szY t ≤ 20000) (h2 : dpY t ≤ 300) : VM Tryz.prog 36 (subE s) (subE (setR s v t).1) [.ptr 0 0, .int .i64 v, encY t] (.int .i64 (setR s v t).2) := by
 by_cases hs : s = []
 ·subst hs
  exact qf7 (by rw [qi8]; exact qbln v h1 h2) (by simp [AV.bds, AV.bd, qz])
 ·exact qf7 (by have := qbu5 hs ho hl v h1 h2; rwa [← qn5 hs] at this) (by simp [AV.bds, AV.bd, qz])
end Go.Proofs.YtlahgbhhejkgbaaGreat
