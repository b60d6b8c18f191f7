/- Texts of this proof, joined. -/
import Derived.Test.YtlahgbhhejkgbaaGreatLaz
import Derived.Test.YtlahgbhhejkgbaaGreatLbb

/- substitutions: found, got -/
set_option maxRecDepth 4000
namespace Go.Proofs.YtlahgbhhejkgbaaGreat
open Go Go.RowKit Go.V
set_option linter.unusedVariables false
set_option linter.unusedSimpArgs false

theorem qel (v : Int) : qd9 [] v = .tup [.int .i64 0, .bool false] := rfl
theorem qbei (v : Int) : qn Tryz.prog 65 [.sl 4 [], .int .i64 v, .fn 66 [] []] (qd9 [] v) := by
 refine qf c0ba (by simp) (by simp only [go_sem]) rfl fun hw => ?_
 rw [qel]
 repeat' (first | refine vs_ ?_ | ((first | refine vr_ ?_ | (refine cs_ ?_ ?_ <;> intro hc) | refine cj_ ?_ | simp (disch := omega) only [encs_getN, qb]) <;> (try refine ev_ ?_)) | with_reducible exact ti_)
 refine qp (S := Unit) (fun _ => True) (fun _ => (⟨[(0, .sl 4 []), (1, .int .i64 v), (2, .fn 66 [] []), (8, .int .i64 0), (9, .int .i64 0), (10, .int .i64 0)], []⟩, [])) (fun _ => 0) ?_ fun x hx => ?_
 ·refine qm () [] trivial rfl (by simp) ?_ ?_ ?_ <;> (try refine ev_ ?_) <;> (try with_reducible exact ti_) <;> (try simp (disch := omega) only [qb, and_true, true_and])
 ·repeat' (first | refine vs_ ?_ | ((first | refine vr_ ?_ | (refine cs_ ?_ ?_ <;> intro hc) | refine cj_ ?_ | simp (disch := omega) only [encs_getN, qb]) <;> (try refine ev_ ?_)) | with_reducible exact ti_)
  ·exact absurd hc (by omega)
  ·exact ⟨rfl, rfl⟩
def subH (s : List Pr) : List Ent := if s = [] then [.blk [.nils]] else [.blk [.row 1 s.length], qbz s]
theorem qi1 : subH [] = [.blk [.nils]] := rfl
theorem qni {s : List Pr} (h : s ≠ []) : subH s = [.blk [.row 1 s.length], qbz s] := by rw [subH, if_neg h]
abbrev subE (s : List Pr) : Ent := bun (subH s)
theorem qfx {Q : List Ent → VO → Prop} {H' : List Ent} {r : AV} (h0 : ent H' 0 = .blk [.nils]) (hl : 0 < H'.length) (hr : r.bd 0 = true) (h : Q [subE []] (.val r)) : qch Q H' (.val r) :=
 ⟨[.blk [.nils]], [0], rfl, by simp, by simp, ⟨⟨hl, rfl, by rw [h0]; rfl⟩, trivial⟩, qmj (Nat.zero_le _) _ hr, h⟩
theorem qc9 {Q : List Ent → VO → Prop} {H' : List Ent} {s : List Pr} {r : AV} (k : Nat) (hs : s ≠ []) (h0 : ent H' 0 = .blk [.row k s.length]) (h1 : ent H' k = qbz s) (hk : 0 < k) (hl : k < H'.length) (hr : r.bd 0 = true) (h : Q [subE s] (.val r)) : qch Q H' (.val r) :=
 ⟨[.blk [.row 1 s.length], qbz s], [0, k], rfl, by simp, by simp; omega, ⟨⟨by omega, rfl, by rw [h0]; rfl⟩, ⟨hl, qgj s 2, by rw [h1]; simp only [qbz, Ent.ren, qji]⟩, trivial⟩, qmj (Nat.zero_le _) _ hr, by rwa [subE, qni hs] at h⟩
theorem qeq (σ : Nat → Nat) (s : List Pr) : (qbz s).ren σ = qbz s := by simp only [qbz, Ent.ren, qji]
theorem qb4 : ∀ {H : List Ent} {i : Nat} {e : Ent}, ent H i = e → i < H.length → H.set i e = H
 | [], i, e, _, hl => by simp at hl
 | x :: r, 0, e, h, _ => by rw [← h]; rfl
 | x :: r, i + 1, e, h, hl => by
   have h' : ent r i = e := h
   rw [List.set_cons_succ, qb4 h' (by simpa using hl)]
theorem q35 (v : Int) : VCalls Tryz.prog 42 [.blk [.nils]] [.ptr 0 0, .int .i64 v] fun H' o => H' = [.blk [.nils]] ∧ o = .val (qd9 [] v) := by
 refine qe c0bb 1 (by simp) (by simp) ?_
 rw [qel]
 repeat' (first | refine vs_ ?_ | ((first | refine vr_ ?_ | refine qa (qbei _) fun _ => ?_ | simp (disch := omega) only [qel] | (refine cs_ ?_ ?_ <;> intro hc) | refine cj_ ?_ | fail) <;> (try refine ev_ ?_)) | with_reducible exact ti_)
theorem q7j {s : List Pr} (ho : risR s) (hl : s.length ≤ 100000) (v : Int) : VCalls Tryz.prog 42 [.blk [.row 1 s.length], qbz s] [.ptr 0 0, .int .i64 v] fun H' o => H' = [.blk [.row 1 s.length], qbz s] ∧ o = .val (qd9 s v) := by
 refine qe c0bb 2 (by simp) (by simp [qbz, Ent.bd, qbx]) ?_
 rw [qd9]
 repeat' (first | refine vs_ ?_ | ((first | refine vr_ ?_ | refine qbp 1 (qbev ho hl v) ?_ (qgj s 0) (qgj s 0) | simp (disch := omega) only [qd9] | (refine cs_ ?_ ?_ <;> intro hc) | refine cj_ ?_ | fail) <;> (try refine ev_ ?_)) | with_reducible exact ti_)
section
variable {H : List Ent} {Q : List Ent → VO → Prop} {K : Md → AV → List Ent → Prop} {raws : List AV} {s : List Pr}
theorem qok (v : Int) (hq : Q H (.val (qd9 [] v))) (h0 : ent H 0 = .blk [.nils] := by rfl) (hl' : 0 < H.length := by simp) : VApp Tryz.prog H (.fn 42 [] []) [.ptr 0 0, .int .i64 v] Q := by
 refine qbv ?_
 rw [List.nil_append, List.append_nil]
 refine qbb [0] (q35 v) (by simp) ⟨⟨by omega, rfl, h0⟩, trivial⟩ rfl rfl fun H1 o ho => ?_
 obtain ⟨rfl, rfl⟩ := ho
 have : qdw H [0] [.blk [.nils]] = H := by
  show (H.set 0 (.blk [.nils])) ++ [] = H
  rw [List.append_nil, qb4 h0 hl']
 rw [this]
 exact hq
theorem qgl (ho : risR s) (hl : s.length ≤ 100000) (v : Int) (hq : Q H (.val (qd9 s v))) (h0 : ent H 0 = .blk [.row 1 s.length] := by rfl) (h1 : ent H 1 = qbz s := by rfl) (hl' : 1 < H.length := by simp) : VApp Tryz.prog H (.fn 42 [] []) [.ptr 0 0, .int .i64 v] Q := by
 refine qbv ?_
 rw [List.nil_append, List.append_nil]
 refine qbb [0, 1] (q7j ho hl v) (by simp) ⟨⟨by omega, rfl, h0⟩, ⟨hl', qgj s 2, by rw [h1, qeq]⟩, trivial⟩ rfl rfl fun H1 o ho => ?_
 obtain ⟨rfl, rfl⟩ := ho
 have : qdw H [0, 1] [.blk [.row 1 s.length], qbz s] = H := by
  show ((H.set 0 (.blk [.row 1 s.length])).set 1 ((qbz s).ren _)) ++ [] = H
  rw [List.append_nil, qeq, qb4 h0 (by omega), qb4 h1 hl']
 rw [this]
 exact hq
end
set_option maxRecDepth 4000

def getV (s : List Pr) (v : Int) : AV := .tup [encY ((qi v s).getD Y0), .bool (qi v s).isSome]
theorem qbab (k : Nat) (s : List Pr) (v : Int) : (getV s v).bd k = true := by simp only [getV, AV.bd, AV.bds, qz, Bool.and_true, Bool.true_and]
theorem qbey (v : Int) : VCalls Tryz.prog 25 [.blk [.nils]] [.ptr 0 0, .int .i64 v] (qch fun H' o => H' = [subE []] ∧ o = .val (getV [] v)) := by
 refine qe c0z 1 (by simp) (by simp) ?_
 repeat' (first | refine vs_ ?_ | ((first | refine vr_ ?_ | refine qok v ?_ | simp (disch := omega) only [qel] | (refine cs_ ?_ ?_ <;> intro hc) | refine cj_ ?_ | simp (disch := omega) only [encs_getN, qb]) <;> (try refine ev_ ?_)) | with_reducible exact ti_)
 all_goals exact qfx rfl (by simp) rfl ⟨rfl, rfl⟩
theorem qbju {s : List Pr} (hs : s ≠ []) (ho : risR s) (hl : s.length ≤ 100000) (v : Int) : VCalls Tryz.prog 25 [.blk [.row 1 s.length], qbz s] [.ptr 0 0, .int .i64 v] (qch fun H' o => H' = [subE s] ∧ o = .val (getV s v)) := by
 refine qe c0z 2 (by simp) (by simp [qbz, Ent.bd, qbx]) ?_
 have hlk := qiw (v := v) ho
 have hf : qd9 s v = .tup [.int .i64 (ahdR v s), .bool (qi v s).isSome] := rfl
 by_cases hin : ahdR v s < s.length ∧ (s.getD (ahdR v s) R0).v = v
 ·rw [if_pos hin] at hlk
  have hp := qy hin.1
  have hi := hin.1
  rw [hlk, Option.isSome_some] at hf
  have hg : getV s v = .tup [encY (s.getD (ahdR v s) R0).ty, .bool true] := by rw [getV, hlk]; rfl
  rw [hg]
  clear hin
  repeat' (first | refine vs_ ?_ | ((first | refine vr_ ?_ | fail) <;> (try simp only [hp, go_sem, ↓reduceIte])) | ((first | simp (disch := omega) only [hf] | simp (disch := omega) only [hp] | (refine cs_ ?_ ?_ <;> intro hc) | refine cj_ ?_ | simp (disch := omega) only [encs_getN, qb] | refine qgl ho hl v ?_) <;> (try refine ev_ ?_)) | with_reducible exact ti_)
  all_goals exact qc9 1 hs rfl rfl (by simp) (by simp) (by first | rfl | simp only [AV.bd, AV.bds, qz, Bool.and_true]) ⟨rfl, rfl⟩
 ·rw [if_neg hin] at hlk
  rw [hlk, Option.isSome_none] at hf
  have hg : getV s v = .tup [encY Y0, .bool false] := by rw [getV, hlk]; rfl
  rw [hg]
  repeat' (first | refine vs_ ?_ | ((first | refine vr_ ?_ | refine qgl ho hl v ?_ | simp (disch := omega) only [hf] | (refine cs_ ?_ ?_ <;> intro hc) | refine cj_ ?_ | simp (disch := omega) only [encs_getN, qb]) <;> (try refine ev_ ?_)) | with_reducible exact ti_)
  all_goals exact qc9 1 hs rfl rfl (by simp) (by simp) (by first | rfl | simp only [AV.bd, AV.bds, qz, Bool.and_true]) ⟨rfl, rfl⟩
theorem qho {s : List Pr} (ho : risR s) (hl : s.length ≤ 100000) (v : Int) : VM Tryz.prog 25 (subE s) (subE s) [.ptr 0 0, .int .i64 v] (getV s v) := by
 by_cases hs : s = []
 ·subst hs
  exact qfq (by rw [qi1]; exact qbey v) rfl
 ·exact qfq (by have := qbju hs ho hl v; rwa [← qni hs] at this) rfl
set_option maxRecDepth 4000

abbrev insF : FuncId := 55
theorem qku (p : Pr) : (encR p).cells.length = 4 ∧ (encR p).flat := ⟨rfl, .inl ⟨rfl, rfl⟩⟩
theorem qlp (l : List Pr) : ∀ e ∈ qw l, e.flat := fun e he => by
 obtain ⟨p, _, rfl⟩ := List.mem_map.1 he
 exact (qku p).2
section
variable {H : List Ent} {K : Md → AV → List Ent → Prop} {args raws : List AV} {s : List Pr} {p : Pr}
theorem qbip (j : Nat) {i : Nat} (hi : i ≤ s.length) (hl : s.length ≤ 100000) (h1 : ent H j = qbz s) : Gro Tryz.prog H (.fn insF [] []) [.row j s.length, .int .i64 i, .lit 4 [encR p]] (some (j, qbz s)) (qbz (s.take i ++ p :: s.drop i)) (s.length + 1) := by
 refine ⟨fun q hq => by cases hq; exact ⟨by simp, h1⟩, fun H₀ h0 => ?_⟩
 have h0 : ent H₀ j = qbz s := h0 _ rfl
 have hl' := (List.getElem?_eq_some_iff.1 (q6 h0 (by simp))).1
 have hv := q4i (es := qw s) (x := encR p) (i := i) (by rw [qce]; exact hi) (by rw [qce]; omega) (qku p) (by simp only [AV.bds, qhj, qbx, Bool.and_true]) (qlp s)
 rw [qce] at hv
 refine qbv ?_
 rw [List.nil_append, List.append_nil]
 refine qbb [j] hv (by simp) ⟨⟨hl', qgj s 1, by rw [h0, qeq]⟩, trivial⟩ (by simp [AV.bds, AV.bd, qhj]) (by simp only [AV.rens, AV.ren, qnd]; rfl) fun H1 o ho => ?_
 obtain ⟨rfl, rfl⟩ := ho
 have he : qw (s.take i ++ p :: s.drop i) = (qw s).take i ++ encR p :: (qw s).drop i := by simp [qw]
 refine ⟨?_, ?_⟩
 ·rw [← he]
  show (H₀.set j .dead) ++ [(qbz (s.take i ++ p :: s.drop i)).ren _] = (H₀.set j .dead) ++ [_]
  rw [qeq]
 ·show VO.val (.row (H₀.length + (1 - 1)) _) = _
  simp
theorem qbbk : Gro Tryz.prog H (.fn insF [] []) [.nils, .int .i64 0, .lit 4 [encR p]] none (qbz [p]) 1 := by
 refine ⟨fun q hq => (by cases hq), fun H₀ h0 => ?_⟩
 refine qbv ?_
 rw [List.nil_append, List.append_nil]
 refine qbb [] (qpi (qku p)) (by simp) trivial (by simp [AV.bds, AV.bd, qhj]) (by simp only [AV.rens, AV.ren, qnd]) fun H1 o ho => ?_
 obtain ⟨rfl, rfl⟩ := ho
 refine ⟨?_, ?_⟩
 ·show H₀ ++ [(qbz [p]).ren _] = H₀ ++ [_]
  rw [qeq]
 ·show VO.val (.row (H₀.length + (0 - 0)) _) = _
  simp
theorem qbmf (j : Nat) {i : Nat} (hi : i ≤ s.length) (hl : s.length ≤ 100000) (hq : K (.grow (some (j, qbz s)) (qbz (s.take i ++ p :: s.drop i)) (s.length + 1)) (.row H.length (s.length + 1)) (H.set j .dead ++ [qbz (s.take i ++ p :: s.drop i)])) (h1 : ent H j = qbz s := by rfl) (hr : raws = [.row j s.length, .int .i64 i, .lit 4 [encR p]] := by rfl) :
 DApp Tryz.prog H (.fn insF [] []) args raws K := by
 subst hr
 exact .inr (.inr (.inr (.inl ⟨_, _, _, qbip j hi hl h1, hq⟩)))
theorem qbq8 (hq : K (.grow none (qbz [p]) 1) (.row H.length 1) (H ++ [qbz [p]])) (hr : raws = [.nils, .int .i64 0, .lit 4 [encR p]] := by rfl) : DApp Tryz.prog H (.fn insF [] []) args raws K := by
 subst hr
 exact .inr (.inr (.inr (.inl ⟨_, _, _, qbbk, hq⟩)))
end
theorem qiz {s : List Pr} {v : Int} {t : Ty} (h : qc t = false) : setR s v t = (s, 1) := by rw [setR, if_neg (by simp [h])]
theorem q0x {s : List Pr} {v : Int} {t u : Ty} (h : qc t = true) (hl : qi v s = some u) : setR s v t = (s, 6) := by rw [setR, if_pos h, hl]
theorem qgt {s : List Pr} {v : Int} {t : Ty} (h : qc t = true) (hl : qi v s = none) : setR s v t = (insR v t s, 0) := by rw [setR, if_pos h, hl]
theorem qba2 (v : Int) {t : Ty} (h1 : szY t ≤ 20000) (h2 : dpY t ≤ 300) : VCalls Tryz.prog 36 [.blk [.nils]] [.ptr 0 0, .int .i64 v, encY t] (qch fun H' o => H' = [subE (setR [] v t).1] ∧ o = .val (.int .i64 (setR [] v t).2)) := by
 have hLg := qcr h1 h2
 have hcp := qdj t (by omega)
 by_cases hlg : qc t = true
 ·rw [qgt hlg rfl]
  rw [hlg] at hLg
  refine qe c0y 3 (by simp) (by simp) ?_
  repeat' (first | refine vs_ ?_ | ((first | refine vr_ ?_ | refine qa hLg fun _ => ?_ | refine qa hcp fun _ => ?_ | refine qok v ?_ | refine qbq8 (p := ⟨v, t⟩) ?_ | refine qg hLg ?_ | refine qg hcp ?_ | simp (disch := omega) only [qel] | (refine cs_ ?_ ?_ <;> intro hc) | refine cj_ ?_ | fail) <;> (try refine ev_ ?_)) | with_reducible exact ti_)
  all_goals exact qc9 (s := insR v t []) 2 (by simp [qmz]) rfl rfl (by simp) (by simp) rfl ⟨rfl, rfl⟩
 ·have hlg : qc t = false := by simpa using hlg
  rw [qiz hlg]
  rw [hlg] at hLg
  refine qe c0y 1 (by simp) (by simp) ?_
  repeat' (first | refine vs_ ?_ | ((first | refine vr_ ?_ | refine qa hLg fun _ => ?_ | refine qg hLg ?_ | (refine cs_ ?_ ?_ <;> intro hc) | refine cj_ ?_ | fail) <;> (try refine ev_ ?_)) | with_reducible exact ti_)
  all_goals exact qfx rfl (by simp) rfl ⟨rfl, rfl⟩
theorem qbmz {s : List Pr} (hs : s ≠ []) (ho : risR s) (hl : s.length ≤ 100000) (v : Int) {t : Ty} (h1 : szY t ≤ 20000) (h2 : dpY t ≤ 300) : VCalls Tryz.prog 36 [.blk [.row 1 s.length], qbz s] [.ptr 0 0, .int .i64 v, encY t] (qch fun H' o => H' = [subE (setR s v t).1] ∧ o = .val (.int .i64 (setR s v t).2)) := by
 have hLg := qcr h1 h2
 have hcp := qdj t (by omega)
 have hA := qkm v s
 by_cases hlg : qc t = true
 ·cases hlk : qi v s with
  | some u =>
    have hf : qd9 s v = .tup [.int .i64 (ahdR v s), .bool true] := by rw [qd9, hlk]; rfl
    rw [q0x hlg hlk]
    rw [hlg] at hLg
    refine qe c0y 2 (by simp) (by simp) ?_
    repeat' (first | refine vs_ ?_ | ((first | refine vr_ ?_ | refine qa hLg fun _ => ?_ | refine qgl ho hl v ?_ | refine qg hLg ?_ | simp (disch := omega) only [hf] | (refine cs_ ?_ ?_ <;> intro hc) | refine cj_ ?_ | fail) <;> (try refine ev_ ?_)) | with_reducible exact ti_)
    all_goals exact qc9 1 hs rfl rfl (by simp) (by simp) rfl ⟨rfl, rfl⟩
  | none =>
    have hf : qd9 s v = .tup [.int .i64 (ahdR v s), .bool false] := by rw [qd9, hlk]; rfl
    rw [qgt hlg hlk]
    rw [hlg] at hLg
    refine qe c0y 4 (by simp) (by simp) ?_
    repeat' (first | refine vs_ ?_ | ((first | refine vr_ ?_ | refine qa hLg fun _ => ?_ | refine qa hcp fun _ => ?_ | refine qgl ho hl v ?_ | refine qbmf 1 (p := ⟨v, t⟩) hA hl ?_ | refine qg hLg ?_ | refine qg hcp ?_ | simp (disch := omega) only [hf] | (refine cs_ ?_ ?_ <;> intro hc) | refine cj_ ?_ | fail) <;> (try refine ev_ ?_)) | with_reducible exact ti_)
    all_goals exact qc9 (s := insR v t s) 3 (by simp [insR]) (by rw [qmf]; rfl) rfl (by simp) (by simp) rfl ⟨rfl, rfl⟩
 ·have hlg : qc t = false := by simpa using hlg
  rw [qiz hlg]
  rw [hlg] at hLg
  refine qe c0y 2 (by simp) (by simp) ?_
  repeat' (first | refine vs_ ?_ | ((first | refine vr_ ?_ | refine qa hLg fun _ => ?_ | refine qg hLg ?_ | (refine cs_ ?_ ?_ <;> intro hc) | refine cj_ ?_ | fail) <;> (try refine ev_ ?_)) | with_reducible exact ti_)
  all_goals exact qc9 1 hs rfl rfl (by simp) (by simp) rfl ⟨rfl, rfl⟩
theorem qfv {s : List Pr} (ho : risR s) (hl : s.length ≤ 100000) (v : Int) {t : Ty} (h1 : szY t ≤ 20000) (h2 : dpY t ≤ 300) : VM Tryz.prog 36 (subE s) (subE (setR s v t).1) [.ptr 0 0, .int .i64 v, encY t] (.int .i64 (setR s v t).2) := by
 by_cases hs : s = []
 ·subst hs
  exact qfq (by rw [qi1]; exact qba2 v h1 h2) (by simp [AV.bds, AV.bd, qz])
 ·exact qfq (by have := qbmz hs ho hl v h1 h2; rwa [← qni hs] at this) (by simp [AV.bds, AV.bd, qz])
end Go.Proofs.YtlahgbhhejkgbaaGreat
