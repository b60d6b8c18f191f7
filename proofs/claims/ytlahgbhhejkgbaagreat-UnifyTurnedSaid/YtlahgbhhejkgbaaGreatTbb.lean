/- Texts of this proof, joined. -/
import Derived.Test.YtlahgbhhejkgbaaGreatTay
import Derived.Test.YtlahgbhhejkgbaaGreatTba

/- substitutions: found, got -/
set_option maxRecDepth 4000
namespace Go.Proofs.YtlahgbhhejkgbaaGreat
open Go Go.RowKit Go.V
set_option linter.unusedVariables false
set_option linter.unusedSimpArgs false

theorem qef (v : Int) : qeb [] v = .tup [.int .i64 0, .bool false] := rfl
theorem qbc4 (v : Int) : qn Tryz.prog 65 [.sl 4 [], .int .i64 v, .fn 66 [] []] (qeb [] v) := by
 refine qf c0z (by simp) (by simp only [go_sem]) rfl fun hw => ?_
 rw [qef]
 repeat' (first | refine vs_ ?_ | ((first | refine vr_ ?_ | (refine cs_ ?_ ?_ <;> intro hc) | refine cj_ ?_ | simp (disch := omega) only [encs_getN, qb]) <;> (try refine ev_ ?_)) | with_reducible exact ti_)
 refine qq (S := Unit) (fun _ => True) (fun _ => (⟨[(0, .sl 4 []), (1, .int .i64 v), (2, .fn 66 [] []), (8, .int .i64 0), (9, .int .i64 0), (10, .int .i64 0)], []⟩, [])) (fun _ => 0) ?_ fun x hx => ?_
 ·refine qm () [] trivial rfl (by simp) ?_ ?_ ?_ <;> (try refine ev_ ?_) <;> (try with_reducible exact ti_) <;> (try simp (disch := omega) only [qb, and_true, true_and])
 ·repeat' (first | refine vs_ ?_ | ((first | refine vr_ ?_ | (refine cs_ ?_ ?_ <;> intro hc) | refine cj_ ?_ | simp (disch := omega) only [encs_getN, qb]) <;> (try refine ev_ ?_)) | with_reducible exact ti_)
  ·exact absurd hc (by omega)
  ·exact ⟨rfl, rfl⟩
def subH (s : List Pr) : List Ent := if s = [] then [.blk [.nils]] else [.blk [.row 1 s.length], qbx s]
theorem qil : subH [] = [.blk [.nils]] := rfl
theorem qmf {s : List Pr} (h : s ≠ []) : subH s = [.blk [.row 1 s.length], qbx s] := by rw [subH, if_neg h]
abbrev subE (s : List Pr) : Ent := bun (subH s)
theorem qfn {Q : List Ent → VO → Prop} {H' : List Ent} {r : AV} (h0 : ent H' 0 = .blk [.nils]) (hl : 0 < H'.length) (hr : r.bd 0 = true) (h : Q [subE []] (.val r)) : qch Q H' (.val r) :=
 ⟨[.blk [.nils]], [0], rfl, by simp, by simp, ⟨⟨hl, rfl, by rw [h0]; rfl⟩, trivial⟩, qmi (Nat.zero_le _) _ hr, h⟩
theorem qc7 {Q : List Ent → VO → Prop} {H' : List Ent} {s : List Pr} {r : AV} (k : Nat) (hs : s ≠ []) (h0 : ent H' 0 = .blk [.row k s.length]) (h1 : ent H' k = qbx s) (hk : 0 < k) (hl : k < H'.length) (hr : r.bd 0 = true) (h : Q [subE s] (.val r)) : qch Q H' (.val r) :=
 ⟨[.blk [.row 1 s.length], qbx s], [0, k], rfl, by simp, by simp; omega, ⟨⟨by omega, rfl, by rw [h0]; rfl⟩, ⟨hl, qga s 2, by rw [h1]; simp only [qbx, Ent.ren, qi9]⟩, trivial⟩, qmi (Nat.zero_le _) _ hr, by rwa [subE, qmf hs] at h⟩
theorem qe4 (σ : Nat → Nat) (s : List Pr) : (qbx s).ren σ = qbx s := by simp only [qbx, Ent.ren, qi9]
theorem qb3 : ∀ {H : List Ent} {i : Nat} {e : Ent}, ent H i = e → i < H.length → H.set i e = H
 | [], i, e, _, hl => by simp at hl
 | x :: r, 0, e, h, _ => by rw [← h]; rfl
 | x :: r, i + 1, e, h, hl => by
   have h' : ent r i = e := h
   rw [List.set_cons_succ, qb3 h' (by simpa using hl)]
theorem q08 (v : Int) : VCalls Tryz.prog 42 [.blk [.nils]] [.ptr 0 0, .int .i64 v] fun H' o => H' = [.blk [.nils]] ∧ o = .val (qeb [] v) := by
 refine qe c0ba 1 (by simp) (by simp) ?_
 rw [qef]
 repeat' (first | refine vs_ ?_ | ((first | refine vr_ ?_ | refine qa (qbc4 _) fun _ => ?_ | simp (disch := omega) only [qef] | (refine cs_ ?_ ?_ <;> intro hc) | refine cj_ ?_ | fail) <;> (try refine ev_ ?_)) | with_reducible exact ti_)
theorem qbez {s : List Pr} (ho : risR s) (hl : s.length ≤ 100000) (v : Int) : VCalls Tryz.prog 42 [.blk [.row 1 s.length], qbx s] [.ptr 0 0, .int .i64 v] fun H' o => H' = [.blk [.row 1 s.length], qbx s] ∧ o = .val (qeb s v) := by
 refine qe c0ba 2 (by simp) (by simp [qbx, Ent.bd, qb1]) ?_
 rw [qeb]
 repeat' (first | refine vs_ ?_ | ((first | refine vr_ ?_ | refine qbl 1 (qbeh ho hl v) ?_ (qga s 0) (qga s 0) | simp (disch := omega) only [qeb] | (refine cs_ ?_ ?_ <;> intro hc) | refine cj_ ?_ | fail) <;> (try refine ev_ ?_)) | with_reducible exact ti_)
section
variable {H : List Ent} {Q : List Ent → VO → Prop} {K : Md → AV → List Ent → Prop} {raws : List AV} {s : List Pr}
theorem qn5 (v : Int) (hq : Q H (.val (qeb [] v))) (h0 : ent H 0 = .blk [.nils] := by rfl) (hl' : 0 < H.length := by simp) : VApp Tryz.prog H (.fn 42 [] []) [.ptr 0 0, .int .i64 v] Q := by
 refine qbv ?_
 rw [List.nil_append, List.append_nil]
 refine q9 [0] (q08 v) (by simp) ⟨⟨by omega, rfl, h0⟩, trivial⟩ rfl rfl fun H1 o ho => ?_
 obtain ⟨rfl, rfl⟩ := ho
 have : qdy H [0] [.blk [.nils]] = H := by
  show (H.set 0 (.blk [.nils])) ++ [] = H
  rw [List.append_nil, qb3 h0 hl']
 rw [this]
 exact hq
theorem qgs (ho : risR s) (hl : s.length ≤ 100000) (v : Int) (hq : Q H (.val (qeb s v))) (h0 : ent H 0 = .blk [.row 1 s.length] := by rfl) (h1 : ent H 1 = qbx s := by rfl) (hl' : 1 < H.length := by simp) : VApp Tryz.prog H (.fn 42 [] []) [.ptr 0 0, .int .i64 v] Q := by
 refine qbv ?_
 rw [List.nil_append, List.append_nil]
 refine q9 [0, 1] (qbez ho hl v) (by simp) ⟨⟨by omega, rfl, h0⟩, ⟨hl', qga s 2, by rw [h1, qe4]⟩, trivial⟩ rfl rfl fun H1 o ho => ?_
 obtain ⟨rfl, rfl⟩ := ho
 have : qdy H [0, 1] [.blk [.row 1 s.length], qbx s] = H := by
  show ((H.set 0 (.blk [.row 1 s.length])).set 1 ((qbx s).ren _)) ++ [] = H
  rw [List.append_nil, qe4, qb3 h0 (by omega), qb3 h1 hl']
 rw [this]
 exact hq
end
set_option maxRecDepth 4000

def getV (s : List Pr) (v : Int) : AV := .tup [encY ((qi v s).getD Y0), .bool (qi v s).isSome]
theorem q55 (k : Nat) (s : List Pr) (v : Int) : (getV s v).bd k = true := by simp only [getV, AV.bd, AV.bds, qz, Bool.and_true, Bool.true_and]
theorem qbig (v : Int) : VCalls Tryz.prog 25 [.blk [.nils]] [.ptr 0 0, .int .i64 v] (qch fun H' o => H' = [subE []] ∧ o = .val (getV [] v)) := by
 refine qe c0y 1 (by simp) (by simp) ?_
 repeat' (first | refine vs_ ?_ | ((first | refine vr_ ?_ | refine qn5 v ?_ | simp (disch := omega) only [qef] | (refine cs_ ?_ ?_ <;> intro hc) | refine cj_ ?_ | simp (disch := omega) only [encs_getN, qb]) <;> (try refine ev_ ?_)) | with_reducible exact ti_)
 all_goals exact qfn rfl (by simp) rfl ⟨rfl, rfl⟩
theorem qbo6 {s : List Pr} (hs : s ≠ []) (ho : risR s) (hl : s.length ≤ 100000) (v : Int) : VCalls Tryz.prog 25 [.blk [.row 1 s.length], qbx s] [.ptr 0 0, .int .i64 v] (qch fun H' o => H' = [subE s] ∧ o = .val (getV s v)) := by
 refine qe c0y 2 (by simp) (by simp [qbx, Ent.bd, qb1]) ?_
 have hlk := qic (v := v) ho
 have hf : qeb s v = .tup [.int .i64 (ahdR v s), .bool (qi v s).isSome] := rfl
 by_cases hin : ahdR v s < s.length ∧ (s.getD (ahdR v s) R0).v = v
 ·rw [if_pos hin] at hlk
  have hp := qbh hin.1
  have hi := hin.1
  rw [hlk, Option.isSome_some] at hf
  have hg : getV s v = .tup [encY (s.getD (ahdR v s) R0).ty, .bool true] := by rw [getV, hlk]; rfl
  rw [hg]
  clear hin
  repeat' (first | refine vs_ ?_ | ((first | refine vr_ ?_ | fail) <;> (try simp only [hp, go_sem, ↓reduceIte])) | ((first | simp (disch := omega) only [hf] | simp (disch := omega) only [hp] | (refine cs_ ?_ ?_ <;> intro hc) | refine cj_ ?_ | simp (disch := omega) only [encs_getN, qb] | refine qgs ho hl v ?_) <;> (try refine ev_ ?_)) | with_reducible exact ti_)
  all_goals exact qc7 1 hs rfl rfl (by simp) (by simp) (by first | rfl | simp only [AV.bd, AV.bds, qz, Bool.and_true]) ⟨rfl, rfl⟩
 ·rw [if_neg hin] at hlk
  rw [hlk, Option.isSome_none] at hf
  have hg : getV s v = .tup [encY Y0, .bool false] := by rw [getV, hlk]; rfl
  rw [hg]
  repeat' (first | refine vs_ ?_ | ((first | refine vr_ ?_ | refine qgs ho hl v ?_ | simp (disch := omega) only [hf] | (refine cs_ ?_ ?_ <;> intro hc) | refine cj_ ?_ | simp (disch := omega) only [encs_getN, qb]) <;> (try refine ev_ ?_)) | with_reducible exact ti_)
  all_goals exact qc7 1 hs rfl rfl (by simp) (by simp) (by first | rfl | simp only [AV.bd, AV.bds, qz, Bool.and_true]) ⟨rfl, rfl⟩
theorem qht {s : List Pr} (ho : risR s) (hl : s.length ≤ 100000) (v : Int) : VM Tryz.prog 25 (subE s) (subE s) [.ptr 0 0, .int .i64 v] (getV s v) := by
 by_cases hs : s = []
 ·subst hs
  exact qfm (by rw [qil]; exact qbig v) rfl
 ·exact qfm (by have := qbo6 hs ho hl v; rwa [← qmf hs] at this) rfl
set_option maxRecDepth 4000

abbrev insF : FuncId := 55
theorem qiy (p : Pr) : (encR p).cells.length = 4 ∧ (encR p).flat := ⟨rfl, .inl ⟨rfl, rfl⟩⟩
theorem qlg (l : List Pr) : ∀ e ∈ q7 l, e.flat := fun e he => by
 obtain ⟨p, _, rfl⟩ := List.mem_map.1 he
 exact (qiy p).2
section
variable {H : List Ent} {K : Md → AV → List Ent → Prop} {args raws : List AV} {s : List Pr} {p : Pr}
theorem qbdo (j : Nat) {i : Nat} (hi : i ≤ s.length) (hl : s.length ≤ 100000) (h1 : ent H j = qbx s) : Gro Tryz.prog H (.fn insF [] []) [.row j s.length, .int .i64 i, .lit 4 [encR p]] (some (j, qbx s)) (qbx (s.take i ++ p :: s.drop i)) (s.length + 1) := by
 refine ⟨fun q hq => by cases hq; exact ⟨by simp, h1⟩, fun H₀ h0 => ?_⟩
 have h0 : ent H₀ j = qbx s := h0 _ rfl
 have hl' := (List.getElem?_eq_some_iff.1 (qx h0 (by simp))).1
 have hv := q3h (es := q7 s) (x := encR p) (i := i) (by rw [qcd]; exact hi) (by rw [qcd]; omega) (qiy p) (by simp only [AV.bds, qhm, qb1, Bool.and_true]) (qlg s)
 rw [qcd] at hv
 refine qbv ?_
 rw [List.nil_append, List.append_nil]
 refine q9 [j] hv (by simp) ⟨⟨hl', qga s 1, by rw [h0, qe4]⟩, trivial⟩ (by simp [AV.bds, AV.bd, qhm]) (by simp only [AV.rens, AV.ren, qmm]; rfl) fun H1 o ho => ?_
 obtain ⟨rfl, rfl⟩ := ho
 have he : q7 (s.take i ++ p :: s.drop i) = (q7 s).take i ++ encR p :: (q7 s).drop i := by simp [q7]
 refine ⟨?_, ?_⟩
 ·rw [← he]
  show (H₀.set j .dead) ++ [(qbx (s.take i ++ p :: s.drop i)).ren _] = (H₀.set j .dead) ++ [_]
  rw [qe4]
 ·show VO.val (.row (H₀.length + (1 - 1)) _) = _
  simp
theorem qbbq : Gro Tryz.prog H (.fn insF [] []) [.nils, .int .i64 0, .lit 4 [encR p]] none (qbx [p]) 1 := by
 refine ⟨fun q hq => (by cases hq), fun H₀ h0 => ?_⟩
 refine qbv ?_
 rw [List.nil_append, List.append_nil]
 refine q9 [] (qoa (qiy p)) (by simp) trivial (by simp [AV.bds, AV.bd, qhm]) (by simp only [AV.rens, AV.ren, qmm]) fun H1 o ho => ?_
 obtain ⟨rfl, rfl⟩ := ho
 refine ⟨?_, ?_⟩
 ·show H₀ ++ [(qbx [p]).ren _] = H₀ ++ [_]
  rw [qe4]
 ·show VO.val (.row (H₀.length + (0 - 0)) _) = _
  simp
theorem qbkw (j : Nat) {i : Nat} (hi : i ≤ s.length) (hl : s.length ≤ 100000) (hq : K (.grow (some (j, qbx s)) (qbx (s.take i ++ p :: s.drop i)) (s.length + 1)) (.row H.length (s.length + 1)) (H.set j .dead ++ [qbx (s.take i ++ p :: s.drop i)])) (h1 : ent H j = qbx s := by rfl) (hr : raws = [.row j s.length, .int .i64 i, .lit 4 [encR p]] := by rfl) :
 DApp Tryz.prog H (.fn insF [] []) args raws K := by
 subst hr
 exact .inr (.inr (.inr (.inl ⟨_, _, _, qbdo j hi hl h1, hq⟩)))
theorem qblq (hq : K (.grow none (qbx [p]) 1) (.row H.length 1) (H ++ [qbx [p]])) (hr : raws = [.nils, .int .i64 0, .lit 4 [encR p]] := by rfl) : DApp Tryz.prog H (.fn insF [] []) args raws K := by
 subst hr
 exact .inr (.inr (.inr (.inl ⟨_, _, _, qbbq, hq⟩)))
end
theorem qir {s : List Pr} {v : Int} {t : Ty} (h : qc t = false) : setR s v t = (s, 1) := by rw [setR, if_neg (by simp [h])]
theorem q0q {s : List Pr} {v : Int} {t u : Ty} (h : qc t = true) (hl : qi v s = some u) : setR s v t = (s, 6) := by rw [setR, if_pos h, hl]
theorem qgi {s : List Pr} {v : Int} {t : Ty} (h : qc t = true) (hl : qi v s = none) : setR s v t = (insR v t s, 0) := by rw [setR, if_pos h, hl]
theorem qbej (v : Int) {t : Ty} (h1 : szY t ≤ 20000) (h2 : dpY t ≤ 300) : VCalls Tryz.prog 36 [.blk [.nils]] [.ptr 0 0, .int .i64 v, encY t] (qch fun H' o => H' = [subE (setR [] v t).1] ∧ o = .val (.int .i64 (setR [] v t).2)) := by
 have hLg := qcr h1 h2
 have hcp := qdi t (by omega)
 by_cases hlg : qc t = true
 ·rw [qgi hlg rfl]
  rw [hlg] at hLg
  refine qe c0x 3 (by simp) (by simp) ?_
  repeat' (first | refine vs_ ?_ | ((first | refine vr_ ?_ | refine qa hLg fun _ => ?_ | refine qa hcp fun _ => ?_ | refine qn5 v ?_ | refine qblq (p := ⟨v, t⟩) ?_ | refine qg hLg ?_ | refine qg hcp ?_ | simp (disch := omega) only [qef] | (refine cs_ ?_ ?_ <;> intro hc) | refine cj_ ?_ | fail) <;> (try refine ev_ ?_)) | with_reducible exact ti_)
  all_goals exact qc7 (s := insR v t []) 2 (by simp [qm3]) rfl rfl (by simp) (by simp) rfl ⟨rfl, rfl⟩
 ·have hlg : qc t = false := by simpa using hlg
  rw [qir hlg]
  rw [hlg] at hLg
  refine qe c0x 1 (by simp) (by simp) ?_
  repeat' (first | refine vs_ ?_ | ((first | refine vr_ ?_ | refine qa hLg fun _ => ?_ | refine qg hLg ?_ | (refine cs_ ?_ ?_ <;> intro hc) | refine cj_ ?_ | fail) <;> (try refine ev_ ?_)) | with_reducible exact ti_)
  all_goals exact qfn rfl (by simp) rfl ⟨rfl, rfl⟩
theorem qbo8 {s : List Pr} (hs : s ≠ []) (ho : risR s) (hl : s.length ≤ 100000) (v : Int) {t : Ty} (h1 : szY t ≤ 20000) (h2 : dpY t ≤ 300) : VCalls Tryz.prog 36 [.blk [.row 1 s.length], qbx s] [.ptr 0 0, .int .i64 v, encY t] (qch fun H' o => H' = [subE (setR s v t).1] ∧ o = .val (.int .i64 (setR s v t).2)) := by
 have hLg := qcr h1 h2
 have hcp := qdi t (by omega)
 have hA := qki v s
 by_cases hlg : qc t = true
 ·cases hlk : qi v s with
  | some u =>
    have hf : qeb s v = .tup [.int .i64 (ahdR v s), .bool true] := by rw [qeb, hlk]; rfl
    rw [q0q hlg hlk]
    rw [hlg] at hLg
    refine qe c0x 2 (by simp) (by simp) ?_
    repeat' (first | refine vs_ ?_ | ((first | refine vr_ ?_ | refine qa hLg fun _ => ?_ | refine qgs ho hl v ?_ | refine qg hLg ?_ | simp (disch := omega) only [hf] | (refine cs_ ?_ ?_ <;> intro hc) | refine cj_ ?_ | fail) <;> (try refine ev_ ?_)) | with_reducible exact ti_)
    all_goals exact qc7 1 hs rfl rfl (by simp) (by simp) rfl ⟨rfl, rfl⟩
  | none =>
    have hf : qeb s v = .tup [.int .i64 (ahdR v s), .bool false] := by rw [qeb, hlk]; rfl
    rw [qgi hlg hlk]
    rw [hlg] at hLg
    refine qe c0x 4 (by simp) (by simp) ?_
    repeat' (first | refine vs_ ?_ | ((first | refine vr_ ?_ | refine qa hLg fun _ => ?_ | refine qa hcp fun _ => ?_ | refine qgs ho hl v ?_ | refine qbkw 1 (p := ⟨v, t⟩) hA hl ?_ | refine qg hLg ?_ | refine qg hcp ?_ | simp (disch := omega) only [hf] | (refine cs_ ?_ ?_ <;> intro hc) | refine cj_ ?_ | fail) <;> (try refine ev_ ?_)) | with_reducible exact ti_)
    all_goals exact qc7 (s := insR v t s) 3 (by simp [insR]) (by rw [qm2]; rfl) rfl (by simp) (by simp) rfl ⟨rfl, rfl⟩
 ·have hlg : qc t = false := by simpa using hlg
  rw [qir hlg]
  rw [hlg] at hLg
  refine qe c0x 2 (by simp) (by simp) ?_
  repeat' (first | refine vs_ ?_ | ((first | refine vr_ ?_ | refine qa hLg fun _ => ?_ | refine qg hLg ?_ | (refine cs_ ?_ ?_ <;> intro hc) | refine cj_ ?_ | fail) <;> (try refine ev_ ?_)) | with_reducible exact ti_)
  all_goals exact qc7 1 hs rfl rfl (by simp) (by simp) rfl ⟨rfl, rfl⟩
theorem qfo {s : List Pr} (ho : risR s) (hl : s.length ≤ 100000) (v : Int) {t : Ty} (h1 : szY t ≤ 20000) (h2 : dpY t ≤ 300) : VM Tryz.prog 36 (subE s) (subE (setR s v t).1) [.ptr 0 0, .int .i64 v, encY t] (.int .i64 (setR s v t).2) := by
 by_cases hs : s = []
 ·subst hs
  exact qfm (by rw [qil]; exact qbej v h1 h2) (by simp [AV.bds, AV.bd, qz])
 ·exact qfm (by have := qbo8 hs ho hl v h1 h2; rwa [← qmf hs] at this) (by simp [AV.bds, AV.bd, qz])
end Go.Proofs.YtlahgbhhejkgbaaGreat
