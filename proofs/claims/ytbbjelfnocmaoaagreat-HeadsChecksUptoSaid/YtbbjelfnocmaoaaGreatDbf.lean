/- Texts of this proof, joined. -/
import Derived.Test.YtbbjelfnocmaoaaGreatDbc
import Derived.Test.YtbbjelfnocmaoaaGreatDbe

/- substitutions: found, got -/
set_option maxRecDepth 4000
namespace Go.Proofs.YtbbjelfnocmaoaaGreat
open Go Go.RowKit Go.V
set_option linter.unusedVariables false
set_option linter.unusedSimpArgs false

theorem qe2 (v : Int) : qeg [] v = .tup [.int .i64 0, .bool false] := rfl
theorem qbaj (v : Int) : qg Tryz.prog 83 [.sl 4 [], .int .i64 v, .fn 84 [] []] (qeg [] v) := by
 refine qd c0cq (by simp) (by simp only [go_sem]) rfl fun hw => ?_
 rw [qe2]
 repeat' (first | refine vs_ ?_ | ((first | refine vr_ ?_ | (refine cs_ ?_ ?_ <;> intro hc) | refine cj_ ?_ | simp (disch := omega) only [encs_getN, qb]) <;> (try refine ev_ ?_)) | with_reducible exact ti_)
 refine qm (S := Unit) (fun _ => True) (fun _ => (⟨[(0, .sl 4 []), (1, .int .i64 v), (2, .fn 84 [] []), (8, .int .i64 0), (9, .int .i64 0), (10, .int .i64 0)], []⟩, [])) (fun _ => 0) ?_ fun x hx => ?_
 ·refine qh () [] trivial rfl (by simp) ?_ ?_ ?_ <;> (try refine ev_ ?_) <;> (try with_reducible exact ti_) <;> (try simp (disch := omega) only [qb, and_true, true_and])
 ·repeat' (first | refine vs_ ?_ | ((first | refine vr_ ?_ | (refine cs_ ?_ ?_ <;> intro hc) | refine cj_ ?_ | simp (disch := omega) only [encs_getN, qb]) <;> (try refine ev_ ?_)) | with_reducible exact ti_)
  ·exact absurd hc (by omega)
  ·exact ⟨rfl, rfl⟩
def subH (s : List Pr) : List Ent := if s = [] then [.blk [.nils]] else [.blk [.row 1 s.length], qbz s]
theorem qma : subH [] = [.blk [.nils]] := rfl
theorem qp5 {s : List Pr} (h : s ≠ []) : subH s = [.blk [.row 1 s.length], qbz s] := by rw [subH, if_neg h]
abbrev subE (s : List Pr) : Ent := bun (subH s)
theorem qix {Q : List Ent → VO → Prop} {H' : List Ent} {r : AV} (h0 : ent H' 0 = .blk [.nils]) (hl : 0 < H'.length) (hr : r.bd 0 = true) (h : Q [subE []] (.val r)) : qf0 Q H' (.val r) :=
 ⟨[.blk [.nils]], [0], rfl, by simp, by simp, ⟨⟨hl, rfl, by rw [h0]; rfl⟩, trivial⟩, qly (Nat.zero_le _) _ hr, h⟩
theorem qdy {Q : List Ent → VO → Prop} {H' : List Ent} {s : List Pr} {r : AV} (k : Nat) (hs : s ≠ []) (h0 : ent H' 0 = .blk [.row k s.length]) (h1 : ent H' k = qbz s) (hk : 0 < k) (hl : k < H'.length) (hr : r.bd 0 = true) (h : Q [subE s] (.val r)) : qf0 Q H' (.val r) :=
 ⟨[.blk [.row 1 s.length], qbz s], [0, k], rfl, by simp, by simp; omega, ⟨⟨by omega, rfl, by rw [h0]; rfl⟩, ⟨hl, qgm s 2, by rw [h1]; simp only [qbz, Ent.ren, qi2]⟩, trivial⟩, qly (Nat.zero_le _) _ hr, by rwa [subE, qp5 hs] at h⟩
theorem qe3 (σ : Nat → Nat) (s : List Pr) : (qbz s).ren σ = qbz s := by simp only [qbz, Ent.ren, qi2]
theorem qhg : ∀ {H : List Ent} {i : Nat} {e : Ent}, ent H i = e → i < H.length → H.set i e = H
 | [], i, e, _, hl => by simp at hl
 | x :: r, 0, e, h, _ => by rw [← h]; rfl
 | x :: r, i + 1, e, h, hl => by
   have h' : ent r i = e := h
   rw [List.set_cons_succ, qhg h' (by simpa using hl)]
theorem q16 (v : Int) : VCalls Tryz.prog 55 [.blk [.nils]] [.ptr 0 0, .int .i64 v] fun H' o => H' = [.blk [.nils]] ∧ o = .val (qeg [] v) := by
 refine qr c0cr 1 (by simp) (by simp) ?_
 rw [qe2]
 repeat' (first | refine vs_ ?_ | ((first | refine vr_ ?_ | refine qa (qbaj _) fun _ => ?_ | simp (disch := omega) only [qe2] | (refine cs_ ?_ ?_ <;> intro hc) | refine cj_ ?_ | fail) <;> (try refine ev_ ?_)) | with_reducible exact ti_)
theorem qbj8 {s : List Pr} (ho : risR s) (hl : s.length ≤ 100000) (v : Int) : VCalls Tryz.prog 55 [.blk [.row 1 s.length], qbz s] [.ptr 0 0, .int .i64 v] fun H' o => H' = [.blk [.row 1 s.length], qbz s] ∧ o = .val (qeg s v) := by
 refine qr c0cr 2 (by simp) (by simp [qbz, Ent.bd, qd7]) ?_
 rw [qeg]
 repeat' (first | refine vs_ ?_ | ((first | refine vr_ ?_ | refine qb6 1 (qbfa ho hl v) ?_ (qgm s 0) (qgm s 0) | simp (disch := omega) only [qeg] | (refine cs_ ?_ ?_ <;> intro hc) | refine cj_ ?_ | fail) <;> (try refine ev_ ?_)) | with_reducible exact ti_)
section
variable {H : List Ent} {Q : List Ent → VO → Prop} {K : Md → AV → List Ent → Prop} {raws : List AV} {s : List Pr}
theorem qn0 (v : Int) (hq : Q H (.val (qeg [] v))) (h0 : ent H 0 = .blk [.nils] := by rfl) (hl' : 0 < H.length := by simp) : VApp Tryz.prog H (.fn 55 [] []) [.ptr 0 0, .int .i64 v] Q := by
 refine qdm ?_
 rw [List.nil_append, List.append_nil]
 refine qcf [0] (q16 v) (by simp) ⟨⟨by omega, rfl, h0⟩, trivial⟩ rfl rfl fun H1 o ho => ?_
 obtain ⟨rfl, rfl⟩ := ho
 have : qj4 H [0] [.blk [.nils]] = H := by
  show (H.set 0 (.blk [.nils])) ++ [] = H
  rw [List.append_nil, qhg h0 hl']
 rw [this]
 exact hq
theorem qf1 (ho : risR s) (hl : s.length ≤ 100000) (v : Int) (hq : Q H (.val (qeg s v))) (h0 : ent H 0 = .blk [.row 1 s.length] := by rfl) (h1 : ent H 1 = qbz s := by rfl) (hl' : 1 < H.length := by simp) : VApp Tryz.prog H (.fn 55 [] []) [.ptr 0 0, .int .i64 v] Q := by
 refine qdm ?_
 rw [List.nil_append, List.append_nil]
 refine qcf [0, 1] (qbj8 ho hl v) (by simp) ⟨⟨by omega, rfl, h0⟩, ⟨hl', qgm s 2, by rw [h1, qe3]⟩, trivial⟩ rfl rfl fun H1 o ho => ?_
 obtain ⟨rfl, rfl⟩ := ho
 have : qj4 H [0, 1] [.blk [.row 1 s.length], qbz s] = H := by
  show ((H.set 0 (.blk [.row 1 s.length])).set 1 ((qbz s).ren _)) ++ [] = H
  rw [List.append_nil, qe3, qhg h0 (by omega), qhg h1 hl']
 rw [this]
 exact hq
end
set_option maxRecDepth 4000

def getV (s : List Pr) (v : Int) : AV := .tup [encY ((qbd v s).getD Y0), .bool (qbd v s).isSome]
theorem qbdp (k : Nat) (s : List Pr) (v : Int) : (getV s v).bd k = true := by simp only [getV, AV.bd, AV.bds, qbp, Bool.and_true, Bool.true_and]
theorem q59 (v : Int) : VCalls Tryz.prog 107 [.blk [.nils]] [.ptr 0 0, .int .i64 v] (qf0 fun H' o => H' = [subE []] ∧ o = .val (getV [] v)) := by
 refine qr c0cp 1 (by simp) (by simp) ?_
 repeat' (first | refine vs_ ?_ | ((first | refine vr_ ?_ | refine qn0 v ?_ | simp (disch := omega) only [qe2] | (refine cs_ ?_ ?_ <;> intro hc) | refine cj_ ?_ | simp (disch := omega) only [encs_getN, qb]) <;> (try refine ev_ ?_)) | with_reducible exact ti_)
 all_goals exact qix rfl (by simp) rfl ⟨rfl, rfl⟩
theorem qbop {s : List Pr} (hs : s ≠ []) (ho : risR s) (hl : s.length ≤ 100000) (v : Int) : VCalls Tryz.prog 107 [.blk [.row 1 s.length], qbz s] [.ptr 0 0, .int .i64 v] (qf0 fun H' o => H' = [subE s] ∧ o = .val (getV s v)) := by
 refine qr c0cp 2 (by simp) (by simp [qbz, Ent.bd, qd7]) ?_
 have hlk := qid (v := v) ho
 have hf : qeg s v = .tup [.int .i64 (ahdR v s), .bool (qbd v s).isSome] := rfl
 by_cases hin : ahdR v s < s.length ∧ (s.getD (ahdR v s) R0).v = v
 ·rw [if_pos hin] at hlk
  have hp := qds hin.1
  have hi := hin.1
  rw [hlk, Option.isSome_some] at hf
  have hg : getV s v = .tup [encY (s.getD (ahdR v s) R0).ty, .bool true] := by rw [getV, hlk]; rfl
  rw [hg]
  clear hin
  repeat' (first | refine vs_ ?_ | ((first | refine vr_ ?_ | fail) <;> (try simp only [hp, go_sem, ↓reduceIte])) | ((first | simp (disch := omega) only [hf] | simp (disch := omega) only [hp] | (refine cs_ ?_ ?_ <;> intro hc) | refine cj_ ?_ | simp (disch := omega) only [encs_getN, qb] | refine qf1 ho hl v ?_) <;> (try refine ev_ ?_)) | with_reducible exact ti_)
  all_goals exact qdy 1 hs rfl rfl (by simp) (by simp) (by first | rfl | simp only [AV.bd, AV.bds, qbp, Bool.and_true]) ⟨rfl, rfl⟩
 ·rw [if_neg hin] at hlk
  rw [hlk, Option.isSome_none] at hf
  have hg : getV s v = .tup [encY Y0, .bool false] := by rw [getV, hlk]; rfl
  rw [hg]
  repeat' (first | refine vs_ ?_ | ((first | refine vr_ ?_ | refine qf1 ho hl v ?_ | simp (disch := omega) only [hf] | (refine cs_ ?_ ?_ <;> intro hc) | refine cj_ ?_ | simp (disch := omega) only [encs_getN, qb]) <;> (try refine ev_ ?_)) | with_reducible exact ti_)
  all_goals exact qdy 1 hs rfl rfl (by simp) (by simp) (by first | rfl | simp only [AV.bd, AV.bds, qbp, Bool.and_true]) ⟨rfl, rfl⟩
theorem qwp {s : List Pr} (ho : risR s) (hl : s.length ≤ 100000) (v : Int) : VM Tryz.prog 107 (subE s) (subE s) [.ptr 0 0, .int .i64 v] (getV s v) := by
 by_cases hs : s = []
 ·subst hs
  exact qr6 (by rw [qma]; exact q59 v) rfl
 ·exact qr6 (by have := qbop hs ho hl v; rwa [← qp5 hs] at this) rfl
set_option maxRecDepth 4000

abbrev insF : FuncId := 56
theorem qi9 (p : Pr) : (encR p).cells.length = 4 ∧ (encR p).flat := ⟨rfl, .inl ⟨rfl, rfl⟩⟩
theorem qth (l : List Pr) : ∀ e ∈ qbt l, e.flat := fun e he => by
 obtain ⟨p, _, rfl⟩ := List.mem_map.1 he
 exact (qi9 p).2
section
variable {H : List Ent} {K : Md → AV → List Ent → Prop} {args raws : List AV} {s : List Pr} {p : Pr}
theorem q7t (j : Nat) {i : Nat} (hi : i ≤ s.length) (hl : s.length ≤ 100000) (h1 : ent H j = qbz s) : Gro Tryz.prog H (.fn insF [] []) [.row j s.length, .int .i64 i, .lit 4 [encR p]] (some (j, qbz s)) (qbz (s.take i ++ p :: s.drop i)) (s.length + 1) := by
 refine ⟨fun q hq => by cases hq; exact ⟨by simp, h1⟩, fun H₀ h0 => ?_⟩
 have h0 : ent H₀ j = qbz s := h0 _ rfl
 have hl' := (List.getElem?_eq_some_iff.1 (qba h0 (by simp))).1
 have hv := q26 (es := qbt s) (x := encR p) (i := i) (by rw [qeq]; exact hi) (by rw [qeq]; omega) (qi9 p) (by simp only [AV.bds, qhc, qd7, Bool.and_true]) (qth s)
 rw [qeq] at hv
 refine qdm ?_
 rw [List.nil_append, List.append_nil]
 refine qcf [j] hv (by simp) ⟨⟨hl', qgm s 1, by rw [h0, qe3]⟩, trivial⟩ (by simp [AV.bds, AV.bd, qhc]) (by simp only [AV.rens, AV.ren, qlp]; rfl) fun H1 o ho => ?_
 obtain ⟨rfl, rfl⟩ := ho
 have he : qbt (s.take i ++ p :: s.drop i) = (qbt s).take i ++ encR p :: (qbt s).drop i := by simp [qbt]
 refine ⟨?_, ?_⟩
 ·rw [← he]
  show (H₀.set j .dead) ++ [(qbz (s.take i ++ p :: s.drop i)).ren _] = (H₀.set j .dead) ++ [_]
  rw [qe3]
 ·show VO.val (.row (H₀.length + (1 - 1)) _) = _
  simp
theorem qbjj : Gro Tryz.prog H (.fn insF [] []) [.nils, .int .i64 0, .lit 4 [encR p]] none (qbz [p]) 1 := by
 refine ⟨fun q hq => (by cases hq), fun H₀ h0 => ?_⟩
 refine qdm ?_
 rw [List.nil_append, List.append_nil]
 refine qcf [] (qng (qi9 p)) (by simp) trivial (by simp [AV.bds, AV.bd, qhc]) (by simp only [AV.rens, AV.ren, qlp]) fun H1 o ho => ?_
 obtain ⟨rfl, rfl⟩ := ho
 refine ⟨?_, ?_⟩
 ·show H₀ ++ [(qbz [p]).ren _] = H₀ ++ [_]
  rw [qe3]
 ·show VO.val (.row (H₀.length + (0 - 0)) _) = _
  simp
theorem qbq9 (j : Nat) {i : Nat} (hi : i ≤ s.length) (hl : s.length ≤ 100000) (hq : K (.grow (some (j, qbz s)) (qbz (s.take i ++ p :: s.drop i)) (s.length + 1)) (.row H.length (s.length + 1)) (H.set j .dead ++ [qbz (s.take i ++ p :: s.drop i)])) (h1 : ent H j = qbz s := by rfl) (hr : raws = [.row j s.length, .int .i64 i, .lit 4 [encR p]] := by rfl) :
 DApp Tryz.prog H (.fn insF [] []) args raws K := by
 subst hr
 exact .inr (.inr (.inr ⟨_, _, _, q7t j hi hl h1, hq⟩))
theorem qbpm (hq : K (.grow none (qbz [p]) 1) (.row H.length 1) (H ++ [qbz [p]])) (hr : raws = [.nils, .int .i64 0, .lit 4 [encR p]] := by rfl) : DApp Tryz.prog H (.fn insF [] []) args raws K := by
 subst hr
 exact .inr (.inr (.inr ⟨_, _, _, qbjj, hq⟩))
end
theorem qr3 {s : List Pr} {v : Int} {t : Ty} (h : qy t = false) : setR s v t = (s, 1) := by rw [setR, if_neg (by simp [h])]
theorem q20 {s : List Pr} {v : Int} {t u : Ty} (h : qy t = true) (hl : qbd v s = some u) : setR s v t = (s, 6) := by rw [setR, if_pos h, hl]
theorem qqj {s : List Pr} {v : Int} {t : Ty} (h : qy t = true) (hl : qbd v s = none) : setR s v t = (insR v t s, 0) := by rw [setR, if_pos h, hl]
theorem qbce (v : Int) {t : Ty} (h1 : szY t ≤ 20000) (h2 : dpY t ≤ 300) : VCalls Tryz.prog 34 [.blk [.nils]] [.ptr 0 0, .int .i64 v, encY t] (qf0 fun H' o => H' = [subE (setR [] v t).1] ∧ o = .val (.int .i64 (setR [] v t).2)) := by
 have hLg := qcp h1 h2
 have hcp := qeo t (by omega)
 by_cases hlg : qy t = true
 ·rw [qqj hlg rfl]
  rw [hlg] at hLg
  refine qr c0co 3 (by simp) (by simp) ?_
  repeat' (first | refine vs_ ?_ | ((first | refine vr_ ?_ | refine qa hLg fun _ => ?_ | refine qa hcp fun _ => ?_ | refine qn0 v ?_ | refine qbpm (p := ⟨v, t⟩) ?_ | refine qc hLg ?_ | refine qc hcp ?_ | simp (disch := omega) only [qe2] | (refine cs_ ?_ ?_ <;> intro hc) | refine cj_ ?_ | fail) <;> (try refine ev_ ?_)) | with_reducible exact ti_)
  all_goals exact qdy (s := insR v t []) 2 (by simp [qrz]) rfl rfl (by simp) (by simp) rfl ⟨rfl, rfl⟩
 ·have hlg : qy t = false := by simpa using hlg
  rw [qr3 hlg]
  rw [hlg] at hLg
  refine qr c0co 1 (by simp) (by simp) ?_
  repeat' (first | refine vs_ ?_ | ((first | refine vr_ ?_ | refine qa hLg fun _ => ?_ | refine qc hLg ?_ | (refine cs_ ?_ ?_ <;> intro hc) | refine cj_ ?_ | fail) <;> (try refine ev_ ?_)) | with_reducible exact ti_)
  all_goals exact qix rfl (by simp) rfl ⟨rfl, rfl⟩
theorem qbos {s : List Pr} (hs : s ≠ []) (ho : risR s) (hl : s.length ≤ 100000) (v : Int) {t : Ty} (h1 : szY t ≤ 20000) (h2 : dpY t ≤ 300) : VCalls Tryz.prog 34 [.blk [.row 1 s.length], qbz s] [.ptr 0 0, .int .i64 v, encY t] (qf0 fun H' o => H' = [subE (setR s v t).1] ∧ o = .val (.int .i64 (setR s v t).2)) := by
 have hLg := qcp h1 h2
 have hcp := qeo t (by omega)
 have hA := qlo v s
 by_cases hlg : qy t = true
 ·cases hlk : qbd v s with
  | some u =>
    have hf : qeg s v = .tup [.int .i64 (ahdR v s), .bool true] := by rw [qeg, hlk]; rfl
    rw [q20 hlg hlk]
    rw [hlg] at hLg
    refine qr c0co 2 (by simp) (by simp) ?_
    repeat' (first | refine vs_ ?_ | ((first | refine vr_ ?_ | refine qa hLg fun _ => ?_ | refine qf1 ho hl v ?_ | refine qc hLg ?_ | simp (disch := omega) only [hf] | (refine cs_ ?_ ?_ <;> intro hc) | refine cj_ ?_ | fail) <;> (try refine ev_ ?_)) | with_reducible exact ti_)
    all_goals exact qdy 1 hs rfl rfl (by simp) (by simp) rfl ⟨rfl, rfl⟩
  | none =>
    have hf : qeg s v = .tup [.int .i64 (ahdR v s), .bool false] := by rw [qeg, hlk]; rfl
    rw [qqj hlg hlk]
    rw [hlg] at hLg
    refine qr c0co 4 (by simp) (by simp) ?_
    repeat' (first | refine vs_ ?_ | ((first | refine vr_ ?_ | refine qa hLg fun _ => ?_ | refine qa hcp fun _ => ?_ | refine qf1 ho hl v ?_ | refine qbq9 1 (p := ⟨v, t⟩) hA hl ?_ | refine qc hLg ?_ | refine qc hcp ?_ | simp (disch := omega) only [hf] | (refine cs_ ?_ ?_ <;> intro hc) | refine cj_ ?_ | fail) <;> (try refine ev_ ?_)) | with_reducible exact ti_)
    all_goals exact qdy (s := insR v t s) 3 (by simp [insR]) (by rw [qqw]; rfl) rfl (by simp) (by simp) rfl ⟨rfl, rfl⟩
 ·have hlg : qy t = false := by simpa using hlg
  rw [qr3 hlg]
  rw [hlg] at hLg
  refine qr c0co 2 (by simp) (by simp) ?_
  repeat' (first | refine vs_ ?_ | ((first | refine vr_ ?_ | refine qa hLg fun _ => ?_ | refine qc hLg ?_ | (refine cs_ ?_ ?_ <;> intro hc) | refine cj_ ?_ | fail) <;> (try refine ev_ ?_)) | with_reducible exact ti_)
  all_goals exact qdy 1 hs rfl rfl (by simp) (by simp) rfl ⟨rfl, rfl⟩
theorem qlz {s : List Pr} (ho : risR s) (hl : s.length ≤ 100000) (v : Int) {t : Ty} (h1 : szY t ≤ 20000) (h2 : dpY t ≤ 300) : VM Tryz.prog 34 (subE s) (subE (setR s v t).1) [.ptr 0 0, .int .i64 v, encY t] (.int .i64 (setR s v t).2) := by
 by_cases hs : s = []
 ·subst hs
  exact qr6 (by rw [qma]; exact qbce v h1 h2) (by simp [AV.bds, AV.bd, qbp])
 ·exact qr6 (by have := qbos hs ho hl v h1 h2; rwa [← qp5 hs] at this) (by simp [AV.bds, AV.bd, qbp])
end Go.Proofs.YtbbjelfnocmaoaaGreat
