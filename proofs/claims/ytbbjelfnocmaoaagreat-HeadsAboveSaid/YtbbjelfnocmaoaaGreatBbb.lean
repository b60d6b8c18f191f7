/- Texts of this proof, joined. -/
import Derived.Test.YtbbjelfnocmaoaaGreatBay
import Derived.Test.YtbbjelfnocmaoaaGreatBba

/- substitutions: found, got -/
set_option maxRecDepth 4000
namespace Go.Proofs.YtbbjelfnocmaoaaGreat
open Go Go.RowKit Go.V
set_option linter.unusedVariables false
set_option linter.unusedSimpArgs false

theorem qem (v : Int) : qej [] v = .tup [.int .i64 0, .bool false] := rfl
theorem qbd4 (v : Int) : qj Tryz.prog 83 [.sl 4 [], .int .i64 v, .fn 84 [] []] (qej [] v) := by
 refine qd c0r (by simp) (by simp only [go_sem]) rfl fun hw => ?_
 rw [qem]
 repeat' (first | refine vs_ ?_ | ((first | refine vr_ ?_ | (refine cs_ ?_ ?_ <;> intro hc) | refine cj_ ?_ | simp (disch := omega) only [encs_getN, qb]) <;> (try refine ev_ ?_)) | with_reducible exact ti_)
 refine qo (S := Unit) (fun _ => True) (fun _ => (⟨[(0, .sl 4 []), (1, .int .i64 v), (2, .fn 84 [] []), (8, .int .i64 0), (9, .int .i64 0), (10, .int .i64 0)], []⟩, [])) (fun _ => 0) ?_ fun x hx => ?_
 ·refine qh () [] trivial rfl (by simp) ?_ ?_ ?_ <;> (try refine ev_ ?_) <;> (try with_reducible exact ti_) <;> (try simp (disch := omega) only [qb, and_true, true_and])
 ·repeat' (first | refine vs_ ?_ | ((first | refine vr_ ?_ | (refine cs_ ?_ ?_ <;> intro hc) | refine cj_ ?_ | simp (disch := omega) only [encs_getN, qb]) <;> (try refine ev_ ?_)) | with_reducible exact ti_)
  ·exact absurd hc (by omega)
  ·exact ⟨rfl, rfl⟩
def subH (s : List Pr) : List Ent := if s = [] then [.blk [.nils]] else [.blk [.row 1 s.length], qb2 s]
theorem qmd : subH [] = [.blk [.nils]] := rfl
theorem qqz {s : List Pr} (h : s ≠ []) : subH s = [.blk [.row 1 s.length], qb2 s] := by rw [subH, if_neg h]
abbrev subE (s : List Pr) : Ent := bun (subH s)
theorem qip {Q : List Ent → VO → Prop} {H' : List Ent} {r : AV} (h0 : ent H' 0 = .blk [.nils]) (hl : 0 < H'.length) (hr : r.bd 0 = true) (h : Q [subE []] (.val r)) : qgr Q H' (.val r) :=
 ⟨[.blk [.nils]], [0], rfl, by simp, by simp, ⟨⟨hl, rfl, by rw [h0]; rfl⟩, trivial⟩, qmx (Nat.zero_le _) _ hr, h⟩
theorem qd2 {Q : List Ent → VO → Prop} {H' : List Ent} {s : List Pr} {r : AV} (k : Nat) (hs : s ≠ []) (h0 : ent H' 0 = .blk [.row k s.length]) (h1 : ent H' k = qb2 s) (hk : 0 < k) (hl : k < H'.length) (hr : r.bd 0 = true) (h : Q [subE s] (.val r)) : qgr Q H' (.val r) :=
 ⟨[.blk [.row 1 s.length], qb2 s], [0, k], rfl, by simp, by simp; omega, ⟨⟨by omega, rfl, by rw [h0]; rfl⟩, ⟨hl, qfy s 2, by rw [h1]; simp only [qb2, Ent.ren, qi2]⟩, trivial⟩, qmx (Nat.zero_le _) _ hr, by rwa [subE, qqz hs] at h⟩
theorem qey (σ : Nat → Nat) (s : List Pr) : (qb2 s).ren σ = qb2 s := by simp only [qb2, Ent.ren, qi2]
theorem qhj : ∀ {H : List Ent} {i : Nat} {e : Ent}, ent H i = e → i < H.length → H.set i e = H
 | [], i, e, _, hl => by simp at hl
 | x :: r, 0, e, h, _ => by rw [← h]; rfl
 | x :: r, i + 1, e, h, hl => by
   have h' : ent r i = e := h
   rw [List.set_cons_succ, qhj h' (by simpa using hl)]
theorem q1z (v : Int) : VCalls Tryz.prog 55 [.blk [.nils]] [.ptr 0 0, .int .i64 v] fun H' o => H' = [.blk [.nils]] ∧ o = .val (qej [] v) := by
 refine ql c0s 1 (by simp) (by simp) ?_
 rw [qem]
 repeat' (first | refine vs_ ?_ | ((first | refine vr_ ?_ | refine qa (qbd4 _) fun _ => ?_ | simp (disch := omega) only [qem] | (refine cs_ ?_ ?_ <;> intro hc) | refine cj_ ?_ | fail) <;> (try refine ev_ ?_)) | with_reducible exact ti_)
theorem q9v {s : List Pr} (ho : risR s) (hl : s.length ≤ 100000) (v : Int) : VCalls Tryz.prog 55 [.blk [.row 1 s.length], qb2 s] [.ptr 0 0, .int .i64 v] fun H' o => H' = [.blk [.row 1 s.length], qb2 s] ∧ o = .val (qej s v) := by
 refine ql c0s 2 (by simp) (by simp [qb2, Ent.bd, qcz]) ?_
 rw [qej]
 repeat' (first | refine vs_ ?_ | ((first | refine vr_ ?_ | refine qbw 1 (q93 ho hl v) ?_ (qfy s 0) (qfy s 0) | simp (disch := omega) only [qej] | (refine cs_ ?_ ?_ <;> intro hc) | refine cj_ ?_ | fail) <;> (try refine ev_ ?_)) | with_reducible exact ti_)
section
variable {H : List Ent} {Q : List Ent → VO → Prop} {K : Md → AV → List Ent → Prop} {raws : List AV} {s : List Pr}
theorem qnc (v : Int) (hq : Q H (.val (qej [] v))) (h0 : ent H 0 = .blk [.nils] := by rfl) (hl' : 0 < H.length := by simp) : VApp Tryz.prog H (.fn 55 [] []) [.ptr 0 0, .int .i64 v] Q := by
 refine qdd ?_
 rw [List.nil_append, List.append_nil]
 refine qcc [0] (q1z v) (by simp) ⟨⟨by omega, rfl, h0⟩, trivial⟩ rfl rfl fun H1 o ho => ?_
 obtain ⟨rfl, rfl⟩ := ho
 have : qj6 H [0] [.blk [.nils]] = H := by
  show (H.set 0 (.blk [.nils])) ++ [] = H
  rw [List.append_nil, qhj h0 hl']
 rw [this]
 exact hq
theorem qgu (ho : risR s) (hl : s.length ≤ 100000) (v : Int) (hq : Q H (.val (qej s v))) (h0 : ent H 0 = .blk [.row 1 s.length] := by rfl) (h1 : ent H 1 = qb2 s := by rfl) (hl' : 1 < H.length := by simp) : VApp Tryz.prog H (.fn 55 [] []) [.ptr 0 0, .int .i64 v] Q := by
 refine qdd ?_
 rw [List.nil_append, List.append_nil]
 refine qcc [0, 1] (q9v ho hl v) (by simp) ⟨⟨by omega, rfl, h0⟩, ⟨hl', qfy s 2, by rw [h1, qey]⟩, trivial⟩ rfl rfl fun H1 o ho => ?_
 obtain ⟨rfl, rfl⟩ := ho
 have : qj6 H [0, 1] [.blk [.row 1 s.length], qb2 s] = H := by
  show ((H.set 0 (.blk [.row 1 s.length])).set 1 ((qb2 s).ren _)) ++ [] = H
  rw [List.append_nil, qey, qhj h0 (by omega), qhj h1 hl']
 rw [this]
 exact hq
end
set_option maxRecDepth 4000

def getV (s : List Pr) (v : Int) : AV := .tup [encY ((qq v s).getD Y0), .bool (qq v s).isSome]
theorem qbbs (k : Nat) (s : List Pr) (v : Int) : (getV s v).bd k = true := by simp only [getV, AV.bd, AV.bds, qbg, Bool.and_true, Bool.true_and]
theorem qbj7 (v : Int) : VCalls Tryz.prog 107 [.blk [.nils]] [.ptr 0 0, .int .i64 v] (qgr fun H' o => H' = [subE []] ∧ o = .val (getV [] v)) := by
 refine ql c0q 1 (by simp) (by simp) ?_
 repeat' (first | refine vs_ ?_ | ((first | refine vr_ ?_ | refine qnc v ?_ | simp (disch := omega) only [qem] | (refine cs_ ?_ ?_ <;> intro hc) | refine cj_ ?_ | simp (disch := omega) only [encs_getN, qb]) <;> (try refine ev_ ?_)) | with_reducible exact ti_)
 all_goals exact qip rfl (by simp) rfl ⟨rfl, rfl⟩
theorem qblc {s : List Pr} (hs : s ≠ []) (ho : risR s) (hl : s.length ≤ 100000) (v : Int) : VCalls Tryz.prog 107 [.blk [.row 1 s.length], qb2 s] [.ptr 0 0, .int .i64 v] (qgr fun H' o => H' = [subE s] ∧ o = .val (getV s v)) := by
 refine ql c0q 2 (by simp) (by simp [qb2, Ent.bd, qcz]) ?_
 have hlk := qie (v := v) ho
 have hf : qej s v = .tup [.int .i64 (ahdR v s), .bool (qq v s).isSome] := rfl
 by_cases hin : ahdR v s < s.length ∧ (s.getD (ahdR v s) R0).v = v
 ·rw [if_pos hin] at hlk
  have hp := qb3 hin.1
  have hi := hin.1
  rw [hlk, Option.isSome_some] at hf
  have hg : getV s v = .tup [encY (s.getD (ahdR v s) R0).ty, .bool true] := by rw [getV, hlk]; rfl
  rw [hg]
  clear hin
  repeat' (first | refine vs_ ?_ | ((first | refine vr_ ?_ | fail) <;> (try simp only [hp, go_sem, ↓reduceIte])) | ((first | simp (disch := omega) only [hf] | simp (disch := omega) only [hp] | (refine cs_ ?_ ?_ <;> intro hc) | refine cj_ ?_ | simp (disch := omega) only [encs_getN, qb] | refine qgu ho hl v ?_) <;> (try refine ev_ ?_)) | with_reducible exact ti_)
  all_goals exact qd2 1 hs rfl rfl (by simp) (by simp) (by first | rfl | simp only [AV.bd, AV.bds, qbg, Bool.and_true]) ⟨rfl, rfl⟩
 ·rw [if_neg hin] at hlk
  rw [hlk, Option.isSome_none] at hf
  have hg : getV s v = .tup [encY Y0, .bool false] := by rw [getV, hlk]; rfl
  rw [hg]
  repeat' (first | refine vs_ ?_ | ((first | refine vr_ ?_ | refine qgu ho hl v ?_ | simp (disch := omega) only [hf] | (refine cs_ ?_ ?_ <;> intro hc) | refine cj_ ?_ | simp (disch := omega) only [encs_getN, qb]) <;> (try refine ev_ ?_)) | with_reducible exact ti_)
  all_goals exact qd2 1 hs rfl rfl (by simp) (by simp) (by first | rfl | simp only [AV.bd, AV.bds, qbg, Bool.and_true]) ⟨rfl, rfl⟩
theorem qpt {s : List Pr} (ho : risR s) (hl : s.length ≤ 100000) (v : Int) : VM Tryz.prog 107 (subE s) (subE s) [.ptr 0 0, .int .i64 v] (getV s v) := by
 by_cases hs : s = []
 ·subst hs
  exact qrt (by rw [qmd]; exact qbj7 v) rfl
 ·exact qrt (by have := qblc hs ho hl v; rwa [← qqz hs] at this) rfl
set_option maxRecDepth 4000

abbrev insF : FuncId := 56
theorem qjn (p : Pr) : (encR p).cells.length = 4 ∧ (encR p).flat := ⟨rfl, .inl ⟨rfl, rfl⟩⟩
theorem qs5 (l : List Pr) : ∀ e ∈ qbh l, e.flat := fun e he => by
 obtain ⟨p, _, rfl⟩ := List.mem_map.1 he
 exact (qjn p).2
section
variable {H : List Ent} {K : Md → AV → List Ent → Prop} {args raws : List AV} {s : List Pr} {p : Pr}
theorem qbf3 (j : Nat) {i : Nat} (hi : i ≤ s.length) (hl : s.length ≤ 100000) (h1 : ent H j = qb2 s) : Gro Tryz.prog H (.fn insF [] []) [.row j s.length, .int .i64 i, .lit 4 [encR p]] (some (j, qb2 s)) (qb2 (s.take i ++ p :: s.drop i)) (s.length + 1) := by
 refine ⟨fun q hq => by cases hq; exact ⟨by simp, h1⟩, fun H₀ h0 => ?_⟩
 have h0 : ent H₀ j = qb2 s := h0 _ rfl
 have hl' := (List.getElem?_eq_some_iff.1 (q9 h0 (by simp))).1
 have hv := q3s (es := qbh s) (x := encR p) (i := i) (by rw [qde]; exact hi) (by rw [qde]; omega) (qjn p) (by simp only [AV.bds, qg2, qcz, Bool.and_true]) (qs5 s)
 rw [qde] at hv
 refine qdd ?_
 rw [List.nil_append, List.append_nil]
 refine qcc [j] hv (by simp) ⟨⟨hl', qfy s 1, by rw [h0, qey]⟩, trivial⟩ (by simp [AV.bds, AV.bd, qg2]) (by simp only [AV.rens, AV.ren, ql6]; rfl) fun H1 o ho => ?_
 obtain ⟨rfl, rfl⟩ := ho
 have he : qbh (s.take i ++ p :: s.drop i) = (qbh s).take i ++ encR p :: (qbh s).drop i := by simp [qbh]
 refine ⟨?_, ?_⟩
 ·rw [← he]
  show (H₀.set j .dead) ++ [(qb2 (s.take i ++ p :: s.drop i)).ren _] = (H₀.set j .dead) ++ [_]
  rw [qey]
 ·show VO.val (.row (H₀.length + (1 - 1)) _) = _
  simp
theorem qbav : Gro Tryz.prog H (.fn insF [] []) [.nils, .int .i64 0, .lit 4 [encR p]] none (qb2 [p]) 1 := by
 refine ⟨fun q hq => (by cases hq), fun H₀ h0 => ?_⟩
 refine qdd ?_
 rw [List.nil_append, List.append_nil]
 refine qcc [] (qn6 (qjn p)) (by simp) trivial (by simp [AV.bds, AV.bd, qg2]) (by simp only [AV.rens, AV.ren, ql6]) fun H1 o ho => ?_
 obtain ⟨rfl, rfl⟩ := ho
 refine ⟨?_, ?_⟩
 ·show H₀ ++ [(qb2 [p]).ren _] = H₀ ++ [_]
  rw [qey]
 ·show VO.val (.row (H₀.length + (0 - 0)) _) = _
  simp
theorem qbmj (j : Nat) {i : Nat} (hi : i ≤ s.length) (hl : s.length ≤ 100000) (hq : K (.grow (some (j, qb2 s)) (qb2 (s.take i ++ p :: s.drop i)) (s.length + 1)) (.row H.length (s.length + 1)) (H.set j .dead ++ [qb2 (s.take i ++ p :: s.drop i)])) (h1 : ent H j = qb2 s := by rfl) (hr : raws = [.row j s.length, .int .i64 i, .lit 4 [encR p]] := by rfl) :
 DApp Tryz.prog H (.fn insF [] []) args raws K := by
 subst hr
 exact .inr (.inr (.inr ⟨_, _, _, qbf3 j hi hl h1, hq⟩))
theorem qbqj (hq : K (.grow none (qb2 [p]) 1) (.row H.length 1) (H ++ [qb2 [p]])) (hr : raws = [.nils, .int .i64 0, .lit 4 [encR p]] := by rfl) : DApp Tryz.prog H (.fn insF [] []) args raws K := by
 subst hr
 exact .inr (.inr (.inr ⟨_, _, _, qbav, hq⟩))
end
theorem qig {s : List Pr} {v : Int} {t : Ty} (h : qg t = false) : setR s v t = (s, 1) := by rw [setR, if_neg (by simp [h])]
theorem q1e {s : List Pr} {v : Int} {t u : Ty} (h : qg t = true) (hl : qq v s = some u) : setR s v t = (s, 6) := by rw [setR, if_pos h, hl]
theorem qe8 {s : List Pr} {v : Int} {t : Ty} (h : qg t = true) (hl : qq v s = none) : setR s v t = (insR v t s, 0) := by rw [setR, if_pos h, hl]
theorem q9n (v : Int) {t : Ty} (h1 : szY t ≤ 20000) (h2 : dpY t ≤ 300) : VCalls Tryz.prog 34 [.blk [.nils]] [.ptr 0 0, .int .i64 v, encY t] (qgr fun H' o => H' = [subE (setR [] v t).1] ∧ o = .val (.int .i64 (setR [] v t).2)) := by
 have hLg := qch h1 h2
 have hcp := qe2 t (by omega)
 by_cases hlg : qg t = true
 ·rw [qe8 hlg rfl]
  rw [hlg] at hLg
  refine ql c0p 3 (by simp) (by simp) ?_
  repeat' (first | refine vs_ ?_ | ((first | refine vr_ ?_ | refine qa hLg fun _ => ?_ | refine qa hcp fun _ => ?_ | refine qnc v ?_ | refine qbqj (p := ⟨v, t⟩) ?_ | refine qc hLg ?_ | refine qc hcp ?_ | simp (disch := omega) only [qem] | (refine cs_ ?_ ?_ <;> intro hc) | refine cj_ ?_ | fail) <;> (try refine ev_ ?_)) | with_reducible exact ti_)
  all_goals exact qd2 (s := insR v t []) 2 (by simp [qlu]) rfl rfl (by simp) (by simp) rfl ⟨rfl, rfl⟩
 ·have hlg : qg t = false := by simpa using hlg
  rw [qig hlg]
  rw [hlg] at hLg
  refine ql c0p 1 (by simp) (by simp) ?_
  repeat' (first | refine vs_ ?_ | ((first | refine vr_ ?_ | refine qa hLg fun _ => ?_ | refine qc hLg ?_ | (refine cs_ ?_ ?_ <;> intro hc) | refine cj_ ?_ | fail) <;> (try refine ev_ ?_)) | with_reducible exact ti_)
  all_goals exact qip rfl (by simp) rfl ⟨rfl, rfl⟩
theorem qbl1 {s : List Pr} (hs : s ≠ []) (ho : risR s) (hl : s.length ≤ 100000) (v : Int) {t : Ty} (h1 : szY t ≤ 20000) (h2 : dpY t ≤ 300) : VCalls Tryz.prog 34 [.blk [.row 1 s.length], qb2 s] [.ptr 0 0, .int .i64 v, encY t] (qgr fun H' o => H' = [subE (setR s v t).1] ∧ o = .val (.int .i64 (setR s v t).2)) := by
 have hLg := qch h1 h2
 have hcp := qe2 t (by omega)
 have hA := qjt v s
 by_cases hlg : qg t = true
 ·cases hlk : qq v s with
  | some u =>
    have hf : qej s v = .tup [.int .i64 (ahdR v s), .bool true] := by rw [qej, hlk]; rfl
    rw [q1e hlg hlk]
    rw [hlg] at hLg
    refine ql c0p 2 (by simp) (by simp) ?_
    repeat' (first | refine vs_ ?_ | ((first | refine vr_ ?_ | refine qa hLg fun _ => ?_ | refine qgu ho hl v ?_ | refine qc hLg ?_ | simp (disch := omega) only [hf] | (refine cs_ ?_ ?_ <;> intro hc) | refine cj_ ?_ | fail) <;> (try refine ev_ ?_)) | with_reducible exact ti_)
    all_goals exact qd2 1 hs rfl rfl (by simp) (by simp) rfl ⟨rfl, rfl⟩
  | none =>
    have hf : qej s v = .tup [.int .i64 (ahdR v s), .bool false] := by rw [qej, hlk]; rfl
    rw [qe8 hlg hlk]
    rw [hlg] at hLg
    refine ql c0p 4 (by simp) (by simp) ?_
    repeat' (first | refine vs_ ?_ | ((first | refine vr_ ?_ | refine qa hLg fun _ => ?_ | refine qa hcp fun _ => ?_ | refine qgu ho hl v ?_ | refine qbmj 1 (p := ⟨v, t⟩) hA hl ?_ | refine qc hLg ?_ | refine qc hcp ?_ | simp (disch := omega) only [hf] | (refine cs_ ?_ ?_ <;> intro hc) | refine cj_ ?_ | fail) <;> (try refine ev_ ?_)) | with_reducible exact ti_)
    all_goals exact qd2 (s := insR v t s) 3 (by simp [insR]) (by rw [qrk]; rfl) rfl (by simp) (by simp) rfl ⟨rfl, rfl⟩
 ·have hlg : qg t = false := by simpa using hlg
  rw [qig hlg]
  rw [hlg] at hLg
  refine ql c0p 2 (by simp) (by simp) ?_
  repeat' (first | refine vs_ ?_ | ((first | refine vr_ ?_ | refine qa hLg fun _ => ?_ | refine qc hLg ?_ | (refine cs_ ?_ ?_ <;> intro hc) | refine cj_ ?_ | fail) <;> (try refine ev_ ?_)) | with_reducible exact ti_)
  all_goals exact qd2 1 hs rfl rfl (by simp) (by simp) rfl ⟨rfl, rfl⟩
theorem qiq {s : List Pr} (ho : risR s) (hl : s.length ≤ 100000) (v : Int) {t : Ty} (h1 : szY t ≤ 20000) (h2 : dpY t ≤ 300) : VM Tryz.prog 34 (subE s) (subE (setR s v t).1) [.ptr 0 0, .int .i64 v, encY t] (.int .i64 (setR s v t).2) := by
 by_cases hs : s = []
 ·subst hs
  exact qrt (by rw [qmd]; exact q9n v h1 h2) (by simp [AV.bds, AV.bd, qbg])
 ·exact qrt (by have := qbl1 hs ho hl v h1 h2; rwa [← qqz hs] at this) (by simp [AV.bds, AV.bd, qbg])
end Go.Proofs.YtbbjelfnocmaoaaGreat
