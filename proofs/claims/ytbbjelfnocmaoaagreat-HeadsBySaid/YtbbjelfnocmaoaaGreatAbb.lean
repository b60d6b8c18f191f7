/- Texts of this proof, joined. -/
import Derived.Test.YtbbjelfnocmaoaaGreatAay
import Derived.Test.YtbbjelfnocmaoaaGreatAba

/- substitutions: found, got -/
set_option maxRecDepth 4000
namespace Go.Proofs.YtbbjelfnocmaoaaGreat
open Go Go.RowKit Go.V
set_option linter.unusedVariables false
set_option linter.unusedSimpArgs false

theorem qei (v : Int) : qd8 [] v = .tup [.int .i64 0, .bool false] := rfl
theorem q5h (v : Int) : qg Tryz.prog 83 [.sl 4 [], .int .i64 v, .fn 84 [] []] (qd8 [] v) := by
 refine qc c0q (by simp) (by simp only [go_sem]) rfl fun hw => ?_
 rw [qei]
 repeat' (first | refine vs_ ?_ | ((first | refine vr_ ?_ | (refine cs_ ?_ ?_ <;> intro hc) | refine cj_ ?_ | simp (disch := omega) only [encs_getN, qb]) <;> (try refine ev_ ?_)) | with_reducible exact ti_)
 refine qm (S := Unit) (fun _ => True) (fun _ => (⟨[(0, .sl 4 []), (1, .int .i64 v), (2, .fn 84 [] []), (8, .int .i64 0), (9, .int .i64 0), (10, .int .i64 0)], []⟩, [])) (fun _ => 0) ?_ fun x hx => ?_
 ·refine qi () [] trivial rfl (by simp) ?_ ?_ ?_ <;> (try refine ev_ ?_) <;> (try with_reducible exact ti_) <;> (try simp (disch := omega) only [qb, and_true, true_and])
 ·repeat' (first | refine vs_ ?_ | ((first | refine vr_ ?_ | (refine cs_ ?_ ?_ <;> intro hc) | refine cj_ ?_ | simp (disch := omega) only [encs_getN, qb]) <;> (try refine ev_ ?_)) | with_reducible exact ti_)
  ·exact absurd hc (by omega)
  ·exact ⟨rfl, rfl⟩
def subH (s : List Pr) : List Ent := if s = [] then [.blk [.nils]] else [.blk [.row 1 s.length], qbx s]
theorem qlk : subH [] = [.blk [.nils]] := rfl
theorem qoc {s : List Pr} (h : s ≠ []) : subH s = [.blk [.row 1 s.length], qbx s] := by rw [subH, if_neg h]
abbrev subE (s : List Pr) : Ent := bun (subH s)
theorem qii {Q : List Ent → VO → Prop} {H' : List Ent} {r : AV} (h0 : ent H' 0 = .blk [.nils]) (hl : 0 < H'.length) (hr : r.bd 0 = true) (h : Q [subE []] (.val r)) : qf0 Q H' (.val r) :=
 ⟨[.blk [.nils]], [0], rfl, by simp, by simp, ⟨⟨hl, rfl, by rw [h0]; rfl⟩, trivial⟩, qlb (Nat.zero_le _) _ hr, h⟩
theorem qds {Q : List Ent → VO → Prop} {H' : List Ent} {s : List Pr} {r : AV} (k : Nat) (hs : s ≠ []) (h0 : ent H' 0 = .blk [.row k s.length]) (h1 : ent H' k = qbx s) (hk : 0 < k) (hl : k < H'.length) (hr : r.bd 0 = true) (h : Q [subE s] (.val r)) : qf0 Q H' (.val r) :=
 ⟨[.blk [.row 1 s.length], qbx s], [0, k], rfl, by simp, by simp; omega, ⟨⟨by omega, rfl, by rw [h0]; rfl⟩, ⟨hl, qfr s 2, by rw [h1]; simp only [qbx, Ent.ren, qis]⟩, trivial⟩, qlb (Nat.zero_le _) _ hr, by rwa [subE, qoc hs] at h⟩
theorem qem (σ : Nat → Nat) (s : List Pr) : (qbx s).ren σ = qbx s := by simp only [qbx, Ent.ren, qis]
theorem qgz : ∀ {H : List Ent} {i : Nat} {e : Ent}, ent H i = e → i < H.length → H.set i e = H
 | [], i, e, _, hl => by simp at hl
 | x :: r, 0, e, h, _ => by rw [← h]; rfl
 | x :: r, i + 1, e, h, hl => by
   have h' : ent r i = e := h
   rw [List.set_cons_succ, qgz h' (by simpa using hl)]
theorem q1g (v : Int) : VCalls Tryz.prog 55 [.blk [.nils]] [.ptr 0 0, .int .i64 v] fun H' o => H' = [.blk [.nils]] ∧ o = .val (qd8 [] v) := by
 refine qp c0r 1 (by simp) (by simp) ?_
 rw [qei]
 repeat' (first | refine vs_ ?_ | ((first | refine vr_ ?_ | refine qa (q5h _) fun _ => ?_ | simp (disch := omega) only [qei] | (refine cs_ ?_ ?_ <;> intro hc) | refine cj_ ?_ | fail) <;> (try refine ev_ ?_)) | with_reducible exact ti_)
theorem qbdm {s : List Pr} (ho : risR s) (hl : s.length ≤ 100000) (v : Int) : VCalls Tryz.prog 55 [.blk [.row 1 s.length], qbx s] [.ptr 0 0, .int .i64 v] fun H' o => H' = [.blk [.row 1 s.length], qbx s] ∧ o = .val (qd8 s v) := by
 refine qp c0r 2 (by simp) (by simp [qbx, Ent.bd, qcu]) ?_
 rw [qd8]
 repeat' (first | refine vs_ ?_ | ((first | refine vr_ ?_ | refine qb4 1 (qbcr ho hl v) ?_ (qfr s 0) (qfr s 0) | simp (disch := omega) only [qd8] | (refine cs_ ?_ ?_ <;> intro hc) | refine cj_ ?_ | fail) <;> (try refine ev_ ?_)) | with_reducible exact ti_)
section
variable {H : List Ent} {Q : List Ent → VO → Prop} {K : Md → AV → List Ent → Prop} {raws : List AV} {s : List Pr}
theorem qm9 (v : Int) (hq : Q H (.val (qd8 [] v))) (h0 : ent H 0 = .blk [.nils] := by rfl) (hl' : 0 < H.length := by simp) : VApp Tryz.prog H (.fn 55 [] []) [.ptr 0 0, .int .i64 v] Q := by
 refine qdg ?_
 rw [List.nil_append, List.append_nil]
 refine qcb [0] (q1g v) (by simp) ⟨⟨by omega, rfl, h0⟩, trivial⟩ rfl rfl fun H1 o ho => ?_
 obtain ⟨rfl, rfl⟩ := ho
 have : qjp H [0] [.blk [.nils]] = H := by
  show (H.set 0 (.blk [.nils])) ++ [] = H
  rw [List.append_nil, qgz h0 hl']
 rw [this]
 exact hq
theorem qgc (ho : risR s) (hl : s.length ≤ 100000) (v : Int) (hq : Q H (.val (qd8 s v))) (h0 : ent H 0 = .blk [.row 1 s.length] := by rfl) (h1 : ent H 1 = qbx s := by rfl) (hl' : 1 < H.length := by simp) : VApp Tryz.prog H (.fn 55 [] []) [.ptr 0 0, .int .i64 v] Q := by
 refine qdg ?_
 rw [List.nil_append, List.append_nil]
 refine qcb [0, 1] (qbdm ho hl v) (by simp) ⟨⟨by omega, rfl, h0⟩, ⟨hl', qfr s 2, by rw [h1, qem]⟩, trivial⟩ rfl rfl fun H1 o ho => ?_
 obtain ⟨rfl, rfl⟩ := ho
 have : qjp H [0, 1] [.blk [.row 1 s.length], qbx s] = H := by
  show ((H.set 0 (.blk [.row 1 s.length])).set 1 ((qbx s).ren _)) ++ [] = H
  rw [List.append_nil, qem, qgz h0 (by omega), qgz h1 hl']
 rw [this]
 exact hq
end
set_option maxRecDepth 4000

def getV (s : List Pr) (v : Int) : AV := .tup [encY ((qbb v s).getD Y0), .bool (qbb v s).isSome]
theorem qbg6 (k : Nat) (s : List Pr) (v : Int) : (getV s v).bd k = true := by simp only [getV, AV.bd, AV.bds, qbt, Bool.and_true, Bool.true_and]
theorem q6f (v : Int) : VCalls Tryz.prog 107 [.blk [.nils]] [.ptr 0 0, .int .i64 v] (qf0 fun H' o => H' = [subE []] ∧ o = .val (getV [] v)) := by
 refine qp c0p 1 (by simp) (by simp) ?_
 repeat' (first | refine vs_ ?_ | ((first | refine vr_ ?_ | refine qm9 v ?_ | simp (disch := omega) only [qei] | (refine cs_ ?_ ?_ <;> intro hc) | refine cj_ ?_ | simp (disch := omega) only [encs_getN, qb]) <;> (try refine ev_ ?_)) | with_reducible exact ti_)
 all_goals exact qii rfl (by simp) rfl ⟨rfl, rfl⟩
theorem qbn8 {s : List Pr} (hs : s ≠ []) (ho : risR s) (hl : s.length ≤ 100000) (v : Int) : VCalls Tryz.prog 107 [.blk [.row 1 s.length], qbx s] [.ptr 0 0, .int .i64 v] (qf0 fun H' o => H' = [subE s] ∧ o = .val (getV s v)) := by
 refine qp c0p 2 (by simp) (by simp [qbx, Ent.bd, qcu]) ?_
 have hlk := qhk (v := v) ho
 have hf : qd8 s v = .tup [.int .i64 (ahdR v s), .bool (qbb v s).isSome] := rfl
 by_cases hin : ahdR v s < s.length ∧ (s.getD (ahdR v s) R0).v = v
 ·rw [if_pos hin] at hlk
  have hp := qbw hin.1
  have hi := hin.1
  rw [hlk, Option.isSome_some] at hf
  have hg : getV s v = .tup [encY (s.getD (ahdR v s) R0).ty, .bool true] := by rw [getV, hlk]; rfl
  rw [hg]
  clear hin
  repeat' (first | refine vs_ ?_ | ((first | refine vr_ ?_ | fail) <;> (try simp only [hp, go_sem, ↓reduceIte])) | ((first | simp (disch := omega) only [hf] | simp (disch := omega) only [hp] | (refine cs_ ?_ ?_ <;> intro hc) | refine cj_ ?_ | simp (disch := omega) only [encs_getN, qb] | refine qgc ho hl v ?_) <;> (try refine ev_ ?_)) | with_reducible exact ti_)
  all_goals exact qds 1 hs rfl rfl (by simp) (by simp) (by first | rfl | simp only [AV.bd, AV.bds, qbt, Bool.and_true]) ⟨rfl, rfl⟩
 ·rw [if_neg hin] at hlk
  rw [hlk, Option.isSome_none] at hf
  have hg : getV s v = .tup [encY Y0, .bool false] := by rw [getV, hlk]; rfl
  rw [hg]
  repeat' (first | refine vs_ ?_ | ((first | refine vr_ ?_ | refine qgc ho hl v ?_ | simp (disch := omega) only [hf] | (refine cs_ ?_ ?_ <;> intro hc) | refine cj_ ?_ | simp (disch := omega) only [encs_getN, qb]) <;> (try refine ev_ ?_)) | with_reducible exact ti_)
  all_goals exact qds 1 hs rfl rfl (by simp) (by simp) (by first | rfl | simp only [AV.bd, AV.bds, qbt, Bool.and_true]) ⟨rfl, rfl⟩
theorem quc {s : List Pr} (ho : risR s) (hl : s.length ≤ 100000) (v : Int) : VM Tryz.prog 107 (subE s) (subE s) [.ptr 0 0, .int .i64 v] (getV s v) := by
 by_cases hs : s = []
 ·subst hs
  exact qp2 (by rw [qlk]; exact q6f v) rfl
 ·exact qp2 (by have := qbn8 hs ho hl v; rwa [← qoc hs] at this) rfl
set_option maxRecDepth 4000

abbrev insF : FuncId := 56
theorem qh1 (p : Pr) : (encR p).cells.length = 4 ∧ (encR p).flat := ⟨rfl, .inl ⟨rfl, rfl⟩⟩
theorem qtk (l : List Pr) : ∀ e ∈ qbf l, e.flat := fun e he => by
 obtain ⟨p, _, rfl⟩ := List.mem_map.1 he
 exact (qh1 p).2
section
variable {H : List Ent} {K : Md → AV → List Ent → Prop} {args raws : List AV} {s : List Pr} {p : Pr}
theorem q9u (j : Nat) {i : Nat} (hi : i ≤ s.length) (hl : s.length ≤ 100000) (h1 : ent H j = qbx s) : Gro Tryz.prog H (.fn insF [] []) [.row j s.length, .int .i64 i, .lit 4 [encR p]] (some (j, qbx s)) (qbx (s.take i ++ p :: s.drop i)) (s.length + 1) := by
 refine ⟨fun q hq => by cases hq; exact ⟨by simp, h1⟩, fun H₀ h0 => ?_⟩
 have h0 : ent H₀ j = qbx s := h0 _ rfl
 have hl' := (List.getElem?_eq_some_iff.1 (q9 h0 (by simp))).1
 have hv := q1c (es := qbf s) (x := encR p) (i := i) (by rw [qc4]; exact hi) (by rw [qc4]; omega) (qh1 p) (by simp only [AV.bds, qgq, qcu, Bool.and_true]) (qtk s)
 rw [qc4] at hv
 refine qdg ?_
 rw [List.nil_append, List.append_nil]
 refine qcb [j] hv (by simp) ⟨⟨hl', qfr s 1, by rw [h0, qem]⟩, trivial⟩ (by simp [AV.bds, AV.bd, qgq]) (by simp only [AV.rens, AV.ren, qlf]; rfl) fun H1 o ho => ?_
 obtain ⟨rfl, rfl⟩ := ho
 have he : qbf (s.take i ++ p :: s.drop i) = (qbf s).take i ++ encR p :: (qbf s).drop i := by simp [qbf]
 refine ⟨?_, ?_⟩
 ·rw [← he]
  show (H₀.set j .dead) ++ [(qbx (s.take i ++ p :: s.drop i)).ren _] = (H₀.set j .dead) ++ [_]
  rw [qem]
 ·show VO.val (.row (H₀.length + (1 - 1)) _) = _
  simp
theorem qbgp : Gro Tryz.prog H (.fn insF [] []) [.nils, .int .i64 0, .lit 4 [encR p]] none (qbx [p]) 1 := by
 refine ⟨fun q hq => (by cases hq), fun H₀ h0 => ?_⟩
 refine qdg ?_
 rw [List.nil_append, List.append_nil]
 refine qcb [] (qnd (qh1 p)) (by simp) trivial (by simp [AV.bds, AV.bd, qgq]) (by simp only [AV.rens, AV.ren, qlf]) fun H1 o ho => ?_
 obtain ⟨rfl, rfl⟩ := ho
 refine ⟨?_, ?_⟩
 ·show H₀ ++ [(qbx [p]).ren _] = H₀ ++ [_]
  rw [qem]
 ·show VO.val (.row (H₀.length + (0 - 0)) _) = _
  simp
theorem qbhg (j : Nat) {i : Nat} (hi : i ≤ s.length) (hl : s.length ≤ 100000) (hq : K (.grow (some (j, qbx s)) (qbx (s.take i ++ p :: s.drop i)) (s.length + 1)) (.row H.length (s.length + 1)) (H.set j .dead ++ [qbx (s.take i ++ p :: s.drop i)])) (h1 : ent H j = qbx s := by rfl) (hr : raws = [.row j s.length, .int .i64 i, .lit 4 [encR p]] := by rfl) :
 DApp Tryz.prog H (.fn insF [] []) args raws K := by
 subst hr
 exact .inr (.inr (.inr ⟨_, _, _, q9u j hi hl h1, hq⟩))
theorem qbnm (hq : K (.grow none (qbx [p]) 1) (.row H.length 1) (H ++ [qbx [p]])) (hr : raws = [.nils, .int .i64 0, .lit 4 [encR p]] := by rfl) : DApp Tryz.prog H (.fn insF [] []) args raws K := by
 subst hr
 exact .inr (.inr (.inr ⟨_, _, _, qbgp, hq⟩))
end
theorem qqq {s : List Pr} {v : Int} {t : Ty} (h : qv t = false) : setR s v t = (s, 1) := by rw [setR, if_neg (by simp [h])]
theorem q10 {s : List Pr} {v : Int} {t u : Ty} (h : qv t = true) (hl : qbb v s = some u) : setR s v t = (s, 6) := by rw [setR, if_pos h, hl]
theorem qpt {s : List Pr} {v : Int} {t : Ty} (h : qv t = true) (hl : qbb v s = none) : setR s v t = (insR v t s, 0) := by rw [setR, if_pos h, hl]
theorem qbfz (v : Int) {t : Ty} (h1 : szY t ≤ 20000) (h2 : dpY t ≤ 300) : VCalls Tryz.prog 34 [.blk [.nils]] [.ptr 0 0, .int .i64 v, encY t] (qf0 fun H' o => H' = [subE (setR [] v t).1] ∧ o = .val (.int .i64 (setR [] v t).2)) := by
 have hLg := qcm h1 h2
 have hcp := qed t (by omega)
 by_cases hlg : qv t = true
 ·rw [qpt hlg rfl]
  rw [hlg] at hLg
  refine qp c0o 3 (by simp) (by simp) ?_
  repeat' (first | refine vs_ ?_ | ((first | refine vr_ ?_ | refine qa hLg fun _ => ?_ | refine qa hcp fun _ => ?_ | refine qm9 v ?_ | refine qbnm (p := ⟨v, t⟩) ?_ | refine qe hLg ?_ | refine qe hcp ?_ | simp (disch := omega) only [qei] | (refine cs_ ?_ ?_ <;> intro hc) | refine cj_ ?_ | fail) <;> (try refine ev_ ?_)) | with_reducible exact ti_)
  all_goals exact qds (s := insR v t []) 2 (by simp [qp7]) rfl rfl (by simp) (by simp) rfl ⟨rfl, rfl⟩
 ·have hlg : qv t = false := by simpa using hlg
  rw [qqq hlg]
  rw [hlg] at hLg
  refine qp c0o 1 (by simp) (by simp) ?_
  repeat' (first | refine vs_ ?_ | ((first | refine vr_ ?_ | refine qa hLg fun _ => ?_ | refine qe hLg ?_ | (refine cs_ ?_ ?_ <;> intro hc) | refine cj_ ?_ | fail) <;> (try refine ev_ ?_)) | with_reducible exact ti_)
  all_goals exact qii rfl (by simp) rfl ⟨rfl, rfl⟩
theorem qbhz {s : List Pr} (hs : s ≠ []) (ho : risR s) (hl : s.length ≤ 100000) (v : Int) {t : Ty} (h1 : szY t ≤ 20000) (h2 : dpY t ≤ 300) : VCalls Tryz.prog 34 [.blk [.row 1 s.length], qbx s] [.ptr 0 0, .int .i64 v, encY t] (qf0 fun H' o => H' = [subE (setR s v t).1] ∧ o = .val (.int .i64 (setR s v t).2)) := by
 have hLg := qcm h1 h2
 have hcp := qed t (by omega)
 have hA := qi0 v s
 by_cases hlg : qv t = true
 ·cases hlk : qbb v s with
  | some u =>
    have hf : qd8 s v = .tup [.int .i64 (ahdR v s), .bool true] := by rw [qd8, hlk]; rfl
    rw [q10 hlg hlk]
    rw [hlg] at hLg
    refine qp c0o 2 (by simp) (by simp) ?_
    repeat' (first | refine vs_ ?_ | ((first | refine vr_ ?_ | refine qa hLg fun _ => ?_ | refine qgc ho hl v ?_ | refine qe hLg ?_ | simp (disch := omega) only [hf] | (refine cs_ ?_ ?_ <;> intro hc) | refine cj_ ?_ | fail) <;> (try refine ev_ ?_)) | with_reducible exact ti_)
    all_goals exact qds 1 hs rfl rfl (by simp) (by simp) rfl ⟨rfl, rfl⟩
  | none =>
    have hf : qd8 s v = .tup [.int .i64 (ahdR v s), .bool false] := by rw [qd8, hlk]; rfl
    rw [qpt hlg hlk]
    rw [hlg] at hLg
    refine qp c0o 4 (by simp) (by simp) ?_
    repeat' (first | refine vs_ ?_ | ((first | refine vr_ ?_ | refine qa hLg fun _ => ?_ | refine qa hcp fun _ => ?_ | refine qgc ho hl v ?_ | refine qbhg 1 (p := ⟨v, t⟩) hA hl ?_ | refine qe hLg ?_ | refine qe hcp ?_ | simp (disch := omega) only [hf] | (refine cs_ ?_ ?_ <;> intro hc) | refine cj_ ?_ | fail) <;> (try refine ev_ ?_)) | with_reducible exact ti_)
    all_goals exact qds (s := insR v t s) 3 (by simp [insR]) (by rw [qqz]; rfl) rfl (by simp) (by simp) rfl ⟨rfl, rfl⟩
 ·have hlg : qv t = false := by simpa using hlg
  rw [qqq hlg]
  rw [hlg] at hLg
  refine qp c0o 2 (by simp) (by simp) ?_
  repeat' (first | refine vs_ ?_ | ((first | refine vr_ ?_ | refine qa hLg fun _ => ?_ | refine qe hLg ?_ | (refine cs_ ?_ ?_ <;> intro hc) | refine cj_ ?_ | fail) <;> (try refine ev_ ?_)) | with_reducible exact ti_)
  all_goals exact qds 1 hs rfl rfl (by simp) (by simp) rfl ⟨rfl, rfl⟩
theorem qlh {s : List Pr} (ho : risR s) (hl : s.length ≤ 100000) (v : Int) {t : Ty} (h1 : szY t ≤ 20000) (h2 : dpY t ≤ 300) : VM Tryz.prog 34 (subE s) (subE (setR s v t).1) [.ptr 0 0, .int .i64 v, encY t] (.int .i64 (setR s v t).2) := by
 by_cases hs : s = []
 ·subst hs
  exact qp2 (by rw [qlk]; exact qbfz v h1 h2) (by simp [AV.bds, AV.bd, qbt])
 ·exact qp2 (by have := qbhz hs ho hl v h1 h2; rwa [← qoc hs] at this) (by simp [AV.bds, AV.bd, qbt])
end Go.Proofs.YtbbjelfnocmaoaaGreat
