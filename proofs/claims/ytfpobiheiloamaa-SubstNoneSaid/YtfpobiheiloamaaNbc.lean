/- Texts of this proof, joined. -/
import Derived.Test.YtfpobiheiloamaaNaz
import Derived.Test.YtfpobiheiloamaaNbb

/- substitutions: found, got -/
set_option maxRecDepth 4000
namespace Go.Proofs.Ytfpobiheiloamaa
open Go Go.RowKit Go.V
set_option linter.unusedVariables false
set_option linter.unusedSimpArgs false

theorem qdy (v : Int) : qdk [] v = .tup [.int .i64 0, .bool false] := rfl
theorem q8p (v : Int) : ql Try.prog 115 [.sl 4 [], .int .i64 v, .fn 116 [] []] (qdk [] v) := by
 refine qd c0bm (by simp) (by simp only [go_sem]) rfl fun hw => ?_
 rw [qdy]
 repeat' (first | refine vs_ ?_ | ((first | refine vr_ ?_ | (refine cs_ ?_ ?_ <;> intro hc) | refine cj_ ?_ | simp (disch := omega) only [encs_getN, qb]) <;> (try refine ev_ ?_)) | with_reducible exact ti_)
 refine qm (S := Unit) (fun _ => True) (fun _ => (⟨[(0, .sl 4 []), (1, .int .i64 v), (2, .fn 116 [] []), (8, .int .i64 0), (9, .int .i64 0), (10, .int .i64 0)], []⟩, [])) (fun _ => 0) ?_ fun x hx => ?_
 ·refine qj () [] trivial rfl (by simp) ?_ ?_ ?_ <;> (try refine ev_ ?_) <;> (try with_reducible exact ti_) <;> (try simp (disch := omega) only [qb, and_true, true_and])
 ·repeat' (first | refine vs_ ?_ | ((first | refine vr_ ?_ | (refine cs_ ?_ ?_ <;> intro hc) | refine cj_ ?_ | simp (disch := omega) only [encs_getN, qb]) <;> (try refine ev_ ?_)) | with_reducible exact ti_)
  ·exact absurd hc (by omega)
  ·exact ⟨rfl, rfl⟩
def subH (s : List Pr) : List Ent := if s = [] then [.blk [.nils]] else [.blk [.row 1 s.length], qbl s]
theorem qgq : subH [] = [.blk [.nils]] := rfl
theorem qj0 {s : List Pr} (h : s ≠ []) : subH s = [.blk [.row 1 s.length], qbl s] := by rw [subH, if_neg h]
abbrev subE (s : List Pr) : Ent := bun (subH s)
theorem qeg {Q : List Ent → VO → Prop} {H' : List Ent} {r : AV} (h0 : ent H' 0 = .blk [.nils]) (hl : 0 < H'.length) (hr : r.bd 0 = true) (h : Q [subE []] (.val r)) : qdm Q H' (.val r) :=
 ⟨[.blk [.nils]], [0], rfl, by simp, by simp, ⟨⟨hl, rfl, by rw [h0]; rfl⟩, trivial⟩, qky (Nat.zero_le _) _ hr, h⟩
theorem qcm {Q : List Ent → VO → Prop} {H' : List Ent} {s : List Pr} {r : AV} (k : Nat) (hs : s ≠ []) (h0 : ent H' 0 = .blk [.row k s.length]) (h1 : ent H' k = qbl s) (hk : 0 < k) (hl : k < H'.length) (hr : r.bd 0 = true) (h : Q [subE s] (.val r)) : qdm Q H' (.val r) :=
 ⟨[.blk [.row 1 s.length], qbl s], [0, k], rfl, by simp, by simp; omega, ⟨⟨by omega, rfl, by rw [h0]; rfl⟩, ⟨hl, qe1 s 2, by rw [h1]; simp only [qbl, Ent.ren, qhp]⟩, trivial⟩, qky (Nat.zero_le _) _ hr, by rwa [subE, qj0 hs] at h⟩
theorem qdv (σ : Nat → Nat) (s : List Pr) : (qbl s).ren σ = qbl s := by simp only [qbl, Ent.ren, qhp]
theorem qcz : ∀ {H : List Ent} {i : Nat} {e : Ent}, ent H i = e → i < H.length → H.set i e = H
 | [], i, e, _, hl => by simp at hl
 | x :: r, 0, e, h, _ => by rw [← h]; rfl
 | x :: r, i + 1, e, h, hl => by
   have h' : ent r i = e := h
   rw [List.set_cons_succ, qcz h' (by simpa using hl)]
theorem qwp (v : Int) : VCalls Try.prog 82 [.blk [.nils]] [.ptr 0 0, .int .i64 v] fun H' o => H' = [.blk [.nils]] ∧ o = .val (qdk [] v) := by
 refine qn c0bn 1 (by simp) (by simp) ?_
 rw [qdy]
 repeat' (first | refine vs_ ?_ | ((first | refine vr_ ?_ | refine qa (q8p _) fun _ => ?_ | simp (disch := omega) only [qdy] | (refine cs_ ?_ ?_ <;> intro hc) | refine cj_ ?_ | fail) <;> (try refine ev_ ?_)) | with_reducible exact ti_)
theorem qbbe {s : List Pr} (ho : risR s) (hl : s.length ≤ 100000) (v : Int) : VCalls Try.prog 82 [.blk [.row 1 s.length], qbl s] [.ptr 0 0, .int .i64 v] fun H' o => H' = [.blk [.row 1 s.length], qbl s] ∧ o = .val (qdk s v) := by
 refine qn c0bn 2 (by simp) (by simp [qbl, Ent.bd, qbh]) ?_
 rw [qdk]
 repeat' (first | refine vs_ ?_ | ((first | refine vr_ ?_ | refine qca 1 (q7s ho hl v) ?_ (qe1 s 0) (qe1 s 0) | simp (disch := omega) only [qdk] | (refine cs_ ?_ ?_ <;> intro hc) | refine cj_ ?_ | fail) <;> (try refine ev_ ?_)) | with_reducible exact ti_)
section
variable {H : List Ent} {Q : List Ent → VO → Prop} {K : Md → AV → List Ent → Prop} {raws : List AV} {s : List Pr}
theorem ql9 (v : Int) (hq : Q H (.val (qdk [] v))) (h0 : ent H 0 = .blk [.nils] := by rfl) (hl' : 0 < H.length := by simp) : VApp Try.prog H (.fn 82 [] []) [.ptr 0 0, .int .i64 v] Q := by
 refine qcn ?_
 rw [List.nil_append, List.append_nil]
 refine qbu [0] (qwp v) (by simp) ⟨⟨by omega, rfl, h0⟩, trivial⟩ rfl rfl fun H1 o ho => ?_
 obtain ⟨rfl, rfl⟩ := ho
 have : qfs H [0] [.blk [.nils]] = H := by
  show (H.set 0 (.blk [.nils])) ++ [] = H
  rw [List.append_nil, qcz h0 hl']
 rw [this]
 exact hq
theorem qey (ho : risR s) (hl : s.length ≤ 100000) (v : Int) (hq : Q H (.val (qdk s v))) (h0 : ent H 0 = .blk [.row 1 s.length] := by rfl) (h1 : ent H 1 = qbl s := by rfl) (hl' : 1 < H.length := by simp) : VApp Try.prog H (.fn 82 [] []) [.ptr 0 0, .int .i64 v] Q := by
 refine qcn ?_
 rw [List.nil_append, List.append_nil]
 refine qbu [0, 1] (qbbe ho hl v) (by simp) ⟨⟨by omega, rfl, h0⟩, ⟨hl', qe1 s 2, by rw [h1, qdv]⟩, trivial⟩ rfl rfl fun H1 o ho => ?_
 obtain ⟨rfl, rfl⟩ := ho
 have : qfs H [0, 1] [.blk [.row 1 s.length], qbl s] = H := by
  show ((H.set 0 (.blk [.row 1 s.length])).set 1 ((qbl s).ren _)) ++ [] = H
  rw [List.append_nil, qdv, qcz h0 (by omega), qcz h1 hl']
 rw [this]
 exact hq
end
set_option maxRecDepth 4000

def getV (s : List Pr) (v : Int) : AV := .tup [encY ((qv v s).getD Y0), .bool (qv v s).isSome]
theorem q8b (k : Nat) (s : List Pr) (v : Int) : (getV s v).bd k = true := by simp only [getV, AV.bd, AV.bds, qbq, Bool.and_true, Bool.true_and]
theorem q18 (v : Int) : VCalls Try.prog 37 [.blk [.nils]] [.ptr 0 0, .int .i64 v] (qdm fun H' o => H' = [subE []] ∧ o = .val (getV [] v)) := by
 refine qn c0bc 1 (by simp) (by simp) ?_
 repeat' (first | refine vs_ ?_ | ((first | refine vr_ ?_ | refine ql9 v ?_ | simp (disch := omega) only [qdy] | (refine cs_ ?_ ?_ <;> intro hc) | refine cj_ ?_ | simp (disch := omega) only [encs_getN, qb]) <;> (try refine ev_ ?_)) | with_reducible exact ti_)
 all_goals exact qeg rfl (by simp) rfl ⟨rfl, rfl⟩
theorem qbcm {s : List Pr} (hs : s ≠ []) (ho : risR s) (hl : s.length ≤ 100000) (v : Int) : VCalls Try.prog 37 [.blk [.row 1 s.length], qbl s] [.ptr 0 0, .int .i64 v] (qdm fun H' o => H' = [subE s] ∧ o = .val (getV s v)) := by
 refine qn c0bc 2 (by simp) (by simp [qbl, Ent.bd, qbh]) ?_
 have hlk := qgr (v := v) ho
 have hf : qdk s v = .tup [.int .i64 (ahdR v s), .bool (qv v s).isSome] := rfl
 by_cases hin : ahdR v s < s.length ∧ (s.getD (ahdR v s) R0).v = v
 ·rw [if_pos hin] at hlk
  have hp := qh hin.1
  have hi := hin.1
  rw [hlk, Option.isSome_some] at hf
  have hg : getV s v = .tup [encY (s.getD (ahdR v s) R0).ty, .bool true] := by rw [getV, hlk]; rfl
  rw [hg]
  clear hin
  repeat' (first | refine vs_ ?_ | ((first | refine vr_ ?_ | fail) <;> (try simp only [hp, go_sem, ↓reduceIte])) | ((first | simp (disch := omega) only [hf] | simp (disch := omega) only [hp] | (refine cs_ ?_ ?_ <;> intro hc) | refine cj_ ?_ | simp (disch := omega) only [encs_getN, qb] | refine qey ho hl v ?_) <;> (try refine ev_ ?_)) | with_reducible exact ti_)
  all_goals exact qcm 1 hs rfl rfl (by simp) (by simp) (by first | rfl | simp only [AV.bd, AV.bds, qbq, Bool.and_true]) ⟨rfl, rfl⟩
 ·rw [if_neg hin] at hlk
  rw [hlk, Option.isSome_none] at hf
  have hg : getV s v = .tup [encY Y0, .bool false] := by rw [getV, hlk]; rfl
  rw [hg]
  repeat' (first | refine vs_ ?_ | ((first | refine vr_ ?_ | refine qey ho hl v ?_ | simp (disch := omega) only [hf] | (refine cs_ ?_ ?_ <;> intro hc) | refine cj_ ?_ | simp (disch := omega) only [encs_getN, qb]) <;> (try refine ev_ ?_)) | with_reducible exact ti_)
  all_goals exact qcm 1 hs rfl rfl (by simp) (by simp) (by first | rfl | simp only [AV.bd, AV.bds, qbq, Bool.and_true]) ⟨rfl, rfl⟩
theorem qm1 {s : List Pr} (ho : risR s) (hl : s.length ≤ 100000) (v : Int) : VM Try.prog 37 (subE s) (subE s) [.ptr 0 0, .int .i64 v] (getV s v) := by
 by_cases hs : s = []
 ·subst hs
  exact qi3 (by rw [qgq]; exact q18 v) rfl
 ·exact qi3 (by have := qbcm hs ho hl v; rwa [← qj0 hs] at this) rfl
set_option maxRecDepth 4000

abbrev insF : FuncId := 85
theorem qh7 (p : Pr) : (encR p).cells.length = 4 ∧ (encR p).flat := ⟨rfl, .inl ⟨rfl, rfl⟩⟩
theorem qjk (l : List Pr) : ∀ e ∈ qk l, e.flat := fun e he => by
 obtain ⟨p, _, rfl⟩ := List.mem_map.1 he
 exact (qh7 p).2
section
variable {H : List Ent} {K : Md → AV → List Ent → Prop} {args raws : List AV} {s : List Pr} {p : Pr}
theorem q64 (j : Nat) {i : Nat} (hi : i ≤ s.length) (hl : s.length ≤ 100000) (h1 : ent H j = qbl s) : Gro Try.prog H (.fn insF [] []) [.row j s.length, .int .i64 i, .lit 4 [encR p]] (some (j, qbl s)) (qbl (s.take i ++ p :: s.drop i)) (s.length + 1) := by
 refine ⟨fun q hq => by cases hq; exact ⟨by simp, h1⟩, fun H₀ h0 => ?_⟩
 have h0 : ent H₀ j = qbl s := h0 _ rfl
 have hl' := (List.getElem?_eq_some_iff.1 (qw h0 (by simp))).1
 have hv := qyt (es := qk s) (x := encR p) (i := i) (by rw [qb0]; exact hi) (by rw [qb0]; omega) (qh7 p) (by simp only [AV.bds, qeq, qbh, Bool.and_true]) (qjk s)
 rw [qb0] at hv
 refine qcn ?_
 rw [List.nil_append, List.append_nil]
 refine qbu [j] hv (by simp) ⟨⟨hl', qe1 s 1, by rw [h0, qdv]⟩, trivial⟩ (by simp [AV.bds, AV.bd, qeq]) (by simp only [AV.rens, AV.ren, qkc]; rfl) fun H1 o ho => ?_
 obtain ⟨rfl, rfl⟩ := ho
 have he : qk (s.take i ++ p :: s.drop i) = (qk s).take i ++ encR p :: (qk s).drop i := by simp [qk]
 refine ⟨?_, ?_⟩
 ·rw [← he]
  show (H₀.set j .dead) ++ [(qbl (s.take i ++ p :: s.drop i)).ren _] = (H₀.set j .dead) ++ [_]
  rw [qdv]
 ·show VO.val (.row (H₀.length + (1 - 1)) _) = _
  simp
theorem qbaj : Gro Try.prog H (.fn insF [] []) [.nils, .int .i64 0, .lit 4 [encR p]] none (qbl [p]) 1 := by
 refine ⟨fun q hq => (by cases hq), fun H₀ h0 => ?_⟩
 refine qcn ?_
 rw [List.nil_append, List.append_nil]
 refine qbu [] (qll (qh7 p)) (by simp) trivial (by simp [AV.bds, AV.bd, qeq]) (by simp only [AV.rens, AV.ren, qkc]) fun H1 o ho => ?_
 obtain ⟨rfl, rfl⟩ := ho
 refine ⟨?_, ?_⟩
 ·show H₀ ++ [(qbl [p]).ren _] = H₀ ++ [_]
  rw [qdv]
 ·show VO.val (.row (H₀.length + (0 - 0)) _) = _
  simp
theorem qbh6 (j : Nat) {i : Nat} (hi : i ≤ s.length) (hl : s.length ≤ 100000) (hq : K (.grow (some (j, qbl s)) (qbl (s.take i ++ p :: s.drop i)) (s.length + 1)) (.row H.length (s.length + 1)) (H.set j .dead ++ [qbl (s.take i ++ p :: s.drop i)])) (h1 : ent H j = qbl s := by rfl) (hr : raws = [.row j s.length, .int .i64 i, .lit 4 [encR p]] := by rfl) :
 DApp Try.prog H (.fn insF [] []) args raws K := by
 subst hr
 exact .inr (.inr (.inr ⟨_, _, _, q64 j hi hl h1, hq⟩))
theorem qbg3 (hq : K (.grow none (qbl [p]) 1) (.row H.length 1) (H ++ [qbl [p]])) (hr : raws = [.nils, .int .i64 0, .lit 4 [encR p]] := by rfl) : DApp Try.prog H (.fn insF [] []) args raws K := by
 subst hr
 exact .inr (.inr (.inr ⟨_, _, _, qbaj, hq⟩))
end
theorem qo6 {s : List Pr} {v : Int} {t : Ty} (h : qr t = false) : setR s v t = (s, 1) := by rw [setR, if_neg (by simp [h])]
theorem qwc {s : List Pr} {v : Int} {t u : Ty} (h : qr t = true) (hl : qv v s = some u) : setR s v t = (s, 6) := by rw [setR, if_pos h, hl]
theorem qox {s : List Pr} {v : Int} {t : Ty} (h : qr t = true) (hl : qv v s = none) : setR s v t = (insR v t s, 0) := by rw [setR, if_pos h, hl]
theorem q8s (v : Int) {t : Ty} (h1 : szY t ≤ 20000) (h2 : dpY t ≤ 300) : VCalls Try.prog 45 [.blk [.nils]] [.ptr 0 0, .int .i64 v, encY t] (qdm fun H' o => H' = [subE (setR [] v t).1] ∧ o = .val (.int .i64 (setR [] v t).2)) := by
 have hLg := qb9 h1 h2
 have hcp := qco t (by omega)
 by_cases hlg : qr t = true
 ·rw [qox hlg rfl]
  rw [hlg] at hLg
  refine qn c0bd 3 (by simp) (by simp) ?_
  repeat' (first | refine vs_ ?_ | ((first | refine vr_ ?_ | refine qa hLg fun _ => ?_ | refine qa hcp fun _ => ?_ | refine ql9 v ?_ | refine qbg3 (p := ⟨v, t⟩) ?_ | refine qf hLg ?_ | refine qf hcp ?_ | simp (disch := omega) only [qdy] | (refine cs_ ?_ ?_ <;> intro hc) | refine cj_ ?_ | fail) <;> (try refine ev_ ?_)) | with_reducible exact ti_)
  all_goals exact qcm (s := insR v t []) 2 (by simp [qoh]) rfl rfl (by simp) (by simp) rfl ⟨rfl, rfl⟩
 ·have hlg : qr t = false := by simpa using hlg
  rw [qo6 hlg]
  rw [hlg] at hLg
  refine qn c0bd 1 (by simp) (by simp) ?_
  repeat' (first | refine vs_ ?_ | ((first | refine vr_ ?_ | refine qa hLg fun _ => ?_ | refine qf hLg ?_ | (refine cs_ ?_ ?_ <;> intro hc) | refine cj_ ?_ | fail) <;> (try refine ev_ ?_)) | with_reducible exact ti_)
  all_goals exact qeg rfl (by simp) rfl ⟨rfl, rfl⟩
theorem qbgm {s : List Pr} (hs : s ≠ []) (ho : risR s) (hl : s.length ≤ 100000) (v : Int) {t : Ty} (h1 : szY t ≤ 20000) (h2 : dpY t ≤ 300) : VCalls Try.prog 45 [.blk [.row 1 s.length], qbl s] [.ptr 0 0, .int .i64 v, encY t] (qdm fun H' o => H' = [subE (setR s v t).1] ∧ o = .val (.int .i64 (setR s v t).2)) := by
 have hLg := qb9 h1 h2
 have hcp := qco t (by omega)
 have hA := qgz v s
 by_cases hlg : qr t = true
 ·cases hlk : qv v s with
  | some u =>
    have hf : qdk s v = .tup [.int .i64 (ahdR v s), .bool true] := by rw [qdk, hlk]; rfl
    rw [qwc hlg hlk]
    rw [hlg] at hLg
    refine qn c0bd 2 (by simp) (by simp) ?_
    repeat' (first | refine vs_ ?_ | ((first | refine vr_ ?_ | refine qa hLg fun _ => ?_ | refine qey ho hl v ?_ | refine qf hLg ?_ | simp (disch := omega) only [hf] | (refine cs_ ?_ ?_ <;> intro hc) | refine cj_ ?_ | fail) <;> (try refine ev_ ?_)) | with_reducible exact ti_)
    all_goals exact qcm 1 hs rfl rfl (by simp) (by simp) rfl ⟨rfl, rfl⟩
  | none =>
    have hf : qdk s v = .tup [.int .i64 (ahdR v s), .bool false] := by rw [qdk, hlk]; rfl
    rw [qox hlg hlk]
    rw [hlg] at hLg
    refine qn c0bd 4 (by simp) (by simp) ?_
    repeat' (first | refine vs_ ?_ | ((first | refine vr_ ?_ | refine qa hLg fun _ => ?_ | refine qa hcp fun _ => ?_ | refine qey ho hl v ?_ | refine qbh6 1 (p := ⟨v, t⟩) hA hl ?_ | refine qf hLg ?_ | refine qf hcp ?_ | simp (disch := omega) only [hf] | (refine cs_ ?_ ?_ <;> intro hc) | refine cj_ ?_ | fail) <;> (try refine ev_ ?_)) | with_reducible exact ti_)
    all_goals exact qcm (s := insR v t s) 3 (by simp [insR]) (by rw [qpg]; rfl) rfl (by simp) (by simp) rfl ⟨rfl, rfl⟩
 ·have hlg : qr t = false := by simpa using hlg
  rw [qo6 hlg]
  rw [hlg] at hLg
  refine qn c0bd 2 (by simp) (by simp) ?_
  repeat' (first | refine vs_ ?_ | ((first | refine vr_ ?_ | refine qa hLg fun _ => ?_ | refine qf hLg ?_ | (refine cs_ ?_ ?_ <;> intro hc) | refine cj_ ?_ | fail) <;> (try refine ev_ ?_)) | with_reducible exact ti_)
  all_goals exact qcm 1 hs rfl rfl (by simp) (by simp) rfl ⟨rfl, rfl⟩
theorem qd3 {s : List Pr} (ho : risR s) (hl : s.length ≤ 100000) (v : Int) {t : Ty} (h1 : szY t ≤ 20000) (h2 : dpY t ≤ 300) : VM Try.prog 45 (subE s) (subE (setR s v t).1) [.ptr 0 0, .int .i64 v, encY t] (.int .i64 (setR s v t).2) := by
 by_cases hs : s = []
 ·subst hs
  exact qi3 (by rw [qgq]; exact q8s v h1 h2) (by simp [AV.bds, AV.bd, qbq])
 ·exact qi3 (by have := qbgm hs ho hl v h1 h2; rwa [← qj0 hs] at this) (by simp [AV.bds, AV.bd, qbq])

/-! a receiver: there, or none -/
def svA (b : Bool) (k : Nat) : AV := if b then .ptr k 0 else .nilp
theorem qnb (b : Bool) (k : Nat) (σ : Nat → Nat) : (svA b k).ren σ = svA b (σ k) := by cases b <;> rfl
theorem quq (b : Bool) (k n : Nat) (h : k < n) : (svA b k).bd n = true := by
 cases b
 ·rfl
 ·show decide (k < n) = true
  exact decide_eq_true h
theorem qx7 (b : Bool) (k : Nat) : (svA b k).leaf = true := by cases b <;> rfl
theorem qtu (b : Bool) (k : Nat) : (svA b k).cells = [svA b k] := by cases b <;> rfl
theorem q1q (b : Bool) (k : Nat) : (svA b k).isAgg = false := by cases b <;> rfl
attribute [go_sem] qnb qx7 qtu q1q
attribute [go_sem] quq
abbrev qxb : Ent := .cus (fun _ _ _ => True)
theorem qq1 {P : Program} {f : FuncId} {xs : List AV} {r : AV} (h : VM P f qxb qxb xs r) (ha : AV.bds 0 xs = true) (hr : r.bd 0 = true) : ql P f xs r := by
 refine ⟨⟨h.1, fun w M G vs hst hv => ?_⟩, ha, hr⟩
 have hlen := hst.len
 obtain rfl : G = [] := by
  cases G with
  | nil => rfl
  | cons g r => simp at hlen
 let g0 : Gh := { blk := 0, cap := 0, fp := fun _ => False }
 have hst' : St w M ([] ++ [g0]) ([] ++ [qxb]) := qfx (g := g0) hst (Nat.le_refl _) (fun _ _ => rfl) (fun _ _ h => h) (fun _ _ h => .inl h) hst.Mlt (fun b hb => False.elim hb) ⟨trivial, fun _ _ _ _ _ _ => trivial⟩
 have hv' : VRs w M [g0] xs vs := by
  have := qbs (σ := id) (m := 0) (G' := [g0]) (fun i g hi hg => by omega) (fun b o h => ⟨h, rfl⟩) xs vs ha hv
  rwa [qp (σ := id) (m := 0) (fun _ _ => rfl) xs ha] at this
 have hno : ∀ b, ¬ own [g0] b := fun b ⟨j, gj, hj, hf⟩ => by
  cases j with
  | zero => simp at hj; subst hj; exact hf
  | succ j => simp at hj
 refine CallsIn.mono (h.2 w M [g0] vs hst' hv') fun e w' ho => ?_
 cases e with
 | returned x =>
   obtain ⟨M', G', H', v, ⟨rfl, hvr⟩, hx, hs, hv2⟩ := ho
   obtain rfl : v = r := by simpa using hvr
   refine ⟨M', [], [], v, ⟨rfl, rfl⟩, ⟨hx.os, hx.tape, hx.output, hx.size, fun i g h => by simp at h, hx.le, fun b hb _ => hx.out b hb (hno b), fun b hb => ?_, fun b o hm => ?_⟩, ⟨rfl, fun i g e h => by simp at h, fun i j g g' b h => by simp at h, fun i g b h => by simp at h, hs.Mlt, hs.one⟩, ?_⟩
   ·obtain ⟨j, gj, hj, _⟩ := hb
    simp at hj
   ·rcases hx.Mnew b o hm with h | h | h
    ·exact .inl h
    ·exact absurd h (hno b)
    ·exact .inr (.inr h)
   ·have := qiz (σ := id) (m := 0) (G' := []) (fun i g hi hg => by omega) (fun b o h => ⟨h, rfl⟩) v x hr hv2
    rwa [ren_same (σ := id) (m := 0) (fun _ _ => rfl) v hr] at this
 | panicked ch =>
   obtain ⟨M', G', H', v, x, ⟨_, hvr⟩, _⟩ := ho
   cases hvr
 | outgrown => exact ho
/-! runs of it -/
def brun (s : List Pr) : List Ty → Int → Int → Int × List Ty
 | [], b, _ => (b, [])
 | x :: r, b, k => ((brun s r (bput s x b k).1 k).1, (bput s x b k).2 :: (brun s r (bput s x b k).1 k).2)
theorem qol (s : List Pr) : ∀ (l : List Ty) (b k : Int), (brun s l b k).2.length = l.length
 | [], _, _ => rfl
 | x :: r, b, k => by rw [brun, List.length_cons, List.length_cons, qol s r]
theorem ql6 (s : List Pr) (x : Ty) (k : Int) : ∀ (l : List Ty) (b : Int), brun s (l ++ [x]) b k = ((bput s x (brun s l b k).1 k).1, (brun s l b k).2 ++ [(bput s x (brun s l b k).1 k).2])
 | [], b => by simp [brun]
 | y :: r, b => by rw [List.cons_append, brun, ql6 s x k r, brun]; rfl
theorem qhk (s : List Pr) (k : Int) (r : List Ty) : ∀ (l : List Ty) (b : Int), (∀ j, j < l.length → 0 ≤ (brun s (l.take j) b k).1) → qb3 s (l ++ r) b k = ((qb3 s r (brun s l b k).1 k).1, (qb3 s r (brun s l b k).1 k).2.map ((brun s l b k).2 ++ ·))
 | [], b, _ => by simp [brun]
 | x :: l, b, h => by
   have h0 := h 0 (by simp)
   rw [List.take_zero, brun] at h0
   have h1 := qhk s k r l (bput s x b k).1 fun j hj => by
    have := h (j + 1) (by simpa using hj)
    rwa [List.take_succ_cons, brun] at this
   rw [List.cons_append, qb3, if_neg (by omega), h1, brun]
   simp only [Option.map_map]
   rfl
theorem quv {s : List Pr} {l : List Ty} {b k : Int} (h : ∀ j, j < l.length → 0 ≤ (brun s (l.take j) b k).1) : qb3 s l b k = ((brun s l b k).1, some (brun s l b k).2) := by
 have := qhk s k [] l b h
 rw [List.append_nil] at this
 rw [this, qb3]; simp
theorem qqd {s : List Pr} {l : List Ty} {b k : Int} {i : Nat} (hi : i < l.length) (h : ∀ j, j < i → 0 ≤ (brun s (l.take j) b k).1) (hn : (brun s (l.take i) b k).1 < 0) : qb3 s l b k = ((brun s (l.take i) b k).1, none) := by
 have h2 : (l.take i).length = i := by rw [List.length_take]; omega
 have := qhk s k (l.drop i) (l.take i) b fun j hj => by
  rw [h2] at hj
  rw [List.take_take, Nat.min_eq_left (by omega)]
  exact h j hj
 rw [List.take_append_drop] at this
 rw [this, List.drop_eq_getElem_cons hi, qb3, if_pos hn]; rfl
theorem qoi {s : List Pr} (hs : okR s) (k : Int) : ∀ (l : List Ty) (b : Int), (∀ j, j < l.length → 0 ≤ (brun s (l.take j) b k).1) → -4096 ≤ b → b ≤ 4096 → -4096 ≤ (brun s l b k).1 ∧ (brun s l b k).1 ≤ 4096
 | [], b, _, h0, h1 => ⟨h0, h1⟩
 | x :: r, b, h, h0, h1 => by
   have hb := h 0 (by simp)
   have hb : 0 ≤ b := hb
   have := qoq hs x b k hb h1
   rw [brun]
   exact qoi hs k r _ (fun j hj => by
    have := h (j + 1) (by simpa using hj)
    rwa [List.take_succ_cons, brun] at this) this.1 this.2
def gE (o : List Ty) (n : Nat) : List AV := qs o ++ List.replicate (n - o.length) zY
theorem qbbt {o : List Ty} {n : Nat} (h : o.length ≤ n) : (gE o n).length = n := by rw [gE, List.length_append, qz, List.length_replicate]; omega
theorem gE_0 (n : Nat) : gE [] n = List.replicate n zY := rfl
theorem qbcb (o : List Ty) : gE o o.length = qs o := by rw [gE, Nat.sub_self, List.replicate_zero, List.append_nil]
theorem qbef {o : List Ty} {n : Nat} (h : o.length < n) (x : Ty) : (gE o n).set o.length (encY x) = gE (o ++ [x]) n := by
 obtain ⟨k, hk⟩ : ∃ k, n - o.length = k + 1 := ⟨n - o.length - 1, by omega⟩
 have hk2 : n - (o ++ [x]).length = k := by rw [List.length_append, List.length_singleton]; omega
 rw [gE, gE, hk, hk2, List.replicate_succ, ← qe5, List.set_append_right _ _ (by rw [qz]; omega), qz, Nat.sub_self, List.set_cons_zero, List.append_assoc]
 rfl
theorem qtz (k : Nat) (o : List Ty) (n : Nat) : AV.bds k (gE o n) = true := by
 rw [gE, qf7, qch, qdi]
 simp [zY, AV.bd, AV.bds]
theorem qo0 (σ : Nat → Nat) (o : List Ty) (n : Nat) : AV.rens σ (gE o n) = gE o n := qp (m := 0) (fun i hi => by omega) _ (qtz 0 o n)
attribute [go_sem] qtz qo0
set_option maxRecDepth 4000

theorem qeb {f : FuncId} {args : List AV} {r r' : AV} (h : ql Try.prog f args r) (e : r = r') : ql Try.prog f args r' := e ▸ h
abbrev blE (b : Bool) (c : Nat) (lf : Int) : Ent := .blk [svA b c, .int .i64 lf]
theorem qbfz (b : Bool) (c : Nat) (lf : Int) (n : Nat) (h : c < n) : (blE b c lf).bd n = true := by simp only [blE, Ent.bd, AV.bds, quq b c n h, AV.bd, Bool.and_true]
theorem quk (b : Bool) (c : Nat) (lf : Int) (σ : Nat → Nat) : (blE b c lf).ren σ = blE b (σ c) lf := by simp only [blE, Ent.ren, AV.rens, qnb, AV.ren]
abbrev putF : FuncId := 78
def qbfg (R : World → (Nat → Nat → Prop) → Gh → Prop) (b : Bool) (t : Ty) (lf k lf' : Int) (t' : Ty) : Prop :=
 VCalls Try.prog putF [blE b 1 lf, .cus R] [.ptr 0 0, encY t, .int .i64 k] fun H' o => H' = [blE b 1 lf', .cus R] ∧ o = .val (encY t')
section
variable {R : World → (Nat → Nat → Prop) → Gh → Prop} {b : Bool} {s : List Pr} {t t' : Ty} {lf k lf' : Int} {H : List Ent} {Q : List Ent → VO → Prop}
theorem qnt (a c : Nat) (h : qbfg R b t lf k lf' t') (hac : a ≠ c) (hq : Q (H.set a (blE b c lf')) (.val (encY t'))) (h0 : ent H a = blE b c lf := by rfl) (h1 : ent H c = .cus R := by rfl) (ha : a < H.length := by simp) (hc : c < H.length := by simp) :
 VApp Try.prog H (.fn putF [] []) [.ptr a 0, encY t, .int .i64 k] Q := by
 refine qcn ?_
 rw [List.nil_append, List.append_nil]
 refine qbu [a, c] h (by simp [hac]) ⟨⟨ha, qbfz _ _ _ _ (by simp), by rw [h0, quk]; rfl⟩, ⟨hc, rfl, by rw [h1]; rfl⟩, trivial⟩ (by simp only [AV.bds, AV.bd, qbq, Bool.and_true]; rfl) (by simp only [AV.rens, AV.ren, qkk]; rfl) fun H1 o ho => ?_
 obtain ⟨rfl, rfl⟩ := ho
 have e1 : qfs H [a, c] [blE b 1 lf', .cus R] = H.set a (blE b c lf') := by
  show ((H.set a ((blE b 1 lf').ren _)).set c (.cus R)) ++ [] = _
  rw [List.append_nil, quk]
  have h1' : ent (H.set a (blE b (sg' [a, c] H.length 1) lf')) c = .cus R := by
   rw [← h1]
   exact qp2 hac
  exact qcz h1' (by simpa using hc)
 rw [e1]
 simp only [VO.ren, qkk]
 exact hq
theorem q7l (hG : VM Try.prog 37 (.cus R) (.cus R) [svA b 0, .int .i64 k] (getV s k)) {K : Md → AV → List Ent → Prop} {raws : List AV} (hq : K (.meth 1 (.cus R) (.cus R)) (getV s k) H) (h1 : ent H 1 = .cus R := by rfl) (hl : 1 < H.length := by simp) :
 DApp Try.prog H (.fn 37 [] []) [svA b 1, .int .i64 k] raws K := by
 refine .inr (.inr (.inl ⟨getV s k, 1, .cus R, .cus R, ⟨by simp, h1, fun H₀ h0 => ?_⟩, ?_⟩))
 ·have hl0 := (List.getElem?_eq_some_iff.1 (qw h0 (by simp))).1
  exact qca 1 hG ⟨rfl, rfl⟩ rfl rfl hl0 h0 (q8b 0 _ _) (by simp only [AV.rens, qnb, AV.ren]; rfl) (by simp only [AV.bds, quq b 0 1 (by omega), AV.bd, Bool.and_true])
 ·rw [qcz h1 hl]
  exact hq
end
theorem qp8 {l : List Ty} {i : Nat} (h : i < l.length) : l.take (i + 1) = l.take i ++ [l.getD i Y0] := by
 rw [List.take_add_one, List.getD_eq_getElem?_getD, List.getElem?_eq_getElem h]; rfl
def plSt (R : World → (Nat → Nat → Prop) → Gh → Prop) (b : Bool) (s : List Pr) (t : Ty) (lf k : Int) (i : Nat) : AF × List Ent :=
 (⟨[(0, .ptr 0 0), (2, .int .i64 k), (4, .ptr 2 0), (6, .ptr 3 0), (9, .row 4 t.args.length), (57, .int .i64 t.args.length), (58, .int .i64 i)], []⟩,
   [blE b 1 (brun s (t.args.take i) (lf - 1) (k + 1)).1, .cus R, .blk (yc t), .blk [.str [], .int .i64 0, .nils], .mrow 3 (gE (brun s (t.args.take i) (lf - 1) (k + 1)).2 t.args.length)])
theorem q1w {R : World → (Nat → Nat → Prop) → Gh → Prop} {b : Bool} {s : List Pr} (hG : ∀ v, VM Try.prog 37 (.cus R) (.cus R) [svA b 0, .int .i64 v] (getV s v)) (hs : okR s) :
 ∀ t, bare t → szY t ≤ 20000 → ∀ lf k : Int, 0 ≤ lf → lf ≤ 4096 → 0 ≤ k → k + dpY t ≤ 1000 → qbfg R b t lf k (bput s t lf k).1 (bput s t lf k).2 := by
 refine Ty.ind fun t ih hb hz lf k h0 h1 h2 h3 => ?_
 refine qn c0bl 2 (by simp) (by simp) ?_
 rw [q6w]
 rw [q45] at hb
 have hsz := qgi t
 have hal := qgu t.args
 have w1 : IntKind.i64.wrap (lf - 1) = lf - 1 := q7 (by omega) (by omega)
 by_cases hc : t.con = []
 ·have hcd : decide (t.con = []) = true := decide_eq_true hc
  have hargs := hb.1 hc
  rw [if_pos hc]
  cases hlk : qv t.var s with
  | some u =>
    have hu := qe3 hs hlk
    have hg : getV s t.var = .tup [encY u, .bool true] := by rw [getV, hlk]; rfl
    have hS : ql Try.prog 110 [encY u] (.int .i64 (szY u)) := qeb (qq6 u) (by rw [qml u 0 1 (by omega) (by omega)]; simp)
    have hD : ql Try.prog 111 [encY u] (.int .i64 (dpY u)) := qeb (qm3 u) (by rw [qlt u 0 1 (by omega) (by omega) (by omega)]; simp only; congr 1; omega)
    have hcp := qco u (by omega)
    have w2 : IntKind.i64.wrap (lf - szY u) = lf - szY u := q7 (by omega) (by omega)
    have w3 : IntKind.i64.wrap (k + dpY u) = k + dpY u := q7 (by omega) (by omega)
    simp only
    by_cases hd : 101 < k + dpY u
    ·rw [if_pos hd]
     have hdd : decide (101 < k + (dpY u : Int)) = true := decide_eq_true hd
     repeat' (first | refine vs_ ?_ | ((first | refine vr_ ?_ | fail) <;> (try simp only [hcd, hg, w2, w3, hdd, go_sem, ↓reduceIte])) | ((first | simp (disch := omega) only [hg] | (refine cs_ ?_ ?_ <;> intro hc) | refine cj_ ?_ | simp (disch := omega) only [encs_getN, qb] | refine qa hS fun _ => ?_ | refine qa hD fun _ => ?_ | refine qa hcp fun _ => ?_ | refine q7l (hG _) ?_ | refine qf hS ?_ | refine qf hD ?_ | refine qf hcp ?_) <;> (try refine ev_ ?_)) | with_reducible exact ti_)
    ·rw [if_neg hd]
     have hdd : decide (101 < k + (dpY u : Int)) = false := decide_eq_false hd
     repeat' (first | refine vs_ ?_ | ((first | refine vr_ ?_ | fail) <;> (try simp only [hcd, hg, w2, w3, hdd, go_sem, ↓reduceIte])) | ((first | simp (disch := omega) only [hg] | (refine cs_ ?_ ?_ <;> intro hc) | refine cj_ ?_ | simp (disch := omega) only [encs_getN, qb] | refine qa hS fun _ => ?_ | refine qa hD fun _ => ?_ | refine qa hcp fun _ => ?_ | refine q7l (hG _) ?_ | refine qf hS ?_ | refine qf hD ?_ | refine qf hcp ?_) <;> (try refine ev_ ?_)) | with_reducible exact ti_)
  | none =>
    have hg : getV s t.var = .tup [encY Y0, .bool false] := by rw [getV, hlk]; rfl
    have hbp : qb3 s t.args (lf - 1) (k + 1) = (lf - 1, some []) := by rw [hargs, qb3]
    rw [hbp]
    have hal0 : t.args.length = 0 := by rw [hargs]; rfl
    repeat' (first | refine vs_ ?_ | ((first | refine vr_ ?_ | fail) <;> (try simp only [hcd, hg, w1, go_sem, ↓reduceIte])) | ((first | simp (disch := omega) only [hg] | (refine cs_ ?_ ?_ <;> intro hc) | refine cj_ ?_ | simp (disch := omega) only [encs_getN, qb] | refine q7l (hG _) ?_) <;> (try refine ev_ ?_)) | with_reducible exact ti_)
    refine qm (S := Unit) (fun _ => True) (fun _ => (⟨[(0, .ptr 0 0), (2, .int .i64 k), (4, .ptr 2 0), (6, .ptr 3 0), (9, .row 5 t.args.length), (57, .int .i64 t.args.length), (58, .int .i64 (0 : Nat))], []⟩, [blE b 1 (lf - 1), .cus R, .blk (yc t), .blk [.str [], .int .i64 0, .nils], .blk (yc Y0), .mrow 3 (gE [] t.args.length)])) (fun _ => 0) ?_ fun x hx => ?_
    ·refine qj () [0, 1, 2, 3, 4, 5] trivial rfl (by simp) ?_ ?_ ?_ <;> simp only [gE_0, zY] <;> (try refine ev_ ?_) <;> (try with_reducible exact ti_) <;> (try simp (disch := omega) only [qb, and_true, true_and])
     all_goals
      rw [show List.replicate t.args.length (AV.agg [AV.str [], AV.int IntKind.i64 0, AV.nils]) = gE [] t.args.length from rfl]
      exact ⟨qtz _ _ _, by rw [qo0]⟩
    ·rw [show gE [] t.args.length = qs [] by rw [hal0]; rfl]
     refine qds 5 rfl (qga _) ?_
     repeat' (first | refine vs_ ?_ | ((first | refine vr_ ?_ | (refine cs_ ?_ ?_ <;> intro hc) | refine cj_ ?_ | simp (disch := omega) only [encs_getN, qb]) <;> (try refine ev_ ?_)) | with_reducible exact ti_)
     all_goals try (exfalso; omega)
     all_goals
      rw [if_pos hal0.symm]
      exact ⟨by simp only [AV.bd, qch], rfl⟩
 ·have hcd : decide (t.con = []) = false := decide_eq_false hc
  rw [if_neg hc]
  have hk1 : IntKind.i64.wrap (k + 1) = k + 1 := q7 (by omega) (by omega)
  simp only
  repeat' (first | refine vs_ ?_ | ((first | refine vr_ ?_ | fail) <;> (try simp only [hcd, w1, go_sem, ↓reduceIte])) | ((first | (refine cs_ ?_ ?_ <;> intro hc) | refine cj_ ?_ | simp (disch := omega) only [encs_getN, qb]) <;> (try refine ev_ ?_)) | with_reducible exact ti_)
  refine ⟨⟨by omega, by unfold maxLen; omega⟩, ?_⟩
  repeat' (first | refine vs_ ?_ | ((first | refine vr_ ?_ | fail) <;> (try simp only [hcd, w1, go_sem, ↓reduceIte])) | ((first | (refine cs_ ?_ ?_ <;> intro hc) | refine cj_ ?_ | simp (disch := omega) only [encs_getN, qb]) <;> (try refine ev_ ?_)) | with_reducible exact ti_)
  refine qm (S := Nat) (fun i => i ≤ t.args.length ∧ ∀ j, j < i → 0 ≤ (brun s (t.args.take j) (lf - 1) (k + 1)).1) (plSt R b s t lf k) (fun i => t.args.length - i) ?_ fun i hi => ?_
  ·refine qj 0 [0, 1, 2, 3, 4] ⟨Nat.zero_le _, fun j hj => by omega⟩ rfl (by simp) ?_ ?_ ?_ <;> simp only [plSt, List.take_zero, brun, gE_0, zY] <;> (try refine ev_ ?_) <;> (try with_reducible exact ti_) <;> (try simp (disch := omega) only [qb, and_true, true_and])
   all_goals
    rw [show List.replicate t.args.length (AV.agg [AV.str [], AV.int IntKind.i64 0, AV.nils]) = gE [] t.args.length from rfl]
    exact ⟨qtz _ _ _, by rw [qo0]⟩
  ·obtain ⟨hi, hpos⟩ := hi
   have htl : (t.args.take i).length = i := by rw [List.length_take]; omega
   have hrng := qoi hs (k + 1) (t.args.take i) (lf - 1) (fun j hj => by
    rw [htl] at hj
    rw [List.take_take, Nat.min_eq_left (by omega)]
    exact hpos j hj) (by omega) (by omega)
   have hbl := qol s (t.args.take i) (lf - 1) (k + 1)
   rw [htl] at hbl
   unfold plSt
   by_cases hlt : i < t.args.length
   ·have hsn := ql6 s (t.args.getD i Y0) (k + 1) (t.args.take i) (lf - 1)
    rw [← qp8 hlt] at hsn
    obtain ⟨B, hB⟩ : ∃ B, brun s (t.args.take i) (lf - 1) (k + 1) = B := ⟨_, rfl⟩
    have hpi : (brun s (t.args.take i) (lf - 1) (k + 1)).1 = B.1 := by rw [hB]
    by_cases hneg : B.1 < 0
    ·rw [qqd hlt hpos (by rw [hB]; exact hneg)]
     rw [hB]
     have hnd : decide (B.1 < 0) = true := decide_eq_true hneg
     repeat' (first | refine vs_ ?_ | ((first | refine vr_ ?_ | fail) <;> (try simp (disch := first | omega | (simp only [List.length_set, List.length_append, List.length_cons, List.length_nil]; done) | (simp only [List.length_set, List.length_append, List.length_cons, List.length_nil]; omega)) only [hnd, qb, go_sem, ↓reduceIte])) | ((first | (refine cs_ ?_ ?_ <;> intro hc) | refine cj_ ?_ | simp (disch := omega) only [encs_getN, qb]) <;> (try refine ev_ ?_)) | with_reducible exact ti_)
     all_goals (exfalso; omega)
    ·have hnd : decide (B.1 < 0) = false := decide_eq_false hneg
     have hm := q6 hlt
     have hszm := qf1 hm
     have hdpm := qsy hm
     have hput := ih _ hm (qmv hb.2 _ hm) (by omega) B.1 (k + 1) (by omega) (by rw [hB] at hrng; omega) (by omega) (by have := qum t; omega)
     rw [hB] at hsn hbl ⊢
     have hset := qbef (o := B.2) (n := t.args.length) (by omega) (bput s (t.args.getD i Y0) B.1 (k + 1)).2
     rw [hbl] at hset
     have hgl := qbbt (o := B.2) (n := t.args.length) (by omega)
     repeat' (first | refine vs_ ?_ | ((first | refine vr_ ?_ | fail) <;> (try simp (disch := first | omega | (simp only [List.length_set, List.length_append, List.length_cons, List.length_nil]; done) | (simp only [List.length_set, List.length_append, List.length_cons, List.length_nil]; omega)) only [hnd, qq, qb, hk1, go_sem, ↓reduceIte])) | ((first | (refine cs_ ?_ ?_ <;> intro hc) | refine cj_ ?_ | simp (disch := omega) only [encs_getN, qb] | refine qnt 0 1 hput (by simp) ?_) <;> (try refine ev_ ?_)) | with_reducible exact ti_)
     ·have hnn : ∀ j, j < i + 1 → 0 ≤ (brun s (t.args.take j) (lf - 1) (k + 1)).1 := fun j hj => by
       by_cases hji : j = i
       ·subst hji
        rw [hB]; omega
       ·exact hpos j (by omega)
      refine qj (i + 1) [0, 1, 2, 3, 4] ⟨⟨by omega, hnn⟩, by omega⟩ rfl (by simp) ?_ ?_ ?_ <;> simp only [hsn, ← hset] <;> (try refine ev_ ?_) <;> (try with_reducible exact ti_) <;> (try simp (disch := omega) only [qb, and_true, true_and])
      ·rw [hset]; exact ⟨qtz _ _ _, by rw [qo0]⟩
      ·rw [q7 (by omega) (by omega), Int.natCast_add]; rfl
     ·exfalso; omega
   ·have hie : i = t.args.length := by omega
    subst hie
    rw [quv hpos]
    rw [List.take_length] at hbl ⊢
    obtain ⟨B, hB⟩ : ∃ B, brun s t.args (lf - 1) (k + 1) = B := ⟨_, rfl⟩
    rw [hB] at hbl ⊢
    rw [show gE B.2 t.args.length = qs B.2 by rw [← hbl, qbcb]]
    refine qds 4 rfl (qga _) ?_
    repeat' (first | refine vs_ ?_ | ((first | refine vr_ ?_ | (refine cs_ ?_ ?_ <;> intro hc) | refine cj_ ?_ | simp (disch := omega) only [encs_getN, qb]) <;> (try refine ev_ ?_)) | with_reducible exact ti_)
    all_goals try (exfalso; omega)
    all_goals
     rw [if_pos hbl]
     exact ⟨by simp only [AV.bd, qch], rfl⟩
end Go.Proofs.Ytfpobiheiloamaa
