/- Texts of this proof, joined. -/
import Derived.Test.YtfpobiheiloamaaEaz
import Derived.Test.YtfpobiheiloamaaEbb

/- substitutions: found, got -/
set_option maxRecDepth 4000
namespace Go.Proofs.Ytfpobiheiloamaa
open Go Go.RowKit Go.V
set_option linter.unusedVariables false
set_option linter.unusedSimpArgs false

theorem qd3 (v : Int) : qdp [] v = .tup [.int .i64 0, .bool false] := rfl
theorem q8u (v : Int) : qn Try.prog 115 [.sl 4 [], .int .i64 v, .fn 116 [] []] (qdp [] v) := by
 refine qd c0bm (by simp) (by simp only [go_sem]) rfl fun hw => ?_
 rw [qd3]
 repeat' (first | refine vs_ ?_ | ((first | refine vr_ ?_ | (refine cs_ ?_ ?_ <;> intro hc) | refine cj_ ?_ | simp (disch := omega) only [encs_getN, qb]) <;> (try refine ev_ ?_)) | with_reducible exact ti_)
 refine ql (S := Unit) (fun _ => True) (fun _ => (⟨[(0, .sl 4 []), (1, .int .i64 v), (2, .fn 116 [] []), (8, .int .i64 0), (9, .int .i64 0), (10, .int .i64 0)], []⟩, [])) (fun _ => 0) ?_ fun x hx => ?_
 ·refine qj () [] trivial rfl (by simp) ?_ ?_ ?_ <;> (try refine ev_ ?_) <;> (try with_reducible exact ti_) <;> (try simp (disch := omega) only [qb, and_true, true_and])
 ·repeat' (first | refine vs_ ?_ | ((first | refine vr_ ?_ | (refine cs_ ?_ ?_ <;> intro hc) | refine cj_ ?_ | simp (disch := omega) only [encs_getN, qb]) <;> (try refine ev_ ?_)) | with_reducible exact ti_)
  ·exact absurd hc (by omega)
  ·exact ⟨rfl, rfl⟩
def subH (s : List Pr) : List Ent := if s = [] then [.blk [.nils]] else [.blk [.row 1 s.length], qbo s]
theorem qgw : subH [] = [.blk [.nils]] := rfl
theorem qkf {s : List Pr} (h : s ≠ []) : subH s = [.blk [.row 1 s.length], qbo s] := by rw [subH, if_neg h]
abbrev subE (s : List Pr) : Ent := bun (subH s)
theorem qem {Q : List Ent → VO → Prop} {H' : List Ent} {r : AV} (h0 : ent H' 0 = .blk [.nils]) (hl : 0 < H'.length) (hr : r.bd 0 = true) (h : Q [subE []] (.val r)) : qd7 Q H' (.val r) :=
 ⟨[.blk [.nils]], [0], rfl, by simp, by simp, ⟨⟨hl, rfl, by rw [h0]; rfl⟩, trivial⟩, qk0 (Nat.zero_le _) _ hr, h⟩
theorem qcs {Q : List Ent → VO → Prop} {H' : List Ent} {s : List Pr} {r : AV} (k : Nat) (hs : s ≠ []) (h0 : ent H' 0 = .blk [.row k s.length]) (h1 : ent H' k = qbo s) (hk : 0 < k) (hl : k < H'.length) (hr : r.bd 0 = true) (h : Q [subE s] (.val r)) : qd7 Q H' (.val r) :=
 ⟨[.blk [.row 1 s.length], qbo s], [0, k], rfl, by simp, by simp; omega, ⟨⟨by omega, rfl, by rw [h0]; rfl⟩, ⟨hl, qey s 2, by rw [h1]; simp only [qbo, Ent.ren, qfa]⟩, trivial⟩, qk0 (Nat.zero_le _) _ hr, by rwa [subE, qkf hs] at h⟩
theorem qd1 (σ : Nat → Nat) (s : List Pr) : (qbo s).ren σ = qbo s := by simp only [qbo, Ent.ren, qfa]
theorem qdf : ∀ {H : List Ent} {i : Nat} {e : Ent}, ent H i = e → i < H.length → H.set i e = H
 | [], i, e, _, hl => by simp at hl
 | x :: r, 0, e, h, _ => by rw [← h]; rfl
 | x :: r, i + 1, e, h, hl => by
   have h' : ent r i = e := h
   rw [List.set_cons_succ, qdf h' (by simpa using hl)]
theorem qy7 (v : Int) : VCalls Try.prog 82 [.blk [.nils]] [.ptr 0 0, .int .i64 v] fun H' o => H' = [.blk [.nils]] ∧ o = .val (qdp [] v) := by
 refine qp c0bn 1 (by simp) (by simp) ?_
 rw [qd3]
 repeat' (first | refine vs_ ?_ | ((first | refine vr_ ?_ | refine qa (q8u _) fun _ => ?_ | simp (disch := omega) only [qd3] | (refine cs_ ?_ ?_ <;> intro hc) | refine cj_ ?_ | fail) <;> (try refine ev_ ?_)) | with_reducible exact ti_)
theorem qbaw {s : List Pr} (ho : risR s) (hl : s.length ≤ 100000) (v : Int) : VCalls Try.prog 82 [.blk [.row 1 s.length], qbo s] [.ptr 0 0, .int .i64 v] fun H' o => H' = [.blk [.row 1 s.length], qbo s] ∧ o = .val (qdp s v) := by
 refine qp c0bn 2 (by simp) (by simp [qbo, Ent.bd, qbc]) ?_
 rw [qdp]
 repeat' (first | refine vs_ ?_ | ((first | refine vr_ ?_ | refine qcu 1 (q6r ho hl v) ?_ (qey s 0) (qey s 0) | simp (disch := omega) only [qdp] | (refine cs_ ?_ ?_ <;> intro hc) | refine cj_ ?_ | fail) <;> (try refine ev_ ?_)) | with_reducible exact ti_)
section
variable {H : List Ent} {Q : List Ent → VO → Prop} {K : Md → AV → List Ent → Prop} {raws : List AV} {s : List Pr}
theorem qm3 (v : Int) (hq : Q H (.val (qdp [] v))) (h0 : ent H 0 = .blk [.nils] := by rfl) (hl' : 0 < H.length := by simp) : VApp Try.prog H (.fn 82 [] []) [.ptr 0 0, .int .i64 v] Q := by
 refine qc5 ?_
 rw [List.nil_append, List.append_nil]
 refine qb2 [0] (qy7 v) (by simp) ⟨⟨by omega, rfl, h0⟩, trivial⟩ rfl rfl fun H1 o ho => ?_
 obtain ⟨rfl, rfl⟩ := ho
 have : qgt H [0] [.blk [.nils]] = H := by
  show (H.set 0 (.blk [.nils])) ++ [] = H
  rw [List.append_nil, qdf h0 hl']
 rw [this]
 exact hq
theorem qfk (ho : risR s) (hl : s.length ≤ 100000) (v : Int) (hq : Q H (.val (qdp s v))) (h0 : ent H 0 = .blk [.row 1 s.length] := by rfl) (h1 : ent H 1 = qbo s := by rfl) (hl' : 1 < H.length := by simp) : VApp Try.prog H (.fn 82 [] []) [.ptr 0 0, .int .i64 v] Q := by
 refine qc5 ?_
 rw [List.nil_append, List.append_nil]
 refine qb2 [0, 1] (qbaw ho hl v) (by simp) ⟨⟨by omega, rfl, h0⟩, ⟨hl', qey s 2, by rw [h1, qd1]⟩, trivial⟩ rfl rfl fun H1 o ho => ?_
 obtain ⟨rfl, rfl⟩ := ho
 have : qgt H [0, 1] [.blk [.row 1 s.length], qbo s] = H := by
  show ((H.set 0 (.blk [.row 1 s.length])).set 1 ((qbo s).ren _)) ++ [] = H
  rw [List.append_nil, qd1, qdf h0 (by omega), qdf h1 hl']
 rw [this]
 exact hq
end
set_option maxRecDepth 4000

def getV (s : List Pr) (v : Int) : AV := .tup [encY ((qx v s).getD Y0), .bool (qx v s).isSome]
theorem qbay (k : Nat) (s : List Pr) (v : Int) : (getV s v).bd k = true := by simp only [getV, AV.bd, AV.bds, qb5, Bool.and_true, Bool.true_and]
theorem q2h (v : Int) : VCalls Try.prog 37 [.blk [.nils]] [.ptr 0 0, .int .i64 v] (qd7 fun H' o => H' = [subE []] ∧ o = .val (getV [] v)) := by
 refine qp c0bl 1 (by simp) (by simp) ?_
 repeat' (first | refine vs_ ?_ | ((first | refine vr_ ?_ | refine qm3 v ?_ | simp (disch := omega) only [qd3] | (refine cs_ ?_ ?_ <;> intro hc) | refine cj_ ?_ | simp (disch := omega) only [encs_getN, qb]) <;> (try refine ev_ ?_)) | with_reducible exact ti_)
 all_goals exact qem rfl (by simp) rfl ⟨rfl, rfl⟩
theorem qbd7 {s : List Pr} (hs : s ≠ []) (ho : risR s) (hl : s.length ≤ 100000) (v : Int) : VCalls Try.prog 37 [.blk [.row 1 s.length], qbo s] [.ptr 0 0, .int .i64 v] (qd7 fun H' o => H' = [subE s] ∧ o = .val (getV s v)) := by
 refine qp c0bl 2 (by simp) (by simp [qbo, Ent.bd, qbc]) ?_
 have hlk := qgu (v := v) ho
 have hf : qdp s v = .tup [.int .i64 (ahdR v s), .bool (qx v s).isSome] := rfl
 by_cases hin : ahdR v s < s.length ∧ (s.getD (ahdR v s) R0).v = v
 ·rw [if_pos hin] at hlk
  have hp := qe hin.1
  have hi := hin.1
  rw [hlk, Option.isSome_some] at hf
  have hg : getV s v = .tup [encY (s.getD (ahdR v s) R0).ty, .bool true] := by rw [getV, hlk]; rfl
  rw [hg]
  clear hin
  repeat' (first | refine vs_ ?_ | ((first | refine vr_ ?_ | fail) <;> (try simp only [hp, go_sem, ↓reduceIte])) | ((first | simp (disch := omega) only [hf] | simp (disch := omega) only [hp] | (refine cs_ ?_ ?_ <;> intro hc) | refine cj_ ?_ | simp (disch := omega) only [encs_getN, qb] | refine qfk ho hl v ?_) <;> (try refine ev_ ?_)) | with_reducible exact ti_)
  all_goals exact qcs 1 hs rfl rfl (by simp) (by simp) (by first | rfl | simp only [AV.bd, AV.bds, qb5, Bool.and_true]) ⟨rfl, rfl⟩
 ·rw [if_neg hin] at hlk
  rw [hlk, Option.isSome_none] at hf
  have hg : getV s v = .tup [encY Y0, .bool false] := by rw [getV, hlk]; rfl
  rw [hg]
  repeat' (first | refine vs_ ?_ | ((first | refine vr_ ?_ | refine qfk ho hl v ?_ | simp (disch := omega) only [hf] | (refine cs_ ?_ ?_ <;> intro hc) | refine cj_ ?_ | simp (disch := omega) only [encs_getN, qb]) <;> (try refine ev_ ?_)) | with_reducible exact ti_)
  all_goals exact qcs 1 hs rfl rfl (by simp) (by simp) (by first | rfl | simp only [AV.bd, AV.bds, qb5, Bool.and_true]) ⟨rfl, rfl⟩
theorem qnj {s : List Pr} (ho : risR s) (hl : s.length ≤ 100000) (v : Int) : VM Try.prog 37 (subE s) (subE s) [.ptr 0 0, .int .i64 v] (getV s v) := by
 by_cases hs : s = []
 ·subst hs
  exact qi2 (by rw [qgw]; exact q2h v) rfl
 ·exact qi2 (by have := qbd7 hs ho hl v; rwa [← qkf hs] at this) rfl
set_option maxRecDepth 4000

abbrev insF : FuncId := 85
theorem qhw (p : Pr) : (encR p).cells.length = 4 ∧ (encR p).flat := ⟨rfl, .inl ⟨rfl, rfl⟩⟩
theorem qi5 (l : List Pr) : ∀ e ∈ qh l, e.flat := fun e he => by
 obtain ⟨p, _, rfl⟩ := List.mem_map.1 he
 exact (qhw p).2
section
variable {H : List Ent} {K : Md → AV → List Ent → Prop} {args raws : List AV} {s : List Pr} {p : Pr}
theorem q24 (j : Nat) {i : Nat} (hi : i ≤ s.length) (hl : s.length ≤ 100000) (h1 : ent H j = qbo s) : Gro Try.prog H (.fn insF [] []) [.row j s.length, .int .i64 i, .lit 4 [encR p]] (some (j, qbo s)) (qbo (s.take i ++ p :: s.drop i)) (s.length + 1) := by
 refine ⟨fun q hq => by cases hq; exact ⟨by simp, h1⟩, fun H₀ h0 => ?_⟩
 have h0 : ent H₀ j = qbo s := h0 _ rfl
 have hl' := (List.getElem?_eq_some_iff.1 (qy h0 (by simp))).1
 have hv := qy5 (es := qh s) (x := encR p) (i := i) (by rw [qq]; exact hi) (by rw [qq]; omega) (qhw p) (by simp only [AV.bds, qeu, qbc, Bool.and_true]) (qi5 s)
 rw [qq] at hv
 refine qc5 ?_
 rw [List.nil_append, List.append_nil]
 refine qb2 [j] hv (by simp) ⟨⟨hl', qey s 1, by rw [h0, qd1]⟩, trivial⟩ (by simp [AV.bds, AV.bd, qeu]) (by simp only [AV.rens, AV.ren, qk1]; rfl) fun H1 o ho => ?_
 obtain ⟨rfl, rfl⟩ := ho
 have he : qh (s.take i ++ p :: s.drop i) = (qh s).take i ++ encR p :: (qh s).drop i := by simp [qh]
 refine ⟨?_, ?_⟩
 ·rw [← he]
  show (H₀.set j .dead) ++ [(qbo (s.take i ++ p :: s.drop i)).ren _] = (H₀.set j .dead) ++ [_]
  rw [qd1]
 ·show VO.val (.row (H₀.length + (1 - 1)) _) = _
  simp
theorem q10 : Gro Try.prog H (.fn insF [] []) [.nils, .int .i64 0, .lit 4 [encR p]] none (qbo [p]) 1 := by
 refine ⟨fun q hq => (by cases hq), fun H₀ h0 => ?_⟩
 refine qc5 ?_
 rw [List.nil_append, List.append_nil]
 refine qb2 [] (qk9 (qhw p)) (by simp) trivial (by simp [AV.bds, AV.bd, qeu]) (by simp only [AV.rens, AV.ren, qk1]) fun H1 o ho => ?_
 obtain ⟨rfl, rfl⟩ := ho
 refine ⟨?_, ?_⟩
 ·show H₀ ++ [(qbo [p]).ren _] = H₀ ++ [_]
  rw [qd1]
 ·show VO.val (.row (H₀.length + (0 - 0)) _) = _
  simp
theorem qbf9 (j : Nat) {i : Nat} (hi : i ≤ s.length) (hl : s.length ≤ 100000) (hq : K (.grow (some (j, qbo s)) (qbo (s.take i ++ p :: s.drop i)) (s.length + 1)) (.row H.length (s.length + 1)) (H.set j .dead ++ [qbo (s.take i ++ p :: s.drop i)])) (h1 : ent H j = qbo s := by rfl) (hr : raws = [.row j s.length, .int .i64 i, .lit 4 [encR p]] := by rfl) :
 DApp Try.prog H (.fn insF [] []) args raws K := by
 subst hr
 exact .inr (.inr (.inr ⟨_, _, _, q24 j hi hl h1, hq⟩))
theorem qbio (hq : K (.grow none (qbo [p]) 1) (.row H.length 1) (H ++ [qbo [p]])) (hr : raws = [.nils, .int .i64 0, .lit 4 [encR p]] := by rfl) : DApp Try.prog H (.fn insF [] []) args raws K := by
 subst hr
 exact .inr (.inr (.inr ⟨_, _, _, q10, hq⟩))
end
theorem qpa {s : List Pr} {v : Int} {t : Ty} (h : qu t = false) : setR s v t = (s, 1) := by rw [setR, if_neg (by simp [h])]
theorem qzh {s : List Pr} {v : Int} {t u : Ty} (h : qu t = true) (hl : qx v s = some u) : setR s v t = (s, 6) := by rw [setR, if_pos h, hl]
theorem qpi {s : List Pr} {v : Int} {t : Ty} (h : qu t = true) (hl : qx v s = none) : setR s v t = (insR v t s, 0) := by rw [setR, if_pos h, hl]
theorem q2n (v : Int) {t : Ty} (h1 : szY t ≤ 20000) (h2 : dpY t ≤ 300) : VCalls Try.prog 45 [.blk [.nils]] [.ptr 0 0, .int .i64 v, encY t] (qd7 fun H' o => H' = [subE (setR [] v t).1] ∧ o = .val (.int .i64 (setR [] v t).2)) := by
 have hLg := qcv h1 h2
 have hcp := qcw t (by omega)
 by_cases hlg : qu t = true
 ·rw [qpi hlg rfl]
  rw [hlg] at hLg
  refine qp c0bk 3 (by simp) (by simp) ?_
  repeat' (first | refine vs_ ?_ | ((first | refine vr_ ?_ | refine qa hLg fun _ => ?_ | refine qa hcp fun _ => ?_ | refine qm3 v ?_ | refine qbio (p := ⟨v, t⟩) ?_ | refine qf hLg ?_ | refine qf hcp ?_ | simp (disch := omega) only [qd3] | (refine cs_ ?_ ?_ <;> intro hc) | refine cj_ ?_ | fail) <;> (try refine ev_ ?_)) | with_reducible exact ti_)
  all_goals exact qcs (s := insR v t []) 2 (by simp [qpz]) rfl rfl (by simp) (by simp) rfl ⟨rfl, rfl⟩
 ·have hlg : qu t = false := by simpa using hlg
  rw [qpa hlg]
  rw [hlg] at hLg
  refine qp c0bk 1 (by simp) (by simp) ?_
  repeat' (first | refine vs_ ?_ | ((first | refine vr_ ?_ | refine qa hLg fun _ => ?_ | refine qf hLg ?_ | (refine cs_ ?_ ?_ <;> intro hc) | refine cj_ ?_ | fail) <;> (try refine ev_ ?_)) | with_reducible exact ti_)
  all_goals exact qem rfl (by simp) rfl ⟨rfl, rfl⟩
theorem qbh5 {s : List Pr} (hs : s ≠ []) (ho : risR s) (hl : s.length ≤ 100000) (v : Int) {t : Ty} (h1 : szY t ≤ 20000) (h2 : dpY t ≤ 300) : VCalls Try.prog 45 [.blk [.row 1 s.length], qbo s] [.ptr 0 0, .int .i64 v, encY t] (qd7 fun H' o => H' = [subE (setR s v t).1] ∧ o = .val (.int .i64 (setR s v t).2)) := by
 have hLg := qcv h1 h2
 have hcp := qcw t (by omega)
 have hA := qg6 v s
 by_cases hlg : qu t = true
 ·cases hlk : qx v s with
  | some u =>
    have hf : qdp s v = .tup [.int .i64 (ahdR v s), .bool true] := by rw [qdp, hlk]; rfl
    rw [qzh hlg hlk]
    rw [hlg] at hLg
    refine qp c0bk 2 (by simp) (by simp) ?_
    repeat' (first | refine vs_ ?_ | ((first | refine vr_ ?_ | refine qa hLg fun _ => ?_ | refine qfk ho hl v ?_ | refine qf hLg ?_ | simp (disch := omega) only [hf] | (refine cs_ ?_ ?_ <;> intro hc) | refine cj_ ?_ | fail) <;> (try refine ev_ ?_)) | with_reducible exact ti_)
    all_goals exact qcs 1 hs rfl rfl (by simp) (by simp) rfl ⟨rfl, rfl⟩
  | none =>
    have hf : qdp s v = .tup [.int .i64 (ahdR v s), .bool false] := by rw [qdp, hlk]; rfl
    rw [qpi hlg hlk]
    rw [hlg] at hLg
    refine qp c0bk 4 (by simp) (by simp) ?_
    repeat' (first | refine vs_ ?_ | ((first | refine vr_ ?_ | refine qa hLg fun _ => ?_ | refine qa hcp fun _ => ?_ | refine qfk ho hl v ?_ | refine qbf9 1 (p := ⟨v, t⟩) hA hl ?_ | refine qf hLg ?_ | refine qf hcp ?_ | simp (disch := omega) only [hf] | (refine cs_ ?_ ?_ <;> intro hc) | refine cj_ ?_ | fail) <;> (try refine ev_ ?_)) | with_reducible exact ti_)
    all_goals exact qcs (s := insR v t s) 3 (by simp [insR]) (by rw [qpw]; rfl) rfl (by simp) (by simp) rfl ⟨rfl, rfl⟩
 ·have hlg : qu t = false := by simpa using hlg
  rw [qpa hlg]
  rw [hlg] at hLg
  refine qp c0bk 2 (by simp) (by simp) ?_
  repeat' (first | refine vs_ ?_ | ((first | refine vr_ ?_ | refine qa hLg fun _ => ?_ | refine qf hLg ?_ | (refine cs_ ?_ ?_ <;> intro hc) | refine cj_ ?_ | fail) <;> (try refine ev_ ?_)) | with_reducible exact ti_)
  all_goals exact qcs 1 hs rfl rfl (by simp) (by simp) rfl ⟨rfl, rfl⟩
theorem qd0 {s : List Pr} (ho : risR s) (hl : s.length ≤ 100000) (v : Int) {t : Ty} (h1 : szY t ≤ 20000) (h2 : dpY t ≤ 300) : VM Try.prog 45 (subE s) (subE (setR s v t).1) [.ptr 0 0, .int .i64 v, encY t] (.int .i64 (setR s v t).2) := by
 by_cases hs : s = []
 ·subst hs
  exact qi2 (by rw [qgw]; exact q2n v h1 h2) (by simp [AV.bds, AV.bd, qb5])
 ·exact qi2 (by have := qbh5 hs ho hl v h1 h2; rwa [← qkf hs] at this) (by simp [AV.bds, AV.bd, qb5])

/-! a receiver: there, or none -/
def svA (b : Bool) (k : Nat) : AV := if b then .ptr k 0 else .nilp
theorem qm7 (b : Bool) (k : Nat) (σ : Nat → Nat) : (svA b k).ren σ = svA b (σ k) := by cases b <;> rfl
theorem qr0 (b : Bool) (k n : Nat) (h : k < n) : (svA b k).bd n = true := by
 cases b
 ·rfl
 ·show decide (k < n) = true
  exact decide_eq_true h
theorem qze (b : Bool) (k : Nat) : (svA b k).leaf = true := by cases b <;> rfl
theorem qu1 (b : Bool) (k : Nat) : (svA b k).cells = [svA b k] := by cases b <;> rfl
theorem q8p (b : Bool) (k : Nat) : (svA b k).isAgg = false := by cases b <;> rfl
attribute [go_sem] qm7 qze qu1 q8p
attribute [go_sem] qr0
abbrev q6e : Ent := .cus (fun _ _ _ => True)
theorem qbca {P : Program} {f : FuncId} {xs : List AV} {r : AV} (h : VM P f q6e q6e xs r) (ha : AV.bds 0 xs = true) (hr : r.bd 0 = true) : qn P f xs r := by
 refine ⟨⟨h.1, fun w M G vs hst hv => ?_⟩, ha, hr⟩
 have hlen := hst.len
 obtain rfl : G = [] := by
  cases G with
  | nil => rfl
  | cons g r => simp at hlen
 let g0 : Gh := { blk := 0, cap := 0, fp := fun _ => False }
 have hst' : St w M ([] ++ [g0]) ([] ++ [q6e]) := qge (g := g0) hst (Nat.le_refl _) (fun _ _ => rfl) (fun _ _ h => h) (fun _ _ h => .inl h) hst.Mlt (fun b hb => False.elim hb) ⟨trivial, fun _ _ _ _ _ _ => trivial⟩
 have hv' : VRs w M [g0] xs vs := by
  have := qbv (σ := id) (m := 0) (G' := [g0]) (fun i g hi hg => by omega) (fun b o h => ⟨h, rfl⟩) xs vs ha hv
  rwa [qo (σ := id) (m := 0) (fun _ _ => rfl) xs ha] at this
 have hno : ∀ b, ¬ own [g0] b := fun b ⟨j, gj, hj, hf⟩ => by
  cases j with
  | zero => simp at hj; subst hj; exact hf
  | succ j => simp at hj
 refine CallsIn.mono (h.2 w M [g0] vs hst' hv') fun e w' ho => ?_
 cases e with
 | returned x =>
   obtain ⟨M', G', H', v, ⟨rfl, hvr⟩, hx, hs, hv2⟩ := ho
   obtain rfl : v = r := by simpa using hvr
   refine ⟨M', [], [], v, ⟨rfl, rfl⟩, ⟨hx.os, hx.tape, hx.output, hx.size, fun i g h => by simp at h, hx.le, fun b hb _ => hx.out b hb (hno b), fun b hb => ?_, fun b o hm => ?_⟩, ⟨rfl, fun i g e h => by simp at h, fun i j g g' b h => by simp at h, fun i g b h => by simp at h, hs.Mlt, hs.one⟩, ?_⟩
   ·obtain ⟨j, gj, hj, _⟩ := hb
    simp at hj
   ·rcases hx.Mnew b o hm with h | h | h
    ·exact .inl h
    ·exact absurd h (hno b)
    ·exact .inr (.inr h)
   ·have := qi8 (σ := id) (m := 0) (G' := []) (fun i g hi hg => by omega) (fun b o h => ⟨h, rfl⟩) v x hr hv2
    rwa [ren_same (σ := id) (m := 0) (fun _ _ => rfl) v hr] at this
 | panicked ch =>
   obtain ⟨M', G', H', v, x, ⟨_, hvr⟩, _⟩ := ho
   cases hvr
 | outgrown => exact ho
/-! runs of it -/
def brun (s : List Pr) : List Ty → Int → Int → Int × List Ty
 | [], b, _ => (b, [])
 | x :: r, b, k => ((brun s r (bput s x b k).1 k).1, (bput s x b k).2 :: (brun s r (bput s x b k).1 k).2)
theorem qoe (s : List Pr) : ∀ (l : List Ty) (b k : Int), (brun s l b k).2.length = l.length
 | [], _, _ => rfl
 | x :: r, b, k => by rw [brun, List.length_cons, List.length_cons, qoe s r]
theorem qlr (s : List Pr) (x : Ty) (k : Int) : ∀ (l : List Ty) (b : Int), brun s (l ++ [x]) b k = ((bput s x (brun s l b k).1 k).1, (brun s l b k).2 ++ [(bput s x (brun s l b k).1 k).2])
 | [], b => by simp [brun]
 | y :: r, b => by rw [List.cons_append, brun, qlr s x k r, brun]; rfl
theorem qh1 (s : List Pr) (k : Int) (r : List Ty) : ∀ (l : List Ty) (b : Int), (∀ j, j < l.length → 0 ≤ (brun s (l.take j) b k).1) → qb8 s (l ++ r) b k = ((qb8 s r (brun s l b k).1 k).1, (qb8 s r (brun s l b k).1 k).2.map ((brun s l b k).2 ++ ·))
 | [], b, _ => by simp [brun]
 | x :: l, b, h => by
   have h0 := h 0 (by simp)
   rw [List.take_zero, brun] at h0
   have h1 := qh1 s k r l (bput s x b k).1 fun j hj => by
    have := h (j + 1) (by simpa using hj)
    rwa [List.take_succ_cons, brun] at this
   rw [List.cons_append, qb8, if_neg (by omega), h1, brun]
   simp only [Option.map_map]
   rfl
theorem qrs {s : List Pr} {l : List Ty} {b k : Int} (h : ∀ j, j < l.length → 0 ≤ (brun s (l.take j) b k).1) : qb8 s l b k = ((brun s l b k).1, some (brun s l b k).2) := by
 have := qh1 s k [] l b h
 rw [List.append_nil] at this
 rw [this, qb8]; simp
theorem qqb {s : List Pr} {l : List Ty} {b k : Int} {i : Nat} (hi : i < l.length) (h : ∀ j, j < i → 0 ≤ (brun s (l.take j) b k).1) (hn : (brun s (l.take i) b k).1 < 0) : qb8 s l b k = ((brun s (l.take i) b k).1, none) := by
 have h2 : (l.take i).length = i := by rw [List.length_take]; omega
 have := qh1 s k (l.drop i) (l.take i) b fun j hj => by
  rw [h2] at hj
  rw [List.take_take, Nat.min_eq_left (by omega)]
  exact h j hj
 rw [List.take_append_drop] at this
 rw [this, List.drop_eq_getElem_cons hi, qb8, if_pos hn]; rfl
theorem qor {s : List Pr} (hs : okR s) (k : Int) : ∀ (l : List Ty) (b : Int), (∀ j, j < l.length → 0 ≤ (brun s (l.take j) b k).1) → -4096 ≤ b → b ≤ 4096 → -4096 ≤ (brun s l b k).1 ∧ (brun s l b k).1 ≤ 4096
 | [], b, _, h0, h1 => ⟨h0, h1⟩
 | x :: r, b, h, h0, h1 => by
   have hb := h 0 (by simp)
   have hb : 0 ≤ b := hb
   have := qo9 hs x b k hb h1
   rw [brun]
   exact qor hs k r _ (fun j hj => by
    have := h (j + 1) (by simpa using hj)
    rwa [List.take_succ_cons, brun] at this) this.1 this.2
def gE (o : List Ty) (n : Nat) : List AV := qs o ++ List.replicate (n - o.length) zY
theorem qbiv {o : List Ty} {n : Nat} (h : o.length ≤ n) : (gE o n).length = n := by rw [gE, List.length_append, q6, List.length_replicate]; omega
theorem gE_0 (n : Nat) : gE [] n = List.replicate n zY := rfl
theorem qbhy (o : List Ty) : gE o o.length = qs o := by rw [gE, Nat.sub_self, List.replicate_zero, List.append_nil]
theorem qbco {o : List Ty} {n : Nat} (h : o.length < n) (x : Ty) : (gE o n).set o.length (encY x) = gE (o ++ [x]) n := by
 obtain ⟨k, hk⟩ : ∃ k, n - o.length = k + 1 := ⟨n - o.length - 1, by omega⟩
 have hk2 : n - (o ++ [x]).length = k := by rw [List.length_append, List.length_singleton]; omega
 rw [gE, gE, hk, hk2, List.replicate_succ, ← qe3, List.set_append_right _ _ (by rw [q6]; omega), q6, Nat.sub_self, List.set_cons_zero, List.append_assoc]
 rfl
theorem qu6 (k : Nat) (o : List Ty) (n : Nat) : AV.bds k (gE o n) = true := by
 rw [gE, qf7, qci, qdn]
 simp [zY, AV.bd, AV.bds]
theorem qo7 (σ : Nat → Nat) (o : List Ty) (n : Nat) : AV.rens σ (gE o n) = gE o n := qo (m := 0) (fun i hi => by omega) _ (qu6 0 o n)
attribute [go_sem] qu6 qo7
set_option maxRecDepth 4000

theorem qe0 {f : FuncId} {args : List AV} {r r' : AV} (h : qn Try.prog f args r) (e : r = r') : qn Try.prog f args r' := e ▸ h
abbrev blE (b : Bool) (c : Nat) (lf : Int) : Ent := .blk [svA b c, .int .i64 lf]
theorem qbfr (b : Bool) (c : Nat) (lf : Int) (n : Nat) (h : c < n) : (blE b c lf).bd n = true := by simp only [blE, Ent.bd, AV.bds, qr0 b c n h, AV.bd, Bool.and_true]
theorem qur (b : Bool) (c : Nat) (lf : Int) (σ : Nat → Nat) : (blE b c lf).ren σ = blE b (σ c) lf := by simp only [blE, Ent.ren, AV.rens, qm7, AV.ren]
abbrev putF : FuncId := 78
def qbgh (R : World → (Nat → Nat → Prop) → Gh → Prop) (b : Bool) (t : Ty) (lf k lf' : Int) (t' : Ty) : Prop :=
 VCalls Try.prog putF [blE b 1 lf, .cus R] [.ptr 0 0, encY t, .int .i64 k] fun H' o => H' = [blE b 1 lf', .cus R] ∧ o = .val (encY t')
section
variable {R : World → (Nat → Nat → Prop) → Gh → Prop} {b : Bool} {s : List Pr} {t t' : Ty} {lf k lf' : Int} {H : List Ent} {Q : List Ent → VO → Prop}
theorem qnl (a c : Nat) (h : qbgh R b t lf k lf' t') (hac : a ≠ c) (hq : Q (H.set a (blE b c lf')) (.val (encY t'))) (h0 : ent H a = blE b c lf := by rfl) (h1 : ent H c = .cus R := by rfl) (ha : a < H.length := by simp) (hc : c < H.length := by simp) :
 VApp Try.prog H (.fn putF [] []) [.ptr a 0, encY t, .int .i64 k] Q := by
 refine qc5 ?_
 rw [List.nil_append, List.append_nil]
 refine qb2 [a, c] h (by simp [hac]) ⟨⟨ha, qbfr _ _ _ _ (by simp), by rw [h0, qur]; rfl⟩, ⟨hc, rfl, by rw [h1]; rfl⟩, trivial⟩ (by simp only [AV.bds, AV.bd, qb5, Bool.and_true]; rfl) (by simp only [AV.rens, AV.ren, qko]; rfl) fun H1 o ho => ?_
 obtain ⟨rfl, rfl⟩ := ho
 have e1 : qgt H [a, c] [blE b 1 lf', .cus R] = H.set a (blE b c lf') := by
  show ((H.set a ((blE b 1 lf').ren _)).set c (.cus R)) ++ [] = _
  rw [List.append_nil, qur]
  have h1' : ent (H.set a (blE b (sg' [a, c] H.length 1) lf')) c = .cus R := by
   rw [← h1]
   exact qp9 hac
  exact qdf h1' (by simpa using hc)
 rw [e1]
 simp only [VO.ren, qko]
 exact hq
theorem q4n (hG : VM Try.prog 37 (.cus R) (.cus R) [svA b 0, .int .i64 k] (getV s k)) {K : Md → AV → List Ent → Prop} {raws : List AV} (hq : K (.meth 1 (.cus R) (.cus R)) (getV s k) H) (h1 : ent H 1 = .cus R := by rfl) (hl : 1 < H.length := by simp) :
 DApp Try.prog H (.fn 37 [] []) [svA b 1, .int .i64 k] raws K := by
 refine .inr (.inr (.inl ⟨getV s k, 1, .cus R, .cus R, ⟨by simp, h1, fun H₀ h0 => ?_⟩, ?_⟩))
 ·have hl0 := (List.getElem?_eq_some_iff.1 (qy h0 (by simp))).1
  exact qcu 1 hG ⟨rfl, rfl⟩ rfl rfl hl0 h0 (qbay 0 _ _) (by simp only [AV.rens, qm7, AV.ren]; rfl) (by simp only [AV.bds, qr0 b 0 1 (by omega), AV.bd, Bool.and_true])
 ·rw [qdf h1 hl]
  exact hq
end
theorem qp3 {l : List Ty} {i : Nat} (h : i < l.length) : l.take (i + 1) = l.take i ++ [l.getD i Y0] := by
 rw [List.take_add_one, List.getD_eq_getElem?_getD, List.getElem?_eq_getElem h]; rfl
def plSt (R : World → (Nat → Nat → Prop) → Gh → Prop) (b : Bool) (s : List Pr) (t : Ty) (lf k : Int) (i : Nat) : AF × List Ent :=
 (⟨[(0, .ptr 0 0), (2, .int .i64 k), (4, .ptr 2 0), (6, .ptr 3 0), (9, .row 4 t.args.length), (57, .int .i64 t.args.length), (58, .int .i64 i)], []⟩,
   [blE b 1 (brun s (t.args.take i) (lf - 1) (k + 1)).1, .cus R, .blk (yc t), .blk [.str [], .int .i64 0, .nils], .mrow 3 (gE (brun s (t.args.take i) (lf - 1) (k + 1)).2 t.args.length)])
theorem qbb0 {R : World → (Nat → Nat → Prop) → Gh → Prop} {b : Bool} {s : List Pr} (hG : ∀ v, VM Try.prog 37 (.cus R) (.cus R) [svA b 0, .int .i64 v] (getV s v)) (hs : okR s) :
 ∀ t, bare t → szY t ≤ 20000 → ∀ lf k : Int, 0 ≤ lf → lf ≤ 4096 → 0 ≤ k → k + dpY t ≤ 1000 → qbgh R b t lf k (bput s t lf k).1 (bput s t lf k).2 := by
 refine Ty.ind fun t ih hb hz lf k h0 h1 h2 h3 => ?_
 refine qp c0bj 2 (by simp) (by simp) ?_
 rw [q5l]
 rw [q3y] at hb
 have hsz := qgo t
 have hal := qgy t.args
 have w1 : IntKind.i64.wrap (lf - 1) = lf - 1 := qba (by omega) (by omega)
 by_cases hc : t.con = []
 ·have hcd : decide (t.con = []) = true := decide_eq_true hc
  have hargs := hb.1 hc
  rw [if_pos hc]
  cases hlk : qx t.var s with
  | some u =>
    have hu := qfl hs hlk
    have hg : getV s t.var = .tup [encY u, .bool true] := by rw [getV, hlk]; rfl
    have hS : qn Try.prog 110 [encY u] (.int .i64 (szY u)) := qe0 (qqw u) (by rw [qmn u 0 1 (by omega) (by omega)]; simp)
    have hD : qn Try.prog 111 [encY u] (.int .i64 (dpY u)) := qe0 (qnb u) (by rw [qlu u 0 1 (by omega) (by omega) (by omega)]; simp only; congr 1; omega)
    have hcp := qcw u (by omega)
    have w2 : IntKind.i64.wrap (lf - szY u) = lf - szY u := qba (by omega) (by omega)
    have w3 : IntKind.i64.wrap (k + dpY u) = k + dpY u := qba (by omega) (by omega)
    simp only
    by_cases hd : 101 < k + dpY u
    ·rw [if_pos hd]
     have hdd : decide (101 < k + (dpY u : Int)) = true := decide_eq_true hd
     repeat' (first | refine vs_ ?_ | ((first | refine vr_ ?_ | fail) <;> (try simp only [hcd, hg, w2, w3, hdd, go_sem, ↓reduceIte])) | ((first | simp (disch := omega) only [hg] | (refine cs_ ?_ ?_ <;> intro hc) | refine cj_ ?_ | simp (disch := omega) only [encs_getN, qb] | refine qa hS fun _ => ?_ | refine qa hD fun _ => ?_ | refine qa hcp fun _ => ?_ | refine q4n (hG _) ?_ | refine qf hS ?_ | refine qf hD ?_ | refine qf hcp ?_) <;> (try refine ev_ ?_)) | with_reducible exact ti_)
    ·rw [if_neg hd]
     have hdd : decide (101 < k + (dpY u : Int)) = false := decide_eq_false hd
     repeat' (first | refine vs_ ?_ | ((first | refine vr_ ?_ | fail) <;> (try simp only [hcd, hg, w2, w3, hdd, go_sem, ↓reduceIte])) | ((first | simp (disch := omega) only [hg] | (refine cs_ ?_ ?_ <;> intro hc) | refine cj_ ?_ | simp (disch := omega) only [encs_getN, qb] | refine qa hS fun _ => ?_ | refine qa hD fun _ => ?_ | refine qa hcp fun _ => ?_ | refine q4n (hG _) ?_ | refine qf hS ?_ | refine qf hD ?_ | refine qf hcp ?_) <;> (try refine ev_ ?_)) | with_reducible exact ti_)
  | none =>
    have hg : getV s t.var = .tup [encY Y0, .bool false] := by rw [getV, hlk]; rfl
    have hbp : qb8 s t.args (lf - 1) (k + 1) = (lf - 1, some []) := by rw [hargs, qb8]
    rw [hbp]
    have hal0 : t.args.length = 0 := by rw [hargs]; rfl
    repeat' (first | refine vs_ ?_ | ((first | refine vr_ ?_ | fail) <;> (try simp only [hcd, hg, w1, go_sem, ↓reduceIte])) | ((first | simp (disch := omega) only [hg] | (refine cs_ ?_ ?_ <;> intro hc) | refine cj_ ?_ | simp (disch := omega) only [encs_getN, qb] | refine q4n (hG _) ?_) <;> (try refine ev_ ?_)) | with_reducible exact ti_)
    refine ql (S := Unit) (fun _ => True) (fun _ => (⟨[(0, .ptr 0 0), (2, .int .i64 k), (4, .ptr 2 0), (6, .ptr 3 0), (9, .row 5 t.args.length), (57, .int .i64 t.args.length), (58, .int .i64 (0 : Nat))], []⟩, [blE b 1 (lf - 1), .cus R, .blk (yc t), .blk [.str [], .int .i64 0, .nils], .blk (yc Y0), .mrow 3 (gE [] t.args.length)])) (fun _ => 0) ?_ fun x hx => ?_
    ·refine qj () [0, 1, 2, 3, 4, 5] trivial rfl (by simp) ?_ ?_ ?_ <;> simp only [gE_0, zY] <;> (try refine ev_ ?_) <;> (try with_reducible exact ti_) <;> (try simp (disch := omega) only [qb, and_true, true_and])
     all_goals
      rw [show List.replicate t.args.length (AV.agg [AV.str [], AV.int IntKind.i64 0, AV.nils]) = gE [] t.args.length from rfl]
      exact ⟨qu6 _ _ _, by rw [qo7]⟩
    ·rw [show gE [] t.args.length = qs [] by rw [hal0]; rfl]
     refine qdt 5 rfl (qf5 _) ?_
     repeat' (first | refine vs_ ?_ | ((first | refine vr_ ?_ | (refine cs_ ?_ ?_ <;> intro hc) | refine cj_ ?_ | simp (disch := omega) only [encs_getN, qb]) <;> (try refine ev_ ?_)) | with_reducible exact ti_)
     all_goals try (exfalso; omega)
     all_goals
      rw [if_pos hal0.symm]
      exact ⟨by simp only [AV.bd, qci], rfl⟩
 ·have hcd : decide (t.con = []) = false := decide_eq_false hc
  rw [if_neg hc]
  have hk1 : IntKind.i64.wrap (k + 1) = k + 1 := qba (by omega) (by omega)
  simp only
  repeat' (first | refine vs_ ?_ | ((first | refine vr_ ?_ | fail) <;> (try simp only [hcd, w1, go_sem, ↓reduceIte])) | ((first | (refine cs_ ?_ ?_ <;> intro hc) | refine cj_ ?_ | simp (disch := omega) only [encs_getN, qb]) <;> (try refine ev_ ?_)) | with_reducible exact ti_)
  refine ⟨⟨by omega, by unfold maxLen; omega⟩, ?_⟩
  repeat' (first | refine vs_ ?_ | ((first | refine vr_ ?_ | fail) <;> (try simp only [hcd, w1, go_sem, ↓reduceIte])) | ((first | (refine cs_ ?_ ?_ <;> intro hc) | refine cj_ ?_ | simp (disch := omega) only [encs_getN, qb]) <;> (try refine ev_ ?_)) | with_reducible exact ti_)
  refine ql (S := Nat) (fun i => i ≤ t.args.length ∧ ∀ j, j < i → 0 ≤ (brun s (t.args.take j) (lf - 1) (k + 1)).1) (plSt R b s t lf k) (fun i => t.args.length - i) ?_ fun i hi => ?_
  ·refine qj 0 [0, 1, 2, 3, 4] ⟨Nat.zero_le _, fun j hj => by omega⟩ rfl (by simp) ?_ ?_ ?_ <;> simp only [plSt, List.take_zero, brun, gE_0, zY] <;> (try refine ev_ ?_) <;> (try with_reducible exact ti_) <;> (try simp (disch := omega) only [qb, and_true, true_and])
   all_goals
    rw [show List.replicate t.args.length (AV.agg [AV.str [], AV.int IntKind.i64 0, AV.nils]) = gE [] t.args.length from rfl]
    exact ⟨qu6 _ _ _, by rw [qo7]⟩
  ·obtain ⟨hi, hpos⟩ := hi
   have htl : (t.args.take i).length = i := by rw [List.length_take]; omega
   have hrng := qor hs (k + 1) (t.args.take i) (lf - 1) (fun j hj => by
    rw [htl] at hj
    rw [List.take_take, Nat.min_eq_left (by omega)]
    exact hpos j hj) (by omega) (by omega)
   have hbl := qoe s (t.args.take i) (lf - 1) (k + 1)
   rw [htl] at hbl
   unfold plSt
   by_cases hlt : i < t.args.length
   ·have hsn := qlr s (t.args.getD i Y0) (k + 1) (t.args.take i) (lf - 1)
    rw [← qp3 hlt] at hsn
    obtain ⟨B, hB⟩ : ∃ B, brun s (t.args.take i) (lf - 1) (k + 1) = B := ⟨_, rfl⟩
    have hpi : (brun s (t.args.take i) (lf - 1) (k + 1)).1 = B.1 := by rw [hB]
    by_cases hneg : B.1 < 0
    ·rw [qqb hlt hpos (by rw [hB]; exact hneg)]
     rw [hB]
     have hnd : decide (B.1 < 0) = true := decide_eq_true hneg
     repeat' (first | refine vs_ ?_ | ((first | refine vr_ ?_ | fail) <;> (try simp (disch := first | omega | (simp only [List.length_set, List.length_append, List.length_cons, List.length_nil]; done) | (simp only [List.length_set, List.length_append, List.length_cons, List.length_nil]; omega)) only [hnd, qb, go_sem, ↓reduceIte])) | ((first | (refine cs_ ?_ ?_ <;> intro hc) | refine cj_ ?_ | simp (disch := omega) only [encs_getN, qb]) <;> (try refine ev_ ?_)) | with_reducible exact ti_)
     all_goals (exfalso; omega)
    ·have hnd : decide (B.1 < 0) = false := decide_eq_false hneg
     have hm := q7 hlt
     have hszm := qga hm
     have hdpm := qtz hm
     have hput := ih _ hm (ql1 hb.2 _ hm) (by omega) B.1 (k + 1) (by omega) (by rw [hB] at hrng; omega) (by omega) (by have := qse t; omega)
     rw [hB] at hsn hbl ⊢
     have hset := qbco (o := B.2) (n := t.args.length) (by omega) (bput s (t.args.getD i Y0) B.1 (k + 1)).2
     rw [hbl] at hset
     have hgl := qbiv (o := B.2) (n := t.args.length) (by omega)
     repeat' (first | refine vs_ ?_ | ((first | refine vr_ ?_ | fail) <;> (try simp (disch := first | omega | (simp only [List.length_set, List.length_append, List.length_cons, List.length_nil]; done) | (simp only [List.length_set, List.length_append, List.length_cons, List.length_nil]; omega)) only [hnd, qr, qb, hk1, go_sem, ↓reduceIte])) | ((first | (refine cs_ ?_ ?_ <;> intro hc) | refine cj_ ?_ | simp (disch := omega) only [encs_getN, qb] | refine qnl 0 1 hput (by simp) ?_) <;> (try refine ev_ ?_)) | with_reducible exact ti_)
     ·have hnn : ∀ j, j < i + 1 → 0 ≤ (brun s (t.args.take j) (lf - 1) (k + 1)).1 := fun j hj => by
       by_cases hji : j = i
       ·subst hji
        rw [hB]; omega
       ·exact hpos j (by omega)
      refine qj (i + 1) [0, 1, 2, 3, 4] ⟨⟨by omega, hnn⟩, by omega⟩ rfl (by simp) ?_ ?_ ?_ <;> simp only [hsn, ← hset] <;> (try refine ev_ ?_) <;> (try with_reducible exact ti_) <;> (try simp (disch := omega) only [qb, and_true, true_and])
      ·rw [hset]; exact ⟨qu6 _ _ _, by rw [qo7]⟩
      ·rw [qba (by omega) (by omega), Int.natCast_add]; rfl
     ·exfalso; omega
   ·have hie : i = t.args.length := by omega
    subst hie
    rw [qrs hpos]
    rw [List.take_length] at hbl ⊢
    obtain ⟨B, hB⟩ : ∃ B, brun s t.args (lf - 1) (k + 1) = B := ⟨_, rfl⟩
    rw [hB] at hbl ⊢
    rw [show gE B.2 t.args.length = qs B.2 by rw [← hbl, qbhy]]
    refine qdt 4 rfl (qf5 _) ?_
    repeat' (first | refine vs_ ?_ | ((first | refine vr_ ?_ | (refine cs_ ?_ ?_ <;> intro hc) | refine cj_ ?_ | simp (disch := omega) only [encs_getN, qb]) <;> (try refine ev_ ?_)) | with_reducible exact ti_)
    all_goals try (exfalso; omega)
    all_goals
     rw [if_pos hbl]
     exact ⟨by simp only [AV.bd, qci], rfl⟩
end Go.Proofs.Ytfpobiheiloamaa
