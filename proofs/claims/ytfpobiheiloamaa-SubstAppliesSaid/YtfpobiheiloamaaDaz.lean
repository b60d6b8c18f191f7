/- Texts of this proof, joined. -/
import Derived.Test.YtfpobiheiloamaaDax
import Derived.Test.YtfpobiheiloamaaDay

/- substitutions: a type in new memory; the search; the row of pairs that a substitution is -/
set_option maxRecDepth 4000
namespace Go.Proofs.Ytfpobiheiloamaa
open Go Go.RowKit Go.V
set_option linter.unusedVariables false
set_option linter.unusedSimpArgs false

def zY : AV := .agg [.str [], .int .i64 0, .nils]
def cpE (l : List Ty) (i : Nat) : List AV := qr (l.take i) ++ List.replicate (l.length - i) zY
theorem q6i {l : List Ty} {i : Nat} (h : i ≤ l.length) : (cpE l i).length = l.length := by
 rw [cpE, List.length_append, q6, List.length_take, List.length_replicate]; omega
theorem qbew (l : List Ty) : cpE l 0 = List.replicate l.length zY := by rw [cpE, List.take_zero, qr, Nat.sub_zero]; rfl
theorem q9h (l : List Ty) : cpE l l.length = qr l := by rw [cpE, List.take_length, Nat.sub_self, List.replicate_zero, List.append_nil]
theorem qtg {l : List Ty} {i : Nat} (h : i < l.length) : (cpE l i).set i (encY (l.getD i Y0)) = cpE l (i + 1) := by
 have h1 : l.take (i + 1) = l.take i ++ [l.getD i Y0] := by
  rw [List.take_add_one, List.getD_eq_getElem?_getD, List.getElem?_eq_getElem h]; rfl
 have h2 : (qr (l.take i)).length = i := by rw [q6, List.length_take]; omega
 obtain ⟨k, hk⟩ : ∃ k, l.length - i = k + 1 := ⟨l.length - i - 1, by omega⟩
 have hk2 : l.length - (i + 1) = k := by omega
 rw [cpE, cpE, hk, hk2, List.replicate_succ, h1, ← qeu, List.set_append_right _ _ (by omega), h2, Nat.sub_self, List.set_cons_zero, List.append_assoc]
 rfl
theorem qoc (k : Nat) (l : List Ty) (i : Nat) : AV.bds k (cpE l i) = true := by
 rw [cpE, qfu, qch, qdl]
 simp [zY, AV.bd, AV.bds]
theorem qn4 (σ : Nat → Nat) (l : List Ty) (i : Nat) : AV.rens σ (cpE l i) = cpE l i := qo (m := 0) (fun i hi => by omega) _ (qoc 0 l i)
attribute [go_sem] qoc qn4
theorem qfv (l : List Ty) : ∀ v ∈ qr l, v.flat := fun v hv => by
 rw [qbt] at hv
 obtain ⟨t, _, rfl⟩ := List.mem_map.1 hv
 exact .inl ⟨qpc t, qq4 t⟩
def cpSt (t : Ty) (i : Nat) : AF × List Ent := (⟨[(1, .ptr 0 0), (2, .ptr 1 0), (3, .row 2 t.args.length), (11, .sl 3 (qr t.args)), (12, .int .i64 t.args.length), (13, .int .i64 i)], []⟩, [.blk (yc t), .blk [.str [], .int .i64 0, .nils], .mrow 3 (cpE t.args i)])
theorem qcu : ∀ t, szY t ≤ 1000000 → qm Try.prog 83 [encY t] (encY t) := by
 refine Ty.ind fun t ih hb => ?_
 refine qd c0bq (by simp) (by simp only [go_sem]) (qbu 0 _) fun hw => ?_
 have hk := qb2 hw.1
 have hsz := qgg t
 have hal := qg3 t.args
 have ih' : ∀ i, i < t.args.length → qm Try.prog 83 [encY (t.args.getD i Y0)] (encY (t.args.getD i Y0)) := fun i hi => ih _ (q7 hi) (by have := qef (q7 hi); omega)
 repeat' (first | refine vs_ ?_ | ((first | refine vr_ ?_ | (refine cs_ ?_ ?_ <;> intro hc) | refine cj_ ?_ | simp (disch := omega) only [encs_getN, qb]) <;> (try refine ev_ ?_)) | with_reducible exact ti_)
 refine ql (S := Nat) (fun i => i ≤ t.args.length) (cpSt t) (fun i => t.args.length - i) ?_ fun i hi => ?_
 ·refine qj 0 [0, 1, 2] (Nat.zero_le _) rfl (by simp) ?_ ?_ ?_ <;> simp only [cpSt, qbew, zY] <;> (try refine ev_ ?_) <;> (try with_reducible exact ti_) <;> (try simp (disch := omega) only [qb, and_true, true_and])
  all_goals
   rw [show List.replicate t.args.length (AV.agg [.str [], .int .i64 0, .nils]) = cpE t.args 0 from (qbew _).symm]
   exact ⟨qoc _ _ _, by rw [qn4]⟩
 ·unfold cpSt
  by_cases hlt : i < t.args.length
  ·have hc := q6i hi
   repeat' (first | refine vs_ ?_ | ((first | refine vr_ ?_ | fail) <;> (try simp (disch := first | omega | (simp only [List.length_set, List.length_append, List.length_cons, List.length_nil]; done) | (simp only [List.length_set, List.length_append, List.length_cons, List.length_nil]; omega)) only [qq, qb, go_sem, ↓reduceIte])) | ((first | (refine cs_ ?_ ?_ <;> intro hc) | refine cj_ ?_ | simp (disch := omega) only [encs_getN, qb] | refine qa (ih' i hlt) fun _ => ?_) <;> (try refine ev_ ?_)) | with_reducible exact ti_)
   ·refine qj (i + 1) [0, 1, 2] ⟨by omega, by omega⟩ rfl (by simp) ?_ ?_ ?_ <;> simp only [cpSt, ← qtg hlt] <;> (try refine ev_ ?_) <;> (try with_reducible exact ti_) <;> (try simp (disch := omega) only [qb, and_true, true_and])
    all_goals (rw [qtg hlt]; exact ⟨qoc _ _ _, by rw [qn4]⟩)
   ·omega
  ·have hi' : i = t.args.length := by omega
   subst hi'
   rw [q9h]
   refine qd6 2 rfl (qfv _) ?_
   repeat' (first | refine vs_ ?_ | ((first | refine vr_ ?_ | (refine cs_ ?_ ?_ <;> intro hc) | refine cj_ ?_ | simp (disch := omega) only [encs_getN, qb]) <;> (try refine ev_ ?_)) | with_reducible exact ti_)
   omega
set_option maxRecDepth 4000

def cmpI (a b : Int) : Int := if a < b then -1 else if b < a then 1 else 0
theorem qbfx (p : Pr) (v : Int) : qm Try.prog 116 [encR p, .int .i64 v] (.int .i64 (cmpI p.v v)) := by
 refine qd c0bp (by simp) (by simp only [go_sem]) rfl fun hw => ?_
 repeat' (first | refine vs_ ?_ | ((first | refine vr_ ?_ | (refine cs_ ?_ ?_ <;> intro hc) | refine cj_ ?_ | fail) <;> (try refine ev_ ?_)) | with_reducible exact ti_)
 ·rw [cmpI, if_pos (by assumption)]
 ·rw [cmpI, if_neg (by omega), if_pos (by omega)]
 ·rw [cmpI, if_neg (by omega), if_neg (by omega)]
theorem qoi (a b : Int) : (cmpI a b < 0) = (a < b) := by
 rw [cmpI]; refine propext ?_
 split
 ·omega
 ·split <;> omega
theorem qlc (a b : Int) : (cmpI a b = 0) = (a = b) := by
 rw [cmpI]; refine propext ?_
 split
 ·omega
 ·split <;> omega
def qdm (s : List Pr) (v : Int) : AV := .tup [.int .i64 (ahdR v s), .bool (qu v s).isSome]
theorem qbi8 {i j : Nat} (h : i + j ≤ 1000000000) : IntKind.i64.wrap ((IntKind.u64.wrap (IntKind.i64.wrap ((i : Int) + (j : Int)))).fdiv (2 ^ 1)) = (((i + j) / 2 : Nat) : Int) := by
 have e1 : IntKind.i64.wrap ((i : Int) + (j : Int)) = (i : Int) + j := qbc (by omega) (by omega)
 have e2 : IntKind.u64.wrap ((i : Int) + (j : Int)) = (i : Int) + j := qfp (by omega) (by omega)
 rw [e1, e2, show (2 : Int) ^ 1 = 2 from rfl, Int.fdiv_eq_ediv_of_nonneg _ (by omega), qbc (by omega) (by omega)]
 omega
abbrev qbm (s : List Pr) : Ent := .mrow 4 (qi s)
theorem qff (s : List Pr) (k : Nat) : (qbm s).bd k = true := q8 k s
theorem q1s {s : List Pr} (hs : risR s) (hl : s.length ≤ 100000) (v : Int) : VM Try.prog 115 (qbm s) (qbm s) [.row 0 s.length, .int .i64 v, .fn 116 [] []] (qdm s v) := by
 refine qp c0bn 1 (by simp) (by simp) ?_
 have hA := qhv v s
 have hml : s.length ≤ maxLen := by unfold maxLen; omega
 repeat' (first | refine vs_ ?_ | ((first | refine vr_ ?_ | (refine cs_ ?_ ?_ <;> intro hc) | refine cj_ ?_ | simp (disch := omega) only [encs_getN, qb]) <;> (try refine ev_ ?_)) | with_reducible exact ti_)
 refine ql (S := Nat × Nat) (fun x => x.1 ≤ ahdR v s ∧ ahdR v s ≤ x.2 ∧ x.2 ≤ s.length) (fun x => (⟨[(0, .row 0 s.length), (1, .int .i64 v), (2, .fn 116 [] []), (8, .int .i64 s.length), (9, .int .i64 x.1), (10, .int .i64 x.2)], []⟩, [qbm s])) (fun x => x.2 - x.1) ?_ fun x hx => ?_
 ·refine qj (0, s.length) [0] ⟨Nat.zero_le _, hA, Nat.le_refl _⟩ rfl (by simp) ?_ ?_ ?_ <;> (try refine ev_ ?_) <;> (try with_reducible exact ti_) <;> (try simp (disch := omega) only [qb, and_true, true_and])
 ·obtain ⟨i, j⟩ := x
  obtain ⟨h1, h2, h3⟩ := hx
  dsimp only at h1 h2 h3
  have hh := qbi8 (i := i) (j := j) (by omega)
  by_cases hlt : i < j
  ·have hm : (i + j) / 2 < s.length := by omega
   have hp := qf hm
   have hlo : (s.getD ((i + j) / 2) R0).v < v → (i + j) / 2 + 1 ≤ ahdR v s := fun h => by
    by_cases hk : (i + j) / 2 < ahdR v s
    ·omega
    ·have := qtf (v := v) hs ((i + j) / 2) (by omega) hm; omega
   have hhi : ¬ (s.getD ((i + j) / 2) R0).v < v → ahdR v s ≤ (i + j) / 2 := fun h => by
    by_cases hk : (i + j) / 2 < ahdR v s
    ·exact absurd (qnh v s _ hk) h
    ·omega
   have hw1 : IntKind.i64.wrap ((((i + j) / 2 : Nat) : Int) + 1) = (((i + j) / 2 + 1 : Nat) : Int) := by rw [qbc (by omega) (by omega)]; omega
   repeat' (first | refine vs_ ?_ | ((first | refine vr_ ?_ | fail) <;> (try simp only [hh, hp, hw1, Int.toNat_natCast, qoi, go_sem, ↓reduceIte])) | ((first | simp (disch := omega) only [hh, Int.toNat_natCast] | simp (disch := omega) only [hp] | simp (disch := omega) only [qoi] | (refine cs_ ?_ ?_ <;> intro hc) | refine cj_ ?_ | simp (disch := omega) only [encs_getN, qb] | refine qa (qbfx _ _) fun _ => ?_) <;> (try refine ev_ ?_)) | with_reducible exact ti_)
   all_goals try (exfalso; omega)
   ·refine qj ((i + j) / 2 + 1, j) [0] ⟨⟨hlo (by assumption), h2, h3⟩, by dsimp only; omega⟩ rfl (by simp) ?_ ?_ ?_ <;> (try refine ev_ ?_) <;> (try with_reducible exact ti_) <;> (try simp (disch := omega) only [qb, and_true, true_and])
   ·refine qj (i, (i + j) / 2) [0] ⟨⟨h1, hhi (by assumption), by dsimp only; omega⟩, by dsimp only; omega⟩ rfl (by simp) ?_ ?_ ?_ <;> (try refine ev_ ?_) <;> (try with_reducible exact ti_) <;> (try simp (disch := omega) only [qb, and_true, true_and])
  ·have hij : i = ahdR v s := by omega
   by_cases hin : i < s.length
   ·have hp := qf hin
    have hf : qdm s v = .tup [.int .i64 i, .bool (decide ((s.getD i R0).v = v))] := by
     rw [qdm, qgu hs, ← hij]
     by_cases hv : (s.getD i R0).v = v
     ·rw [if_pos ⟨hin, hv⟩, decide_eq_true hv]; rfl
     ·rw [if_neg (fun h => hv h.2), decide_eq_false hv]; rfl
    rw [hf]
    repeat' (first | refine vs_ ?_ | ((first | refine vr_ ?_ | fail) <;> (try simp only [hp, qlc, go_sem, ↓reduceIte])) | ((first | simp (disch := omega) only [hp] | simp (disch := omega) only [qlc] | (refine cs_ ?_ ?_ <;> intro hc) | refine cj_ ?_ | simp (disch := omega) only [encs_getN, qb] | refine qa (qbfx _ _) fun _ => ?_) <;> (try refine ev_ ?_)) | with_reducible exact ti_)
    all_goals try (exfalso; omega)
   ·have hf : qdm s v = .tup [.int .i64 i, .bool false] := by
     rw [qdm, qgu hs, ← hij, if_neg (fun h => hin h.1)]; rfl
    rw [hf]
    repeat' (first | refine vs_ ?_ | ((first | refine vr_ ?_ | (refine cs_ ?_ ?_ <;> intro hc) | refine cj_ ?_ | simp (disch := omega) only [encs_getN, qb]) <;> (try refine ev_ ?_)) | with_reducible exact ti_)
    all_goals try (exfalso; omega)
end Go.Proofs.Ytfpobiheiloamaa
