/- Texts of this proof, joined. -/
import Derived.Test.YtfpobiheiloamaaEax

/- the reference's substitutions: New, size, put, Apply -/
set_option maxRecDepth 4000
namespace Go.Proofs.Ytfpobiheiloamaa
open Go Go.RowKit Go.V
set_option linter.unusedVariables false
set_option linter.unusedSimpArgs false

def qpg (l : List Pr) : Prop := ∀ p ∈ l, szY p.ty ≤ 20000 ∧ dpY p.ty ≤ 300
theorem qh3 {s : List Pr} (h : okS s) : qpg s := fun p hp => by have := qkq h p hp; omega
theorem qh9 : ∀ (l s : List Pr) (p : Pr), addR s (l ++ [p]) = (setR (addR s l) p.v p.ty).1
 | [], s, p => rfl
 | x :: l, s, p => by rw [List.cons_append, addR, addR, qh9 l]
theorem qiz {l : List Pr} {i : Nat} (h : i < l.length) : l.take (i + 1) = l.take i ++ [l.getD i R0] := by
 rw [List.take_add_one, List.getD_eq_getElem?_getD, List.getElem?_eq_getElem h]; rfl
theorem qie {l : List Pr} {i : Nat} (h : i < l.length) (s : List Pr) : addR s (l.take (i + 1)) = (setR (addR s (l.take i)) (l.getD i R0).v (l.getD i R0).ty).1 := by rw [qiz h, qh9]
def rnV (l : List Pr) (i : Nat) : AV := if i = 0 then .nils else .sl 4 (qh (addR [] (l.take i)))
theorem q79 (l : List Pr) : rnV l 0 = .nils := rfl
theorem qbid (l : List Pr) (i : Nat) : rnV l (i + 1) = .sl 4 (qh (addR [] (l.take (i + 1)))) := rfl
theorem qz5 (l : List Pr) {i : Nat} (h : i ≠ 0) : rnV l i = .sl 4 (qh (addR [] (l.take i))) := if_neg h
theorem qz8 (k : Nat) (l : List Pr) (i : Nat) : (rnV l i).bd k = true := by unfold rnV; split <;> simp [AV.bd, qbc]
theorem q7x (σ : Nat → Nat) (l : List Pr) (i : Nat) : (rnV l i).ren σ = rnV l i := ren_same (m := 0) (fun i hi => by omega) _ (qz8 0 l i)
attribute [go_sem] qz8 q7x
theorem ql0 {l : List Pr} (hl : l.length ≤ 100000) (hs : qpg l) : qn Try.prog 34 [.sl 4 (qh l)] (.sl 4 (qh (newR l))) := by
 refine qd c0cl (by simp) (by simp only [go_sem]) (by simp only [AV.bd, qbc]) fun hw => ?_
 have hml := (qcn hw.1).1
 repeat' (first | refine vs_ ?_ | ((first | refine vr_ ?_ | (refine cs_ ?_ ?_ <;> intro hc) | refine cj_ ?_ | simp (disch := omega) only [encs_getN, qb]) <;> (try refine ev_ ?_)) | with_reducible exact ti_)
 refine ql (S := Nat) (fun i => i ≤ l.length) (fun i => (⟨[(0, .sl 4 (qh l)), (3, rnV l i), (4, .int .i64 i)], []⟩, [])) (fun i => l.length - i) ?_ fun i hi => ?_
 ·refine qj 0 [] (Nat.zero_le _) rfl (by simp) ?_ ?_ ?_ <;> simp only [q79] <;> (try refine ev_ ?_) <;> (try with_reducible exact ti_) <;> (try simp (disch := omega) only [qb, and_true, true_and])
 ·have hlen := qec (l.take i) []
  rw [List.length_take, List.length_nil] at hlen
  by_cases hlt : i < l.length
  ·have hp := hs _ (qbx hlt)
   have f := qh5 (s := addR [] (l.take i)) (v := (l.getD i R0).v) (by omega) hp.1 hp.2
   have hstep := qie hlt []
   by_cases h0 : i = 0
   ·subst h0
    simp only [q79]
    repeat' (first | refine vs_ ?_ | ((first | refine vr_ ?_ | fail) <;> (try simp (disch := first | omega | (simp only [List.length_set, List.length_append, List.length_cons, List.length_nil]; done) | (simp only [List.length_set, List.length_append, List.length_cons, List.length_nil]; omega)) only [qe, qb, qbj, qt, go_sem, ↓reduceIte])) | ((first | simp (disch := omega) only [qe] | simp (disch := omega) only [rowA] | (refine cs_ ?_ ?_ <;> intro hc) | refine cj_ ?_ | simp (disch := omega) only [encs_getN, qb] | refine qa f fun _ => ?_ | refine qf f ?_) <;> (try refine ev_ ?_)) | with_reducible exact ti_)
    ·refine qj 1 [] ⟨by omega, by omega⟩ rfl (by simp) ?_ ?_ ?_ <;> simp only [qbid, hstep] <;> (try refine ev_ ?_) <;> (try with_reducible exact ti_) <;> (try simp (disch := omega) only [qb, and_true, true_and])
     all_goals first | rfl | (rw [qdv])
    ·omega
   ·simp only [qz5 l h0]
    repeat' (first | refine vs_ ?_ | ((first | refine vr_ ?_ | fail) <;> (try simp (disch := first | omega | (simp only [List.length_set, List.length_append, List.length_cons, List.length_nil]; done) | (simp only [List.length_set, List.length_append, List.length_cons, List.length_nil]; omega)) only [qe, qb, qbj, go_sem, ↓reduceIte])) | ((first | simp (disch := omega) only [qe] | simp (disch := omega) only [rowA] | (refine cs_ ?_ ?_ <;> intro hc) | refine cj_ ?_ | simp (disch := omega) only [encs_getN, qb] | refine qa f fun _ => ?_ | refine qf f ?_) <;> (try refine ev_ ?_)) | with_reducible exact ti_)
    ·refine qj (i + 1) [] ⟨by omega, by omega⟩ rfl (by simp) ?_ ?_ ?_ <;> simp only [qbid, hstep] <;> (try refine ev_ ?_) <;> (try with_reducible exact ti_) <;> (try simp (disch := omega) only [qb, and_true, true_and])
    ·omega
  ·have hti : l.take i = l := List.take_of_length_le (by omega)
   by_cases h0 : i = 0
   ·subst h0
    have hl0 : l = [] := List.length_eq_zero_iff.1 (by omega)
    subst hl0
    simp only [q79]
    repeat' (first | refine vs_ ?_ | ((first | refine vr_ ?_ | fail) <;> (try simp only [qt, go_sem, ↓reduceIte])) | ((first | (refine cs_ ?_ ?_ <;> intro hc) | refine cj_ ?_ | simp (disch := omega) only [encs_getN, qb]) <;> (try refine ev_ ?_)) | with_reducible exact ti_)
    ·omega
    ·rfl
   ·simp only [qz5 l h0, hti]
    repeat' (first | refine vs_ ?_ | ((first | refine vr_ ?_ | (refine cs_ ?_ ?_ <;> intro hc) | refine cj_ ?_ | simp (disch := omega) only [encs_getN, qb]) <;> (try refine ev_ ?_)) | with_reducible exact ti_)
    ·omega
    ·rfl
theorem qo2 {s : List Pr} (hs : okR s) : ∀ t, sizR s t ≤ 4096 * szY t := Ty.ind fun t ih => by
 rw [qj4, qgo]
 have key : ∀ l : List Ty, (∀ x ∈ l, sizR s x ≤ 4096 * szY x) → qca s l ≤ 4096 * szYs l := fun l => by
  induction l with
  | nil => intro _; rw [qca]; omega
  | cons x r ihr =>
    intro h
    rw [qca, szYs]
    have := h x (by simp)
    have := ihr fun y hy => h y (by simp [hy])
    omega
 have h1 := key t.args ih
 split
 ·cases hl : qx t.var s with
  | some u => have := qfl hs hl; simp only; omega
  | none => simp only; omega
 ·omega
theorem qqr (s : List Pr) {l : List Ty} {i : Nat} (h : i < l.length) : qca s (l.take (i + 1)) = qca s (l.take i) + sizR s (l.getD i Y0) := by
 have h1 : l.take (i + 1) = l.take i ++ [l.getD i Y0] := by
  rw [List.take_add_one, List.getD_eq_getElem?_getD, List.getElem?_eq_getElem h]; rfl
 rw [h1]
 generalize l.take i = a
 induction a with
 | nil => simp [qca]
 | cons x a ih => rw [List.cons_append, qca, qca, ih]; omega
theorem qpb {s : List Pr} (hs : okR s) : ∀ l, qca s l ≤ 4096 * szYs l
 | [] => by rw [qca]; omega
 | x :: r => by rw [qca, szYs]; have := qo2 hs x; have := qpb hs r; omega
theorem qmf {s : List Pr} {v : Int} {u : Ty} (h : qx v s = some u) : getA s v = .tup [encY u, .bool true] := by rw [getA, h]
theorem qk6 {s : List Pr} {v : Int} (h : qx v s = none) : getA s v = .tup [encY Y0, .bool false] := by rw [getA, h]
theorem qrf {s : List Pr} (hs : okR s) : ∀ t, szY t ≤ 1000000 → qn Try.prog 80 [.sl 4 (qh s), encY t] (.int .i64 (sizR s t)) := by
 refine Ty.ind fun t ih hb => ?_
 refine qd c0cm (by simp) (by simp only [go_sem]) rfl fun hw => ?_
 have hk := qb4 hw.2.1
 have hsz := qgo t
 have f := qik s t.var
 by_cases hc : t.con = []
 ·cases hl : qx t.var s with
  | some u =>
    have hu := qfl hs hl
    rw [qmf hl] at f
    have g := qjs u
    rw [qfx u (by omega)] at g
    have e : sizR s t = szY u := by rw [qj4, if_pos hc, hl]
    rw [e]
    repeat' (first | refine vs_ ?_ | ((first | refine vr_ ?_ | fail) <;> (try simp only [hc, go_sem, ↓reduceIte])) | ((first | (refine cs_ ?_ ?_ <;> intro hc) | refine cj_ ?_ | simp (disch := omega) only [encs_getN, qb] | refine qa f fun _ => ?_ | refine qa g fun _ => ?_) <;> (try refine ev_ ?_)) | with_reducible exact ti_)
  | none =>
    rw [qk6 hl] at f
    have e : sizR s t = 1 := by rw [qj4, if_pos hc, hl]
    rw [e]
    repeat' (first | refine vs_ ?_ | ((first | refine vr_ ?_ | fail) <;> (try simp only [hc, go_sem, ↓reduceIte])) | ((first | (refine cs_ ?_ ?_ <;> intro hc) | refine cj_ ?_ | simp (disch := omega) only [encs_getN, qb] | refine qa f fun _ => ?_) <;> (try refine ev_ ?_)) | with_reducible exact ti_)
 ·have ih' : ∀ i, i < t.args.length → qn Try.prog 80 [.sl 4 (qh s), encY (t.args.getD i Y0)] (.int .i64 (sizR s (t.args.getD i Y0))) := fun i hi => ih _ (q7 hi) (by have := qga (q7 hi); omega)
  have e : sizR s t = 1 + qca s t.args := by rw [qj4, if_neg hc]
  rw [e]
  repeat' (first | refine vs_ ?_ | ((first | refine vr_ ?_ | fail) <;> (try simp only [hc, go_sem, ↓reduceIte])) | ((first | (refine cs_ ?_ ?_ <;> intro hc) | refine cj_ ?_ | simp (disch := omega) only [encs_getN, qb]) <;> (try refine ev_ ?_)) | with_reducible exact ti_)
  refine ql (S := Nat) (fun i => i ≤ t.args.length) (fun i => (⟨[(0, .sl 4 (qh s)), (3, .ptr 0 0), (7, .int .i64 ((1 + qca s (t.args.take i) : Nat) : Int)), (8, .int .i64 i)], []⟩, [.blk (yc t)])) (fun i => t.args.length - i) ?_ fun i hi => ?_
  ·refine qj 0 [0] (Nat.zero_le _) rfl (by simp) ?_ ?_ ?_ <;> simp only [List.take_zero, qca] <;> (try refine ev_ ?_) <;> (try with_reducible exact ti_) <;> (try simp (disch := omega) only [qb, and_true, true_and])
  ·by_cases hlt : i < t.args.length
   ·have h1 := qqr s hlt
    have h2 := qpb hs (t.args.take i)
    have h3 := qmb t.args i
    have h4 := qo2 hs (t.args.getD i Y0)
    have h5 := qga (q7 hlt)
    have hwr : IntKind.i64.wrap (((1 + qca s (t.args.take i) : Nat) : Int) + (sizR s (t.args.getD i Y0) : Int)) = ((1 + qca s (t.args.take (i + 1)) : Nat) : Int) := by rw [h1, qba (by omega) (by omega)]; omega
    repeat' (first | refine vs_ ?_ | ((first | refine vr_ ?_ | fail) <;> (try simp (disch := first | omega | (simp only [List.length_set, List.length_append, List.length_cons, List.length_nil]; done) | (simp only [List.length_set, List.length_append, List.length_cons, List.length_nil]; omega)) only [qr, qb, hwr, go_sem, ↓reduceIte])) | ((first | simp (disch := omega) only [qr] | simp (disch := omega) only [hwr] | (refine cs_ ?_ ?_ <;> intro hc) | refine cj_ ?_ | simp (disch := omega) only [encs_getN, qb] | refine qa (ih' i hlt) fun _ => ?_) <;> (try refine ev_ ?_)) | with_reducible exact ti_)
    ·refine qj (i + 1) [0] ⟨by omega, by omega⟩ rfl (by simp) ?_ ?_ ?_ <;> (try refine ev_ ?_) <;> (try with_reducible exact ti_) <;> (try simp (disch := omega) only [qb, and_true, true_and])
    ·omega
   ·have hti : t.args.take i = t.args := List.take_of_length_le (by omega)
    rw [hti]
    repeat' (first | refine vs_ ?_ | ((first | refine vr_ ?_ | (refine cs_ ?_ ?_ <;> intro hc) | refine cj_ ?_ | simp (disch := omega) only [encs_getN, qb]) <;> (try refine ev_ ?_)) | with_reducible exact ti_)
    omega
theorem qp5 (s : List Pr) {l : List Ty} {i : Nat} (h : i < l.length) : qs (qbp s (l.take (i + 1))) = qs (qbp s (l.take i)) ++ [encY (putY s (l.getD i Y0))] := by
 have h1 : l.take (i + 1) = l.take i ++ [l.getD i Y0] := by
  rw [List.take_add_one, List.getD_eq_getElem?_getD, List.getElem?_eq_getElem h]; rfl
 rw [h1, qfq, qfq, List.map_append, qbw, qbw, List.map_append]; rfl
def rpSt (s : List Pr) (t : Ty) (i : Nat) : AF × List Ent :=
 (⟨[(0, .sl 4 (qh s)), (3, .ptr 0 0), (4, .ptr 1 0), (7, accV 2 (qs (qbp s (t.args.take i)))), (8, .int .i64 i)], []⟩, .blk (yc t) :: .blk [.str [], .int .i64 0, .nils] :: accE 3 (qs (qbp s (t.args.take i))))
set_option maxHeartbeats 1000000 in
theorem qtn {s : List Pr} : ∀ t, szY t ≤ 1000000 → qn Try.prog 81 [.sl 4 (qh s), encY t] (encY (putY s t)) := by
 refine Ty.ind fun t ih hb => ?_
 refine qd c0cn (by simp) (by simp only [go_sem]) (qb5 0 _) fun hw => ?_
 have hk := qb4 hw.2.1
 have hsz := qgo t
 have hal := qgy t.args
 have f := qik s t.var
 by_cases hc : t.con = []
 ·cases hl : qx t.var s with
  | some u =>
    rw [qmf hl] at f
    have e : putY s t = u := by rw [qke, if_pos hc, hl]
    rw [e]
    repeat' (first | refine vs_ ?_ | ((first | refine vr_ ?_ | fail) <;> (try simp only [hc, qbr, go_sem, ↓reduceIte])) | ((first | (refine cs_ ?_ ?_ <;> intro hc) | refine cj_ ?_ | simp (disch := omega) only [encs_getN, qb] | refine qa f fun _ => ?_) <;> (try refine ev_ ?_)) | with_reducible exact ti_)
  | none =>
    rw [qk6 hl] at f
    have e : putY s t = t := by rw [qke, if_pos hc, hl]
    rw [e]
    have hy : AV.agg [.str [], .int .i64 t.var, .sl 3 (qs t.args)] = encY t := by rw [← qbr, hc]
    repeat' (first | refine vs_ ?_ | ((first | refine vr_ ?_ | fail) <;> (try simp only [hc, hy, go_sem, ↓reduceIte])) | ((first | (refine cs_ ?_ ?_ <;> intro hc) | refine cj_ ?_ | simp (disch := omega) only [encs_getN, qb] | refine qa f fun _ => ?_) <;> (try refine ev_ ?_)) | with_reducible exact ti_)
 ·have ih' : ∀ i, i < t.args.length → qn Try.prog 81 [.sl 4 (qh s), encY (t.args.getD i Y0)] (encY (putY s (t.args.getD i Y0))) := fun i hi => ih _ (q7 hi) (by have := qga (q7 hi); omega)
  have e : putY s t = .mk t.con t.var (qbp s t.args) := by rw [qke, if_neg hc]
  have hy : AV.agg [.str t.con, .int .i64 t.var, .sl 3 (qs (qbp s t.args))] = encY (.mk t.con t.var (qbp s t.args)) := by rw [encY]
  rw [e]
  repeat' (first | refine vs_ ?_ | ((first | refine vr_ ?_ | fail) <;> (try simp only [hc, go_sem, ↓reduceIte])) | ((first | (refine cs_ ?_ ?_ <;> intro hc) | refine cj_ ?_ | simp (disch := omega) only [encs_getN, qb]) <;> (try refine ev_ ?_)) | with_reducible exact ti_)
  refine ql (S := Nat) (fun i => i ≤ t.args.length) (rpSt s t) (fun i => t.args.length - i) ?_ fun i hi => ?_
  ·refine qj 0 [0, 1] (Nat.zero_le _) rfl (by simp) ?_ ?_ ?_ <;> simp only [rpSt, List.take_zero, qbp, qc9, qbk, qbi] <;> (try refine ev_ ?_) <;> (try with_reducible exact ti_) <;> (try simp (disch := omega) only [qb, and_true, true_and])
  ·have hlm : (qs (qbp s (t.args.take i))).length = i := by rw [q6, qe8, List.length_take]; omega
   have hcap : qc8 (i + 1) 48 = True := eq_true (capY (by omega))
   have hcap1 : qc8 1 48 = True := eq_true (capY (by omega))
   unfold rpSt
   by_cases hlt : i < t.args.length
   ·have hs := qp5 s hlt
    by_cases h0 : i = 0
    ·subst h0
     simp only [List.take_zero, qbp, qc9, qbk, qbi, List.nil_append] at hs ⊢
     repeat' (first | refine vs_ ?_ | ((first | refine vr_ ?_ | fail) <;> (try simp (disch := first | omega | (simp only [List.length_set, List.length_append, List.length_cons, List.length_nil]; done) | (simp only [List.length_set, List.length_append, List.length_cons, List.length_nil]; omega)) only [qr, qb, go_sem, ↓reduceIte])) | ((first | simp (disch := omega) only [qr] | simp (disch := omega) only [hcap1] | (refine cs_ ?_ ?_ <;> intro hc) | refine cj_ ?_ | simp (disch := omega) only [encs_getN, qb] | refine qa (ih' 0 hlt) fun _ => ?_) <;> (try refine ev_ ?_)) | with_reducible exact ti_)
     ·refine qj 1 [0, 1, 2] ⟨by omega, by omega⟩ rfl (by simp) ?_ ?_ ?_ <;> simp only [rpSt, hs, qg0, qg4] <;> (try refine ev_ ?_) <;> (try with_reducible exact ti_) <;> (try simp (disch := omega) only [qb, and_true, true_and])
      all_goals (rw [qdv])
     ·omega
    ·have hne : qs (qbp s (t.args.take i)) ≠ [] := fun h => h0 (by rw [← hlm, h]; rfl)
     simp only [qcf hne, qb9 hne, hlm]
     have hlm2 : (qbp s (t.args.take i)).length = i := by rw [qe8, List.length_take]; omega
     repeat' (first | refine vs_ ?_ | ((first | refine vr_ ?_ | fail) <;> (try simp (disch := first | omega | (simp only [List.length_set, List.length_append, List.length_cons, List.length_nil]; done) | (simp only [List.length_set, List.length_append, List.length_cons, List.length_nil]; omega)) only [qr, qb, hlm, hlm2, go_sem, ↓reduceIte])) | ((first | simp (disch := omega) only [qr] | simp (disch := omega) only [hcap] | (refine cs_ ?_ ?_ <;> intro hc) | refine cj_ ?_ | simp (disch := omega) only [encs_getN, qb] | refine qa (ih' i hlt) fun _ => ?_) <;> (try refine ev_ ?_)) | with_reducible exact ti_)
     ·refine qj (i + 1) [0, 1, 3] ⟨by omega, by omega⟩ rfl (by simp) ?_ ?_ ?_ <;> simp only [rpSt, hs, qez, qe1, hlm] <;> (try refine ev_ ?_) <;> (try with_reducible exact ti_) <;> (try simp (disch := omega) only [qb, and_true, true_and])
      all_goals (rw [← hs]; exact ⟨qci _ _, by rw [qhh]⟩)
     ·omega
   ·have hti : t.args.take i = t.args := List.take_of_length_le (by omega)
    rw [hti] at hlm ⊢
    by_cases h0 : t.args = []
    ·have hp : qbp s t.args = [] := by rw [h0, qbp]
     rw [hp] at hlm hy ⊢
     simp only [qc9, qbk, qbi] at hy ⊢
     repeat' (first | refine vs_ ?_ | ((first | refine vr_ ?_ | fail) <;> (try simp only [qt, hy, go_sem, ↓reduceIte])) | ((first | (refine cs_ ?_ ?_ <;> intro hc) | refine cj_ ?_ | simp (disch := omega) only [encs_getN, qb]) <;> (try refine ev_ ?_)) | with_reducible exact ti_)
     ·omega
    ·have hne : qs (qbp s t.args) ≠ [] := fun h => h0 (by have := congrArg List.length h; rw [q6, qe8] at this; exact List.length_eq_zero_iff.1 this)
     simp only [qcf hne, qb9 hne, hlm]
     repeat' (first | refine vs_ ?_ | ((first | refine vr_ ?_ | fail) <;> (try simp only [hlm, hy, go_sem, ↓reduceIte])) | ((first | (refine cs_ ?_ ?_ <;> intro hc) | refine cj_ ?_ | simp (disch := omega) only [encs_getN, qb]) <;> (try refine ev_ ?_)) | with_reducible exact ti_)
     ·omega
set_option maxRecDepth 4000

theorem q7e {s : List Pr} (hs : okR s) : ∀ t, dpY (putY s t) ≤ dpY t + 100 := Ty.ind fun t ih => by
 rw [qke]
 split
 ·cases hl : qx t.var s with
  | some u => have := qfl hs hl; simp only; omega
  | none => simp only; omega
 ·rw [qse t]
  show dpY (.mk _ _ _) ≤ _
  rw [dpY]
  have key : ∀ l : List Ty, (∀ x ∈ l, dpY (putY s x) ≤ dpY x + 100) → dpYs (qbp s l) ≤ dpYs l + 100 := fun l => by
   induction l with
   | nil => intro _; rw [qbp, dpYs]; omega
   | cons x r ihr =>
     intro h
     rw [qbp, dpYs, dpYs]
     have := h x (by simp)
     have := ihr fun y hy => h y (by simp [hy])
     omega
  have := key t.args ih
  omega
theorem qnp {s : List Pr} (hs : okS s) {t : Ty} (h1 : szY t ≤ 20000) (h2 : dpY t ≤ 300) : qn Try.prog 36 [.sl 4 (qh s), encY t] (typA (appR s t)) := by
 refine qd c0cj (by simp) (by simp only [go_sem]) (qkn _ _) fun hw => ?_
 have f1 := qek h1 h2
 cases ht : qu t with
 | false =>
   rw [ht] at f1
   have e : appR s t = (Y0, 1) := by rw [appR, if_neg (by rw [ht]; simp)]
   rw [e, typA]
   repeat' (first | refine vs_ ?_ | ((first | refine vr_ ?_ | fail) <;> (try simp only [qlp, qt, go_sem, ↓reduceIte])) | ((first | (refine cs_ ?_ ?_ <;> intro hc) | refine cj_ ?_ | fail | refine qa f1 fun _ => ?_) <;> (try refine ev_ ?_)) | with_reducible exact ti_)
 | true =>
   rw [ht] at f1
   have hz := ql8 ht
   have f2 := qrf (qkq hs) t (by omega)
   by_cases hb : 4096 < sizR s t
   ·have e : appR s t = (Y0, 2) := by rw [appR, if_pos ht, if_pos hb]
    rw [e, typA]
    repeat' (first | refine vs_ ?_ | ((first | refine vr_ ?_ | fail) <;> (try simp only [qlp, qt, go_sem, ↓reduceIte])) | ((first | (refine cs_ ?_ ?_ <;> intro hc) | refine cj_ ?_ | fail | refine qa f1 fun _ => ?_ | refine qa f2 fun _ => ?_) <;> (try refine ev_ ?_)) | with_reducible exact ti_)
    omega
   ·have hp := qks s t (qco t (qej ht))
    have hd := q7e (qkq hs) t
    have f3 := qtn (s := s) t (by omega)
    have f4 := qek (t := putY s t) (by omega) (by omega)
    cases hu : qu (putY s t) with
    | false =>
      rw [hu] at f4
      have e : appR s t = (Y0, 2) := by rw [appR, if_pos ht, if_neg hb, if_neg (by rw [hu]; simp)]
      rw [e, typA]
      repeat' (first | refine vs_ ?_ | ((first | refine vr_ ?_ | fail) <;> (try simp only [qlp, qt, go_sem, ↓reduceIte])) | ((first | (refine cs_ ?_ ?_ <;> intro hc) | refine cj_ ?_ | fail | refine qa f1 fun _ => ?_ | refine qa f2 fun _ => ?_ | refine qa f3 fun _ => ?_ | refine qa f4 fun _ => ?_) <;> (try refine ev_ ?_)) | with_reducible exact ti_)
    | true =>
      rw [hu] at f4
      have e : appR s t = (putY s t, 0) := by rw [appR, if_pos ht, if_neg hb, if_pos hu]
      rw [e, typA]
      repeat' (first | refine vs_ ?_ | ((first | refine vr_ ?_ | fail) <;> (try simp only [qlp, qt, go_sem, ↓reduceIte])) | ((first | (refine cs_ ?_ ?_ <;> intro hc) | refine cj_ ?_ | fail | refine qa f1 fun _ => ?_ | refine qa f2 fun _ => ?_ | refine qa f3 fun _ => ?_ | refine qa f4 fun _ => ?_) <;> (try refine ev_ ?_)) | with_reducible exact ti_)
      omega
def qnn (a b : Pr) : Bool := decide (a.v = b.v) && qgf a.ty b.ty
theorem qu9 (a b : Pr) : qnn a b = true ↔ a = b := by
 rw [qnn, Bool.and_eq_true, decide_eq_true_eq, qp1]
 cases a; cases b; simp
def qfg : List Pr → List Pr → Bool
 | [], [] => true
 | x :: r, y :: r' => qnn x y && qfg r r'
 | _, _ => false
theorem qh0 : ∀ l m, qfg l m = true ↔ l = m
 | [], [] => by simp [qfg]
 | [], y :: r => by rw [qfg] <;> simp
 | x :: r, [] => by rw [qfg] <;> simp
 | x :: r, y :: r' => by rw [qfg, Bool.and_eq_true, qu9, qh0 r r']; simp
theorem qso {l m : List Pr} (h : l.length ≠ m.length) : qfg l m = false := by
 cases hh : qfg l m with
 | false => rfl
 | true => rw [(qh0 l m).1 hh] at h; exact absurd rfl h
theorem qf6 {l m : List Pr} {i : Nat} (h : i < l.length) (h' : i < m.length) : qfg (l.drop i) (m.drop i) = (qnn (l.getD i R0) (m.getD i R0) && qfg (l.drop (i + 1)) (m.drop (i + 1))) := by
 rw [qtp h, qtp h', qfg]
theorem qqn (l m : List Pr) : qn Try.prog 40 [.sl 4 (qh l), .sl 4 (qh m)] (.bool (qfg l m)) := by
 refine qd c0ck (by simp) (by simp only [go_sem]) rfl fun hw => ?_
 have hl := (qcn hw.1).1
 repeat' (first | refine vs_ ?_ | ((first | refine vr_ ?_ | (refine cs_ ?_ ?_ <;> intro hc) | refine cj_ ?_ | simp (disch := omega) only [encs_getN, qb]) <;> (try refine ev_ ?_)) | with_reducible exact ti_)
 ·rw [qso (by omega)]
 have hlm : l.length = m.length := by omega
 refine ql (S := Nat) (fun i => i ≤ l.length ∧ qfg (l.drop i) (m.drop i) = qfg l m) (fun i => (⟨[(0, .sl 4 (qh l)), (1, .sl 4 (qh m)), (5, .int .i64 i)], []⟩, [])) (fun i => l.length - i) ?_ fun i hi => ?_
 ·refine qj 0 [] ⟨Nat.zero_le _, rfl⟩ rfl (by simp) ?_ ?_ ?_ <;> (try refine ev_ ?_) <;> (try with_reducible exact ti_) <;> (try simp (disch := omega) only [qb, and_true, true_and])
 ·obtain ⟨hi, ha⟩ := hi
  repeat' (first | refine vs_ ?_ | ((first | refine vr_ ?_ | fail) <;> (try simp (disch := first | omega | (simp only [List.length_set, List.length_append, List.length_cons, List.length_nil]; done) | (simp only [List.length_set, List.length_append, List.length_cons, List.length_nil]; omega)) only [qe, qb, qbj, go_sem, ↓reduceIte])) | ((first | simp (disch := omega) only [qe] | (refine cs_ ?_ ?_ <;> intro hc) | refine cj_ ?_ | simp (disch := omega) only [encs_getN, qb] | refine qa (qjj _ _) fun _ => ?_ | refine qf (qjj _ _) ?_) <;> (try refine ev_ ?_)) | with_reducible exact ti_)
  ·rename_i hc
   rw [← ha, qf6 (by omega) (by omega), qnn, decide_eq_false hc]; rfl
  ·rename_i h0 hc
   have h0 : (l.getD i R0).v = (m.getD i R0).v := by assumption
   rw [← ha, qf6 (by omega) (by omega), qnn, decide_eq_true h0, hc]; rfl
  ·rename_i h0 hc
   have h0 : (l.getD i R0).v = (m.getD i R0).v := by assumption
   refine qj (i + 1) [] ⟨⟨by omega, ?_⟩, by omega⟩ rfl (by simp) ?_ ?_ ?_ <;> (try refine ev_ ?_) <;> (try with_reducible exact ti_) <;> (try simp (disch := omega) only [qb, and_true, true_and])
   rw [← ha, qf6 (l := l) (m := m) (i := i) (by omega) (by omega), qnn, decide_eq_true h0, hc]; rfl
  ·rw [← ha, List.drop_of_length_le (by omega), List.drop_of_length_le (by omega)]; rfl
theorem qi6 (vars : List Int) {s : List Pr} {i : Nat} (h : i < s.length) : qdo vars (s.take (i + 1)) = qdo vars (s.take i) ++ (if (s.getD i R0).v ∈ vars then [s.getD i R0] else []) := by
 rw [qiz h, qdo, qdo, List.filter_append]
 congr 1
 rw [List.filter_cons]
 split <;> simp_all
theorem qsd (vars : List Int) (s : List Pr) : (qdo vars s).length ≤ s.length := List.length_filter_le _ _
set_option maxRecDepth 4000

theorem qql {t acc s : List Pr} {i : Nat} (h : i < s.length) : qd5 t acc (s.drop i) = if (appR t (s.getD i R0).ty).2 = 0 then qd5 t (acc ++ [⟨(s.getD i R0).v, (appR t (s.getD i R0).ty).1⟩]) (s.drop (i + 1)) else ([], (appR t (s.getD i R0).ty).2) := by rw [qtp h, qd5]
def thV (a : List Pr) (t : List Pr) (i : Nat) : AV := if i = 0 then accV 0 (qh a) else .sl 4 (qh (addR a (t.take i)))
theorem qlj (a t : List Pr) : thV a t 0 = accV 0 (qh a) := rfl
theorem q74 (a t : List Pr) (i : Nat) : thV a t (i + 1) = .sl 4 (qh (addR a (t.take (i + 1)))) := rfl
theorem q0c (a t : List Pr) {i : Nat} (h : i ≠ 0) : thV a t i = .sl 4 (qh (addR a (t.take i))) := if_neg h
def thE (a : List Pr) (i : Nat) : List Ent := if i = 0 then accE 4 (qh a) else []
theorem qkg (a : List Pr) : thE a 0 = accE 4 (qh a) := rfl
theorem q3x (a : List Pr) (i : Nat) : thE a (i + 1) = [] := rfl
theorem qzy (a : List Pr) {i : Nat} (h : i ≠ 0) : thE a i = [] := if_neg h
def rtS1 (s t : List Pr) (x : Nat × List Pr) : AF × List Ent := (⟨[(0, .sl 4 (qh s)), (1, .sl 4 (qh t)), (6, accV 0 (qh x.2)), (7, .int .i64 x.1)], []⟩, accE 4 (qh x.2))
def rtS2 (s t a : List Pr) (i : Nat) : AF × List Ent := (⟨[(0, .sl 4 (qh s)), (1, .sl 4 (qh t)), (6, thV a t i), (10, .int .i64 i)], []⟩, thE a i)
set_option maxHeartbeats 2000000 in
theorem qln {s t a : List Pr} (h1 : a.length ≤ 40000) (ht : qpg t) (h2 : t.length ≤ 40000) (hml : t.length ≤ maxLen) : VI Try.prog none 65 0 (.loop qpc) (blq 2 (sq Try.prog none 65 0 (k0ci_r18.seq IC.ret)
 (retq 0 [(RV.t 4, Co.sl 4), (RV.t 5, Co.id)] fun H' o => o = VO.val (rowA (addR a t, 0))))) (rtS2 s t a 0).1 (rtS2 s t a 0).2 := by
 refine ql (S := Nat) (fun i => i ≤ t.length) (rtS2 s t a) (fun i => t.length - i) ?_ fun i hi => ?_
 ·by_cases hn : a = []
  ·subst hn
   refine qj 0 [] (Nat.zero_le _) rfl (by simp) ?_ ?_ ?_ <;> simp only [rtS2, qlj, qkg, qb1, qbk, qbi] <;> (try refine ev_ ?_) <;> (try with_reducible exact ti_) <;> (try simp (disch := omega) only [qb, and_true, true_and])
  ·have hne := qea hn
   refine qj 0 [0] (Nat.zero_le _) (by simp [rtS2, qkg, qb9 hne, qxs]) (by simp) ?_ ?_ ?_ <;> simp only [rtS2, qlj, qkg, qcf hne, qb9 hne, qq] <;> (try refine ev_ ?_) <;> (try with_reducible exact ti_) <;> (try simp (disch := omega) only [qb, and_true, true_and])
 have hlen := qec (t.take i) a
 rw [List.length_take] at hlen
 unfold rtS2
 by_cases hlt : i < t.length
 ·have hp := ht _ (qbx hlt)
  have f := qh5 (s := addR a (t.take i)) (v := (t.getD i R0).v) (by omega) hp.1 hp.2
  have hstep := qie hlt a
  by_cases h0 : i = 0
  ·subst h0
   rw [List.take_zero, addR] at f hstep
   by_cases hn : a = []
   ·subst hn
    simp only [qlj, qkg, qb1, qbk, qbi]
    repeat' (first | refine vs_ ?_ | ((first | refine vr_ ?_ | fail) <;> (try simp (disch := first | omega | (simp only [List.length_set, List.length_append, List.length_cons, List.length_nil]; done) | (simp only [List.length_set, List.length_append, List.length_cons, List.length_nil]; omega)) only [qe, qb, qbj, qt, go_sem, ↓reduceIte])) | ((first | simp (disch := omega) only [qe] | simp (disch := omega) only [rowA] | (refine cs_ ?_ ?_ <;> intro hc) | refine cj_ ?_ | simp (disch := omega) only [encs_getN, qb] | refine qa f fun _ => ?_ | refine qf f ?_) <;> (try refine ev_ ?_)) | with_reducible exact ti_)
    ·refine qj 1 [] ⟨by omega, by omega⟩ rfl (by simp) ?_ ?_ ?_ <;> simp only [rtS2, q74, q3x, hstep] <;> (try refine ev_ ?_) <;> (try with_reducible exact ti_) <;> (try simp (disch := omega) only [qb, and_true, true_and])
     all_goals first | rfl | (rw [qdv])
    ·omega
   ·have hne := qea hn
    simp only [qlj, qkg, qcf hne, qb9 hne, qq]
    repeat' (first | refine vs_ ?_ | ((first | refine vr_ ?_ | fail) <;> (try simp (disch := first | omega | (simp only [List.length_set, List.length_append, List.length_cons, List.length_nil]; done) | (simp only [List.length_set, List.length_append, List.length_cons, List.length_nil]; omega)) only [qe, qb, qbj, qq, go_sem, ↓reduceIte])) | ((first | simp (disch := omega) only [qe] | simp (disch := omega) only [rowA] | (refine cs_ ?_ ?_ <;> intro hc) | refine cj_ ?_ | simp (disch := omega) only [encs_getN, qb] | refine qa f fun _ => ?_ | refine qf f ?_) <;> (try refine ev_ ?_)) | with_reducible exact ti_)
    ·refine qj 1 [] ⟨by omega, by omega⟩ (by simp [qxs]) (by simp) ?_ ?_ ?_ <;> simp only [rtS2, q74, q3x, hstep] <;> (try refine ev_ ?_) <;> (try with_reducible exact ti_) <;> (try simp (disch := omega) only [qb, and_true, true_and])
     all_goals first | rfl | (rw [qdv])
    ·omega
  ·simp only [q0c a t h0, qzy a h0]
   repeat' (first | refine vs_ ?_ | ((first | refine vr_ ?_ | fail) <;> (try simp (disch := first | omega | (simp only [List.length_set, List.length_append, List.length_cons, List.length_nil]; done) | (simp only [List.length_set, List.length_append, List.length_cons, List.length_nil]; omega)) only [qe, qb, qbj, go_sem, ↓reduceIte])) | ((first | simp (disch := omega) only [qe] | simp (disch := omega) only [rowA] | (refine cs_ ?_ ?_ <;> intro hc) | refine cj_ ?_ | simp (disch := omega) only [encs_getN, qb] | refine qa f fun _ => ?_ | refine qf f ?_) <;> (try refine ev_ ?_)) | with_reducible exact ti_)
   ·refine qj (i + 1) [] ⟨by omega, by omega⟩ rfl (by simp) ?_ ?_ ?_ <;> simp only [rtS2, q74, q3x, hstep] <;> (try refine ev_ ?_) <;> (try with_reducible exact ti_) <;> (try simp (disch := omega) only [qb, and_true, true_and])
   ·omega
 ·have hti : t.take i = t := List.take_of_length_le (by omega)
  by_cases h0 : i = 0
  ·subst h0
   have ht0 : t = [] := List.length_eq_zero_iff.1 (by omega)
   subst ht0
   rw [addR, rowA]
   by_cases hn : a = []
   ·subst hn
    simp only [qlj, qkg, qb1, qbk, qbi]
    repeat' (first | refine vs_ ?_ | ((first | refine vr_ ?_ | fail) <;> (try simp only [qt, go_sem, ↓reduceIte])) | ((first | (refine cs_ ?_ ?_ <;> intro hc) | refine cj_ ?_ | simp (disch := omega) only [encs_getN, qb]) <;> (try refine ev_ ?_)) | with_reducible exact ti_)
    ·omega
   ·have hne := qea hn
    simp only [qlj, qkg, qcf hne, qb9 hne, qq]
    repeat' (first | refine vs_ ?_ | ((first | refine vr_ ?_ | fail) <;> (try simp only [qq, go_sem, ↓reduceIte])) | ((first | (refine cs_ ?_ ?_ <;> intro hc) | refine cj_ ?_ | simp (disch := omega) only [encs_getN, qb]) <;> (try refine ev_ ?_)) | with_reducible exact ti_)
    ·omega
  ·simp only [q0c a t h0, qzy a h0, hti, rowA]
   repeat' (first | refine vs_ ?_ | ((first | refine vr_ ?_ | (refine cs_ ?_ ?_ <;> intro hc) | refine cj_ ?_ | simp (disch := omega) only [encs_getN, qb]) <;> (try refine ev_ ?_)) | with_reducible exact ti_)
   ·omega
set_option maxHeartbeats 2000000 in
theorem qp2 {s t : List Pr} (hs : okS s) (ht : okS t) (h1 : s.length ≤ 40000) (h2 : t.length ≤ 40000) : qn Try.prog 47 [.sl 4 (qh s), .sl 4 (qh t)] (rowA (behR s t)) := by
 refine qd c0ci (by simp) (by simp only [go_sem]) (qr5 _ _) fun hw => ?_
 have hml := (qcn hw.1).1
 have hmt := (qcn hw.2.1).1
 repeat' (first | refine vs_ ?_ | ((first | refine vr_ ?_ | (refine cs_ ?_ ?_ <;> intro hc) | refine cj_ ?_ | simp (disch := omega) only [encs_getN, qb]) <;> (try refine ev_ ?_)) | with_reducible exact ti_)
 refine ql (S := Nat × List Pr) (fun x => x.1 ≤ s.length ∧ qd5 t x.2 (s.drop x.1) = qd5 t [] s ∧ x.2.length = x.1) (rtS1 s t) (fun x => s.length - x.1) ?_ fun x hx => ?_
 ·refine qj (0, []) [] ⟨Nat.zero_le _, rfl, rfl⟩ rfl (by simp) ?_ ?_ ?_ <;> simp only [rtS1, qb1, qbk, qbi] <;> (try refine ev_ ?_) <;> (try with_reducible exact ti_) <;> (try simp (disch := omega) only [qb, and_true, true_and])
 ·obtain ⟨i, a⟩ := x
  obtain ⟨hi, ha, hq⟩ := hx
  dsimp only at hi ha hq
  have hcap1 : qc8 1 56 = True := eq_true (capR (by omega))
  have hcap : qc8 (a.length + 1) 56 = True := eq_true (capR (by omega))
  unfold rtS1
  by_cases hlt : i < s.length
  ·have hp := qh3 hs _ (qbx hlt)
   have f := qnp ht hp.1 hp.2
   rw [qql hlt] at ha
   by_cases he : (appR t (s.getD i R0).ty).2 = 0
   ·rw [if_pos he] at ha
    by_cases h0 : a = []
    ·subst h0
     simp only [qb1, qbk, qbi, List.nil_append] at ha ⊢
     repeat' (first | refine vs_ ?_ | ((first | refine vr_ ?_ | fail) <;> (try simp (disch := first | omega | (simp only [List.length_set, List.length_append, List.length_cons, List.length_nil]; done) | (simp only [List.length_set, List.length_append, List.length_cons, List.length_nil]; omega)) only [qe, qb, qbj, he, qe5, go_sem, ↓reduceIte])) | ((first | simp (disch := omega) only [qe] | simp (disch := omega) only [typA] | simp (disch := omega) only [he] | simp (disch := omega) only [hcap1] | (refine cs_ ?_ ?_ <;> intro hc) | refine cj_ ?_ | simp (disch := omega) only [encs_getN, qb] | refine qa f fun _ => ?_ | refine qf f ?_) <;> (try refine ev_ ?_)) | with_reducible exact ti_)
     ·have hi0 : i = 0 := by rw [← hq]; rfl
      refine qj (i + 1, [⟨(s.getD i R0).v, (appR t (s.getD i R0).ty).1⟩]) [1] ⟨⟨by dsimp only; omega, ha, by simp; omega⟩, by dsimp only; omega⟩ rfl (by simp) ?_ ?_ ?_ <;> simp only [rtS1, ← qsr, qg0, qg4] <;> (try refine ev_ ?_) <;> (try with_reducible exact ti_) <;> (try simp (disch := omega) only [qb, and_true, true_and])
     ·omega
    ·have hne := qea h0
     simp only [qcf hne, qb9 hne, qq]
     repeat' (first | refine vs_ ?_ | ((first | refine vr_ ?_ | fail) <;> (try simp (disch := first | omega | (simp only [List.length_set, List.length_append, List.length_cons, List.length_nil]; done) | (simp only [List.length_set, List.length_append, List.length_cons, List.length_nil]; omega)) only [qe, qb, qbj, he, qe5, qq, go_sem, ↓reduceIte])) | ((first | simp (disch := omega) only [qe] | simp (disch := omega) only [typA] | simp (disch := omega) only [he] | simp (disch := omega) only [hcap] | (refine cs_ ?_ ?_ <;> intro hc) | refine cj_ ?_ | simp (disch := omega) only [encs_getN, qb] | refine qa f fun _ => ?_ | refine qf f ?_) <;> (try refine ev_ ?_)) | with_reducible exact ti_)
     ·refine qj (i + 1, a ++ [⟨(s.getD i R0).v, (appR t (s.getD i R0).ty).1⟩]) [2] ⟨⟨by dsimp only; omega, ha, by simp; omega⟩, by dsimp only; omega⟩ rfl (by simp) ?_ ?_ ?_ <;> simp only [rtS1, ← qft, qez, qe1, qq] <;> (try refine ev_ ?_) <;> (try with_reducible exact ti_) <;> (try simp (disch := omega) only [qb, and_true, true_and])
      all_goals (simp only [qft]; exact ⟨qbc _ _, by rw [qfa]⟩)
     ·omega
   ·rw [if_neg he] at ha
    have e : behR s t = ([], (appR t (s.getD i R0).ty).2) := by rw [behR, ← ha, if_neg he]
    rw [e, rowA]
    by_cases h0 : a = []
    ·subst h0
     simp only [qb1, qbk, qbi]
     repeat' (first | refine vs_ ?_ | ((first | refine vr_ ?_ | fail) <;> (try simp (disch := first | omega | (simp only [List.length_set, List.length_append, List.length_cons, List.length_nil]; done) | (simp only [List.length_set, List.length_append, List.length_cons, List.length_nil]; omega)) only [qe, qb, qbj, he, qt, go_sem, ↓reduceIte])) | ((first | simp (disch := omega) only [qe] | simp (disch := omega) only [typA] | simp (disch := omega) only [he] | (refine cs_ ?_ ?_ <;> intro hc) | refine cj_ ?_ | simp (disch := omega) only [encs_getN, qb] | refine qa f fun _ => ?_ | refine qf f ?_) <;> (try refine ev_ ?_)) | with_reducible exact ti_)
     ·omega
    ·have hne := qea h0
     simp only [qcf hne, qb9 hne, qq]
     repeat' (first | refine vs_ ?_ | ((first | refine vr_ ?_ | fail) <;> (try simp (disch := first | omega | (simp only [List.length_set, List.length_append, List.length_cons, List.length_nil]; done) | (simp only [List.length_set, List.length_append, List.length_cons, List.length_nil]; omega)) only [qe, qb, qbj, he, qq, qt, go_sem, ↓reduceIte])) | ((first | simp (disch := omega) only [qe] | simp (disch := omega) only [typA] | simp (disch := omega) only [he] | (refine cs_ ?_ ?_ <;> intro hc) | refine cj_ ?_ | simp (disch := omega) only [encs_getN, qb] | refine qa f fun _ => ?_ | refine qf f ?_) <;> (try refine ev_ ?_)) | with_reducible exact ti_)
     ·rfl
     ·omega
  ·have hthen : qd5 t [] s = (a, 0) := by rw [← ha, List.drop_of_length_le (by omega), qd5]
   have e : behR s t = (addR a t, 0) := by rw [behR, hthen, if_pos rfl]
   rw [e]
   by_cases h0 : a = []
   ·subst h0
    simp only [qb1, qbk, qbi]
    repeat' (first | refine vs_ ?_ | ((first | refine vr_ ?_ | (refine cs_ ?_ ?_ <;> intro hc) | refine cj_ ?_ | simp (disch := omega) only [encs_getN, qb]) <;> (try refine ev_ ?_)) | with_reducible exact ti_)
    ·omega
    refine q97 (qln (s := s) (t := t) (a := []) (by omega) (qh3 ht) h2 hmt) (q8e [] rfl (by simp) ?_ ?_ ?_) <;> simp only [rtS2, qlj, qkg, qb1, qbk, qbi] <;> (try refine ev_ ?_) <;> (try with_reducible exact ti_) <;> (try simp (disch := omega) only [qb, and_true, true_and])
   ·have hne := qea h0
    simp only [qcf hne, qb9 hne, qq]
    repeat' (first | refine vs_ ?_ | ((first | refine vr_ ?_ | (refine cs_ ?_ ?_ <;> intro hc) | refine cj_ ?_ | simp (disch := omega) only [encs_getN, qb]) <;> (try refine ev_ ?_)) | with_reducible exact ti_)
    ·omega
    refine q97 (qln (s := s) (t := t) (a := a) (by omega) (qh3 ht) h2 hmt) (q8e [0] rfl (by simp) ?_ ?_ ?_) <;> simp only [rtS2, qlj, qkg, qcf hne, qb9 hne, qq] <;> (try refine ev_ ?_) <;> (try with_reducible exact ti_) <;> (try simp (disch := omega) only [qb, and_true, true_and])
end Go.Proofs.Ytfpobiheiloamaa
