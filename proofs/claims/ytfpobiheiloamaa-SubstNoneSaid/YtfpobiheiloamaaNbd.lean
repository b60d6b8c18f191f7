/- Texts of this proof, joined. -/
import Derived.Test.YtfpobiheiloamaaNax

/- the reference's substitutions: New, size, put, Apply -/
set_option maxRecDepth 4000
namespace Go.Proofs.Ytfpobiheiloamaa
open Go Go.RowKit Go.V
set_option linter.unusedVariables false
set_option linter.unusedSimpArgs false

def qz1 (l : List Pr) : Prop := ∀ p ∈ l, szY p.ty ≤ 20000 ∧ dpY p.ty ≤ 300
theorem qgy : ∀ (l s : List Pr) (p : Pr), addR s (l ++ [p]) = (setR (addR s l) p.v p.ty).1
 | [], s, p => rfl
 | x :: l, s, p => by rw [List.cons_append, addR, addR, qgy l]
theorem qjm {l : List Pr} {i : Nat} (h : i < l.length) : l.take (i + 1) = l.take i ++ [l.getD i R0] := by
 rw [List.take_add_one, List.getD_eq_getElem?_getD, List.getElem?_eq_getElem h]; rfl
theorem qg6 {l : List Pr} {i : Nat} (h : i < l.length) (s : List Pr) : addR s (l.take (i + 1)) = (setR (addR s (l.take i)) (l.getD i R0).v (l.getD i R0).ty).1 := by rw [qjm h, qgy]
def rnV (l : List Pr) (i : Nat) : AV := if i = 0 then .nils else .sl 4 (qk (addR [] (l.take i)))
theorem qbam (l : List Pr) : rnV l 0 = .nils := rfl
theorem qbdy (l : List Pr) (i : Nat) : rnV l (i + 1) = .sl 4 (qk (addR [] (l.take (i + 1)))) := rfl
theorem qzo (l : List Pr) {i : Nat} (h : i ≠ 0) : rnV l i = .sl 4 (qk (addR [] (l.take i))) := if_neg h
theorem qzv (k : Nat) (l : List Pr) (i : Nat) : (rnV l i).bd k = true := by unfold rnV; split <;> simp [AV.bd, qbh]
theorem q07 (σ : Nat → Nat) (l : List Pr) (i : Nat) : (rnV l i).ren σ = rnV l i := ren_same (m := 0) (fun i hi => by omega) _ (qzv 0 l i)
attribute [go_sem] qzv q07
theorem quz {l : List Pr} (hl : l.length ≤ 100000) (hs : qz1 l) : ql Try.prog 34 [.sl 4 (qk l)] (.sl 4 (qk (newR l))) := by
 refine qd c0ck (by simp) (by simp only [go_sem]) (by simp only [AV.bd, qbh]) fun hw => ?_
 have hml := (qd7 hw.1).1
 repeat' (first | refine vs_ ?_ | ((first | refine vr_ ?_ | (refine cs_ ?_ ?_ <;> intro hc) | refine cj_ ?_ | simp (disch := omega) only [encs_getN, qb]) <;> (try refine ev_ ?_)) | with_reducible exact ti_)
 refine qm (S := Nat) (fun i => i ≤ l.length) (fun i => (⟨[(0, .sl 4 (qk l)), (3, rnV l i), (4, .int .i64 i)], []⟩, [])) (fun i => l.length - i) ?_ fun i hi => ?_
 ·refine qj 0 [] (Nat.zero_le _) rfl (by simp) ?_ ?_ ?_ <;> simp only [qbam] <;> (try refine ev_ ?_) <;> (try with_reducible exact ti_) <;> (try simp (disch := omega) only [qb, and_true, true_and])
 ·have hlen := qfk (l.take i) []
  rw [List.length_take, List.length_nil] at hlen
  by_cases hlt : i < l.length
  ·have hp := hs _ (qbz hlt)
   have f := qtf (s := addR [] (l.take i)) (v := (l.getD i R0).v) (by omega) hp.1 hp.2
   have hstep := qg6 hlt []
   by_cases h0 : i = 0
   ·subst h0
    simp only [qbam]
    repeat' (first | refine vs_ ?_ | ((first | refine vr_ ?_ | fail) <;> (try simp (disch := first | omega | (simp only [List.length_set, List.length_append, List.length_cons, List.length_nil]; done) | (simp only [List.length_set, List.length_append, List.length_cons, List.length_nil]; omega)) only [qh, qb, qcr, qbe, go_sem, ↓reduceIte])) | ((first | simp (disch := omega) only [qh] | simp (disch := omega) only [rowA] | (refine cs_ ?_ ?_ <;> intro hc) | refine cj_ ?_ | simp (disch := omega) only [encs_getN, qb] | refine qa f fun _ => ?_ | refine qf f ?_) <;> (try refine ev_ ?_)) | with_reducible exact ti_)
    ·refine qj 1 [] ⟨by omega, by omega⟩ rfl (by simp) ?_ ?_ ?_ <;> simp only [qbdy, hstep] <;> (try refine ev_ ?_) <;> (try with_reducible exact ti_) <;> (try simp (disch := omega) only [qb, and_true, true_and])
     all_goals first | rfl | (rw [qf5])
    ·omega
   ·simp only [qzo l h0]
    repeat' (first | refine vs_ ?_ | ((first | refine vr_ ?_ | fail) <;> (try simp (disch := first | omega | (simp only [List.length_set, List.length_append, List.length_cons, List.length_nil]; done) | (simp only [List.length_set, List.length_append, List.length_cons, List.length_nil]; omega)) only [qh, qb, qcr, go_sem, ↓reduceIte])) | ((first | simp (disch := omega) only [qh] | simp (disch := omega) only [rowA] | (refine cs_ ?_ ?_ <;> intro hc) | refine cj_ ?_ | simp (disch := omega) only [encs_getN, qb] | refine qa f fun _ => ?_ | refine qf f ?_) <;> (try refine ev_ ?_)) | with_reducible exact ti_)
    ·refine qj (i + 1) [] ⟨by omega, by omega⟩ rfl (by simp) ?_ ?_ ?_ <;> simp only [qbdy, hstep] <;> (try refine ev_ ?_) <;> (try with_reducible exact ti_) <;> (try simp (disch := omega) only [qb, and_true, true_and])
    ·omega
  ·have hti : l.take i = l := List.take_of_length_le (by omega)
   by_cases h0 : i = 0
   ·subst h0
    have hl0 : l = [] := List.length_eq_zero_iff.1 (by omega)
    subst hl0
    simp only [qbam]
    repeat' (first | refine vs_ ?_ | ((first | refine vr_ ?_ | fail) <;> (try simp only [qbe, go_sem, ↓reduceIte])) | ((first | (refine cs_ ?_ ?_ <;> intro hc) | refine cj_ ?_ | simp (disch := omega) only [encs_getN, qb]) <;> (try refine ev_ ?_)) | with_reducible exact ti_)
    ·omega
    ·rfl
   ·simp only [qzo l h0, hti]
    repeat' (first | refine vs_ ?_ | ((first | refine vr_ ?_ | (refine cs_ ?_ ?_ <;> intro hc) | refine cj_ ?_ | simp (disch := omega) only [encs_getN, qb]) <;> (try refine ev_ ?_)) | with_reducible exact ti_)
    ·omega
    ·rfl
theorem qo8 {s : List Pr} (hs : okR s) : ∀ t, sizR s t ≤ 4096 * szY t := Ty.ind fun t ih => by
 rw [qkl, qgi]
 have key : ∀ l : List Ty, (∀ x ∈ l, sizR s x ≤ 4096 * szY x) → qb5 s l ≤ 4096 * szYs l := fun l => by
  induction l with
  | nil => intro _; rw [qb5]; omega
  | cons x r ihr =>
    intro h
    rw [qb5, szYs]
    have := h x (by simp)
    have := ihr fun y hy => h y (by simp [hy])
    omega
 have h1 := key t.args ih
 split
 ·cases hl : qv t.var s with
  | some u => have := qe3 hs hl; simp only; omega
  | none => simp only; omega
 ·omega
theorem qrg (s : List Pr) {l : List Ty} {i : Nat} (h : i < l.length) : qb5 s (l.take (i + 1)) = qb5 s (l.take i) + sizR s (l.getD i Y0) := by
 have h1 : l.take (i + 1) = l.take i ++ [l.getD i Y0] := by
  rw [List.take_add_one, List.getD_eq_getElem?_getD, List.getElem?_eq_getElem h]; rfl
 rw [h1]
 generalize l.take i = a
 induction a with
 | nil => simp [qb5]
 | cons x a ih => rw [List.cons_append, qb5, qb5, ih]; omega
theorem qow {s : List Pr} (hs : okR s) : ∀ l, qb5 s l ≤ 4096 * szYs l
 | [] => by rw [qb5]; omega
 | x :: r => by rw [qb5, szYs]; have := qo8 hs x; have := qow hs r; omega
theorem qlk {s : List Pr} {v : Int} {u : Ty} (h : qv v s = some u) : getA s v = .tup [encY u, .bool true] := by rw [getA, h]
theorem ql8 {s : List Pr} {v : Int} (h : qv v s = none) : getA s v = .tup [encY Y0, .bool false] := by rw [getA, h]
theorem qp9 {s : List Pr} (hs : okR s) : ∀ t, szY t ≤ 1000000 → ql Try.prog 80 [.sl 4 (qk s), encY t] (.int .i64 (sizR s t)) := by
 refine Ty.ind fun t ih hb => ?_
 refine qd c0cl (by simp) (by simp only [go_sem]) rfl fun hw => ?_
 have hk := qby hw.2.1
 have hsz := qgi t
 have f := qg3 s t.var
 by_cases hc : t.con = []
 ·cases hl : qv t.var s with
  | some u =>
    have hu := qe3 hs hl
    rw [qlk hl] at f
    have g := qi8 u
    rw [qf4 u (by omega)] at g
    have e : sizR s t = szY u := by rw [qkl, if_pos hc, hl]
    rw [e]
    repeat' (first | refine vs_ ?_ | ((first | refine vr_ ?_ | fail) <;> (try simp only [hc, go_sem, ↓reduceIte])) | ((first | (refine cs_ ?_ ?_ <;> intro hc) | refine cj_ ?_ | simp (disch := omega) only [encs_getN, qb] | refine qa f fun _ => ?_ | refine qa g fun _ => ?_) <;> (try refine ev_ ?_)) | with_reducible exact ti_)
  | none =>
    rw [ql8 hl] at f
    have e : sizR s t = 1 := by rw [qkl, if_pos hc, hl]
    rw [e]
    repeat' (first | refine vs_ ?_ | ((first | refine vr_ ?_ | fail) <;> (try simp only [hc, go_sem, ↓reduceIte])) | ((first | (refine cs_ ?_ ?_ <;> intro hc) | refine cj_ ?_ | simp (disch := omega) only [encs_getN, qb] | refine qa f fun _ => ?_) <;> (try refine ev_ ?_)) | with_reducible exact ti_)
 ·have ih' : ∀ i, i < t.args.length → ql Try.prog 80 [.sl 4 (qk s), encY (t.args.getD i Y0)] (.int .i64 (sizR s (t.args.getD i Y0))) := fun i hi => ih _ (q6 hi) (by have := qf1 (q6 hi); omega)
  have e : sizR s t = 1 + qb5 s t.args := by rw [qkl, if_neg hc]
  rw [e]
  repeat' (first | refine vs_ ?_ | ((first | refine vr_ ?_ | fail) <;> (try simp only [hc, go_sem, ↓reduceIte])) | ((first | (refine cs_ ?_ ?_ <;> intro hc) | refine cj_ ?_ | simp (disch := omega) only [encs_getN, qb]) <;> (try refine ev_ ?_)) | with_reducible exact ti_)
  refine qm (S := Nat) (fun i => i ≤ t.args.length) (fun i => (⟨[(0, .sl 4 (qk s)), (3, .ptr 0 0), (7, .int .i64 ((1 + qb5 s (t.args.take i) : Nat) : Int)), (8, .int .i64 i)], []⟩, [.blk (yc t)])) (fun i => t.args.length - i) ?_ fun i hi => ?_
  ·refine qj 0 [0] (Nat.zero_le _) rfl (by simp) ?_ ?_ ?_ <;> simp only [List.take_zero, qb5] <;> (try refine ev_ ?_) <;> (try with_reducible exact ti_) <;> (try simp (disch := omega) only [qb, and_true, true_and])
  ·by_cases hlt : i < t.args.length
   ·have h1 := qrg s hlt
    have h2 := qow hs (t.args.take i)
    have h3 := qld t.args i
    have h4 := qo8 hs (t.args.getD i Y0)
    have h5 := qf1 (q6 hlt)
    have hwr : IntKind.i64.wrap (((1 + qb5 s (t.args.take i) : Nat) : Int) + (sizR s (t.args.getD i Y0) : Int)) = ((1 + qb5 s (t.args.take (i + 1)) : Nat) : Int) := by rw [h1, q7 (by omega) (by omega)]; omega
    repeat' (first | refine vs_ ?_ | ((first | refine vr_ ?_ | fail) <;> (try simp (disch := first | omega | (simp only [List.length_set, List.length_append, List.length_cons, List.length_nil]; done) | (simp only [List.length_set, List.length_append, List.length_cons, List.length_nil]; omega)) only [qq, qb, hwr, go_sem, ↓reduceIte])) | ((first | simp (disch := omega) only [qq] | simp (disch := omega) only [hwr] | (refine cs_ ?_ ?_ <;> intro hc) | refine cj_ ?_ | simp (disch := omega) only [encs_getN, qb] | refine qa (ih' i hlt) fun _ => ?_) <;> (try refine ev_ ?_)) | with_reducible exact ti_)
    ·refine qj (i + 1) [0] ⟨by omega, by omega⟩ rfl (by simp) ?_ ?_ ?_ <;> (try refine ev_ ?_) <;> (try with_reducible exact ti_) <;> (try simp (disch := omega) only [qb, and_true, true_and])
    ·omega
   ·have hti : t.args.take i = t.args := List.take_of_length_le (by omega)
    rw [hti]
    repeat' (first | refine vs_ ?_ | ((first | refine vr_ ?_ | (refine cs_ ?_ ?_ <;> intro hc) | refine cj_ ?_ | simp (disch := omega) only [encs_getN, qb]) <;> (try refine ev_ ?_)) | with_reducible exact ti_)
    omega
theorem qql (s : List Pr) {l : List Ty} {i : Nat} (h : i < l.length) : qs (qbg s (l.take (i + 1))) = qs (qbg s (l.take i)) ++ [encY (putY s (l.getD i Y0))] := by
 have h1 : l.take (i + 1) = l.take i ++ [l.getD i Y0] := by
  rw [List.take_add_one, List.getD_eq_getElem?_getD, List.getElem?_eq_getElem h]; rfl
 rw [h1, qe8, qe8, List.map_append, qbt, qbt, List.map_append]; rfl
def rpSt (s : List Pr) (t : Ty) (i : Nat) : AF × List Ent :=
 (⟨[(0, .sl 4 (qk s)), (3, .ptr 0 0), (4, .ptr 1 0), (7, accV 2 (qs (qbg s (t.args.take i)))), (8, .int .i64 i)], []⟩, .blk (yc t) :: .blk [.str [], .int .i64 0, .nils] :: accE 3 (qs (qbg s (t.args.take i))))
set_option maxHeartbeats 1000000 in
theorem qux {s : List Pr} : ∀ t, szY t ≤ 1000000 → ql Try.prog 81 [.sl 4 (qk s), encY t] (encY (putY s t)) := by
 refine Ty.ind fun t ih hb => ?_
 refine qd c0cm (by simp) (by simp only [go_sem]) (qbq 0 _) fun hw => ?_
 have hk := qby hw.2.1
 have hsz := qgi t
 have hal := qgu t.args
 have f := qg3 s t.var
 by_cases hc : t.con = []
 ·cases hl : qv t.var s with
  | some u =>
    rw [qlk hl] at f
    have e : putY s t = u := by rw [qjz, if_pos hc, hl]
    rw [e]
    repeat' (first | refine vs_ ?_ | ((first | refine vr_ ?_ | fail) <;> (try simp only [hc, qbm, go_sem, ↓reduceIte])) | ((first | (refine cs_ ?_ ?_ <;> intro hc) | refine cj_ ?_ | simp (disch := omega) only [encs_getN, qb] | refine qa f fun _ => ?_) <;> (try refine ev_ ?_)) | with_reducible exact ti_)
  | none =>
    rw [ql8 hl] at f
    have e : putY s t = t := by rw [qjz, if_pos hc, hl]
    rw [e]
    have hy : AV.agg [.str [], .int .i64 t.var, .sl 3 (qs t.args)] = encY t := by rw [← qbm, hc]
    repeat' (first | refine vs_ ?_ | ((first | refine vr_ ?_ | fail) <;> (try simp only [hc, hy, go_sem, ↓reduceIte])) | ((first | (refine cs_ ?_ ?_ <;> intro hc) | refine cj_ ?_ | simp (disch := omega) only [encs_getN, qb] | refine qa f fun _ => ?_) <;> (try refine ev_ ?_)) | with_reducible exact ti_)
 ·have ih' : ∀ i, i < t.args.length → ql Try.prog 81 [.sl 4 (qk s), encY (t.args.getD i Y0)] (encY (putY s (t.args.getD i Y0))) := fun i hi => ih _ (q6 hi) (by have := qf1 (q6 hi); omega)
  have e : putY s t = .mk t.con t.var (qbg s t.args) := by rw [qjz, if_neg hc]
  have hy : AV.agg [.str t.con, .int .i64 t.var, .sl 3 (qs (qbg s t.args))] = encY (.mk t.con t.var (qbg s t.args)) := by rw [encY]
  rw [e]
  repeat' (first | refine vs_ ?_ | ((first | refine vr_ ?_ | fail) <;> (try simp only [hc, go_sem, ↓reduceIte])) | ((first | (refine cs_ ?_ ?_ <;> intro hc) | refine cj_ ?_ | simp (disch := omega) only [encs_getN, qb]) <;> (try refine ev_ ?_)) | with_reducible exact ti_)
  refine qm (S := Nat) (fun i => i ≤ t.args.length) (rpSt s t) (fun i => t.args.length - i) ?_ fun i hi => ?_
  ·refine qj 0 [0, 1] (Nat.zero_le _) rfl (by simp) ?_ ?_ ?_ <;> simp only [rpSt, List.take_zero, qbg, qc4, qc9, qdg] <;> (try refine ev_ ?_) <;> (try with_reducible exact ti_) <;> (try simp (disch := omega) only [qb, and_true, true_and])
  ·have hlm : (qs (qbg s (t.args.take i))).length = i := by rw [qz, qfc, List.length_take]; omega
   have hcap : qdl (i + 1) 48 = True := eq_true (capY (by omega))
   have hcap1 : qdl 1 48 = True := eq_true (capY (by omega))
   unfold rpSt
   by_cases hlt : i < t.args.length
   ·have hs := qql s hlt
    by_cases h0 : i = 0
    ·subst h0
     simp only [List.take_zero, qbg, qc4, qc9, qdg, List.nil_append] at hs ⊢
     repeat' (first | refine vs_ ?_ | ((first | refine vr_ ?_ | fail) <;> (try simp (disch := first | omega | (simp only [List.length_set, List.length_append, List.length_cons, List.length_nil]; done) | (simp only [List.length_set, List.length_append, List.length_cons, List.length_nil]; omega)) only [qq, qb, go_sem, ↓reduceIte])) | ((first | simp (disch := omega) only [qq] | simp (disch := omega) only [hcap1] | (refine cs_ ?_ ?_ <;> intro hc) | refine cj_ ?_ | simp (disch := omega) only [encs_getN, qb] | refine qa (ih' 0 hlt) fun _ => ?_) <;> (try refine ev_ ?_)) | with_reducible exact ti_)
     ·refine qj 1 [0, 1, 2] ⟨by omega, by omega⟩ rfl (by simp) ?_ ?_ ?_ <;> simp only [rpSt, hs, qj1, qjy] <;> (try refine ev_ ?_) <;> (try with_reducible exact ti_) <;> (try simp (disch := omega) only [qb, and_true, true_and])
      all_goals (rw [qf5])
     ·omega
    ·have hne : qs (qbg s (t.args.take i)) ≠ [] := fun h => h0 (by rw [← hlm, h]; rfl)
     simp only [qh5 hne, qhd hne, hlm]
     have hlm2 : (qbg s (t.args.take i)).length = i := by rw [qfc, List.length_take]; omega
     repeat' (first | refine vs_ ?_ | ((first | refine vr_ ?_ | fail) <;> (try simp (disch := first | omega | (simp only [List.length_set, List.length_append, List.length_cons, List.length_nil]; done) | (simp only [List.length_set, List.length_append, List.length_cons, List.length_nil]; omega)) only [qq, qb, hlm, hlm2, go_sem, ↓reduceIte])) | ((first | simp (disch := omega) only [qq] | simp (disch := omega) only [hcap] | (refine cs_ ?_ ?_ <;> intro hc) | refine cj_ ?_ | simp (disch := omega) only [encs_getN, qb] | refine qa (ih' i hlt) fun _ => ?_) <;> (try refine ev_ ?_)) | with_reducible exact ti_)
     ·refine qj (i + 1) [0, 1, 3] ⟨by omega, by omega⟩ rfl (by simp) ?_ ?_ ?_ <;> simp only [rpSt, hs, qhc, qgx, hlm] <;> (try refine ev_ ?_) <;> (try with_reducible exact ti_) <;> (try simp (disch := omega) only [qb, and_true, true_and])
      all_goals (rw [← hs]; exact ⟨qch _ _, by rw [qh3]⟩)
     ·omega
   ·have hti : t.args.take i = t.args := List.take_of_length_le (by omega)
    rw [hti] at hlm ⊢
    by_cases h0 : t.args = []
    ·have hp : qbg s t.args = [] := by rw [h0, qbg]
     rw [hp] at hlm hy ⊢
     simp only [qc4, qc9, qdg] at hy ⊢
     repeat' (first | refine vs_ ?_ | ((first | refine vr_ ?_ | fail) <;> (try simp only [qbe, hy, go_sem, ↓reduceIte])) | ((first | (refine cs_ ?_ ?_ <;> intro hc) | refine cj_ ?_ | simp (disch := omega) only [encs_getN, qb]) <;> (try refine ev_ ?_)) | with_reducible exact ti_)
     ·omega
    ·have hne : qs (qbg s t.args) ≠ [] := fun h => h0 (by have := congrArg List.length h; rw [qz, qfc] at this; exact List.length_eq_zero_iff.1 this)
     simp only [qh5 hne, qhd hne, hlm]
     repeat' (first | refine vs_ ?_ | ((first | refine vr_ ?_ | fail) <;> (try simp only [hlm, hy, go_sem, ↓reduceIte])) | ((first | (refine cs_ ?_ ?_ <;> intro hc) | refine cj_ ?_ | simp (disch := omega) only [encs_getN, qb]) <;> (try refine ev_ ?_)) | with_reducible exact ti_)
     ·omega
set_option maxRecDepth 4000

theorem q71 {s : List Pr} (hs : okR s) : ∀ t, dpY (putY s t) ≤ dpY t + 100 := Ty.ind fun t ih => by
 rw [qjz]
 split
 ·cases hl : qv t.var s with
  | some u => have := qe3 hs hl; simp only; omega
  | none => simp only; omega
 ·rw [qum t]
  show dpY (.mk _ _ _) ≤ _
  rw [dpY]
  have key : ∀ l : List Ty, (∀ x ∈ l, dpY (putY s x) ≤ dpY x + 100) → dpYs (qbg s l) ≤ dpYs l + 100 := fun l => by
   induction l with
   | nil => intro _; rw [qbg, dpYs]; omega
   | cons x r ihr =>
     intro h
     rw [qbg, dpYs, dpYs]
     have := h x (by simp)
     have := ihr fun y hy => h y (by simp [hy])
     omega
  have := key t.args ih
  omega
theorem q6z {s : List Pr} (hs : okS s) {t : Ty} (h1 : szY t ≤ 20000) (h2 : dpY t ≤ 300) : ql Try.prog 36 [.sl 4 (qk s), encY t] (typA (appR s t)) := by
 refine qd c0ci (by simp) (by simp only [go_sem]) (qh4 _ _) fun hw => ?_
 have f1 := qen h1 h2
 cases ht : qr t with
 | false =>
   rw [ht] at f1
   have e : appR s t = (Y0, 1) := by rw [appR, if_neg (by rw [ht]; simp)]
   rw [e, typA]
   repeat' (first | refine vs_ ?_ | ((first | refine vr_ ?_ | fail) <;> (try simp only [qmq, qbe, go_sem, ↓reduceIte])) | ((first | (refine cs_ ?_ ?_ <;> intro hc) | refine cj_ ?_ | fail | refine qa f1 fun _ => ?_) <;> (try refine ev_ ?_)) | with_reducible exact ti_)
 | true =>
   rw [ht] at f1
   have hz := qmh ht
   have f2 := qp9 (qnh hs) t (by omega)
   by_cases hb : 4096 < sizR s t
   ·have e : appR s t = (Y0, 2) := by rw [appR, if_pos ht, if_pos hb]
    rw [e, typA]
    repeat' (first | refine vs_ ?_ | ((first | refine vr_ ?_ | fail) <;> (try simp only [qmq, qbe, go_sem, ↓reduceIte])) | ((first | (refine cs_ ?_ ?_ <;> intro hc) | refine cj_ ?_ | fail | refine qa f1 fun _ => ?_ | refine qa f2 fun _ => ?_) <;> (try refine ev_ ?_)) | with_reducible exact ti_)
    omega
   ·have hp := qjx s t (qci t (qer ht))
    have hd := q71 (qnh hs) t
    have f3 := qux (s := s) t (by omega)
    have f4 := qen (t := putY s t) (by omega) (by omega)
    cases hu : qr (putY s t) with
    | false =>
      rw [hu] at f4
      have e : appR s t = (Y0, 2) := by rw [appR, if_pos ht, if_neg hb, if_neg (by rw [hu]; simp)]
      rw [e, typA]
      repeat' (first | refine vs_ ?_ | ((first | refine vr_ ?_ | fail) <;> (try simp only [qmq, qbe, go_sem, ↓reduceIte])) | ((first | (refine cs_ ?_ ?_ <;> intro hc) | refine cj_ ?_ | fail | refine qa f1 fun _ => ?_ | refine qa f2 fun _ => ?_ | refine qa f3 fun _ => ?_ | refine qa f4 fun _ => ?_) <;> (try refine ev_ ?_)) | with_reducible exact ti_)
    | true =>
      rw [hu] at f4
      have e : appR s t = (putY s t, 0) := by rw [appR, if_pos ht, if_neg hb, if_pos hu]
      rw [e, typA]
      repeat' (first | refine vs_ ?_ | ((first | refine vr_ ?_ | fail) <;> (try simp only [qmq, qbe, go_sem, ↓reduceIte])) | ((first | (refine cs_ ?_ ?_ <;> intro hc) | refine cj_ ?_ | fail | refine qa f1 fun _ => ?_ | refine qa f2 fun _ => ?_ | refine qa f3 fun _ => ?_ | refine qa f4 fun _ => ?_) <;> (try refine ev_ ?_)) | with_reducible exact ti_)
      omega
def qng (a b : Pr) : Bool := decide (a.v = b.v) && qek a.ty b.ty
theorem qtp (a b : Pr) : qng a b = true ↔ a = b := by
 rw [qng, Bool.and_eq_true, decide_eq_true_eq, qpr]
 cases a; cases b; simp
def qex : List Pr → List Pr → Bool
 | [], [] => true
 | x :: r, y :: r' => qng x y && qex r r'
 | _, _ => false
theorem qh1 : ∀ l m, qex l m = true ↔ l = m
 | [], [] => by simp [qex]
 | [], y :: r => by rw [qex] <;> simp
 | x :: r, [] => by rw [qex] <;> simp
 | x :: r, y :: r' => by rw [qex, Bool.and_eq_true, qtp, qh1 r r']; simp
theorem qso {l m : List Pr} (h : l.length ≠ m.length) : qex l m = false := by
 cases hh : qex l m with
 | false => rfl
 | true => rw [(qh1 l m).1 hh] at h; exact absurd rfl h
theorem qfv {l m : List Pr} {i : Nat} (h : i < l.length) (h' : i < m.length) : qex (l.drop i) (m.drop i) = (qng (l.getD i R0) (m.getD i R0) && qex (l.drop (i + 1)) (m.drop (i + 1))) := by
 rw [qyd h, qyd h', qex]
theorem qra (l m : List Pr) : ql Try.prog 40 [.sl 4 (qk l), .sl 4 (qk m)] (.bool (qex l m)) := by
 refine qd c0cj (by simp) (by simp only [go_sem]) rfl fun hw => ?_
 have hl := (qd7 hw.1).1
 repeat' (first | refine vs_ ?_ | ((first | refine vr_ ?_ | (refine cs_ ?_ ?_ <;> intro hc) | refine cj_ ?_ | simp (disch := omega) only [encs_getN, qb]) <;> (try refine ev_ ?_)) | with_reducible exact ti_)
 ·rw [qso (by omega)]
 have hlm : l.length = m.length := by omega
 refine qm (S := Nat) (fun i => i ≤ l.length ∧ qex (l.drop i) (m.drop i) = qex l m) (fun i => (⟨[(0, .sl 4 (qk l)), (1, .sl 4 (qk m)), (5, .int .i64 i)], []⟩, [])) (fun i => l.length - i) ?_ fun i hi => ?_
 ·refine qj 0 [] ⟨Nat.zero_le _, rfl⟩ rfl (by simp) ?_ ?_ ?_ <;> (try refine ev_ ?_) <;> (try with_reducible exact ti_) <;> (try simp (disch := omega) only [qb, and_true, true_and])
 ·obtain ⟨hi, ha⟩ := hi
  repeat' (first | refine vs_ ?_ | ((first | refine vr_ ?_ | fail) <;> (try simp (disch := first | omega | (simp only [List.length_set, List.length_append, List.length_cons, List.length_nil]; done) | (simp only [List.length_set, List.length_append, List.length_cons, List.length_nil]; omega)) only [qh, qb, qcr, go_sem, ↓reduceIte])) | ((first | simp (disch := omega) only [qh] | (refine cs_ ?_ ?_ <;> intro hc) | refine cj_ ?_ | simp (disch := omega) only [encs_getN, qb] | refine qa (qf9 _ _) fun _ => ?_ | refine qf (qf9 _ _) ?_) <;> (try refine ev_ ?_)) | with_reducible exact ti_)
  ·rename_i hc
   rw [← ha, qfv (by omega) (by omega), qng, decide_eq_false hc]; rfl
  ·rename_i h0 hc
   have h0 : (l.getD i R0).v = (m.getD i R0).v := by assumption
   rw [← ha, qfv (by omega) (by omega), qng, decide_eq_true h0, hc]; rfl
  ·rename_i h0 hc
   have h0 : (l.getD i R0).v = (m.getD i R0).v := by assumption
   refine qj (i + 1) [] ⟨⟨by omega, ?_⟩, by omega⟩ rfl (by simp) ?_ ?_ ?_ <;> (try refine ev_ ?_) <;> (try with_reducible exact ti_) <;> (try simp (disch := omega) only [qb, and_true, true_and])
   rw [← ha, qfv (l := l) (m := m) (i := i) (by omega) (by omega), qng, decide_eq_true h0, hc]; rfl
  ·rw [← ha, List.drop_of_length_le (by omega), List.drop_of_length_le (by omega)]; rfl
theorem qjg (vars : List Int) {s : List Pr} {i : Nat} (h : i < s.length) : qdj vars (s.take (i + 1)) = qdj vars (s.take i) ++ (if (s.getD i R0).v ∈ vars then [s.getD i R0] else []) := by
 rw [qjm h, qdj, qdj, List.filter_append]
 congr 1
 rw [List.filter_cons]
 split <;> simp_all
theorem qsf (vars : List Int) (s : List Pr) : (qdj vars s).length ≤ s.length := List.length_filter_le _ _
set_option maxRecDepth 4000

end Go.Proofs.Ytfpobiheiloamaa
