/- Texts of this proof, joined. -/
import Derived.Test.YtfpobiheiloamaaGax

/- the reference's substitutions: New, size, put, Apply -/
set_option maxRecDepth 4000
namespace Go.Proofs.Ytfpobiheiloamaa
open Go Go.RowKit Go.V
set_option linter.unusedVariables false
set_option linter.unusedSimpArgs false

def q0i (l : List Pr) : Prop := ∀ p ∈ l, szY p.ty ≤ 20000 ∧ dpY p.ty ≤ 300
theorem qii : ∀ (l s : List Pr) (p : Pr), addR s (l ++ [p]) = (setR (addR s l) p.v p.ty).1
 | [], s, p => rfl
 | x :: l, s, p => by rw [List.cons_append, addR, addR, qii l]
theorem qiz {l : List Pr} {i : Nat} (h : i < l.length) : l.take (i + 1) = l.take i ++ [l.getD i R0] := by
 rw [List.take_add_one, List.getD_eq_getElem?_getD, List.getElem?_eq_getElem h]; rfl
theorem ql7 {l : List Pr} {i : Nat} (h : i < l.length) (s : List Pr) : addR s (l.take (i + 1)) = (setR (addR s (l.take i)) (l.getD i R0).v (l.getD i R0).ty).1 := by rw [qiz h, qii]
def rnV (l : List Pr) (i : Nat) : AV := if i = 0 then .nils else .sl 4 (qo (addR [] (l.take i)))
theorem q66 (l : List Pr) : rnV l 0 = .nils := rfl
theorem qbif (l : List Pr) (i : Nat) : rnV l (i + 1) = .sl 4 (qo (addR [] (l.take (i + 1)))) := rfl
theorem q0o (l : List Pr) {i : Nat} (h : i ≠ 0) : rnV l i = .sl 4 (qo (addR [] (l.take i))) := if_neg h
theorem q0n (k : Nat) (l : List Pr) (i : Nat) : (rnV l i).bd k = true := by unfold rnV; split <;> simp [AV.bd, qbi]
theorem q6m (σ : Nat → Nat) (l : List Pr) (i : Nat) : (rnV l i).ren σ = rnV l i := ren_same (m := 0) (fun i hi => by omega) _ (q0n 0 l i)
attribute [go_sem] q0n q6m
theorem quq {l : List Pr} (hl : l.length ≤ 100000) (hs : q0i l) : qn Try.prog 34 [.sl 4 (qo l)] (.sl 4 (qo (newR l))) := by
 refine qe c0cl (by simp) (by simp only [go_sem]) (by simp only [AV.bd, qbi]) fun hw => ?_
 have hml := (qfl hw.1).1
 repeat' (first | refine vs_ ?_ | ((first | refine vr_ ?_ | (refine cs_ ?_ ?_ <;> intro hc) | refine cj_ ?_ | simp (disch := omega) only [encs_getN, qb]) <;> (try refine ev_ ?_)) | with_reducible exact ti_)
 refine qk (S := Nat) (fun i => i ≤ l.length) (fun i => (⟨[(0, .sl 4 (qo l)), (3, rnV l i), (4, .int .i64 i)], []⟩, [])) (fun i => l.length - i) ?_ fun i hi => ?_
 ·refine qh 0 [] (Nat.zero_le _) rfl (by simp) ?_ ?_ ?_ <;> simp only [q66] <;> (try refine ev_ ?_) <;> (try with_reducible exact ti_) <;> (try simp (disch := omega) only [qb, and_true, true_and])
 ·have hlen := qg3 (l.take i) []
  rw [List.length_take, List.length_nil] at hlen
  by_cases hlt : i < l.length
  ·have hp := hs _ (qcb hlt)
   have f := qu4 (s := addR [] (l.take i)) (v := (l.getD i R0).v) (by omega) hp.1 hp.2
   have hstep := ql7 hlt []
   by_cases h0 : i = 0
   ·subst h0
    simp only [q66]
    repeat' (first | refine vs_ ?_ | ((first | refine vr_ ?_ | fail) <;> (try simp (disch := first | omega | (simp only [List.length_set, List.length_append, List.length_cons, List.length_nil]; done) | (simp only [List.length_set, List.length_append, List.length_cons, List.length_nil]; omega)) only [qj, qb, qdg, q6, go_sem, ↓reduceIte])) | ((first | simp (disch := omega) only [qj] | simp (disch := omega) only [rowA] | (refine cs_ ?_ ?_ <;> intro hc) | refine cj_ ?_ | simp (disch := omega) only [encs_getN, qb] | refine qa f fun _ => ?_ | refine qc f ?_) <;> (try refine ev_ ?_)) | with_reducible exact ti_)
    ·refine qh 1 [] ⟨by omega, by omega⟩ rfl (by simp) ?_ ?_ ?_ <;> simp only [qbif, hstep] <;> (try refine ev_ ?_) <;> (try with_reducible exact ti_) <;> (try simp (disch := omega) only [qb, and_true, true_and])
     all_goals first | rfl | (rw [qf4])
    ·omega
   ·simp only [q0o l h0]
    repeat' (first | refine vs_ ?_ | ((first | refine vr_ ?_ | fail) <;> (try simp (disch := first | omega | (simp only [List.length_set, List.length_append, List.length_cons, List.length_nil]; done) | (simp only [List.length_set, List.length_append, List.length_cons, List.length_nil]; omega)) only [qj, qb, qdg, go_sem, ↓reduceIte])) | ((first | simp (disch := omega) only [qj] | simp (disch := omega) only [rowA] | (refine cs_ ?_ ?_ <;> intro hc) | refine cj_ ?_ | simp (disch := omega) only [encs_getN, qb] | refine qa f fun _ => ?_ | refine qc f ?_) <;> (try refine ev_ ?_)) | with_reducible exact ti_)
    ·refine qh (i + 1) [] ⟨by omega, by omega⟩ rfl (by simp) ?_ ?_ ?_ <;> simp only [qbif, hstep] <;> (try refine ev_ ?_) <;> (try with_reducible exact ti_) <;> (try simp (disch := omega) only [qb, and_true, true_and])
    ·omega
  ·have hti : l.take i = l := List.take_of_length_le (by omega)
   by_cases h0 : i = 0
   ·subst h0
    have hl0 : l = [] := List.length_eq_zero_iff.1 (by omega)
    subst hl0
    simp only [q66]
    repeat' (first | refine vs_ ?_ | ((first | refine vr_ ?_ | fail) <;> (try simp only [q6, go_sem, ↓reduceIte])) | ((first | (refine cs_ ?_ ?_ <;> intro hc) | refine cj_ ?_ | simp (disch := omega) only [encs_getN, qb]) <;> (try refine ev_ ?_)) | with_reducible exact ti_)
    ·omega
    ·rfl
   ·simp only [q0o l h0, hti]
    repeat' (first | refine vs_ ?_ | ((first | refine vr_ ?_ | (refine cs_ ?_ ?_ <;> intro hc) | refine cj_ ?_ | simp (disch := omega) only [encs_getN, qb]) <;> (try refine ev_ ?_)) | with_reducible exact ti_)
    ·omega
    ·rfl
theorem qou {s : List Pr} (hs : okR s) : ∀ t, sizR s t ≤ 4096 * szY t := Ty.ind fun t ih => by
 rw [qka, qgh]
 have key : ∀ l : List Ty, (∀ x ∈ l, sizR s x ≤ 4096 * szY x) → qb7 s l ≤ 4096 * szYs l := fun l => by
  induction l with
  | nil => intro _; rw [qb7]; omega
  | cons x r ihr =>
    intro h
    rw [qb7, szYs]
    have := h x (by simp)
    have := ihr fun y hy => h y (by simp [hy])
    omega
 have h1 := key t.args ih
 split
 ·cases hl : qv t.var s with
  | some u => have := qe3 hs hl; simp only; omega
  | none => simp only; omega
 ·omega
theorem qq8 (s : List Pr) {l : List Ty} {i : Nat} (h : i < l.length) : qb7 s (l.take (i + 1)) = qb7 s (l.take i) + sizR s (l.getD i Y0) := by
 have h1 : l.take (i + 1) = l.take i ++ [l.getD i Y0] := by
  rw [List.take_add_one, List.getD_eq_getElem?_getD, List.getElem?_eq_getElem h]; rfl
 rw [h1]
 generalize l.take i = a
 induction a with
 | nil => simp [qb7]
 | cons x a ih => rw [List.cons_append, qb7, qb7, ih]; omega
theorem qok {s : List Pr} (hs : okR s) : ∀ l, qb7 s l ≤ 4096 * szYs l
 | [] => by rw [qb7]; omega
 | x :: r => by rw [qb7, szYs]; have := qou hs x; have := qok hs r; omega
theorem qlg {s : List Pr} {v : Int} {u : Ty} (h : qv v s = some u) : getA s v = .tup [encY u, .bool true] := by rw [getA, h]
theorem qme {s : List Pr} {v : Int} (h : qv v s = none) : getA s v = .tup [encY Y0, .bool false] := by rw [getA, h]
theorem qp5 {s : List Pr} (hs : okR s) : ∀ t, szY t ≤ 1000000 → qn Try.prog 80 [.sl 4 (qo s), encY t] (.int .i64 (sizR s t)) := by
 refine Ty.ind fun t ih hb => ?_
 refine qe c0cm (by simp) (by simp only [go_sem]) rfl fun hw => ?_
 have hk := qb1 hw.2.1
 have hsz := qgh t
 have f := qh1 s t.var
 by_cases hc : t.con = []
 ·cases hl : qv t.var s with
  | some u =>
    have hu := qe3 hs hl
    rw [qlg hl] at f
    have g := qjs u
    rw [qfz u (by omega)] at g
    have e : sizR s t = szY u := by rw [qka, if_pos hc, hl]
    rw [e]
    repeat' (first | refine vs_ ?_ | ((first | refine vr_ ?_ | fail) <;> (try simp only [hc, go_sem, ↓reduceIte])) | ((first | (refine cs_ ?_ ?_ <;> intro hc) | refine cj_ ?_ | simp (disch := omega) only [encs_getN, qb] | refine qa f fun _ => ?_ | refine qa g fun _ => ?_) <;> (try refine ev_ ?_)) | with_reducible exact ti_)
  | none =>
    rw [qme hl] at f
    have e : sizR s t = 1 := by rw [qka, if_pos hc, hl]
    rw [e]
    repeat' (first | refine vs_ ?_ | ((first | refine vr_ ?_ | fail) <;> (try simp only [hc, go_sem, ↓reduceIte])) | ((first | (refine cs_ ?_ ?_ <;> intro hc) | refine cj_ ?_ | simp (disch := omega) only [encs_getN, qb] | refine qa f fun _ => ?_) <;> (try refine ev_ ?_)) | with_reducible exact ti_)
 ·have ih' : ∀ i, i < t.args.length → qn Try.prog 80 [.sl 4 (qo s), encY (t.args.getD i Y0)] (.int .i64 (sizR s (t.args.getD i Y0))) := fun i hi => ih _ (q8 hi) (by have := qes (q8 hi); omega)
  have e : sizR s t = 1 + qb7 s t.args := by rw [qka, if_neg hc]
  rw [e]
  repeat' (first | refine vs_ ?_ | ((first | refine vr_ ?_ | fail) <;> (try simp only [hc, go_sem, ↓reduceIte])) | ((first | (refine cs_ ?_ ?_ <;> intro hc) | refine cj_ ?_ | simp (disch := omega) only [encs_getN, qb]) <;> (try refine ev_ ?_)) | with_reducible exact ti_)
  refine qk (S := Nat) (fun i => i ≤ t.args.length) (fun i => (⟨[(0, .sl 4 (qo s)), (3, .ptr 0 0), (7, .int .i64 ((1 + qb7 s (t.args.take i) : Nat) : Int)), (8, .int .i64 i)], []⟩, [.blk (yc t)])) (fun i => t.args.length - i) ?_ fun i hi => ?_
  ·refine qh 0 [0] (Nat.zero_le _) rfl (by simp) ?_ ?_ ?_ <;> simp only [List.take_zero, qb7] <;> (try refine ev_ ?_) <;> (try with_reducible exact ti_) <;> (try simp (disch := omega) only [qb, and_true, true_and])
  ·by_cases hlt : i < t.args.length
   ·have h1 := qq8 s hlt
    have h2 := qok hs (t.args.take i)
    have h3 := qmn t.args i
    have h4 := qou hs (t.args.getD i Y0)
    have h5 := qes (q8 hlt)
    have hwr : IntKind.i64.wrap (((1 + qb7 s (t.args.take i) : Nat) : Int) + (sizR s (t.args.getD i Y0) : Int)) = ((1 + qb7 s (t.args.take (i + 1)) : Nat) : Int) := by rw [h1, qw (by omega) (by omega)]; omega
    repeat' (first | refine vs_ ?_ | ((first | refine vr_ ?_ | fail) <;> (try simp (disch := first | omega | (simp only [List.length_set, List.length_append, List.length_cons, List.length_nil]; done) | (simp only [List.length_set, List.length_append, List.length_cons, List.length_nil]; omega)) only [qr, qb, hwr, go_sem, ↓reduceIte])) | ((first | simp (disch := omega) only [qr] | simp (disch := omega) only [hwr] | (refine cs_ ?_ ?_ <;> intro hc) | refine cj_ ?_ | simp (disch := omega) only [encs_getN, qb] | refine qa (ih' i hlt) fun _ => ?_) <;> (try refine ev_ ?_)) | with_reducible exact ti_)
    ·refine qh (i + 1) [0] ⟨by omega, by omega⟩ rfl (by simp) ?_ ?_ ?_ <;> (try refine ev_ ?_) <;> (try with_reducible exact ti_) <;> (try simp (disch := omega) only [qb, and_true, true_and])
    ·omega
   ·have hti : t.args.take i = t.args := List.take_of_length_le (by omega)
    rw [hti]
    repeat' (first | refine vs_ ?_ | ((first | refine vr_ ?_ | (refine cs_ ?_ ?_ <;> intro hc) | refine cj_ ?_ | simp (disch := omega) only [encs_getN, qb]) <;> (try refine ev_ ?_)) | with_reducible exact ti_)
    omega
theorem qql (s : List Pr) {l : List Ty} {i : Nat} (h : i < l.length) : qq (qbo s (l.take (i + 1))) = qq (qbo s (l.take i)) ++ [encY (putY s (l.getD i Y0))] := by
 have h1 : l.take (i + 1) = l.take i ++ [l.getD i Y0] := by
  rw [List.take_add_one, List.getD_eq_getElem?_getD, List.getElem?_eq_getElem h]; rfl
 rw [h1, qfd, qfd, List.map_append, qbw, qbw, List.map_append]; rfl
def rpSt (s : List Pr) (t : Ty) (i : Nat) : AF × List Ent :=
 (⟨[(0, .sl 4 (qo s)), (3, .ptr 0 0), (4, .ptr 1 0), (7, accV 2 (qq (qbo s (t.args.take i)))), (8, .int .i64 i)], []⟩, .blk (yc t) :: .blk [.str [], .int .i64 0, .nils] :: accE 3 (qq (qbo s (t.args.take i))))
set_option maxHeartbeats 1000000 in
theorem qsq {s : List Pr} : ∀ t, szY t ≤ 1000000 → qn Try.prog 81 [.sl 4 (qo s), encY t] (encY (putY s t)) := by
 refine Ty.ind fun t ih hb => ?_
 refine qe c0cn (by simp) (by simp only [go_sem]) (qb2 0 _) fun hw => ?_
 have hk := qb1 hw.2.1
 have hsz := qgh t
 have hal := qg4 t.args
 have f := qh1 s t.var
 by_cases hc : t.con = []
 ·cases hl : qv t.var s with
  | some u =>
    rw [qlg hl] at f
    have e : putY s t = u := by rw [qkm, if_pos hc, hl]
    rw [e]
    repeat' (first | refine vs_ ?_ | ((first | refine vr_ ?_ | fail) <;> (try simp only [hc, qbq, go_sem, ↓reduceIte])) | ((first | (refine cs_ ?_ ?_ <;> intro hc) | refine cj_ ?_ | simp (disch := omega) only [encs_getN, qb] | refine qa f fun _ => ?_) <;> (try refine ev_ ?_)) | with_reducible exact ti_)
  | none =>
    rw [qme hl] at f
    have e : putY s t = t := by rw [qkm, if_pos hc, hl]
    rw [e]
    have hy : AV.agg [.str [], .int .i64 t.var, .sl 3 (qq t.args)] = encY t := by rw [← qbq, hc]
    repeat' (first | refine vs_ ?_ | ((first | refine vr_ ?_ | fail) <;> (try simp only [hc, hy, go_sem, ↓reduceIte])) | ((first | (refine cs_ ?_ ?_ <;> intro hc) | refine cj_ ?_ | simp (disch := omega) only [encs_getN, qb] | refine qa f fun _ => ?_) <;> (try refine ev_ ?_)) | with_reducible exact ti_)
 ·have ih' : ∀ i, i < t.args.length → qn Try.prog 81 [.sl 4 (qo s), encY (t.args.getD i Y0)] (encY (putY s (t.args.getD i Y0))) := fun i hi => ih _ (q8 hi) (by have := qes (q8 hi); omega)
  have e : putY s t = .mk t.con t.var (qbo s t.args) := by rw [qkm, if_neg hc]
  have hy : AV.agg [.str t.con, .int .i64 t.var, .sl 3 (qq (qbo s t.args))] = encY (.mk t.con t.var (qbo s t.args)) := by rw [encY]
  rw [e]
  repeat' (first | refine vs_ ?_ | ((first | refine vr_ ?_ | fail) <;> (try simp only [hc, go_sem, ↓reduceIte])) | ((first | (refine cs_ ?_ ?_ <;> intro hc) | refine cj_ ?_ | simp (disch := omega) only [encs_getN, qb]) <;> (try refine ev_ ?_)) | with_reducible exact ti_)
  refine qk (S := Nat) (fun i => i ≤ t.args.length) (rpSt s t) (fun i => t.args.length - i) ?_ fun i hi => ?_
  ·refine qh 0 [0, 1] (Nat.zero_le _) rfl (by simp) ?_ ?_ ?_ <;> simp only [rpSt, List.take_zero, qbo, qde, qbk, qbj] <;> (try refine ev_ ?_) <;> (try with_reducible exact ti_) <;> (try simp (disch := omega) only [qb, and_true, true_and])
  ·have hlm : (qq (qbo s (t.args.take i))).length = i := by rw [q7, qfs, List.length_take]; omega
   have hcap : qce (i + 1) 48 = True := eq_true (capY (by omega))
   have hcap1 : qce 1 48 = True := eq_true (capY (by omega))
   unfold rpSt
   by_cases hlt : i < t.args.length
   ·have hs := qql s hlt
    by_cases h0 : i = 0
    ·subst h0
     simp only [List.take_zero, qbo, qde, qbk, qbj, List.nil_append] at hs ⊢
     repeat' (first | refine vs_ ?_ | ((first | refine vr_ ?_ | fail) <;> (try simp (disch := first | omega | (simp only [List.length_set, List.length_append, List.length_cons, List.length_nil]; done) | (simp only [List.length_set, List.length_append, List.length_cons, List.length_nil]; omega)) only [qr, qb, go_sem, ↓reduceIte])) | ((first | simp (disch := omega) only [qr] | simp (disch := omega) only [hcap1] | (refine cs_ ?_ ?_ <;> intro hc) | refine cj_ ?_ | simp (disch := omega) only [encs_getN, qb] | refine qa (ih' 0 hlt) fun _ => ?_) <;> (try refine ev_ ?_)) | with_reducible exact ti_)
     ·refine qh 1 [0, 1, 2] ⟨by omega, by omega⟩ rfl (by simp) ?_ ?_ ?_ <;> simp only [rpSt, hs, qfe, qe4] <;> (try refine ev_ ?_) <;> (try with_reducible exact ti_) <;> (try simp (disch := omega) only [qb, and_true, true_and])
      all_goals (rw [qf4])
     ·omega
    ·have hne : qq (qbo s (t.args.take i)) ≠ [] := fun h => h0 (by rw [← hlm, h]; rfl)
     simp only [qcu hne, qcq hne, hlm]
     have hlm2 : (qbo s (t.args.take i)).length = i := by rw [qfs, List.length_take]; omega
     repeat' (first | refine vs_ ?_ | ((first | refine vr_ ?_ | fail) <;> (try simp (disch := first | omega | (simp only [List.length_set, List.length_append, List.length_cons, List.length_nil]; done) | (simp only [List.length_set, List.length_append, List.length_cons, List.length_nil]; omega)) only [qr, qb, hlm, hlm2, go_sem, ↓reduceIte])) | ((first | simp (disch := omega) only [qr] | simp (disch := omega) only [hcap] | (refine cs_ ?_ ?_ <;> intro hc) | refine cj_ ?_ | simp (disch := omega) only [encs_getN, qb] | refine qa (ih' i hlt) fun _ => ?_) <;> (try refine ev_ ?_)) | with_reducible exact ti_)
     ·refine qh (i + 1) [0, 1, 3] ⟨by omega, by omega⟩ rfl (by simp) ?_ ?_ ?_ <;> simp only [rpSt, hs, qd6, qdt, hlm] <;> (try refine ev_ ?_) <;> (try with_reducible exact ti_) <;> (try simp (disch := omega) only [qb, and_true, true_and])
      all_goals (rw [← hs]; exact ⟨qb9 _ _, by rw [qia]⟩)
     ·omega
   ·have hti : t.args.take i = t.args := List.take_of_length_le (by omega)
    rw [hti] at hlm ⊢
    by_cases h0 : t.args = []
    ·have hp : qbo s t.args = [] := by rw [h0, qbo]
     rw [hp] at hlm hy ⊢
     simp only [qde, qbk, qbj] at hy ⊢
     repeat' (first | refine vs_ ?_ | ((first | refine vr_ ?_ | fail) <;> (try simp only [q6, hy, go_sem, ↓reduceIte])) | ((first | (refine cs_ ?_ ?_ <;> intro hc) | refine cj_ ?_ | simp (disch := omega) only [encs_getN, qb]) <;> (try refine ev_ ?_)) | with_reducible exact ti_)
     ·omega
    ·have hne : qq (qbo s t.args) ≠ [] := fun h => h0 (by have := congrArg List.length h; rw [q7, qfs] at this; exact List.length_eq_zero_iff.1 this)
     simp only [qcu hne, qcq hne, hlm]
     repeat' (first | refine vs_ ?_ | ((first | refine vr_ ?_ | fail) <;> (try simp only [hlm, hy, go_sem, ↓reduceIte])) | ((first | (refine cs_ ?_ ?_ <;> intro hc) | refine cj_ ?_ | simp (disch := omega) only [encs_getN, qb]) <;> (try refine ev_ ?_)) | with_reducible exact ti_)
     ·omega
set_option maxRecDepth 4000

theorem q6z {s : List Pr} (hs : okR s) : ∀ t, dpY (putY s t) ≤ dpY t + 100 := Ty.ind fun t ih => by
 rw [qkm]
 split
 ·cases hl : qv t.var s with
  | some u => have := qe3 hs hl; simp only; omega
  | none => simp only; omega
 ·rw [qsg t]
  show dpY (.mk _ _ _) ≤ _
  rw [dpY]
  have key : ∀ l : List Ty, (∀ x ∈ l, dpY (putY s x) ≤ dpY x + 100) → dpYs (qbo s l) ≤ dpYs l + 100 := fun l => by
   induction l with
   | nil => intro _; rw [qbo, dpYs]; omega
   | cons x r ihr =>
     intro h
     rw [qbo, dpYs, dpYs]
     have := h x (by simp)
     have := ihr fun y hy => h y (by simp [hy])
     omega
  have := key t.args ih
  omega
theorem qn6 {s : List Pr} (hs : okS s) {t : Ty} (h1 : szY t ≤ 20000) (h2 : dpY t ≤ 300) : qn Try.prog 36 [.sl 4 (qo s), encY t] (typA (appR s t)) := by
 refine qe c0ck (by simp) (by simp only [go_sem]) (qhg _ _) fun hw => ?_
 have f1 := qey h1 h2
 cases ht : qs t with
 | false =>
   rw [ht] at f1
   have e : appR s t = (Y0, 1) := by rw [appR, if_neg (by rw [ht]; simp)]
   rw [e, typA]
   repeat' (first | refine vs_ ?_ | ((first | refine vr_ ?_ | fail) <;> (try simp only [qmj, q6, go_sem, ↓reduceIte])) | ((first | (refine cs_ ?_ ?_ <;> intro hc) | refine cj_ ?_ | fail | refine qa f1 fun _ => ?_) <;> (try refine ev_ ?_)) | with_reducible exact ti_)
 | true =>
   rw [ht] at f1
   have hz := ql3 ht
   have f2 := qp5 (qnj hs) t (by omega)
   by_cases hb : 4096 < sizR s t
   ·have e : appR s t = (Y0, 2) := by rw [appR, if_pos ht, if_pos hb]
    rw [e, typA]
    repeat' (first | refine vs_ ?_ | ((first | refine vr_ ?_ | fail) <;> (try simp only [qmj, q6, go_sem, ↓reduceIte])) | ((first | (refine cs_ ?_ ?_ <;> intro hc) | refine cj_ ?_ | fail | refine qa f1 fun _ => ?_ | refine qa f2 fun _ => ?_) <;> (try refine ev_ ?_)) | with_reducible exact ti_)
    omega
   ·have hp := qjw s t (qcl t (qez ht))
    have hd := q6z (qnj hs) t
    have f3 := qsq (s := s) t (by omega)
    have f4 := qey (t := putY s t) (by omega) (by omega)
    cases hu : qs (putY s t) with
    | false =>
      rw [hu] at f4
      have e : appR s t = (Y0, 2) := by rw [appR, if_pos ht, if_neg hb, if_neg (by rw [hu]; simp)]
      rw [e, typA]
      repeat' (first | refine vs_ ?_ | ((first | refine vr_ ?_ | fail) <;> (try simp only [qmj, q6, go_sem, ↓reduceIte])) | ((first | (refine cs_ ?_ ?_ <;> intro hc) | refine cj_ ?_ | fail | refine qa f1 fun _ => ?_ | refine qa f2 fun _ => ?_ | refine qa f3 fun _ => ?_ | refine qa f4 fun _ => ?_) <;> (try refine ev_ ?_)) | with_reducible exact ti_)
    | true =>
      rw [hu] at f4
      have e : appR s t = (putY s t, 0) := by rw [appR, if_pos ht, if_neg hb, if_pos hu]
      rw [e, typA]
      repeat' (first | refine vs_ ?_ | ((first | refine vr_ ?_ | fail) <;> (try simp only [qmj, q6, go_sem, ↓reduceIte])) | ((first | (refine cs_ ?_ ?_ <;> intro hc) | refine cj_ ?_ | fail | refine qa f1 fun _ => ?_ | refine qa f2 fun _ => ?_ | refine qa f3 fun _ => ?_ | refine qa f4 fun _ => ?_) <;> (try refine ev_ ?_)) | with_reducible exact ti_)
      omega
theorem qjo (vars : List Int) {s : List Pr} {i : Nat} (h : i < s.length) : qdr vars (s.take (i + 1)) = qdr vars (s.take i) ++ (if (s.getD i R0).v ∈ vars then [s.getD i R0] else []) := by
 rw [qiz h, qdr, qdr, List.filter_append]
 congr 1
 rw [List.filter_cons]
 split <;> simp_all
theorem qss (vars : List Int) (s : List Pr) : (qdr vars s).length ≤ s.length := List.length_filter_le _ _
set_option maxRecDepth 4000

end Go.Proofs.Ytfpobiheiloamaa
