/- Texts of this proof, joined. -/
import Derived.Test.YtfpobiheiloamaaDax

/- the reference's substitutions: New, size, put, Apply -/
set_option maxRecDepth 4000
namespace Go.Proofs.Ytfpobiheiloamaa
open Go Go.RowKit Go.V
set_option linter.unusedVariables false
set_option linter.unusedSimpArgs false

def q0a (l : List Pr) : Prop := ∀ p ∈ l, szY p.ty ≤ 20000 ∧ dpY p.ty ≤ 300
theorem qh8 : ∀ (l s : List Pr) (p : Pr), addR s (l ++ [p]) = (setR (addR s l) p.v p.ty).1
 | [], s, p => rfl
 | x :: l, s, p => by rw [List.cons_append, addR, addR, qh8 l]
theorem qi7 {l : List Pr} {i : Nat} (h : i < l.length) : l.take (i + 1) = l.take i ++ [l.getD i R0] := by
 rw [List.take_add_one, List.getD_eq_getElem?_getD, List.getElem?_eq_getElem h]; rfl
theorem ql0 {l : List Pr} {i : Nat} (h : i < l.length) (s : List Pr) : addR s (l.take (i + 1)) = (setR (addR s (l.take i)) (l.getD i R0).v (l.getD i R0).ty).1 := by rw [qi7 h, qh8]
def rnV (l : List Pr) (i : Nat) : AV := if i = 0 then .nils else .sl 4 (qi (addR [] (l.take i)))
theorem q3a (l : List Pr) : rnV l 0 = .nils := rfl
theorem qbgs (l : List Pr) (i : Nat) : rnV l (i + 1) = .sl 4 (qi (addR [] (l.take (i + 1)))) := rfl
theorem qzz (l : List Pr) {i : Nat} (h : i ≠ 0) : rnV l i = .sl 4 (qi (addR [] (l.take i))) := if_neg h
theorem qz8 (k : Nat) (l : List Pr) (i : Nat) : (rnV l i).bd k = true := by unfold rnV; split <;> simp [AV.bd, q8]
theorem q2v (σ : Nat → Nat) (l : List Pr) (i : Nat) : (rnV l i).ren σ = rnV l i := ren_same (m := 0) (fun i hi => by omega) _ (qz8 0 l i)
attribute [go_sem] qz8 q2v
theorem quc {l : List Pr} (hl : l.length ≤ 100000) (hs : q0a l) : qm Try.prog 34 [.sl 4 (qi l)] (.sl 4 (qi (newR l))) := by
 refine qd c0cm (by simp) (by simp only [go_sem]) (by simp only [AV.bd, q8]) fun hw => ?_
 have hml := (qdf hw.1).1
 repeat' (first | refine vs_ ?_ | ((first | refine vr_ ?_ | (refine cs_ ?_ ?_ <;> intro hc) | refine cj_ ?_ | simp (disch := omega) only [encs_getN, qb]) <;> (try refine ev_ ?_)) | with_reducible exact ti_)
 refine ql (S := Nat) (fun i => i ≤ l.length) (fun i => (⟨[(0, .sl 4 (qi l)), (3, rnV l i), (4, .int .i64 i)], []⟩, [])) (fun i => l.length - i) ?_ fun i hi => ?_
 ·refine qj 0 [] (Nat.zero_le _) rfl (by simp) ?_ ?_ ?_ <;> simp only [q3a] <;> (try refine ev_ ?_) <;> (try with_reducible exact ti_) <;> (try simp (disch := omega) only [qb, and_true, true_and])
 ·have hlen := qgy (l.take i) []
  rw [List.length_take, List.length_nil] at hlen
  by_cases hlt : i < l.length
  ·have hp := hs _ (qb7 hlt)
   have f := qt3 (s := addR [] (l.take i)) (v := (l.getD i R0).v) (by omega) hp.1 hp.2
   have hstep := ql0 hlt []
   by_cases h0 : i = 0
   ·subst h0
    simp only [q3a]
    repeat' (first | refine vs_ ?_ | ((first | refine vr_ ?_ | fail) <;> (try simp (disch := first | omega | (simp only [List.length_set, List.length_append, List.length_cons, List.length_nil]; done) | (simp only [List.length_set, List.length_append, List.length_cons, List.length_nil]; omega)) only [qf, qb, qcs, qbb, go_sem, ↓reduceIte])) | ((first | simp (disch := omega) only [qf] | simp (disch := omega) only [rowA] | (refine cs_ ?_ ?_ <;> intro hc) | refine cj_ ?_ | simp (disch := omega) only [encs_getN, qb] | refine qa f fun _ => ?_ | refine qg f ?_) <;> (try refine ev_ ?_)) | with_reducible exact ti_)
    ·refine qj 1 [] ⟨by omega, by omega⟩ rfl (by simp) ?_ ?_ ?_ <;> simp only [qbgs, hstep] <;> (try refine ev_ ?_) <;> (try with_reducible exact ti_) <;> (try simp (disch := omega) only [qb, and_true, true_and])
     all_goals first | rfl | (rw [qfy])
    ·omega
   ·simp only [qzz l h0]
    repeat' (first | refine vs_ ?_ | ((first | refine vr_ ?_ | fail) <;> (try simp (disch := first | omega | (simp only [List.length_set, List.length_append, List.length_cons, List.length_nil]; done) | (simp only [List.length_set, List.length_append, List.length_cons, List.length_nil]; omega)) only [qf, qb, qcs, go_sem, ↓reduceIte])) | ((first | simp (disch := omega) only [qf] | simp (disch := omega) only [rowA] | (refine cs_ ?_ ?_ <;> intro hc) | refine cj_ ?_ | simp (disch := omega) only [encs_getN, qb] | refine qa f fun _ => ?_ | refine qg f ?_) <;> (try refine ev_ ?_)) | with_reducible exact ti_)
    ·refine qj (i + 1) [] ⟨by omega, by omega⟩ rfl (by simp) ?_ ?_ ?_ <;> simp only [qbgs, hstep] <;> (try refine ev_ ?_) <;> (try with_reducible exact ti_) <;> (try simp (disch := omega) only [qb, and_true, true_and])
    ·omega
  ·have hti : l.take i = l := List.take_of_length_le (by omega)
   by_cases h0 : i = 0
   ·subst h0
    have hl0 : l = [] := List.length_eq_zero_iff.1 (by omega)
    subst hl0
    simp only [q3a]
    repeat' (first | refine vs_ ?_ | ((first | refine vr_ ?_ | fail) <;> (try simp only [qbb, go_sem, ↓reduceIte])) | ((first | (refine cs_ ?_ ?_ <;> intro hc) | refine cj_ ?_ | simp (disch := omega) only [encs_getN, qb]) <;> (try refine ev_ ?_)) | with_reducible exact ti_)
    ·omega
    ·rfl
   ·simp only [qzz l h0, hti]
    repeat' (first | refine vs_ ?_ | ((first | refine vr_ ?_ | (refine cs_ ?_ ?_ <;> intro hc) | refine cj_ ?_ | simp (disch := omega) only [encs_getN, qb]) <;> (try refine ev_ ?_)) | with_reducible exact ti_)
    ·omega
    ·rfl
theorem qpx {s : List Pr} (hs : okR s) : ∀ t, sizR s t ≤ 4096 * szY t := Ty.ind fun t ih => by
 rw [qkx, qgg]
 have key : ∀ l : List Ty, (∀ x ∈ l, sizR s x ≤ 4096 * szY x) → qb5 s l ≤ 4096 * szYs l := fun l => by
  induction l with
  | nil => intro _; rw [qb5]; omega
  | cons x r ihr =>
    intro h
    rw [qb5, szYs]
    have := h x (by simp)
    have := ihr fun y hy => h y (by simp [hy])
    omega
 have h1 := key t.args ih
 split
 ·cases hl : qu t.var s with
  | some u => have := qfn hs hl; simp only; omega
  | none => simp only; omega
 ·omega
theorem qp7 (s : List Pr) {l : List Ty} {i : Nat} (h : i < l.length) : qb5 s (l.take (i + 1)) = qb5 s (l.take i) + sizR s (l.getD i Y0) := by
 have h1 : l.take (i + 1) = l.take i ++ [l.getD i Y0] := by
  rw [List.take_add_one, List.getD_eq_getElem?_getD, List.getElem?_eq_getElem h]; rfl
 rw [h1]
 generalize l.take i = a
 induction a with
 | nil => simp [qb5]
 | cons x a ih => rw [List.cons_append, qb5, qb5, ih]; omega
theorem qo4 {s : List Pr} (hs : okR s) : ∀ l, qb5 s l ≤ 4096 * szYs l
 | [] => by rw [qb5]; omega
 | x :: r => by rw [qb5, szYs]; have := qpx hs x; have := qo4 hs r; omega
theorem qld {s : List Pr} {v : Int} {u : Ty} (h : qu v s = some u) : getA s v = .tup [encY u, .bool true] := by rw [getA, h]
theorem qk8 {s : List Pr} {v : Int} (h : qu v s = none) : getA s v = .tup [encY Y0, .bool false] := by rw [getA, h]
theorem qqh {s : List Pr} (hs : okR s) : ∀ t, szY t ≤ 1000000 → qm Try.prog 80 [.sl 4 (qi s), encY t] (.int .i64 (sizR s t)) := by
 refine Ty.ind fun t ih hb => ?_
 refine qd c0cn (by simp) (by simp only [go_sem]) rfl fun hw => ?_
 have hk := qb2 hw.2.1
 have hsz := qgg t
 have f := qe3 s t.var
 by_cases hc : t.con = []
 ·cases hl : qu t.var s with
  | some u =>
    have hu := qfn hs hl
    rw [qld hl] at f
    have g := qjr u
    rw [qgd u (by omega)] at g
    have e : sizR s t = szY u := by rw [qkx, if_pos hc, hl]
    rw [e]
    repeat' (first | refine vs_ ?_ | ((first | refine vr_ ?_ | fail) <;> (try simp only [hc, go_sem, ↓reduceIte])) | ((first | (refine cs_ ?_ ?_ <;> intro hc) | refine cj_ ?_ | simp (disch := omega) only [encs_getN, qb] | refine qa f fun _ => ?_ | refine qa g fun _ => ?_) <;> (try refine ev_ ?_)) | with_reducible exact ti_)
  | none =>
    rw [qk8 hl] at f
    have e : sizR s t = 1 := by rw [qkx, if_pos hc, hl]
    rw [e]
    repeat' (first | refine vs_ ?_ | ((first | refine vr_ ?_ | fail) <;> (try simp only [hc, go_sem, ↓reduceIte])) | ((first | (refine cs_ ?_ ?_ <;> intro hc) | refine cj_ ?_ | simp (disch := omega) only [encs_getN, qb] | refine qa f fun _ => ?_) <;> (try refine ev_ ?_)) | with_reducible exact ti_)
 ·have ih' : ∀ i, i < t.args.length → qm Try.prog 80 [.sl 4 (qi s), encY (t.args.getD i Y0)] (.int .i64 (sizR s (t.args.getD i Y0))) := fun i hi => ih _ (q7 hi) (by have := qef (q7 hi); omega)
  have e : sizR s t = 1 + qb5 s t.args := by rw [qkx, if_neg hc]
  rw [e]
  repeat' (first | refine vs_ ?_ | ((first | refine vr_ ?_ | fail) <;> (try simp only [hc, go_sem, ↓reduceIte])) | ((first | (refine cs_ ?_ ?_ <;> intro hc) | refine cj_ ?_ | simp (disch := omega) only [encs_getN, qb]) <;> (try refine ev_ ?_)) | with_reducible exact ti_)
  refine ql (S := Nat) (fun i => i ≤ t.args.length) (fun i => (⟨[(0, .sl 4 (qi s)), (3, .ptr 0 0), (7, .int .i64 ((1 + qb5 s (t.args.take i) : Nat) : Int)), (8, .int .i64 i)], []⟩, [.blk (yc t)])) (fun i => t.args.length - i) ?_ fun i hi => ?_
  ·refine qj 0 [0] (Nat.zero_le _) rfl (by simp) ?_ ?_ ?_ <;> simp only [List.take_zero, qb5] <;> (try refine ev_ ?_) <;> (try with_reducible exact ti_) <;> (try simp (disch := omega) only [qb, and_true, true_and])
  ·by_cases hlt : i < t.args.length
   ·have h1 := qp7 s hlt
    have h2 := qo4 hs (t.args.take i)
    have h3 := qm0 t.args i
    have h4 := qpx hs (t.args.getD i Y0)
    have h5 := qef (q7 hlt)
    have hwr : IntKind.i64.wrap (((1 + qb5 s (t.args.take i) : Nat) : Int) + (sizR s (t.args.getD i Y0) : Int)) = ((1 + qb5 s (t.args.take (i + 1)) : Nat) : Int) := by rw [h1, qbc (by omega) (by omega)]; omega
    repeat' (first | refine vs_ ?_ | ((first | refine vr_ ?_ | fail) <;> (try simp (disch := first | omega | (simp only [List.length_set, List.length_append, List.length_cons, List.length_nil]; done) | (simp only [List.length_set, List.length_append, List.length_cons, List.length_nil]; omega)) only [qq, qb, hwr, go_sem, ↓reduceIte])) | ((first | simp (disch := omega) only [qq] | simp (disch := omega) only [hwr] | (refine cs_ ?_ ?_ <;> intro hc) | refine cj_ ?_ | simp (disch := omega) only [encs_getN, qb] | refine qa (ih' i hlt) fun _ => ?_) <;> (try refine ev_ ?_)) | with_reducible exact ti_)
    ·refine qj (i + 1) [0] ⟨by omega, by omega⟩ rfl (by simp) ?_ ?_ ?_ <;> (try refine ev_ ?_) <;> (try with_reducible exact ti_) <;> (try simp (disch := omega) only [qb, and_true, true_and])
    ·omega
   ·have hti : t.args.take i = t.args := List.take_of_length_le (by omega)
    rw [hti]
    repeat' (first | refine vs_ ?_ | ((first | refine vr_ ?_ | (refine cs_ ?_ ?_ <;> intro hc) | refine cj_ ?_ | simp (disch := omega) only [encs_getN, qb]) <;> (try refine ev_ ?_)) | with_reducible exact ti_)
    omega
theorem qqt (s : List Pr) {l : List Ty} {i : Nat} (h : i < l.length) : qr (qbn s (l.take (i + 1))) = qr (qbn s (l.take i)) ++ [encY (putY s (l.getD i Y0))] := by
 have h1 : l.take (i + 1) = l.take i ++ [l.getD i Y0] := by
  rw [List.take_add_one, List.getD_eq_getElem?_getD, List.getElem?_eq_getElem h]; rfl
 rw [h1, qfl, qfl, List.map_append, qbt, qbt, List.map_append]; rfl
def rpSt (s : List Pr) (t : Ty) (i : Nat) : AF × List Ent :=
 (⟨[(0, .sl 4 (qi s)), (3, .ptr 0 0), (4, .ptr 1 0), (7, accV 2 (qr (qbn s (t.args.take i)))), (8, .int .i64 i)], []⟩, .blk (yc t) :: .blk [.str [], .int .i64 0, .nils] :: accE 3 (qr (qbn s (t.args.take i))))
set_option maxHeartbeats 1000000 in
theorem qtm {s : List Pr} : ∀ t, szY t ≤ 1000000 → qm Try.prog 81 [.sl 4 (qi s), encY t] (encY (putY s t)) := by
 refine Ty.ind fun t ih hb => ?_
 refine qd c0co (by simp) (by simp only [go_sem]) (qbu 0 _) fun hw => ?_
 have hk := qb2 hw.2.1
 have hsz := qgg t
 have hal := qg3 t.args
 have f := qe3 s t.var
 by_cases hc : t.con = []
 ·cases hl : qu t.var s with
  | some u =>
    rw [qld hl] at f
    have e : putY s t = u := by rw [qj7, if_pos hc, hl]
    rw [e]
    repeat' (first | refine vs_ ?_ | ((first | refine vr_ ?_ | fail) <;> (try simp only [hc, qbi, go_sem, ↓reduceIte])) | ((first | (refine cs_ ?_ ?_ <;> intro hc) | refine cj_ ?_ | simp (disch := omega) only [encs_getN, qb] | refine qa f fun _ => ?_) <;> (try refine ev_ ?_)) | with_reducible exact ti_)
  | none =>
    rw [qk8 hl] at f
    have e : putY s t = t := by rw [qj7, if_pos hc, hl]
    rw [e]
    have hy : AV.agg [.str [], .int .i64 t.var, .sl 3 (qr t.args)] = encY t := by rw [← qbi, hc]
    repeat' (first | refine vs_ ?_ | ((first | refine vr_ ?_ | fail) <;> (try simp only [hc, hy, go_sem, ↓reduceIte])) | ((first | (refine cs_ ?_ ?_ <;> intro hc) | refine cj_ ?_ | simp (disch := omega) only [encs_getN, qb] | refine qa f fun _ => ?_) <;> (try refine ev_ ?_)) | with_reducible exact ti_)
 ·have ih' : ∀ i, i < t.args.length → qm Try.prog 81 [.sl 4 (qi s), encY (t.args.getD i Y0)] (encY (putY s (t.args.getD i Y0))) := fun i hi => ih _ (q7 hi) (by have := qef (q7 hi); omega)
  have e : putY s t = .mk t.con t.var (qbn s t.args) := by rw [qj7, if_neg hc]
  have hy : AV.agg [.str t.con, .int .i64 t.var, .sl 3 (qr (qbn s t.args))] = encY (.mk t.con t.var (qbn s t.args)) := by rw [encY]
  rw [e]
  repeat' (first | refine vs_ ?_ | ((first | refine vr_ ?_ | fail) <;> (try simp only [hc, go_sem, ↓reduceIte])) | ((first | (refine cs_ ?_ ?_ <;> intro hc) | refine cj_ ?_ | simp (disch := omega) only [encs_getN, qb]) <;> (try refine ev_ ?_)) | with_reducible exact ti_)
  refine ql (S := Nat) (fun i => i ≤ t.args.length) (rpSt s t) (fun i => t.args.length - i) ?_ fun i hi => ?_
  ·refine qj 0 [0, 1] (Nat.zero_le _) rfl (by simp) ?_ ?_ ?_ <;> simp only [rpSt, List.take_zero, qbn, qc6, qbz, qby] <;> (try refine ev_ ?_) <;> (try with_reducible exact ti_) <;> (try simp (disch := omega) only [qb, and_true, true_and])
  ·have hlm : (qr (qbn s (t.args.take i))).length = i := by rw [q6, qfg, List.length_take]; omega
   have hcap : qc8 (i + 1) 48 = True := eq_true (capY (by omega))
   have hcap1 : qc8 1 48 = True := eq_true (capY (by omega))
   unfold rpSt
   by_cases hlt : i < t.args.length
   ·have hs := qqt s hlt
    by_cases h0 : i = 0
    ·subst h0
     simp only [List.take_zero, qbn, qc6, qbz, qby, List.nil_append] at hs ⊢
     repeat' (first | refine vs_ ?_ | ((first | refine vr_ ?_ | fail) <;> (try simp (disch := first | omega | (simp only [List.length_set, List.length_append, List.length_cons, List.length_nil]; done) | (simp only [List.length_set, List.length_append, List.length_cons, List.length_nil]; omega)) only [qq, qb, go_sem, ↓reduceIte])) | ((first | simp (disch := omega) only [qq] | simp (disch := omega) only [hcap1] | (refine cs_ ?_ ?_ <;> intro hc) | refine cj_ ?_ | simp (disch := omega) only [encs_getN, qb] | refine qa (ih' 0 hlt) fun _ => ?_) <;> (try refine ev_ ?_)) | with_reducible exact ti_)
     ·refine qj 1 [0, 1, 2] ⟨by omega, by omega⟩ rfl (by simp) ?_ ?_ ?_ <;> simp only [rpSt, hs, qgz, qgw] <;> (try refine ev_ ?_) <;> (try with_reducible exact ti_) <;> (try simp (disch := omega) only [qb, and_true, true_and])
      all_goals (rw [qfy])
     ·omega
    ·have hne : qr (qbn s (t.args.take i)) ≠ [] := fun h => h0 (by rw [← hlm, h]; rfl)
     simp only [qdp hne, qdv hne, hlm]
     have hlm2 : (qbn s (t.args.take i)).length = i := by rw [qfg, List.length_take]; omega
     repeat' (first | refine vs_ ?_ | ((first | refine vr_ ?_ | fail) <;> (try simp (disch := first | omega | (simp only [List.length_set, List.length_append, List.length_cons, List.length_nil]; done) | (simp only [List.length_set, List.length_append, List.length_cons, List.length_nil]; omega)) only [qq, qb, hlm, hlm2, go_sem, ↓reduceIte])) | ((first | simp (disch := omega) only [qq] | simp (disch := omega) only [hcap] | (refine cs_ ?_ ?_ <;> intro hc) | refine cj_ ?_ | simp (disch := omega) only [encs_getN, qb] | refine qa (ih' i hlt) fun _ => ?_) <;> (try refine ev_ ?_)) | with_reducible exact ti_)
     ·refine qj (i + 1) [0, 1, 3] ⟨by omega, by omega⟩ rfl (by simp) ?_ ?_ ?_ <;> simp only [rpSt, hs, qfe, qey, hlm] <;> (try refine ev_ ?_) <;> (try with_reducible exact ti_) <;> (try simp (disch := omega) only [qb, and_true, true_and])
      all_goals (rw [← hs]; exact ⟨qch _ _, by rw [qh9]⟩)
     ·omega
   ·have hti : t.args.take i = t.args := List.take_of_length_le (by omega)
    rw [hti] at hlm ⊢
    by_cases h0 : t.args = []
    ·have hp : qbn s t.args = [] := by rw [h0, qbn]
     rw [hp] at hlm hy ⊢
     simp only [qc6, qbz, qby] at hy ⊢
     repeat' (first | refine vs_ ?_ | ((first | refine vr_ ?_ | fail) <;> (try simp only [qbb, hy, go_sem, ↓reduceIte])) | ((first | (refine cs_ ?_ ?_ <;> intro hc) | refine cj_ ?_ | simp (disch := omega) only [encs_getN, qb]) <;> (try refine ev_ ?_)) | with_reducible exact ti_)
     ·omega
    ·have hne : qr (qbn s t.args) ≠ [] := fun h => h0 (by have := congrArg List.length h; rw [q6, qfg] at this; exact List.length_eq_zero_iff.1 this)
     simp only [qdp hne, qdv hne, hlm]
     repeat' (first | refine vs_ ?_ | ((first | refine vr_ ?_ | fail) <;> (try simp only [hlm, hy, go_sem, ↓reduceIte])) | ((first | (refine cs_ ?_ ?_ <;> intro hc) | refine cj_ ?_ | simp (disch := omega) only [encs_getN, qb]) <;> (try refine ev_ ?_)) | with_reducible exact ti_)
     ·omega
set_option maxRecDepth 4000

theorem q3g {s : List Pr} (hs : okR s) : ∀ t, dpY (putY s t) ≤ dpY t + 100 := Ty.ind fun t ih => by
 rw [qj7]
 split
 ·cases hl : qu t.var s with
  | some u => have := qfn hs hl; simp only; omega
  | none => simp only; omega
 ·rw [qsj t]
  show dpY (.mk _ _ _) ≤ _
  rw [dpY]
  have key : ∀ l : List Ty, (∀ x ∈ l, dpY (putY s x) ≤ dpY x + 100) → dpYs (qbn s l) ≤ dpYs l + 100 := fun l => by
   induction l with
   | nil => intro _; rw [qbn, dpYs]; omega
   | cons x r ihr =>
     intro h
     rw [qbn, dpYs, dpYs]
     have := h x (by simp)
     have := ihr fun y hy => h y (by simp [hy])
     omega
  have := key t.args ih
  omega
theorem qm2 {s : List Pr} (hs : okS s) {t : Ty} (h1 : szY t ≤ 20000) (h2 : dpY t ≤ 300) : qm Try.prog 36 [.sl 4 (qi s), encY t] (typA (appR s t)) := by
 refine qd c0cj (by simp) (by simp only [go_sem]) (qha _ _) fun hw => ?_
 have f1 := qeh h1 h2
 cases ht : qs t with
 | false =>
   rw [ht] at f1
   have e : appR s t = (Y0, 1) := by rw [appR, if_neg (by rw [ht]; simp)]
   rw [e, typA]
   repeat' (first | refine vs_ ?_ | ((first | refine vr_ ?_ | fail) <;> (try simp only [qk9, qbb, go_sem, ↓reduceIte])) | ((first | (refine cs_ ?_ ?_ <;> intro hc) | refine cj_ ?_ | fail | refine qa f1 fun _ => ?_) <;> (try refine ev_ ?_)) | with_reducible exact ti_)
 | true =>
   rw [ht] at f1
   have hz := qlr ht
   have f2 := qqh (qoa hs) t (by omega)
   by_cases hb : 4096 < sizR s t
   ·have e : appR s t = (Y0, 2) := by rw [appR, if_pos ht, if_pos hb]
    rw [e, typA]
    repeat' (first | refine vs_ ?_ | ((first | refine vr_ ?_ | fail) <;> (try simp only [qk9, qbb, go_sem, ↓reduceIte])) | ((first | (refine cs_ ?_ ?_ <;> intro hc) | refine cj_ ?_ | fail | refine qa f1 fun _ => ?_ | refine qa f2 fun _ => ?_) <;> (try refine ev_ ?_)) | with_reducible exact ti_)
    omega
   ·have hp := qki s t (qcj t (qek ht))
    have hd := q3g (qoa hs) t
    have f3 := qtm (s := s) t (by omega)
    have f4 := qeh (t := putY s t) (by omega) (by omega)
    cases hu : qs (putY s t) with
    | false =>
      rw [hu] at f4
      have e : appR s t = (Y0, 2) := by rw [appR, if_pos ht, if_neg hb, if_neg (by rw [hu]; simp)]
      rw [e, typA]
      repeat' (first | refine vs_ ?_ | ((first | refine vr_ ?_ | fail) <;> (try simp only [qk9, qbb, go_sem, ↓reduceIte])) | ((first | (refine cs_ ?_ ?_ <;> intro hc) | refine cj_ ?_ | fail | refine qa f1 fun _ => ?_ | refine qa f2 fun _ => ?_ | refine qa f3 fun _ => ?_ | refine qa f4 fun _ => ?_) <;> (try refine ev_ ?_)) | with_reducible exact ti_)
    | true =>
      rw [hu] at f4
      have e : appR s t = (putY s t, 0) := by rw [appR, if_pos ht, if_neg hb, if_pos hu]
      rw [e, typA]
      repeat' (first | refine vs_ ?_ | ((first | refine vr_ ?_ | fail) <;> (try simp only [qk9, qbb, go_sem, ↓reduceIte])) | ((first | (refine cs_ ?_ ?_ <;> intro hc) | refine cj_ ?_ | fail | refine qa f1 fun _ => ?_ | refine qa f2 fun _ => ?_ | refine qa f3 fun _ => ?_ | refine qa f4 fun _ => ?_) <;> (try refine ev_ ?_)) | with_reducible exact ti_)
      omega
def qnu (a b : Pr) : Bool := decide (a.v = b.v) && qel a.ty b.ty
theorem quv (a b : Pr) : qnu a b = true ↔ a = b := by
 rw [qnu, Bool.and_eq_true, decide_eq_true_eq, qoo]
 cases a; cases b; simp
def qe5 : List Pr → List Pr → Bool
 | [], [] => true
 | x :: r, y :: r' => qnu x y && qe5 r r'
 | _, _ => false
theorem qid : ∀ l m, qe5 l m = true ↔ l = m
 | [], [] => by simp [qe5]
 | [], y :: r => by rw [qe5] <;> simp
 | x :: r, [] => by rw [qe5] <;> simp
 | x :: r, y :: r' => by rw [qe5, Bool.and_eq_true, quv, qid r r']; simp
theorem qui {l m : List Pr} (h : l.length ≠ m.length) : qe5 l m = false := by
 cases hh : qe5 l m with
 | false => rfl
 | true => rw [(qid l m).1 hh] at h; exact absurd rfl h
theorem qfx {l m : List Pr} {i : Nat} (h : i < l.length) (h' : i < m.length) : qe5 (l.drop i) (m.drop i) = (qnu (l.getD i R0) (m.getD i R0) && qe5 (l.drop (i + 1)) (m.drop (i + 1))) := by
 rw [qw6 h, qw6 h', qe5]
theorem qqq (l m : List Pr) : qm Try.prog 40 [.sl 4 (qi l), .sl 4 (qi m)] (.bool (qe5 l m)) := by
 refine qd c0ck (by simp) (by simp only [go_sem]) rfl fun hw => ?_
 have hl := (qdf hw.1).1
 repeat' (first | refine vs_ ?_ | ((first | refine vr_ ?_ | (refine cs_ ?_ ?_ <;> intro hc) | refine cj_ ?_ | simp (disch := omega) only [encs_getN, qb]) <;> (try refine ev_ ?_)) | with_reducible exact ti_)
 ·rw [qui (by omega)]
 have hlm : l.length = m.length := by omega
 refine ql (S := Nat) (fun i => i ≤ l.length ∧ qe5 (l.drop i) (m.drop i) = qe5 l m) (fun i => (⟨[(0, .sl 4 (qi l)), (1, .sl 4 (qi m)), (5, .int .i64 i)], []⟩, [])) (fun i => l.length - i) ?_ fun i hi => ?_
 ·refine qj 0 [] ⟨Nat.zero_le _, rfl⟩ rfl (by simp) ?_ ?_ ?_ <;> (try refine ev_ ?_) <;> (try with_reducible exact ti_) <;> (try simp (disch := omega) only [qb, and_true, true_and])
 ·obtain ⟨hi, ha⟩ := hi
  repeat' (first | refine vs_ ?_ | ((first | refine vr_ ?_ | fail) <;> (try simp (disch := first | omega | (simp only [List.length_set, List.length_append, List.length_cons, List.length_nil]; done) | (simp only [List.length_set, List.length_append, List.length_cons, List.length_nil]; omega)) only [qf, qb, qcs, go_sem, ↓reduceIte])) | ((first | simp (disch := omega) only [qf] | (refine cs_ ?_ ?_ <;> intro hc) | refine cj_ ?_ | simp (disch := omega) only [encs_getN, qb] | refine qa (qf5 _ _) fun _ => ?_ | refine qg (qf5 _ _) ?_) <;> (try refine ev_ ?_)) | with_reducible exact ti_)
  ·rename_i hc
   rw [← ha, qfx (by omega) (by omega), qnu, decide_eq_false hc]; rfl
  ·rename_i h0 hc
   have h0 : (l.getD i R0).v = (m.getD i R0).v := by assumption
   rw [← ha, qfx (by omega) (by omega), qnu, decide_eq_true h0, hc]; rfl
  ·rename_i h0 hc
   have h0 : (l.getD i R0).v = (m.getD i R0).v := by assumption
   refine qj (i + 1) [] ⟨⟨by omega, ?_⟩, by omega⟩ rfl (by simp) ?_ ?_ ?_ <;> (try refine ev_ ?_) <;> (try with_reducible exact ti_) <;> (try simp (disch := omega) only [qb, and_true, true_and])
   rw [← ha, qfx (l := l) (m := m) (i := i) (by omega) (by omega), qnu, decide_eq_true h0, hc]; rfl
  ·rw [← ha, List.drop_of_length_le (by omega), List.drop_of_length_le (by omega)]; rfl
theorem qfs (vars : List Int) {s : List Pr} {i : Nat} (h : i < s.length) : qb9 vars (s.take (i + 1)) = qb9 vars (s.take i) ++ (if (s.getD i R0).v ∈ vars then [s.getD i R0] else []) := by
 rw [qi7 h, qb9, qb9, List.filter_append]
 congr 1
 rw [List.filter_cons]
 split <;> simp_all
theorem qhw (vars : List Int) (s : List Pr) : (qb9 vars s).length ≤ s.length := List.length_filter_le _ _
def rwSt (s : List Pr) (vars : List Int) (i : Nat) : AF × List Ent :=
 (⟨[(0, .sl 4 (qi s)), (1, .sl 1 (ints vars)), (5, accV 0 (qi (qb9 vars (s.take i)))), (6, .int .i64 i)], []⟩, accE 4 (qi (qb9 vars (s.take i))))
theorem qk0 {s : List Pr} (hs : s.length ≤ 100000) (vars : List Int) : qm Try.prog 43 [.sl 4 (qi s), .sl 1 (ints vars)] (.sl 4 (qi (qb9 vars s))) := by
 refine qd c0cl (by simp) (by simp only [go_sem]) (by simp only [AV.bd, q8]) fun hw => ?_
 have hl := (qdf hw.1).1
 repeat' (first | refine vs_ ?_ | ((first | refine vr_ ?_ | (refine cs_ ?_ ?_ <;> intro hc) | refine cj_ ?_ | simp (disch := omega) only [encs_getN, qb]) <;> (try refine ev_ ?_)) | with_reducible exact ti_)
 refine ql (S := Nat) (fun i => i ≤ s.length) (rwSt s vars) (fun i => s.length - i) ?_ fun i hi => ?_
 ·refine qj 0 [] (Nat.zero_le _) rfl (by simp) ?_ ?_ ?_ <;> simp only [rwSt, List.take_zero, qb9, List.filter_nil, qds, qbz, qby] <;> (try refine ev_ ?_) <;> (try with_reducible exact ti_) <;> (try simp (disch := omega) only [qb, and_true, true_and])
 ·have hwl := qhw vars (s.take i)
  rw [List.length_take] at hwl
  have hcap1 : qc8 1 56 = True := eq_true (capR (by omega))
  have hcap : qc8 ((qb9 vars (s.take i)).length + 1) 56 = True := eq_true (capR (by omega))
  unfold rwSt
  by_cases hlt : i < s.length
  ·have hsn := qfs vars hlt
   by_cases h0 : qb9 vars (s.take i) = []
   ·rw [h0] at hsn ⊢
    rw [List.nil_append] at hsn
    simp only [qds, qbz, qby]
    by_cases hv : (s.getD i R0).v ∈ vars
    ·rw [if_pos hv] at hsn
     repeat' (first | refine vs_ ?_ | ((first | refine vr_ ?_ | fail) <;> (try simp (disch := first | omega | (simp only [List.length_set, List.length_append, List.length_cons, List.length_nil]; done) | (simp only [List.length_set, List.length_append, List.length_cons, List.length_nil]; omega)) only [qf, qb, hv, go_sem, ↓reduceIte])) | ((first | simp (disch := omega) only [qf] | simp (disch := omega) only [hcap1] | (refine cs_ ?_ ?_ <;> intro hc) | refine cj_ ?_ | simp (disch := omega) only [encs_getN, qb] | refine qa (qgv vars _) fun _ => ?_) <;> (try refine ev_ ?_)) | with_reducible exact ti_)
     ·refine qj (i + 1) [0] ⟨by omega, by omega⟩ rfl (by simp) ?_ ?_ ?_ <;> simp only [rwSt, hsn, ← quk, qgz, qgw] <;> (try refine ev_ ?_) <;> (try with_reducible exact ti_) <;> (try simp (disch := omega) only [qb, and_true, true_and])
     ·omega
    ·rw [if_neg hv] at hsn
     repeat' (first | refine vs_ ?_ | ((first | refine vr_ ?_ | fail) <;> (try simp (disch := first | omega | (simp only [List.length_set, List.length_append, List.length_cons, List.length_nil]; done) | (simp only [List.length_set, List.length_append, List.length_cons, List.length_nil]; omega)) only [qf, qb, hv, go_sem, ↓reduceIte])) | ((first | simp (disch := omega) only [qf] | simp (disch := omega) only [hcap1] | (refine cs_ ?_ ?_ <;> intro hc) | refine cj_ ?_ | simp (disch := omega) only [encs_getN, qb] | refine qa (qgv vars _) fun _ => ?_) <;> (try refine ev_ ?_)) | with_reducible exact ti_)
     ·refine qj (i + 1) [] ⟨by omega, by omega⟩ rfl (by simp) ?_ ?_ ?_ <;> simp only [rwSt, hsn, qds, qbz, qby] <;> (try refine ev_ ?_) <;> (try with_reducible exact ti_) <;> (try simp (disch := omega) only [qb, and_true, true_and])
     ·omega
   ·have hne := qom h0
    simp only [qdp hne, qdv hne, qw]
    by_cases hv : (s.getD i R0).v ∈ vars
    ·rw [if_pos hv] at hsn
     repeat' (first | refine vs_ ?_ | ((first | refine vr_ ?_ | fail) <;> (try simp (disch := first | omega | (simp only [List.length_set, List.length_append, List.length_cons, List.length_nil]; done) | (simp only [List.length_set, List.length_append, List.length_cons, List.length_nil]; omega)) only [qf, qb, hv, qw, go_sem, ↓reduceIte])) | ((first | simp (disch := omega) only [qf] | simp (disch := omega) only [hcap] | (refine cs_ ?_ ?_ <;> intro hc) | refine cj_ ?_ | simp (disch := omega) only [encs_getN, qb] | refine qa (qgv vars _) fun _ => ?_) <;> (try refine ev_ ?_)) | with_reducible exact ti_)
     ·refine qj (i + 1) [1] ⟨by omega, by omega⟩ rfl (by simp) ?_ ?_ ?_ <;> simp only [rwSt, hsn, ← qf0, qfe, qey, qw] <;> (try refine ev_ ?_) <;> (try with_reducible exact ti_) <;> (try simp (disch := omega) only [qb, and_true, true_and])
      all_goals (simp only [qf0]; exact ⟨q8 _ _, by rw [qfh]⟩)
     ·omega
    ·rw [if_neg hv, List.append_nil] at hsn
     repeat' (first | refine vs_ ?_ | ((first | refine vr_ ?_ | fail) <;> (try simp (disch := first | omega | (simp only [List.length_set, List.length_append, List.length_cons, List.length_nil]; done) | (simp only [List.length_set, List.length_append, List.length_cons, List.length_nil]; omega)) only [qf, qb, hv, qw, go_sem, ↓reduceIte])) | ((first | simp (disch := omega) only [qf] | simp (disch := omega) only [hcap] | (refine cs_ ?_ ?_ <;> intro hc) | refine cj_ ?_ | simp (disch := omega) only [encs_getN, qb] | refine qa (qgv vars _) fun _ => ?_) <;> (try refine ev_ ?_)) | with_reducible exact ti_)
     ·refine qj (i + 1) [0] ⟨by omega, by omega⟩ rfl (by simp) ?_ ?_ ?_ <;> simp only [rwSt, hsn, qdp hne, qdv hne, qw] <;> (try refine ev_ ?_) <;> (try with_reducible exact ti_) <;> (try simp (disch := omega) only [qb, and_true, true_and])
     ·omega
  ·have hti : s.take i = s := List.take_of_length_le (by omega)
   rw [hti]
   by_cases h0 : qb9 vars s = []
   ·rw [h0]
    simp only [qds, qbz, qby]
    repeat' (first | refine vs_ ?_ | ((first | refine vr_ ?_ | fail) <;> (try simp only [qbb, go_sem, ↓reduceIte])) | ((first | (refine cs_ ?_ ?_ <;> intro hc) | refine cj_ ?_ | simp (disch := omega) only [encs_getN, qb]) <;> (try refine ev_ ?_)) | with_reducible exact ti_)
    ·omega
   ·have hne := qom h0
    simp only [qdp hne, qdv hne, qw]
    repeat' (first | refine vs_ ?_ | ((first | refine vr_ ?_ | fail) <;> (try simp only [qw, go_sem, ↓reduceIte])) | ((first | (refine cs_ ?_ ?_ <;> intro hc) | refine cj_ ?_ | simp (disch := omega) only [encs_getN, qb]) <;> (try refine ev_ ?_)) | with_reducible exact ti_)
    ·omega
set_option maxRecDepth 4000

end Go.Proofs.Ytfpobiheiloamaa
